/- Parts of the proof, cut down to what it needs. -/
import Derived.Test.YtaddlmlpeghonaaGreatDoorHFA
import Derived.Shelf.Spec.SlicesInsert
import Derived.Lib.AppendZerosOnto
set_option linter.constructorNameAsVariable false
set_option linter.unusedSimpArgs false
set_option linter.unusedVariables false
namespace Go.Proofs.YtaddlmlpeghonaaGreatDoor
open _root_.List renaming length → qc, flatMap → qe, length_append → qi, length_cons → qj, length_nil → ql, mem_cons_of_mem → qm, mem_cons_self → qn, append_assoc → qs, getD_eq_getElem?_getD → qu, map_nil → qw, nil_append → qx, append_nil → qz, mem_cons → qB, drop_zero → qC, map_append → qD, map_cons → qE, length_singleton → qG, cons_append → qH, length_eq_zero_iff → qJ, getElem?_append_left → qL, replicate → qN, flatMap_cons → qO, flatMap_append → qS, range_zero → qT, getElem?_set_ne → qW, all_cons → qY, getElem?_eq_getElem → q1, mem_append_right → q2, range_succ → q3, length_map → q7, getElem?_eq_some_iff → q9, all_nil → uc, mem_map → ud, all_eq_true → uf, mem_append → ug, take_length → ui, set_cons_zero → uk, take_of_length_le → ul, getElem?_append_right → um, flatMap_nil → un, mem_append_left → uo, mem_singleton → ut, take_append_drop → uu, set_cons_succ → uv, pairwise_cons → uw, getElem?_set_self → uz, nodup_cons → uA, getElem?_eq_none → uB, length_set → uD, filter_cons → uG, range → uI, getElem?_cons_zero → uK, getElem?_cons_succ → uL, length_take → uM, drop_eq_getElem_cons → uO, length_drop → uQ, getD_cons_zero → uX, getD_cons_succ → uY, reverse_cons → u3, set → u4, eq_nil_of_length_eq_zero → u6, drop_drop → ve
open _root_.Option renaming bind_some → qg, map_some → uF, getD_some → uR
open _root_.Nat renaming reduceEqDiff → qa, reduceLT → qb, reduceAdd → qd, reduceLeDiff → qf, lt_succ_self → qp, zero_add → qq, reduceMul → qt, le_refl → qv, reduceSub → qK, mul_le_mul_right → q5, reduceMod → ub, lt_of_lt_of_le → uj, zero_le → uq, le_trans → ux, zero_mul → uH, sub_self → uN, sub_zero → uP, succ_mul → uU, add_zero → uV, add_mul → uZ, lt_or_ge → u5, add_assoc → u7
open _root_.Bool renaming and_eq_true → qo, not_false → qy, or_eq_true → qI, or_true → qP, not_true → qQ, and_self → qR, and_true → qV, and_false → qX, or_false → qZ, false_eq_true → ue, false_ne_true → uy, true_and → uC, false_or → uJ, not_eq_true' → uS
open _root_.Int renaming toNat → qF, toNat_natCast → qU, reduceEq → uW, le_refl → u9
open _root_.BitVec renaming ofInt → qA, toNat → ur
open _root_.Array renaming length_toList → uh, getD_eq_getD_getElem? → uE, getElem?_eq_getElem → uT, getElem?_setIfInBounds_ne → u0, getElem?_modify → vg
open _root_.UInt8 renaming ofNat → ua
open Result renaming andThen_ok → qk
open Sem renaming run_bind → qr, run_pure → qM
open _root_.Go.Proofs.Tryz renaming prog → qh
section
set_option maxRecDepth 4000
set_option maxHeartbeats 1000000
open AM
def we (a0:GEntry)(a1:Int):Int:=
 IntKind.i64.wrap (a0.fTag-a1)
theorem we.ok (a0:GEntry)(a1:Int)(r:Int)(h:we a0 a1=r):ACalls qh 112 [.agg (cellsGEntry a0),.int .i64 a1] [] (fun r' _=>r'=.int .i64 r):=by
 refine zf (rs:=[.tmp 4]) tok Tryz.func112 rfl Tryz.ntmps112 rfl Tryz.call112 (by simp) ?_;refine zk [(0,.agg (cellsGEntry a0)),(1,.int .i64 a1)] ⟨rfl,rfl,trivial⟩ ?_;unfold we at h
 refine rg tok [1,2] fun K hK=>?_
 simp only[go_sem,qb,qa,qd,reduceCtorEq,cellsGEntry];apply hK
 refine rgN [4] ?_;cases h;exact rtA
theorem we.ev (a0:GEntry)(a1:Int)(r:Int)(h:we a0 a1=r)(σ:Store):ACalls qh 112 [.agg (cellsGEntry a0),.int .i64 a1] σ (fun r' σ'=>r'=.int .i64 r∧σ'=σ):=
 (we.ok a0 a1 r h).c σ
def zl.l6 (a0:List GEntry)(a1:Int):Nat→Int→Int→Option (Int×Bool)
 |0,_,_=>none
 |k6+1,x2,x3=>(if x2<x3 then (Zv a0 (IntKind.i64.wrap (Int.fdiv (IntKind.u64.wrap (IntKind.i64.wrap (x2+x3))) (2^(min (qF 1) 64))))).bind fun y12=>bnd (we y12 a1) fun r15=>(if r15<0 then ((zl.l6 a0 a1 k6) (IntKind.i64.wrap ((IntKind.i64.wrap (Int.fdiv (IntKind.u64.wrap (IntKind.i64.wrap (x2+x3))) (2^(min (qF 1) 64))))+1)) x3) else ((zl.l6 a0 a1 k6) x2 (IntKind.i64.wrap (Int.fdiv (IntKind.u64.wrap (IntKind.i64.wrap (x2+x3))) (2^(min (qF 1) 64)))))) else (if x2<(qc a0:Int) then (Zv a0 x2).bind fun y20=>bnd (we y20 a1) fun r23=>some (decide (r23=0)) else some false).bind fun c20=>some (x2,c20))
def zl (a0:List GEntry)(a1:Int):Option (Int×Bool):=
 (zl.l6 a0 a1 rounds 0 (qc a0:Int))
theorem zl.ok (a0:List GEntry)(a1:Int)(r:Int×Bool)(h:zl a0 a1=some r):ACalls qh 111 [.ds true (qe encGEntry a0) (qc a0) false,.int .i64 a1,.fn (.func 112) [] []] [] (fun r' _=>r'=.tup [.int .i64 r.1,.bool r.2]):=by
 refine zf (rs:=[.tmp 6,.tmp 7]) tok Tryz.func111 rfl Tryz.ntmps111 rfl Tryz.call111 (by simp) ?_;refine zk [(0,.ds true (qe encGEntry a0) (qc a0) false),(1,.int .i64 a1),(2,.fn (.func 112) [] [])] ⟨rfl,rfl,rfl,trivial⟩ ?_;unfold zl at h;refine rgN [0,1,2] ?_;refine rgN [0,1,2,8] ?_;refine rgN [0,1,2,8,9,10] ?_
 refine za fun Z1 hZ1=>?_
 apply ze;refine zp (fun m L τ=>∃ (k6:Nat) (x2:Int) (x3:Int),m=0+k6∧L=[(0,.ds true (qe encGEntry a0) (qc a0) false),(1,.int .i64 a1),(2,.fn (.func 112) [] []),(8,.int .i64 (qc a0:Int)),(9,.int .i64 x2),(10,.int .i64 x3)]∧τ=[]∧zl.l6 a0 a1 k6 x2 x3=some r) _ ⟨rounds,0,(qc a0:Int),rfl,rfl,rfl,h⟩ .s ?_;rintro m L τ ⟨k6,x2,x3,rfl,rfl,rfl,h⟩
 rcases k6 with _|k6
 · cases h
 simp only[zl.l6] at h
 refine za fun Z7 hZ7=>?_
 refine rgN [0,1,2,8,9,10,17] ?_;refine zq rfl (fun hc8=>?_) (fun hc8=>?_)
 · rw[if_pos hc8] at h;have t9:=eq_true hc8;apply zd;apply hZ7;apply ze;have f10:=yW (T:=tab) (src:=3) (dst:=184) rfl rfl rfl;have f11:=yW (T:=tab) (src:=184) (dst:=3) rfl rfl rfl
   refine rg tok [0,1,2,8,9,10,11] fun K hK=>?_
   simp only[go_sem,qb,qa,reduceCtorEq,t9,f10,f11,YA,Int.reduceLT];apply hK
   refine rc [0,1,2,8,9,10,11,31] fun K hK=>?_
   obtain⟨y12,hy12,h⟩:=bind_some h;have f13:=E27.idxS hy12;have f14:=E27.loadS rfl rfl hy12;obtain⟨r15,hr15,h⟩:=zQ h;refine zi tok 6 ?_;simp only[go_sem,qb,qa,reduceCtorEq,cellsGEntry,zS,f13,f14];refine clN rfl rfl rfl (we.ev y12 a1 r15 hr15 _) ?_;refine rnN 1 ?_;refine nkN hK ?_;refine zq rfl (fun hc16=>?_) (fun hc16=>?_)
   · rw[if_pos hc16] at h;have t17:=eq_true hc16
     refine rgE tok [0,1,2,8,9,10] fun K hK=>?_
     simp only[go_sem,qb,qa,reduceCtorEq,t17];apply hK
     exact⟨_,_,_,qp (0+k6),⟨k6,IntKind.i64.wrap ((IntKind.i64.wrap (Int.fdiv (IntKind.u64.wrap (IntKind.i64.wrap (x2+x3))) (2^(min (qF 1) 64))))+1),x3,rfl,rfl,rfl,h⟩,.s⟩
   rw[if_neg hc16] at h;have t18:=eq_false hc16
   refine rgE tok [0,1,2,8,9,10] fun K hK=>?_
   simp only[go_sem,qb,qa,reduceCtorEq,t18];apply hK
   exact⟨_,_,_,qp (0+k6),⟨k6,x2,IntKind.i64.wrap (Int.fdiv (IntKind.u64.wrap (IntKind.i64.wrap (x2+x3))) (2^(min (qF 1) 64))),rfl,rfl,rfl,h⟩,.s⟩
 rw[if_neg hc8] at h;have t19:=eq_false hc8;apply zr;apply hZ1
 refine rc [6,7] fun K hK=>?_
 refine zi tok 5 ?_;simp only[go_sem,qb,qa,reduceCtorEq,t19];obtain⟨c20,hc20,h⟩:=bind_some h;refine zh 9 (fun L τ=>L=[(35,.int .i64 x2),(48,.bool c20)]∧τ=[]) ?_ ?_
 · refine yw 39 rfl (fun hg39=>?_) (fun hg39=>?_)
   · have t21:=eq_true hg39;rw[if_pos hg39] at hc20;obtain⟨y22,hy22,hc20⟩:=bind_some hc20;have f23:=E27.idxS hy22;have f24:=E27.loadS rfl rfl hy22;obtain⟨r25,hr25,hc20⟩:=zQ hc20;refine zi tok 6 ?_;simp only[go_sem,qb,qa,reduceCtorEq,cellsGEntry,zS,f23,f24];refine clN rfl rfl rfl (we.ev y22 a1 r25 hr25 _) ?_;refine rnN 2 ?_;cases hc20;refine zb ⟨rfl,_,_,⟨rfl,rfl⟩,.p t21⟩
   have t26:=eq_false hg39;rw[if_neg hg39] at hc20;refine rnN 9 ?_;cases hc20;refine zb ⟨rfl,_,_,⟨rfl,rfl⟩,.p t26⟩
 rintro _ _ ⟨rfl,rfl⟩;refine rnN 2 ?_;refine nkN hK ?_;cases h;exact rtA
def Zg (a0:GTree):Bool:=
 ((((((decide (1≤a0.fKind))&&(decide (a0.fKind≤3)))&&(decide (a0.fN=0)))&&(decide (a0.fS=[])))&&(decide ((qc a0.fEntries:Int)=0)))&&(decide ((qc a0.fRest:Int)=0)))
theorem Zg.ok (a0:GTree)(r:Bool)(h:Zg a0=r):ACalls qh 70 [.agg (cellsGTree a0)] [] (fun r' _=>r'=.bool r):=by
 refine zf (rs:=[.tmp 2]) tok Tryz.func70 rfl Tryz.ntmps70 rfl Tryz.call70 (by simp) ?_;refine zk [(0,.agg (cellsGTree a0))] ⟨rfl,trivial⟩ ?_;unfold Zg at h
 refine rg tok [1] fun K hK=>?_
 simp only[go_sem,qb,qa,qd,reduceCtorEq,cellsGTree];apply hK
 refine rc [2] fun K hK=>?_
 refine rnN 4 ?_;refine zh 4 (fun L τ=>L=[(1,.op 0 0 0),(10,.bool ((decide (1≤a0.fKind))&&(decide (a0.fKind≤3))))]∧τ=[.cells 0 (cellsGTree a0)]) ?_ ?_
 · refine yw 6 rfl (fun hg6=>?_) (fun hg6=>?_)
   · have t1:=eq_true hg6;refine rnN 4 ?_;refine zb ⟨rfl,_,_,⟨rfl,rfl⟩,.p t1⟩
   have t2:=eq_false hg6;refine rnN 4 ?_;refine zb ⟨rfl,_,_,⟨rfl,rfl⟩,.p t2⟩
 rintro _ _ ⟨rfl,rfl⟩;refine rnN 1 ?_;refine zh 4 (fun L τ=>L=[(1,.op 0 0 0),(15,.bool (((decide (1≤a0.fKind))&&(decide (a0.fKind≤3)))&&(decide (a0.fN=0))))]∧τ=[.cells 0 (cellsGTree a0)]) ?_ ?_
 · refine zH (b:=((decide (1≤a0.fKind))&&(decide (a0.fKind≤3)))) 11 rfl (fun hg11=>?_) (fun hg11=>?_)
   · refine rnN 4 ?_;refine zb ⟨rfl,_,_,⟨rfl,rfl⟩,.b hg11⟩
   refine rnN 4 ?_;refine zb ⟨rfl,_,_,⟨rfl,rfl⟩,.b hg11⟩
 rintro _ _ ⟨rfl,rfl⟩;refine rnN 1 ?_;refine zh 4 (fun L τ=>L=[(1,.op 0 0 0),(20,.bool ((((decide (1≤a0.fKind))&&(decide (a0.fKind≤3)))&&(decide (a0.fN=0)))&&(decide (a0.fS=[]))))]∧τ=[.cells 0 (cellsGTree a0)]) ?_ ?_
 · refine zH (b:=(((decide (1≤a0.fKind))&&(decide (a0.fKind≤3)))&&(decide (a0.fN=0)))) 16 rfl (fun hg16=>?_) (fun hg16=>?_)
   · refine rnN 4 ?_;refine zb ⟨rfl,_,_,⟨rfl,rfl⟩,.b hg16⟩
   refine rnN 4 ?_;refine zb ⟨rfl,_,_,⟨rfl,rfl⟩,.b hg16⟩
 rintro _ _ ⟨rfl,rfl⟩;refine rnN 1 ?_;refine zh 5 (fun L τ=>L=[(1,.op 0 0 0),(26,.bool (((((decide (1≤a0.fKind))&&(decide (a0.fKind≤3)))&&(decide (a0.fN=0)))&&(decide (a0.fS=[])))&&(decide ((qc a0.fEntries:Int)=0))))]∧τ=[.cells 0 (cellsGTree a0)]) ?_ ?_
 · refine zH (b:=((((decide (1≤a0.fKind))&&(decide (a0.fKind≤3)))&&(decide (a0.fN=0)))&&(decide (a0.fS=[])))) 21 rfl (fun hg21=>?_) (fun hg21=>?_)
   · refine rnN 5 ?_;refine zb ⟨rfl,_,_,⟨rfl,rfl⟩,.b hg21⟩
   refine rnN 5 ?_;refine zb ⟨rfl,_,_,⟨rfl,rfl⟩,.b hg21⟩
 rintro _ _ ⟨rfl,rfl⟩;refine rnN 1 ?_;refine zh 5 (fun L τ=>L=[(32,.bool ((((((decide (1≤a0.fKind))&&(decide (a0.fKind≤3)))&&(decide (a0.fN=0)))&&(decide (a0.fS=[])))&&(decide ((qc a0.fEntries:Int)=0)))&&(decide ((qc a0.fRest:Int)=0))))]∧τ=[.cells 0 (cellsGTree a0)]) ?_ ?_
 · refine zH (b:=(((((decide (1≤a0.fKind))&&(decide (a0.fKind≤3)))&&(decide (a0.fN=0)))&&(decide (a0.fS=[])))&&(decide ((qc a0.fEntries:Int)=0)))) 27 rfl (fun hg27=>?_) (fun hg27=>?_)
   · refine rnN 5 ?_;refine zb ⟨rfl,_,_,⟨rfl,rfl⟩,.b hg27⟩
   refine rnN 5 ?_;refine zb ⟨rfl,_,_,⟨rfl,rfl⟩,.b hg27⟩
 rintro _ _ ⟨rfl,rfl⟩;refine rnN 1 ?_;refine nkN hK ?_;cases h;exact rtA
theorem Zg.ev (a0:GTree)(r:Bool)(h:Zg a0=r)(σ:Store):ACalls qh 70 [.agg (cellsGTree a0)] σ (fun r' σ'=>r'=.bool r∧σ'=σ):=
 (Zg.ok a0 r h).c σ
def xy (a0:GEntry)(a1:GMessage):Option Bool:=
 bnd (zw a1 a0.fTag) fun r1=>(if r1.1.fLabel=1 then (Zv a0.fTrees 0).bind fun y2=>bnd (Zg y2) fun r5=>some r5 else some false).bind fun c2=>some c2
theorem xy.ok (a0:GEntry)(a1:GMessage)(r:Bool)(h:xy a0 a1=some r):ACalls qh 69 [.agg (cellsGEntry a0),.dp (encGMessage a1) 0] [] (fun r' _=>r'=.bool r):=by
 refine zf (rs:=[.tmp 3]) tok Tryz.func69 rfl Tryz.ntmps69 rfl Tryz.call69 (by simp) ?_;refine zk [(0,.agg (cellsGEntry a0)),(1,.dp (encGMessage a1) 0)] ⟨rfl,rfl,trivial⟩ ?_;unfold xy at h
 refine rg tok [1,2] fun K hK=>?_
 simp only[go_sem,qb,qa,qd,reduceCtorEq,cellsGEntry];apply hK
 refine rc [2,4] fun K hK=>?_
 obtain⟨r1,hr1,h⟩:=zQ h;refine zi tok 3 ?_;simp only[go_sem,qb,qf,qa,qd,encGMessage,vaA];refine clN rfl rfl rfl (zw.ev a1 a0.fTag r1 hr1 _) ?_;refine zi tok 6 ?_;simp only[go_sem,qb,qf,qa,qd,encGField];refine nkN hK ?_
 refine rc [3] fun K hK=>?_
 refine rnN 4 ?_;obtain⟨c2,hc2,h⟩:=bind_some h;refine zh 6 (fun L τ=>L=[(22,.bool c2)]∧τ=[.cells 0 (cellsGEntry a0),.cells 0 (encGField r1.1)]) ?_ ?_
 · refine yw 16 rfl (fun hg16=>?_) (fun hg16=>?_)
   · have t3:=eq_true hg16;rw[if_pos hg16] at hc2;obtain⟨y4,hy4,hc2⟩:=bind_some hc2;have f5:=E90.idxS hy4;have f6:=E90.loadS rfl rfl hy4;obtain⟨r7,hr7,hc2⟩:=zQ hc2;refine zi tok 4 ?_;simp only[go_sem,qb,qa,qd,cellsGTree,yU,f5,f6];refine clN rfl rfl rfl (Zg.ev y4 r7 hr7 _) ?_;refine rnN 1 ?_;cases hc2;refine zb ⟨rfl,_,_,⟨rfl,rfl⟩,.p t3⟩
   have t8:=eq_false hg16;rw[if_neg hg16] at hc2;refine rnN 6 ?_;cases hc2;refine zb ⟨rfl,_,_,⟨rfl,rfl⟩,.p t8⟩
 rintro _ _ ⟨rfl,rfl⟩;refine rnN 1 ?_;refine nkN hK ?_;cases h;exact rtA
theorem xy.ev (a0:GEntry)(a1:GMessage)(r:Bool)(h:xy a0 a1=some r)(σ:Store):ACalls qh 69 [.agg (cellsGEntry a0),.dp (encGMessage a1) 0] σ (fun r' σ'=>r'=.bool r∧σ'=σ):=
 (xy.ok a0 a1 r h).c σ
def zv.l4 (a1_0:GMessage):List GEntry→Int→Option Int
 |[],x2=>some (-1)
 |y4::q4,x2=>(xy y4 a1_0).bind fun r10=>(if r10=true then some x2 else ((zv.l4 a1_0 q4) (x2+1)))
def zv (a0:List GEntry)(a1_0:GMessage):Option Int:=
 (zv.l4 a1_0 a0 0)
theorem zv.ok (a0:List GEntry)(a1_0:GMessage)(r:Int)(h:zv a0 a1_0=some r):ACalls qh 114 [.ds true (qe encGEntry a0) (qc a0) false,.fn (.func 69) [] [.dp (encGMessage a1_0) 0]] [] (fun r' _=>r'=.int .i64 r):=by
 refine zf (rs:=[.tmp 4]) tok Tryz.func114 rfl Tryz.ntmps114 rfl Tryz.call114 (by simp) ?_;refine zk [(0,.ds true (qe encGEntry a0) (qc a0) false),(1,.fn (.func 69) [] [.dp (encGMessage a1_0) 0])] ⟨rfl,rfl,trivial⟩ ?_;unfold zv at h;refine rgN [0,1] ?_
 refine za fun Z1 hZ1=>?_
 refine rgN [0,1,7,8] ?_;apply ze
 refine yP 0 fun hb4=>?_
 replace hb4:qc a0≤9223372036854775807:=hb4.1;refine zp (fun m L τ=>∃ (p4 q4:List GEntry) (x2:Int),m=qc q4∧L=[(0,.ds true (qe encGEntry a0) (qc a0) false),(1,.fn (.func 69) [] [.dp (encGMessage a1_0) 0]),(7,.int .i64 (qc a0:Int)),(8,.int .i64 x2)]∧τ=[]∧a0=p4++q4∧x2=(qc p4:Int)∧zv.l4 a1_0 q4 x2=some r) _ ⟨[],a0,0,rfl,rfl,rfl,rfl,rfl,h⟩ .s ?_;rintro m L τ ⟨p4,q4,x2,rfl,rfl,rfl,hE4,hi4,h⟩
 rcases q4 with _|⟨y4,q4⟩
 · have hz4:=yl hE4 hi4;simp only[zv.l4] at h
   refine rg tok [0,1,7,8,9] fun K hK=>?_
   simp only[go_sem,qb,qa,reduceCtorEq,hz4];apply hK
   refine za fun Z5 hZ5=>?_
   refine zn rfl ?_;apply zr;apply hZ1;refine rgN [4] ?_;cases h;exact rtA
 obtain⟨hz4,hw4,hx4,hE'4,hi'4⟩:=zV hE4 hi4 hb4;simp only[zv.l4] at h
 refine rg tok [0,1,7,8,9] fun K hK=>?_
 simp only[go_sem,qb,qa,reduceCtorEq,hz4];apply hK
 refine za fun Z6 hZ6=>?_
 refine zo rfl ?_;apply zd;apply hZ6
 refine za fun Z7 hZ7=>?_
 apply ze;refine rgN [0,1,5,7,8] ?_
 refine rc [0,1,5,7,8,16] fun K hK=>?_
 have f8:=E27.idxS hx4;have f9:=E27.loadS rfl rfl hx4;obtain⟨r10,hr10,h⟩:=bind_some h;refine zi tok 5 ?_;simp only[go_sem,qb,qa,reduceCtorEq,cellsGEntry,zS,f8,f9];refine clN rfl rfl rfl (xy.ev y4 a1_0 r10 hr10 _) ?_;refine nkN hK ?_;refine zm (b:=r10) rfl (fun hc11=>?_) (fun hc11=>?_)
 · rw[if_pos hc11] at h;refine rgN [4] ?_;cases h;exact rtA
 rw[xQ hc11] at h;apply zd;apply hZ7
 refine rgE tok [0,1,7,8] fun K hK=>?_
 simp only[go_sem,qb,qa,reduceCtorEq,hw4];apply hK
 exact⟨_,_,_,qp q4.length,⟨p4++[y4],q4,x2+1,rfl,rfl,rfl,hE'4,hi'4,h⟩,.s⟩
def zO.j20 (x5:Int)(l4:List GRaw)(rec8:Int→List GRaw→Option (List GRaw))(y8:GRaw)(x15:Int)(rec17:Int→Option (List GRaw))(x19:Bool):Option (List GRaw):=
 (if x19=true then (rec17 (IntKind.i64.wrap (x15-1))) else (grd ((0:Int)≤IntKind.i64.wrap (x15+1)∧IntKind.i64.wrap (x15+1)≤x5+1∧x5+1≤(qc l4:Int))).bind fun _u22=>(grd ((0:Int)≤x15∧x15≤x5∧x5≤(qc l4:Int))).bind fun _u24=>(Zv (X3 l4 (qF (IntKind.i64.wrap (x15+1))) (qF x15) (min (qF x5-qF x15) (qF (x5+1)-qF (IntKind.i64.wrap (x15+1))))) x15).bind fun y28=>(rec8 (x5+1) (setI (X3 l4 (qF (IntKind.i64.wrap (x15+1))) (qF x15) (min (qF x5-qF x15) (qF (x5+1)-qF (IntKind.i64.wrap (x15+1))))) x15 y8)))
def zO.l17 (x5:Int)(l4:List GRaw)(rec8:Int→List GRaw→Option (List GRaw))(y8:GRaw):Nat→Int→Option (List GRaw)
 |0,_=>none
 |k17+1,x15=>(if 0<x15 then (Zv l4 (IntKind.i64.wrap (x15-1))).bind fun y33=>(zO.j20 x5 l4 rec8 y8 x15 (zO.l17 x5 l4 rec8 y8 k17) (decide (y8.fTag<y33.fTag))) else (zO.j20 x5 l4 rec8 y8 x15 (zO.l17 x5 l4 rec8 y8 k17) false))
def zO.l8 : List GRaw→Int→List GRaw→Option (List GRaw)
 |[],x5,l4=>some l4
 |y8::q8,x5,l4=>(zO.l17 x5 l4 (zO.l8 q8) y8 rounds x5)
def zO (a0:List GRaw):Option (List GRaw):=
 (grd ((0:Int)≤(qc a0:Int)∧(40:Int)*(qc a0:Int)≤281474976710656∧(qc a0:Int)<9223372036854775807)).bind fun _u1=>(zO.l8 a0 0 (qN (qF (qc a0:Int)) ((⟨0,0,0,[]⟩:GRaw):GRaw)))
theorem zO.ok (a0:List GRaw)(r:List GRaw)(h:zO a0=some r):ACalls qh 71 [.ds true (qe encGRaw a0) (qc a0) false] [] (fun r' _=>r'=.ds true (qe encGRaw r) (qc r) false):=by
 refine zf (rs:=[.tmp 2]) tok Tryz.func71 rfl Tryz.ntmps71 rfl Tryz.call71 (by simp) ?_;refine zk [(0,.ds true (qe encGRaw a0) (qc a0) false)] ⟨rfl,trivial⟩ ?_;unfold zO at h;refine rgN [0] ?_;obtain⟨_u1,hu1,h⟩:=bind_some h;have gu1:=wq hu1;have f2:=E28.mk0 rfl (z:=((⟨0,0,0,[]⟩:GRaw):GRaw)) rfl rfl gu1 .i64 .i64
 refine rg tok [0,3] fun K hK=>?_
 simp only[go_sem,qb,qa,reduceCtorEq,f2];apply hK
 refine zU (L:=[(0,.ds true (qe encGRaw a0) (qc a0) false),(3,.os true 4 0 0 0 (qc (qN (qF (qc a0:Int)) ((⟨0,0,0,[]⟩:GRaw):GRaw))) true)]) (τ:=[.cells 0 (qe encGRaw (qN (qF (qc a0:Int)) ((⟨0,0,0,[]⟩:GRaw):GRaw)))]) .s ?_
 refine za fun Z3 hZ3=>?_
 refine rgN [3,10,11,12] ?_;apply ze
 refine yP 10 fun hb8=>?_
 replace hb8:qc a0≤9223372036854775807:=hb8.1;refine zp (fun m L τ=>∃ (p8 q8:List GRaw) (x5:Int) (l4:List GRaw),m=qc q8∧L=[(3,.os true 4 0 0 0 (qc l4) true),(10,.ds true (qe encGRaw a0) (qc a0) false),(11,.int .i64 (qc a0:Int)),(12,.int .i64 x5)]∧τ=[.cells 0 (qe encGRaw l4)]∧a0=p8++q8∧x5=(qc p8:Int)∧zO.l8 q8 x5 l4=some r) _ ⟨[],a0,0,qN (qF (qc a0:Int)) ((⟨0,0,0,[]⟩:GRaw):GRaw),rfl,rfl,rfl,rfl,rfl,h⟩ .s ?_;rintro m L τ ⟨p8,q8,x5,l4,rfl,rfl,rfl,hE8,hi8,h⟩
 rcases q8 with _|⟨y8,q8⟩
 · have hz8:=yl hE8 hi8;simp only[zO.l8] at h
   refine rg tok [3,10,11,12,13] fun K hK=>?_
   simp only[go_sem,qb,qa,hz8];apply hK
   refine za fun Z9 hZ9=>?_
   refine zn rfl ?_;apply zr;apply hZ3;refine rgN [2] ?_;cases h;exact rtA
 obtain⟨hz8,hw8,hx8,hE'8,hi'8⟩:=zV hE8 hi8 hb8;simp only[zO.l8] at h
 refine rg tok [3,10,11,12,13] fun K hK=>?_
 simp only[go_sem,qb,qa,hz8];apply hK
 refine za fun Z10 hZ10=>?_
 refine zo rfl ?_;apply zd;apply hZ10
 refine za fun Z11 hZ11=>?_
 apply ze;have f12:=E28.idxS hx8;have f13:=E28.loadS rfl rfl hx8
 refine rg tok [3,4,5,10,11,12] fun K hK=>?_
 simp only[go_sem,qb,qf,qa,qd,encGRaw,f12,f13];apply hK
 refine rgN [3,4,5,6,10,11,12] ?_
 refine za fun Z14 hZ14=>?_
 apply ze;refine zp (fun m L τ=>∃ (k17:Nat) (x15:Int),m=0+k17∧L=[(3,.os true 4 0 0 0 (qc l4) true),(4,.int .i64 x5),(5,.op 1 0 0),(6,.int .i64 x15),(10,.ds true (qe encGRaw a0) (qc a0) false),(11,.int .i64 (qc a0:Int)),(12,.int .i64 x5)]∧τ=[.cells 0 (qe encGRaw l4),.cells 0 [.int .i64 y8.fTag,.int .i64 y8.fWire,.int .i64 y8.fN,.str y8.fB]]∧zO.l17 x5 l4 (zO.l8 q8) y8 k17 x15=some r) _ ⟨rounds,x5,rfl,rfl,rfl,h⟩ .s ?_;rintro m L τ ⟨k17,x15,rfl,rfl,rfl,h⟩
 rcases k17 with _|k17
 · cases h
 simp only[zO.l17] at h
 refine za fun Z18 hZ18=>?_
 refine xG (fun L τ=>∃ (x19:Bool),L=[(3,.os true 4 0 0 0 (qc l4) true),(4,.int .i64 x5),(5,.op 1 0 0),(6,.int .i64 x15),(10,.ds true (qe encGRaw a0) (qc a0) false),(11,.int .i64 (qc a0:Int)),(12,.int .i64 x5),(30,.bool x19)]∧τ=[.cells 0 (qe encGRaw l4),.cells 0 [.int .i64 y8.fTag,.int .i64 y8.fWire,.int .i64 y8.fN,.str y8.fB]]∧zO.j20 x5 l4 (zO.l8 q8) y8 x15 (zO.l17 x5 l4 (zO.l8 q8) y8 k17) x19=some r) ?_ ?_
 · refine rdE [3,4,5,6,10,11,12,30] fun K hK=>?_
   refine DW.start (T:=tab) [.any,.any,.any,.any,.any,.any,.any,.any,.at [],.any,.at [],.any,.any] [] ?_;refine DW.runN tok 3 ?_;simp only[go_sem,qb,qa]
   refine DW.if 20 rfl (fun hg20=>?_) (fun hg20=>?_)
   · rw[if_pos hg20] at h;have t32:=eq_true hg20;obtain⟨y33,hy33,h⟩:=bind_some h;have f34:=E28.idxO hy33;have f35:=E28.rdfO0 hy33;refine DW.runN tok 8 ?_;simp only[go_sem,qb,qa,qd,encGRaw,t32,f34,f35];refine DW.runN tok 2 ?_;simp only[go_sem,qb,qa];refine DW.fin tok (by decide +kernel) rfl ?_;simp only[zj,upd,qa,reduceIte,yu,xe];apply hK
     exact⟨_,_,⟨decide (y8.fTag<y33.fTag),rfl,rfl,h⟩,.s⟩
   rw[if_neg hg20] at h;have t36:=eq_false hg20;refine DW.runN tok 8 ?_;simp only[go_sem,qb,qa,t36];refine DW.runN tok 2 ?_;simp only[go_sem,qb,qa];refine DW.fin tok (by decide +kernel) rfl ?_;simp only[zj,upd,qa,reduceIte,yu,xe];apply hK
   exact⟨_,_,⟨false,rfl,rfl,h⟩,.s⟩
 rintro _ _ ⟨x19,rfl,rfl,h⟩;unfold zO.j20 at h;refine zm (b:=x19) rfl (fun hc21=>?_) (fun hc21=>?_)
 · rw[if_pos hc21] at h;apply zd;apply hZ18;apply ze
   refine rgE tok [3,4,5,6,10,11,12] fun K hK=>?_
   simp only[go_sem,qb,qa];apply hK
   exact⟨_,_,_,qp (0+k17),⟨k17,IntKind.i64.wrap (x15-1),rfl,rfl,rfl,h⟩,.s⟩
 rw[xQ hc21] at h;apply zr;apply hZ14;obtain⟨_u22,hu22,h⟩:=bind_some h;have gu22:=wq hu22
 have f23:=fun id ver=>E28.slO gu22 .i64 .i64 id ver true
 obtain⟨_u24,hu24,h⟩:=bind_some h;have gu24:=wq hu24
 have f25:=fun id ver=>E28.slO gu24 .i64 .i64 id ver true
 have f26:=fun (τ:Store) (t1 t2:Bool)=>E28.cpO vcs.h gu22 gu24 t1 t2 (.cells 0 (qe encGRaw l4)::τ) 0 0 (by simp only[Store.at_hd,if_true]) rfl
 have f27:qc (X3 l4 (qF (IntKind.i64.wrap (x15+1))) (qF x15) (min (qF x5-qF x15) (qF (x5+1)-qF (IntKind.i64.wrap (x15+1)))))=qc l4:=copyI_length (by omega) (by omega)
 refine rd [3,5,6,10,11,12] fun K hK=>?_
 refine DW.start (T:=tab) [.any,.any,.any,.any,.any,.any,.any,.any,.any,.any,.eff] [] ?_;refine DW.runN tok 8 ?_;simp only[go_sem,qb,qa,hw8,f23];refine DW.runN tok 3 ?_;simp only[go_sem,qb,qa,f25,f26];refine DW.fin tok (by decide +kernel) rfl ?_;simp only[zj,upd,qa,reduceIte,yu,xe];apply hK
 refine zU (L:=[(3,.os true 4 0 0 0 (qc (X3 l4 (qF (IntKind.i64.wrap (x15+1))) (qF x15) (min (qF x5-qF x15) (qF (x5+1)-qF (IntKind.i64.wrap (x15+1)))))) true),(5,.op 1 0 0),(6,.int .i64 x15),(10,.ds true (qe encGRaw a0) (qc a0) false),(11,.int .i64 (qc a0:Int)),(12,.int .i64 x5)]) (τ:=[.cells 0 (qe encGRaw (X3 l4 (qF (IntKind.i64.wrap (x15+1))) (qF x15) (min (qF x5-qF x15) (qF (x5+1)-qF (IntKind.i64.wrap (x15+1)))))),.cells 0 [.int .i64 y8.fTag,.int .i64 y8.fWire,.int .i64 y8.fN,.str y8.fB]]) (.same (by first|exact⟨rfl,rfl,rfl,rfl,rfl,rfl,trivial⟩|rfl|(simp only[go_sem,qa,Fits,f27,and_self]<;>rfl)) (by first|exact⟨rfl,rfl,rfl,rfl,rfl,rfl,trivial⟩|rfl|(simp only[go_sem,qb,qf,qa,qd,qt,qK,reduceIte,reduceCtorEq,Fits,encB,encI,encS,vcj,ZF,qS,qO,un,qz,qx,qi,qj,ql,qq,qs,qH,u7,encGRaw,f27,and_self]<;>rfl))) ?_;obtain⟨y28,hy28,h⟩:=bind_some h;have f29:=E28.idxO hy28;have f30:=E28.stOc hy28;have f31:=E28.stOr hy28 (y:=y8) (cs:=[.int .i64 y8.fTag,.int .i64 y8.fWire,.int .i64 y8.fN,.str y8.fB]) rfl;simp only[y1] at f31
 refine rgE tok [3,10,11,12] fun K hK=>?_
 simp only[go_sem,qb,qf,qa,qd,f29,f30,f31];apply hK
 apply hZ11
 refine rgE tok [3,10,11,12] fun K hK=>?_
 simp only[go_sem,qb,qa,hw8];apply hK
 exact⟨_,_,_,qp q8.length,⟨p8++[y8],q8,x5+1,setI (X3 l4 (qF (IntKind.i64.wrap (x15+1))) (qF x15) (min (qF x5-qF x15) (qF (x5+1)-qF (IntKind.i64.wrap (x15+1))))) x15 y8,rfl,rfl,rfl,hE'8,hi'8,h⟩,(.t [0] false)⟩
theorem zO.ev (a0:List GRaw)(r:List GRaw)(h:zO a0=some r)(σ:Store):ACalls qh 71 [.ds true (qe encGRaw a0) (qc a0) false] σ (fun r' σ'=>r'=.ds true (qe encGRaw r) (qc r) false∧σ'=σ):=
 (zO.ok a0 r h).c σ
def zR.j4 (m4_1:GTree):Option (GTree×Int):=
 some (m4_1,0)
def zR.j6 (zD:GSchema→GMessage→(List UInt8)→Int→Option (GTree×Int))(a0:GSchema)(a1:GType)(a2:GRaw)(a3:Int)(m4_1:GTree)(x5:Bool):Option (GTree×Int):=
 (if x5=true then bnd (xN a1 a2.fN) fun r8=>(if (!r8)=true then some ((⟨0,0,[],([]:List GEntry),([]:List GRaw)⟩:GTree),11) else (zR.j4 m4_1)) else (if a1.fKind=4 then (yH a2.fB).bind fun r12=>(if (!r12)=true then some ((⟨0,0,[],([]:List GEntry),([]:List GRaw)⟩:GTree),9) else (zR.j4 m4_1)) else (if a1.fKind=7 then bnd (zI a0 a1.fName) fun r17=>(grd (qc a2.fB≤9223372036854775807)).bind fun _u18=>(zD a0 r17.1 a2.fB (IntKind.i64.wrap (a3+1))).bind fun r20=>some (r20.1,r20.2) else (zR.j4 m4_1))))
def zR.j3 (zD:GSchema→GMessage→(List UInt8)→Int→Option (GTree×Int))(a0:GSchema)(a1:GType)(a2:GRaw)(a3:Int)(m4_1:GTree):Option (GTree×Int):=
 (if a1.fKind=3 then (zR.j6 zD a0 a1 a2 a3 m4_1 (decide (a1.fKind=3))) else (zR.j6 zD a0 a1 a2 a3 m4_1 (decide (a1.fKind=6))))
def zR.j26 (zD:GSchema→GMessage→(List UInt8)→Int→Option (GTree×Int))(a0:GSchema)(a1:GType)(a2:GRaw)(a3:Int)(m4_1:GTree)(x25:Bool):Option (GTree×Int):=
 (if x25=true then (if a2.fWire=1 then (zR.j3 zD a0 a1 a2 a3 m4_1) else some ((⟨0,0,[],([]:List GEntry),([]:List GRaw)⟩:GTree),8)) else (if a2.fWire=0 then (zR.j3 zD a0 a1 a2 a3 m4_1) else some ((⟨0,0,[],([]:List GEntry),([]:List GRaw)⟩:GTree),8)))
def zR.j2 (zD:GSchema→GMessage→(List UInt8)→Int→Option (GTree×Int))(a0:GSchema)(a1:GType)(a2:GRaw)(a3:Int)(m4_1:GTree):Option (GTree×Int):=
 (if a1.fKind=4 then (zR.j26 zD a0 a1 a2 a3 m4_1 (decide (a1.fKind=4))) else (if a1.fKind=5 then (zR.j26 zD a0 a1 a2 a3 m4_1 (decide (a1.fKind=5))) else (zR.j26 zD a0 a1 a2 a3 m4_1 (decide (a1.fKind=7)))))
def zR.body (zD:GSchema→GMessage→(List UInt8)→Int→Option (GTree×Int))(xb:GSchema→GType→GRaw→Int→Option (GTree×Int))(a0:GSchema)(a1:GType)(a2:GRaw)(a3:Int):Option (GTree×Int):=
 (if a2.fWire=1 then (zR.j2 zD a0 a1 a2 a3 (⟨2,0,a2.fB,([]:List GEntry),([]:List GRaw)⟩:GTree)) else (zR.j2 zD a0 a1 a2 a3 (⟨1,a2.fN,[],([]:List GEntry),([]:List GRaw)⟩:GTree)))
theorem zR.step (zD:GSchema→GMessage→(List UInt8)→Int→Option (GTree×Int))(xb:GSchema→GType→GRaw→Int→Option (GTree×Int))(vaV:∀ (a0:GSchema) (a1:GMessage) (a2:List UInt8) (a3:Int) (r:GTree×Int),zD a0 a1 a2 a3=some r→ACalls qh 41 [.agg (encGSchema a0),.agg (encGMessage a1),.ds true (qe encB a2) (qc a2) false,.int .i64 a3] [] (fun r' _=>r'=.tup [.agg (cellsGTree r.1),.int .i64 r.2]))(Xn:∀ (a0:GSchema) (a1:GType) (a2:GRaw) (a3:Int) (r:GTree×Int),xb a0 a1 a2 a3=some r→ACalls qh 66 [.agg (encGSchema a0),.agg (encGType a1),.agg (encGRaw a2),.int .i64 a3] [] (fun r' _=>r'=.tup [.agg (cellsGTree r.1),.int .i64 r.2]))(a0:GSchema)(a1:GType)(a2:GRaw)(a3:Int)(r:GTree×Int)(h:zR.body zD xb a0 a1 a2 a3=some r):ACalls qh 66 [.agg (encGSchema a0),.agg (encGType a1),.agg (encGRaw a2),.int .i64 a3] [] (fun r' _=>r'=.tup [.agg (cellsGTree r.1),.int .i64 r.2]):=by
 have ev_decode_message:=fun a0 a1 a2 a3 r h σ=>(vaV a0 a1 a2 a3 r h).c σ
 have ev_decode_one:=fun a0 a1 a2 a3 r h σ=>(Xn a0 a1 a2 a3 r h).c σ
 refine zf (rs:=[.cell 8 30,.tmp 9]) tok Tryz.func66 rfl Tryz.ntmps66 rfl Tryz.call66 (by simp) ?_;refine zk [(0,.agg (encGSchema a0)),(1,.agg (encGType a1)),(2,.agg (encGRaw a2)),(3,.int .i64 a3)] ⟨rfl,rfl,rfl,rfl,trivial⟩ ?_;unfold zR.body at h
 refine rg tok [3,4,5,6,8] fun K hK=>?_
 simp only[go_sem,qb,qa,qd,reduceCtorEq,encGRaw,encGSchema,encGType];apply hK
 refine rgN [3,4,5,6,8,10] ?_;refine xG (fun L τ=>∃ (m4_1:GTree),L=[(3,.int .i64 a3),(4,.op 0 0 0),(5,.op 1 0 0),(6,.op 2 0 0),(8,.op 3 0 0),(10,.op 4 0 0)]∧τ=[.cells 0 (encGSchema a0),.cells 0 [.int .i64 a1.fKind,.str a1.fName],.cells 0 [.int .i64 a2.fTag,.int .i64 a2.fWire,.int .i64 a2.fN,.str a2.fB],.cells 0 [.int .i64 0,.int .i64 0,.str [],.ds true (qe encGEntry ([]:List GEntry)) (qc ([]:List GEntry)) false,.ds true (qe encGRaw ([]:List GRaw)) (qc ([]:List GRaw)) false],.cells 0 (cellsGTree m4_1)]∧zR.j2 zD a0 a1 a2 a3 m4_1=some r) ?_ ?_
 · refine rgN [3,4,5,6,8,10,18] ?_;refine zq rfl (fun hc40=>?_) (fun hc40=>?_)
   · rw[if_pos hc40] at h;have t41:=eq_true hc40
     refine rgE tok [3,4,5,6,8,10] fun K hK=>?_
     simp only[go_sem,qb,qf,qa,qd,t41];apply hK
     exact⟨_,_,⟨(⟨2,0,a2.fB,([]:List GEntry),([]:List GRaw)⟩:GTree),rfl,rfl,h⟩,(.t [0,1,2,3,4] true)⟩
   rw[if_neg hc40] at h;have t42:=eq_false hc40;apply zd;exact⟨_,_,⟨(⟨1,a2.fN,[],([]:List GEntry),([]:List GRaw)⟩:GTree),rfl,rfl,h⟩,(.t [0,1,2,3,4] true)⟩
 rintro _ _ ⟨m4_1,rfl,rfl,h⟩;unfold zR.j2 at h;refine xG (fun L τ=>L=[(3,.int .i64 a3),(4,.op 0 0 0),(5,.op 1 0 0),(6,.op 2 0 0),(8,.op 3 0 0),(10,.op 4 0 0)]∧τ=[.cells 0 (encGSchema a0),.cells 0 [.int .i64 a1.fKind,.str a1.fName],.cells 0 [.int .i64 a2.fTag,.int .i64 a2.fWire,.int .i64 a2.fN,.str a2.fB],.cells 0 [.int .i64 0,.int .i64 0,.str [],.ds true (qe encGEntry ([]:List GEntry)) (qc ([]:List GEntry)) false,.ds true (qe encGRaw ([]:List GRaw)) (qc ([]:List GRaw)) false],.cells 0 (cellsGTree m4_1)]∧zR.j3 zD a0 a1 a2 a3 m4_1=some r) ?_ ?_
 · refine rgN [3,4,5,6,8,10,23] ?_;apply ze;refine xG (fun L τ=>∃ (x25:Bool),L=[(3,.int .i64 a3),(4,.op 0 0 0),(5,.op 1 0 0),(6,.op 2 0 0),(8,.op 3 0 0),(10,.op 4 0 0),(28,.bool x25)]∧τ=[.cells 0 (encGSchema a0),.cells 0 [.int .i64 a1.fKind,.str a1.fName],.cells 0 [.int .i64 a2.fTag,.int .i64 a2.fWire,.int .i64 a2.fN,.str a2.fB],.cells 0 [.int .i64 0,.int .i64 0,.str [],.ds true (qe encGEntry ([]:List GEntry)) (qc ([]:List GEntry)) false,.ds true (qe encGRaw ([]:List GRaw)) (qc ([]:List GRaw)) false],.cells 0 (cellsGTree m4_1)]∧zR.j26 zD a0 a1 a2 a3 m4_1 x25=some r) ?_ ?_
   · refine rgN [3,4,5,6,8,10,23,28] ?_;refine zq rfl (fun hc34=>?_) (fun hc34=>?_)
     · rw[if_pos hc34] at h;have t35:=eq_true hc34;apply zd;exact⟨_,_,⟨decide (a1.fKind=4),rfl,rfl,h⟩,.s⟩
     rw[if_neg hc34] at h;have t36:=eq_false hc34
     refine rg tok [3,4,5,6,8,10,23,28] fun K hK=>?_
     simp only[go_sem,qb,qa,t36];apply hK
     refine zq rfl (fun hc37=>?_) (fun hc37=>?_)
     · rw[if_pos hc37] at h;have t38:=eq_true hc37;apply zd;exact⟨_,_,⟨decide (a1.fKind=5),rfl,rfl,h⟩,.s⟩
     rw[if_neg hc37] at h;have t39:=eq_false hc37
     refine rgE tok [3,4,5,6,8,10,28] fun K hK=>?_
     simp only[go_sem,qb,qa,t39];apply hK
     exact⟨_,_,⟨decide (a1.fKind=7),rfl,rfl,h⟩,.s⟩
   rintro _ _ ⟨x25,rfl,rfl,h⟩;unfold zR.j26 at h;refine zm (b:=x25) rfl (fun hc27=>?_) (fun hc27=>?_)
   · rw[if_pos hc27] at h;refine rgN [3,4,5,6,8,10,34] ?_;refine zq rfl (fun hc28=>?_) (fun hc28=>?_)
     · rw[if_neg hc28] at h;have t29:=eq_false hc28
       refine rg tok [8,9] fun K hK=>?_
       simp only[go_sem,qb,qf,qa,qd,t29];apply hK
       cases h;exact rtA
     rw[if_pos hc28] at h;have t30:=eq_true hc28;apply zd;exact⟨_,_,⟨rfl,rfl,h⟩,.s⟩
   rw[xQ hc27] at h;refine rgN [3,4,5,6,8,10,26] ?_;refine zq rfl (fun hc31=>?_) (fun hc31=>?_)
   · rw[if_neg hc31] at h;have t32:=eq_false hc31
     refine rg tok [8,9] fun K hK=>?_
     simp only[go_sem,qb,qf,qa,qd,t32];apply hK
     cases h;exact rtA
   rw[if_pos hc31] at h;have t33:=eq_true hc31;apply zd;exact⟨_,_,⟨rfl,rfl,h⟩,.s⟩
 rintro _ _ ⟨rfl,rfl,h⟩;unfold zR.j3 at h;refine xG (fun L τ=>L=[(8,.op 0 0 0),(10,.op 1 0 0)]∧τ=[.cells 0 [.int .i64 0,.int .i64 0,.str [],.ds true (qe encGEntry ([]:List GEntry)) (qc ([]:List GEntry)) false,.ds true (qe encGRaw ([]:List GRaw)) (qc ([]:List GRaw)) false],.cells 0 (cellsGTree m4_1)]∧zR.j4 m4_1=some r) ?_ ?_
 · refine rgN [3,4,5,6,8,10,37] ?_;apply ze;refine xG (fun L τ=>∃ (x5:Bool),L=[(3,.int .i64 a3),(4,.op 0 0 0),(5,.op 1 0 0),(6,.op 2 0 0),(8,.op 3 0 0),(10,.op 4 0 0),(37,.int .i64 a1.fKind),(38,.bool x5)]∧τ=[.cells 0 (encGSchema a0),.cells 0 [.int .i64 a1.fKind,.str a1.fName],.cells 0 [.int .i64 a2.fTag,.int .i64 a2.fWire,.int .i64 a2.fN,.str a2.fB],.cells 0 [.int .i64 0,.int .i64 0,.str [],.ds true (qe encGEntry ([]:List GEntry)) (qc ([]:List GEntry)) false,.ds true (qe encGRaw ([]:List GRaw)) (qc ([]:List GRaw)) false],.cells 0 (cellsGTree m4_1)]∧zR.j6 zD a0 a1 a2 a3 m4_1 x5=some r) ?_ ?_
   · refine rgN [3,4,5,6,8,10,37,38] ?_;refine zq rfl (fun hc22=>?_) (fun hc22=>?_)
     · rw[if_pos hc22] at h;have t23:=eq_true hc22;apply zd;exact⟨_,_,⟨decide (a1.fKind=3),rfl,rfl,h⟩,.s⟩
     rw[if_neg hc22] at h;have t24:=eq_false hc22
     refine rgE tok [3,4,5,6,8,10,37,38] fun K hK=>?_
     simp only[go_sem,qb,qa,t24];apply hK
     exact⟨_,_,⟨decide (a1.fKind=6),rfl,rfl,h⟩,.s⟩
   rintro _ _ ⟨x5,rfl,rfl,h⟩;unfold zR.j6 at h;refine zm (b:=x5) rfl (fun hc7=>?_) (fun hc7=>?_)
   · rw[if_pos hc7] at h
     refine rc [8,10,45] fun K hK=>?_
     obtain⟨r8,hr8,h⟩:=zQ h;refine rnN 3 ?_;refine clN rfl rfl rfl (xN.ev a1 a2.fN r8 hr8 _) ?_;refine rnN 1 ?_;refine nkN hK ?_;refine zm (b:=(!r8)) rfl (fun hc9=>?_) (fun hc9=>?_)
     · rw[if_pos hc9] at h;refine rgN [8,9] ?_;cases h;exact rtA
     rw[xQ hc9] at h;apply zd;exact⟨_,_,⟨rfl,rfl,h⟩,(.t [3,4] false)⟩
   rw[xQ hc7] at h;refine rgN [3,4,5,6,8,10,37,47] ?_;refine zq rfl (fun hc10=>?_) (fun hc10=>?_)
   · rw[if_pos hc10] at h;have t11:=eq_true hc10
     refine rc [8,10,52] fun K hK=>?_
     obtain⟨r12,hr12,h⟩:=bind_some h;refine zi tok 2 ?_;simp only[go_sem,qb,qa,qd,t11];refine clN rfl rfl rfl (yH.ev a2.fB r12 hr12 _) ?_;refine rnN 1 ?_;refine nkN hK ?_;refine zm (b:=(!r12)) rfl (fun hc13=>?_) (fun hc13=>?_)
     · rw[if_pos hc13] at h;refine rgN [8,9] ?_;cases h;exact rtA
     rw[xQ hc13] at h;apply zd;exact⟨_,_,⟨rfl,rfl,h⟩,(.t [3,4] false)⟩
   rw[if_neg hc10] at h;have t14:=eq_false hc10
   refine rg tok [3,4,5,6,8,10,54] fun K hK=>?_
   simp only[go_sem,qb,qa,t14];apply hK
   refine zq rfl (fun hc15=>?_) (fun hc15=>?_)
   · rw[if_pos hc15] at h;have t16:=eq_true hc15
     refine rc [3,4,6,8,11] fun K hK=>?_
     obtain⟨r17,hr17,h⟩:=zQ h;refine zi tok 3 ?_;simp only[go_sem,qb,qf,qa,qd,t16];refine clN rfl rfl rfl (zI.ev a0 a1.fName r17 hr17 _) ?_;refine zi tok 6 ?_;simp only[go_sem,qb,qf,qa,qd,encGMessage];refine nkN hK ?_
     refine rc [8,9] fun K hK=>?_
     obtain⟨_u18,hu18,h⟩:=bind_some h;have gu18:=wq hu18;have gu18t:=eq_true gu18;have f19:=vbB (T:=tab) (src:=9) (dst:=34) rfl rfl rfl rfl rfl rfl (wq hu18);obtain⟨r20,hr20,h⟩:=bind_some h;refine zi tok 7 ?_;simp only[go_sem,qb,qf,qa,qd,f19];refine Y0 (L:=[(8,.op 0 0 0),(63,.agg (encGSchema a0)),(64,.agg (encGMessage r17.1)),(67,.ds true (qe encB a2.fB) (qc a2.fB) false),(69,.int .i64 (IntKind.i64.wrap (a3+1)))]) (τ:=[.cells 0 [.int .i64 0,.int .i64 0,.str [],.ds true (qe encGEntry ([]:List GEntry)) (qc ([]:List GEntry)) false,.ds true (qe encGRaw ([]:List GRaw)) (qc ([]:List GRaw)) false]]) (.t [3] false) ?_;refine clN rfl rfl rfl (ev_decode_message a0 r17.1 a2.fB (IntKind.i64.wrap (a3+1)) r20 hr20 _) ?_;refine zi tok 4 ?_;simp only[go_sem,qb,qf,qa,qd,cellsGTree,encGMessage,encGSchema];refine nkN hK ?_;cases h;exact rtA
   rw[if_neg hc15] at h;have t21:=eq_false hc15;apply zd;exact⟨_,_,⟨rfl,rfl,h⟩,(.t [3,4] false)⟩
 rintro _ _ ⟨rfl,rfl,h⟩;unfold zR.j4 at h;refine rgN [8,9] ?_;cases h;exact rtA
end
section
open Go.RowKit AM
theorem setRun_ins (cs new:List AV)(k:Nat)(hk:k≤cs.length)(hn:new.length=2):
 y1 (y1 (cs++[.u,.u]) (k+2) (cs.drop k)) k new=cs.take k++(new++cs.drop k):=by
 have e0:cs++[AV.u,.u]=(cs.take k++((cs.drop k++[AV.u,.u]).take 2))++(((cs.drop k++[AV.u,.u]).drop 2)++[]):=by
  rw[qz,qs,uu,← qs,uu]
 have l1:((cs.drop k++[AV.u,.u]).take 2).length=2:=by simp
 have l2:(cs.take k++((cs.drop k++[AV.u,.u]).take 2)).length=k+2:=by rw[qi,l1,uM,Nat.min_eq_left hk]
 have e1:y1 (cs++[.u,.u]) (k+2) (cs.drop k)=(cs.take k++((cs.drop k++[AV.u,.u]).take 2))++(cs.drop k++[]):=by
  rw[e0,← l2];exact Zh (cs.drop k) _ _ [] (by simp)
 rw[e1,qz,qs]
 have l3:(cs.take k).length=k:=by rw[uM,Nat.min_eq_left hk]
 have:=Zh new (cs.take k) ((cs.drop k++[AV.u,.u]).take 2) (cs.drop k) (by rw[l1,hn]);rw[l3] at this;exact this
theorem all_drop {l:List AV}{k:Nat}(h:l.all AV.one=true):(l.drop k).all AV.one=true:=by
 rw[uf] at *
 exact fun x hx=>h x (List.mem_of_mem_drop hx)
theorem frozen_end {E:Env}{b:Nat}{cs:List AV}(h:Blk E b cs){t:TypeId}{m:Nat}(hs:E.w.shape? b=some (t,m))(ht:tsize t=2)(o:Nat):E.w.frozen? ⟨b,o,none⟩=false:=by
 obtain⟨conc,t',fr,a1,a2,a3,a4⟩:=h.blk
 have:t'=t:=by simp only[World.shape?,a1,Option.some.injEq,Prod.mk.injEq] at hs; exact hs.1
 subst this
 have he:fr.1=fr.2:=by
  rcases a2 with h|⟨_,h⟩
  · exact h
  omega
 obtain⟨lo,hi⟩:=fr;simp only[World.frozen?,a1];simp only at he;simp only[Bool.and_eq_false_iff,decide_eq_false_iff_not]
 omega
set_option maxHeartbeats 4000000 in
set_option maxRecDepth 100000 in
theorem ins_shift {E:Env}{σ:Store}(hS:SR E σ){id ver n i b cap vid vver vb:Nat}{cells new:List AV}(hcs:Store.at σ id ver=some cells)(hlen:cells.length=n*2)(hone:cells.all AV.one=true)(hi:i<n)
 (hloc:E.loc id=some (ver,some b)) (hok:E.ok id ver) {t m:Nat} (hsh:E.w.shape? b=some (t,m)) (hts:tsize t=2) (hm:cap*2≤m) (hroom:n+1≤cap) (hn:(n+1)*32≤140737488355328)
 (hv:Store.at σ vid vver=some new) (hnew:new.length=2) (honev:new.all AV.one=true) (hvid:vid≠id) (hvloc:E.loc vid=some (vver,some vb)) (hvok:E.ok vid vver) {tv mv:Nat} (hvsh:E.w.shape? vb=some (tv,mv)) (hvts:tsize tv=2) (hvc:2≤mv):
 Calls qh 113 #[.slice (some ⟨b,0,none⟩) n cap,.int .i64 i,.slice (some ⟨vb,0,none⟩) 1 1] E.w fun e w'=>
  ∃ E',e=.returned (.slice (some ⟨b,0,none⟩) (n+1) cap)∧w'=E'.w∧VR E' (.os true 2 id ver 0 (n+1) false) (.slice (some ⟨b,0,none⟩) (n+1) cap)∧SR E' (σ.set id (.cells ver (cells.take (i*2)++(new++cells.drop (i*2)))))∧Ext E E':=by
 have hvb:vb≠b:=fun e=>hvid (hS.inj _ _ _ _ b (e▸hvloc) hloc)
 have hB1:Blk E b cells:=by
  rcases hS.at hcs with ⟨b',h1,h2⟩|⟨_,h1⟩
  · rw[hloc] at h1; cases h1; exact h2
  rw[hloc] at h1; cases h1
 have hB2:Blk E vb new:=by
  rcases hS.at hv with ⟨b',h1,h2⟩|⟨_,h1⟩
  · rw[hvloc] at h1; cases h1; exact h2
  rw[hvloc] at h1; cases h1
 have hSw:=hS.widen hcs hloc hsh 2 (by omega);obtain⟨hS1,hx1⟩:=hSw.grew (YJ.drew E.w);have hcsw:Store.at (σ.set id (.cells ver (cells++qN 2 AV.u))) id ver=some (cells++qN 2 AV.u):=Store.at_set hcs;have hlt:=Store.at_lt hcs
 have hvw:Store.at (σ.set id (.cells ver (cells++qN 2 AV.u))) vid vver=some new:=by
  unfold Store.at at hv ⊢; rw[qW (fun e=>hvid e.symm)]; exact hv
 have os1:∀ {E':Env} (hx:Ext E E') (k:Nat),k≤n→VR E' (.os true 2 id ver (k*2) (n+1-k) false) (.slice (some ⟨b,k*2,none⟩) (n+1-k) (cap-k)):=by
  intro E' hx k hk
  refine VR.ext hx (.os _ _ _ _ _ _ _ _ _ hok (by omega) (fun h=>by cases h) (by omega) fun ob hob=>?_)
  rw[hloc] at hob; cases hob
  exact⟨b,rfl,.inr rfl,t,m,hsh,hts,by omega⟩
 have osv:∀ {E':Env} (hx:Ext E E'),VR E' (.os true 2 vid vver 0 1 true) (.slice (some ⟨vb,0,none⟩) 1 1):=by
  intro E' hx
  refine VR.ext hx (.os _ _ _ _ _ _ _ _ _ hvok (by omega) (fun _=>rfl) (by omega) fun ob hob=>?_)
  rw[hvloc] at hob; cases hob
  exact⟨vb,rfl,.inr rfl,tv,mv,hvsh,hvts,by omega⟩
 have hov:∀ lb cb,(callFunc 144 #[.slice (some ⟨vb,0,none⟩) 1 1,.slice (some ⟨b,(i+1)*2,none⟩) lb cb]).run qh E.w=.ok (.value (.bool false)) E.w:=fun lb cb=>by
  rw[run_callFunc_extern Tryz.func144 (by kernel_rfl) (by kernel_rfl) (by kernel_rfl) (e:=Extern.SlicesOverlaps.overlaps #[27,27] #[4]) (by kernel_rfl),
   Lib.run_overlaps_apart E.w 27 4 92 (tok _ _ Yl).desc 2 (fun w=>xY w (tok _ _ Yk)) ⟨vb,0,none⟩ ⟨b,(i+1)*2,none⟩ 1 1 lb cb hvb tv t mv m hvsh hsh (by omega) (frozen_end hB2 hvsh hvts _) (frozen_end hB2 hvsh hvts _)]
  rfl
 have hdl:(cells.drop (i*2)).length=(n-i)*2:=by rw[uQ,hlen,Nat.sub_mul]
 have hlw:(cells++qN 2 AV.u).length=(n+1)*2:=by rw[qi,hlen,List.length_replicate,uZ]
 have hW:∀ ty,∃ v E2,(Builtin.copy_ #[27,27] ty #[.slice (some ⟨b,(i+1)*2,none⟩) (n+1-(i+1)) (cap-(i+1)),.slice (some ⟨b,i*2,none⟩) (n+1-i) (cap-i)]).run qh E.w.drew=.ok v E2.w∧
  SR E2 (σ.set id (.cells ver (y1 (cells++[.u,.u]) (i*2+2) (cells.drop (i*2)))))∧Ext E E2:=by
  intro ty
  have hx0:Ext E { E with w:=E.w.drew }:=hx1;have hd:=os1 hx0 (i+1) (by omega);have hs:=os1 hx0 i (by omega)
  have hev:Y5 tab 27 (.os true 2 id ver ((i+1)*2) (n+1-(i+1)) false) (.os true 2 id ver (i*2) (n+1-i) false) (σ.set id (.cells ver (cells++qN 2 AV.u)))=
   some (.int .i64 ((min (n+1-i) (n+1-(i+1)):Nat):Int),(σ.set id (.cells ver (cells++qN 2 AV.u))).set id (.cells ver (y1 (cells++qN 2 AV.u) ((i+1)*2) (cells.drop (i*2))))):=by
   have e1:yj (σ.set id (.cells ver (cells++qN 2 AV.u))) 2 (.os true 2 id ver (i*2) (n+1-i) false)=some (n+1-i,((cells++qN 2 AV.u).drop (i*2)).take ((n+1-i)*2)):=by
    simp only[yj,hcsw];rw[if_pos (by rw[hlw,← uZ]; exact q5 _ (by omega))]
   have e2:min (n+1-i) (n+1-(i+1))=n-i:=by omega
   have e3:(((cells++qN 2 AV.u).drop (i*2)).take ((n+1-i)*2)).take ((n-i)*2)=cells.drop (i*2):=by
    rw[List.take_take,Nat.min_eq_left (q5 _ (by omega)),List.drop_append_of_le_length (by rw[hlen]; exact q5 _ (by omega)),List.take_append_of_le_length (by rw[hdl]; exact qv _),← hdl,ui]
   have hp:Zm (σ.set id (.cells ver (cells++qN 2 AV.u))) (.os true 2 id ver ((i+1)*2) (n+1-(i+1)) false) (n-i) 2 (cells.drop (i*2))=some ((σ.set id (.cells ver (cells++qN 2 AV.u))).set id (.cells ver (y1 (cells++qN 2 AV.u) ((i+1)*2) (cells.drop (i*2))))):=by
    unfold Zm;rw[if_neg (by omega)];simp only[hcsw];rw[if_pos ⟨trivial,by rw[hlw,hdl,← uZ]; exact q5 _ (by omega),all_drop hone⟩]
   simp only[Y5,Yl,Yk,e1,e2,e3,hp]
  obtain⟨v,E2,h1,h2,h3,h4⟩:=YW (P:=qh) (st:=27) (ty:=ty) tok hS1 hd hs hev;refine⟨v,E2,h1,?_,hx0.trans h4⟩;rw[List.set_set] at h3
  have e:(i+1)*2=i*2+2:=by omega
  rw[e] at h3;exact h3
 obtain⟨v1,E2,hc1,hS2,hx2⟩:=hW 3;rw[show n+1-(i+1)=n-i by omega] at hc1;have hcs2:Store.at (σ.set id (.cells ver (y1 (cells++[.u,.u]) (i*2+2) (cells.drop (i*2))))) id ver=some (y1 (cells++[.u,.u]) (i*2+2) (cells.drop (i*2))):=Store.at_set hcs
 have hv2:Store.at (σ.set id (.cells ver (y1 (cells++[.u,.u]) (i*2+2) (cells.drop (i*2))))) vid vver=some new:=by
  unfold Store.at at hv ⊢; rw[qW (fun e=>hvid e.symm)]; exact hv
 have hW2:∃ v E3,(Builtin.copy_ #[27,27] 3 #[.slice (some ⟨b,i*2,none⟩) (n+1-i) (cap-i),.slice (some ⟨vb,0,none⟩) 1 1]).run qh E2.w=.ok v E3.w∧
  SR E3 (σ.set id (.cells ver (cells.take (i*2)++(new++cells.drop (i*2)))))∧Ext E E3:=by
  have hd:=os1 hx2 i (by omega);have hs:=osv hx2
  have hev:Y5 tab 27 (.os true 2 id ver (i*2) (n+1-i) false) (.os true 2 vid vver 0 1 true) (σ.set id (.cells ver (y1 (cells++[.u,.u]) (i*2+2) (cells.drop (i*2)))))=
   some (.int .i64 ((min 1 (n+1-i):Nat):Int),(σ.set id (.cells ver (y1 (cells++[.u,.u]) (i*2+2) (cells.drop (i*2))))).set id (.cells ver (y1 (y1 (cells++[.u,.u]) (i*2+2) (cells.drop (i*2))) (i*2) new))):=by
   have e1:yj (σ.set id (.cells ver (y1 (cells++[.u,.u]) (i*2+2) (cells.drop (i*2))))) 2 (.os true 2 vid vver 0 1 true)=some (1,new):=by
    simp only[yj,hv2];rw[if_pos (by omega),qC,← hnew,Nat.one_mul] ;rw[show new.length=new.length from rfl,ui]
   have e2:min 1 (n+1-i)=1:=by omega
   have e3:new.take (1*2)=new:=by rw[Nat.one_mul,← hnew,ui]
   have hp:Zm (σ.set id (.cells ver (y1 (cells++[.u,.u]) (i*2+2) (cells.drop (i*2))))) (.os true 2 id ver (i*2) (n+1-i) false) 1 2 new=some ((σ.set id (.cells ver (y1 (cells++[.u,.u]) (i*2+2) (cells.drop (i*2))))).set id (.cells ver (y1 (y1 (cells++[.u,.u]) (i*2+2) (cells.drop (i*2))) (i*2) new))):=by
    unfold Zm;rw[if_neg (by omega)];simp only[hcs2];rw[if_pos ⟨trivial,by rw[Xl,hnew]; simp only[qi,qj,ql,hlen]; omega,honev⟩]
   simp only[Y5,Yl,Yk,e1,e2,e3,hp]
  obtain⟨v,E3,h1,h2,h3,h4⟩:=YW (P:=qh) (st:=27) (ty:=3) tok hS2 hd hs hev;refine⟨v,E3,h1,?_,hx2.trans h4⟩;rw[List.set_set,setRun_ins _ _ _ (by omega) hnew] at h3;exact h3
 obtain⟨v2,E3,hc2,hS3,hx3⟩:=hW2;have hfin:=os1 hx3 0 (uq _);rw[uH,uP,uP] at hfin
 have hz1:¬ ((i:Int)=(n:Int)):=by omega
 have hw1:IntKind.i64.wrap ((i:Int)+1)=(i:Int)+1:=by rw[IntKind.wrap_i64]; omega
 have hw2:IntKind.i64.wrap ((n:Int)+1)=(n:Int)+1:=by rw[IntKind.wrap_i64]; omega
 have hb1:(0:Int)≤(i:Int)+1:=by omega
 have hin:i≤n:=by omega
 have htn:((i:Int)+1).toNat=i+1:=by omega
 have hb2:¬ (cap=i+1):=by omega
 have hb3:(i:Int)≤(n:Int)+1:=by omega
 have hb4:¬ (cap=i):=by omega
 have mixed:Tryz.prog.follows .mixedOrders=true:=by kernel_rfl
 clear hS hcs hcsw hvw hcs2 hv2 hS1 hSw os1 osv hB1 hB2 hW
 go_enter Tryz.func113,Tryz.ntmps113
 go_wp2_with (simp only[hov])
 go_region_law_o (refine step_copy_runI rfl _ _ 27 27 rfl _ _ (by simp[Act.eval,Act.put]) (by simp[Act.eval,Act.put]) hc1 ?_)
 go_wp2_with (at_builtin; refine wpList_copy_runI _ rfl _ _ 27 27 rfl _ _ rfl rfl hc2 ?_)
 go_ret
 exact⟨E3,rfl,rfl,hfin,hS3,hx3⟩
theorem setRun_ins2 (cs new:List AV)(k:Nat)(hk:k≤cs.length)(hn:new.length=2)(q:Nat)(hq:q=cs.length-k+2):
 y1 (y1 (cs.take k++qN q AV.u) k new) (k+2) (cs.drop k)=cs.take k++(new++cs.drop k):=by
 have l3:(cs.take k).length=k:=by rw[uM,Nat.min_eq_left hk]
 have e0:cs.take k++qN q AV.u=cs.take k++(qN 2 AV.u++qN (cs.length-k) AV.u):=by
  rw[List.replicate_append_replicate,hq,Nat.add_comm]
 have e1:y1 (cs.take k++qN q AV.u) k new=cs.take k++(new++qN (cs.length-k) AV.u):=by
  rw[e0];have:=Zh new (cs.take k) (qN 2 AV.u) (qN (cs.length-k) AV.u) (by simp[hn])
  rw[l3] at this; exact this
 have l4:(cs.take k++new).length=k+2:=by rw[qi,l3,hn]
 rw[e1,← qs,← l4];have:=Zh (cs.drop k) (cs.take k++new) (qN (cs.length-k) AV.u) [] (by simp);rw[qz,qz] at this;rw[this,qs]
set_option maxHeartbeats 4000000 in
set_option maxRecDepth 100000 in
theorem ins_grow {E:Env}{σ:Store}(hS:SR E σ){id ver n i b vid vver vb:Nat}{cells new:List AV}(hcs:Store.at σ id ver=some cells)(hlen:cells.length=n*2)(hone:cells.all AV.one=true)(hi:i<n)
 (hloc:E.loc id=some (ver,some b)) (hok:E.ok id ver) {t m:Nat} (hsh:E.w.shape? b=some (t,m)) (hts:tsize t=2) (hm:n*2≤m) (hn:(n+1)*32≤140737488355328)
 (hv:Store.at σ vid vver=some new) (hnew:new.length=2) (honev:new.all AV.one=true) (hvid:vid≠id) (hvloc:E.loc vid=some (vver,some vb)) (hvok:E.ok vid vver) {tv mv:Nat} (hvsh:E.w.shape? vb=some (tv,mv)) (hvts:tsize tv=2) (hvc:2≤mv):
 Calls qh 113 #[.slice (some ⟨b,0,none⟩) n n,.int .i64 i,.slice (some ⟨vb,0,none⟩) 1 1] E.w fun e w'=>
  ∃ E' v,e=.returned v∧w'=E'.w∧VR E' (.os true 2 σ.length 0 0 (n+1) false) v∧SR E' (σ++[.cells 0 (cells.take (i*2)++(new++cells.drop (i*2)))])∧Ext E E'∧∀ i2 v2 nb,E.loc i2=some (v2,some nb)→E'.loc σ.length=some (0,some nb)→False:=by
 have hvb:vb≠b:=fun e=>hvid (hS.inj _ _ _ _ b (e▸hvloc) hloc)
 have hlt:=Store.at_lt hcs;have hltv:=Store.at_lt hv;obtain⟨hS1,hx1⟩:=hS.grew (YJ.drew E.w)
 have os1:∀ {E':Env} (hx:Ext E E') (k q:Nat),k+q≤n→VR E' (.os true 2 id ver (k*2) q false) (.slice (some ⟨b,k*2,none⟩) q (n-k)):=by
  intro E' hx k q hk
  refine VR.ext hx (.os _ _ _ _ _ _ _ _ _ hok (by omega) (fun h=>by cases h) (by omega) fun ob hob=>?_)
  rw[hloc] at hob; cases hob
  exact⟨b,rfl,.inr rfl,t,m,hsh,hts,by omega⟩
 have osv:∀ {E':Env} (hx:Ext E E'),VR E' (.os true 2 vid vver 0 1 true) (.slice (some ⟨vb,0,none⟩) 1 1):=by
  intro E' hx
  refine VR.ext hx (.os _ _ _ _ _ _ _ _ _ hvok (by omega) (fun h=>rfl) (by omega) fun ob hob=>?_)
  rw[hvloc] at hob; cases hob
  exact⟨vb,rfl,.inr rfl,tv,mv,hvsh,hvts,by omega⟩
 have htl:(cells.take (i*2)).length=i*2:=by rw[uM,hlen]; omega
 have hdl:(cells.drop (i*2)).length=(n-i)*2:=by rw[uQ,hlen,Nat.sub_mul]
 -- what is copied by append
 have hold0:=os1 hx1 0 i (by omega);rw[uH] at hold0
 obtain⟨_,_,hrd⟩:=XE (P:=qh) hS1 hold0 (size:=2) (n:=i) (cs:=cells.take (i*2)) (by
  simp only[yj,hcs]
  rw[if_pos (by omega),qC])
 obtain⟨os,hos,hto⟩:=hrd i (qv _);rw[show (cells.take (i*2)).take (i*2)=cells.take (i*2) by rw[List.take_take,Nat.min_self]] at hto
 obtain⟨G,hG⟩:∃ G,G=grownCap E.w (n+1) n 92:=⟨_,rfl⟩
 have hGn:n+1≤G:=by rw[hG]; unfold grownCap; simp only[Question.cut]; omega
 obtain⟨conc,hconc⟩:∃ conc:Array Value,conc=os++Builtin.zeroCells (Value.agg #[Value.int IntKind.i64 0,Value.slice none 0 0]).cells (n+1-i)++Builtin.zeroCells (Value.agg #[Value.int IntKind.i64 0,Value.slice none 0 0]).cells (G-(n+1)):=⟨_,rfl⟩
 have hrz:∀ ty,(Builtin.append_ #[27,3] ty #[.slice (some ⟨b,0,none⟩) i n,.int .i64 ((n:Int)+1-(i:Int))]).run qh E.w=
  .ok (.slice (some ⟨E.w.heap.size,0,none⟩) (n+1) G) (E.w.drew.alloc (.cells conc 92)):=fun ty=>by
  have h:=Lib.run_append_grow_zeros (P:=qh) E.w 27 3 ty 92 Tryz.t92 _ .i64 .i64 Tryz.underlying27 Tryz.underlying3 Tryz.type92 rfl (some ⟨b,0,none⟩) i n os.toList (by rw[Array.toArray_toList]; exact hos) (n+1-i) (by omega) (by decide) (by omega) (by omega) (by show (n+1-i)*32≤_; omega) (by
   rw[show i+(n+1-i)=n+1 by omega]
   exact growslice_fits (by omega) (by show (n+1)*32≤_; omega))
  rw[show i+(n+1-i)=n+1 by omega,← hG,Array.toArray_toList,← hconc] at h;rw[show (n:Int)+1-(i:Int)=((n+1-i:Nat):Int) by omega];exact h
 have hsz1:os.size=i*2:=by rw[hto.1,htl]
 have hcsz:G*2≤conc.size:=by
  rw[hconc];simp only[Array.size_append,hsz1,Builtin.zeroCells,Value.cells]
  simp
  omega
 have hnr:=hS1.newRow conc 92 (cells.take (i*2)++qN ((n+1-i)*2) AV.u) (by rw[qi,htl,List.length_replicate]; omega) (by
  intro k hk
  by_cases hki:k<i*2
  · rw[YN _ _ _ (by rw[htl]; exact hki)];have:=hto.2 k (by rw[htl]; exact hki)
    have e:conc.getD k undef=os.getD k undef:=by
     rw[hconc,Array.append_assoc]
     simp[Array.getElem?_append_left (show k<os.size by omega)]
    rw[e]; exact this
  rw[Zo _ _ _ (by rw[htl]; omega)]
  have:gc (qN ((n+1-i)*2) AV.u) (k-(cells.take (i*2)).length)=.u:=by
   unfold gc;rw[qu,List.getElem?_replicate]
   split<;>rfl
  rw[this]; exact .u _)
 obtain⟨hS2,hx2⟩:=hnr
 obtain⟨E2,hE2⟩:∃ E2,E2=Env.new { E with w:=E.w.drew } (E.w.drew.alloc (.cells conc 92)) (some E.w.drew.heap.size):=⟨_,rfl⟩
 have hloc2:E2.loc σ.length=some (0,some E.w.heap.size):=by rw[hE2]; exact Env.loc_new hS1 _ _
 have hok2:E2.ok σ.length 0:=by rw[hE2]; exact Env.ok_new hS1 _ _
 have hE2w:E2.w=E.w.drew.alloc (.cells conc 92):=by rw[hE2]; rfl
 rw[← hE2] at hS2 hx2;have hx02:Ext E E2:=Ext.trans hx1 hx2
 have hsh2:E2.w.shape? E.w.heap.size=some (92,conc.size):=by
  rw[hE2w];have:=xI E.w.drew (.cells conc 92);simp only[World.shape?];rw[show E.w.heap.size=E.w.drew.heap.size from rfl,this]
 have osn:∀ {E':Env} (hx:Ext E2 E') (k q:Nat),k+q≤n+1→VR E' (.os true 2 σ.length 0 (k*2) q false) (.slice (some ⟨E.w.heap.size,k*2,none⟩) q (G-k)):=by
  intro E' hx k q hk
  refine VR.ext hx (.os _ _ _ _ _ _ _ _ _ hok2 (by omega) (fun h=>by cases h) (by omega) fun ob hob=>?_)
  rw[hloc2] at hob; cases hob
  exact⟨_,rfl,.inr rfl,_,_,hsh2,rfl,by omega⟩
 have hat2:∀ cs,Store.at (σ++[.cells 0 cs]) σ.length 0=some cs:=fun cs=>Store.at_new σ 0 cs
 have hset2:∀ cs cs',(σ++[ZN.cells 0 cs]).set σ.length (.cells 0 cs')=σ++[.cells 0 cs']:=fun cs cs'=>by
  rw[List.set_append_right _ _ (qv _),uN]; rfl
 have hold2:∀ {id ver:Nat} {c cs:List AV},Store.at σ id ver=some c→Store.at (σ++[ZN.cells 0 cs]) id ver=some c:=by
  intro id ver c cs h
  have:=Store.at_lt h
  unfold Store.at at h ⊢; rw[qL this]; exact h
 -- the first copy
 have hW2:∃ v E3,(Builtin.copy_ #[27,27] 3 #[.slice (some ⟨E.w.heap.size,i*2,none⟩) (n+1-i) (G-i),.slice (some ⟨vb,0,none⟩) 1 1]).run qh E2.w=.ok v E3.w∧
  SR E3 (σ++[.cells 0 (y1 (cells.take (i*2)++qN ((n+1-i)*2) AV.u) (i*2) new)])∧Ext E2 E3:=by
  have hd:=osn (Ext.refl E2) i (n+1-i) (by omega);have hs:=osv hx02
  have hev:Y5 tab 27 (.os true 2 σ.length 0 (i*2) (n+1-i) false) (.os true 2 vid vver 0 1 true) (σ++[.cells 0 (cells.take (i*2)++qN ((n+1-i)*2) AV.u)])=
   some (.int .i64 ((min 1 (n+1-i):Nat):Int),σ++[.cells 0 (y1 (cells.take (i*2)++qN ((n+1-i)*2) AV.u) (i*2) new)]):=by
   have e1:yj (σ++[.cells 0 (cells.take (i*2)++qN ((n+1-i)*2) AV.u)]) 2 (.os true 2 vid vver 0 1 true)=some (1,new):=by
    simp only[yj,hold2 hv];rw[if_pos (by omega),qC,Nat.one_mul,← hnew,ui]
   have e2:min 1 (n+1-i)=1:=by omega
   have e3:new.take (1*2)=new:=by rw[Nat.one_mul,← hnew,ui]
   have hp:Zm (σ++[.cells 0 (cells.take (i*2)++qN ((n+1-i)*2) AV.u)]) (.os true 2 σ.length 0 (i*2) (n+1-i) false) 1 2 new=some (σ++[.cells 0 (y1 (cells.take (i*2)++qN ((n+1-i)*2) AV.u) (i*2) new)]):=by
    unfold Zm;rw[if_neg (by omega)];simp only[hat2,hset2];rw[if_pos ⟨trivial,by rw[hnew,qi,htl,List.length_replicate]; omega,honev⟩]
   simp only[Y5,Yl,Yk,e1,e2,e3,hp]
  obtain⟨v,E3,h1,h2,h3,h4⟩:=YW (P:=qh) (st:=27) (ty:=3) tok hS2 hd hs hev;exact⟨v,E3,h1,h3,h4⟩
 obtain⟨v1,E3,hc1,hS3,hx3⟩:=hW2;obtain⟨hS4,hx4⟩:=hS3.grew (YJ.drew E3.w)
 -- the second copy
 have hW3:∀ ty,∃ v E4,(Builtin.copy_ #[27,27] ty #[.slice (some ⟨E.w.heap.size,(i+1)*2,none⟩) (n-i) (G-(i+1)),.slice (some ⟨b,i*2,none⟩) (n-i) (n-i)]).run qh E3.w.drew=.ok v E4.w∧
  SR E4 (σ++[.cells 0 (cells.take (i*2)++(new++cells.drop (i*2)))])∧Ext E2 E4:=by
  intro ty
  have hx24:Ext E2 { E3 with w:=E3.w.drew }:=Ext.trans hx3 hx4;have hd:=osn hx24 (i+1) (n-i) (by omega);have hs:=os1 (hx02.trans hx24) i (n-i) (by omega)
  have hev:Y5 tab 27 (.os true 2 σ.length 0 ((i+1)*2) (n-i) false) (.os true 2 id ver (i*2) (n-i) false) (σ++[.cells 0 (y1 (cells.take (i*2)++qN ((n+1-i)*2) AV.u) (i*2) new)])=
   some (.int .i64 ((min (n-i) (n-i):Nat):Int),σ++[.cells 0 (cells.take (i*2)++(new++cells.drop (i*2)))]):=by
   have e1:yj (σ++[.cells 0 (y1 (cells.take (i*2)++qN ((n+1-i)*2) AV.u) (i*2) new)]) 2 (.os true 2 id ver (i*2) (n-i) false)=some (n-i,cells.drop (i*2)):=by
    simp only[yj,hold2 hcs];rw[if_pos (by rw[hlen,← uZ]; exact q5 _ (by omega)),← hdl,ui]
   have e2:min (n-i) (n-i)=n-i:=by omega
   have e3:(cells.drop (i*2)).take ((n-i)*2)=cells.drop (i*2):=by rw[← hdl,ui]
   have hp:Zm (σ++[.cells 0 (y1 (cells.take (i*2)++qN ((n+1-i)*2) AV.u) (i*2) new)]) (.os true 2 σ.length 0 ((i+1)*2) (n-i) false) (n-i) 2 (cells.drop (i*2))=some (σ++[.cells 0 (cells.take (i*2)++(new++cells.drop (i*2)))]):=by
    unfold Zm;rw[if_neg (by omega)];simp only[hat2,hset2];rw[if_pos ⟨trivial,by rw[hdl,Xl,qi,htl,List.length_replicate]; omega,all_drop hone⟩];rw[show (i+1)*2=i*2+2 by omega,setRun_ins2 _ _ _ (by omega) hnew _ (by rw[hlen]; omega)]
   simp only[Y5,Yl,Yk,e1,e2,e3,hp]
  obtain⟨v,E4,h1,h2,h3,h4⟩:=YW (P:=qh) (st:=27) (ty:=ty) tok hS4 hd hs hev;exact⟨v,E4,h1,h3,hx24.trans h4⟩
 obtain⟨v2,E4,hc2,hS5,hx5⟩:=hW3 3
 have hfin:VR E4 (.os true 2 σ.length 0 0 (n+1) false) (.slice (some ⟨E.w.heap.size,0,none⟩) (n+1) G):=by
  have:=osn hx5 0 (n+1) (by omega)
  rwa [uH,uP] at this
 have hxf:Ext E E4:=hx02.trans hx5
 have hnew':∀ i2 v2 nb,E.loc i2=some (v2,some nb)→E4.loc σ.length=some (0,some nb)→False:=by
  intro i2 v2 nb h1 h2
  have h3:=hx5.back hok2 h2
  rw[hloc2] at h3; cases h3
  have:=(hS.blk _ _ _ h1).1
  omega
 have hz1:¬ ((i:Int)=(n:Int)):=by omega
 have hw1:IntKind.i64.wrap ((i:Int)+1)=(i:Int)+1:=by rw[IntKind.wrap_i64]; omega
 have hw2:IntKind.i64.wrap ((n:Int)+1)=(n:Int)+1:=by rw[IntKind.wrap_i64]; omega
 have hw3:IntKind.i64.wrap ((n:Int)+1-(i:Int))=(n:Int)+1-(i:Int):=by rw[IntKind.wrap_i64]; omega
 have hb1:(0:Int)≤(i:Int)+1:=by omega
 have hin:i≤n:=by omega
 have htn:((i:Int)+1).toNat=i+1:=by omega
 have hb2:¬ (G=i+1):=by omega
 have hb3:(i:Int)≤(n:Int)+1:=by omega
 have hb4:¬ (G=i):=by omega
 have hb5:¬ (n=i):=by omega
 have hz3:(n:Int)<(n:Int)+1:=by omega
 have mixed:Tryz.prog.follows .mixedOrders=true:=by kernel_rfl
 have hrz1:=hrz 27;rw[← hE2w] at hrz1
 clear hS hcs hS1 os1 osv hrz hrd hos hto hS2 hx2 osn hold2 hset2 hat2 hW3 hE2 hE2w hloc2 hok2 hsh2 hx02 hold0 hG hconc hcsz
 go_enter Tryz.func113,Tryz.ntmps113
 go_wp2_with (first
  |(at_builtin; refine Lib.wpList_append_run _ rfl _ _ _ _ rfl _ _ rfl rfl _ _ hrz1 ?_)
  |(at_builtin; refine wpList_copy_runI _ rfl _ _ 27 27 rfl _ _ rfl rfl hc1 ?_))
 go_region_law_o (refine step_copy_runI rfl _ _ 27 27 rfl _ _ (by simp[Act.eval,Act.put]) (by simp[Act.eval,Act.put]) hc2 ?_)
 go_wp2
 go_ret
 exact⟨E4,_,rfl,rfl,hfin,hS5,hxf,hnew'⟩
end
section
set_option maxRecDepth 20000
open Go.RowKit AM
theorem SR.die {E:Env}{σ:Store}(hS:SR E σ):SR { E with n:=E.n+1 } (σ++[.dead])∧Ext E { E with n:=E.n+1 }:=by
 have hx:Ext E { E with n:=E.n+1 } := {
  os:=rfl,tape:=rfl,output:=rfl,size:=qv _,shape:=fun _ _ h=>h,st:=fun _ h=>⟨h,rfl⟩,n:=Nat.le_succ _,
  loc:=fun _ _ v o h=>⟨v,o,h,qv _,fun _=>rfl⟩,old:=fun _ _ _=>rfl,own:=fun id v _ h _=>⟨id,v,h⟩,stn:=fun _ h=>.inl h }
 have hn:E.loc σ.length=none:=by
  have:=hS.obj σ.length;rw[uB (qv _)] at this;exact this
 refine⟨⟨by simp[hS.len],fun id=>?_,hS.inj,hS.blk,hS.stb,hS.glb⟩,hx⟩
 by_cases h1:id<σ.length
 · rw[qL h1]
   exact (hS.obj id).ext hx rfl fun _ _ _=>rfl
 by_cases h2:id=σ.length
 · subst h2;rw[um (qv _),uN];exact hn
 rw[uB (by simp; omega)];have:=hS.obj id;rw[uB (by omega)] at this;exact this
theorem SR.swap {E:Env}{σ:Store}{cs:List AV}(hS:SR E (σ++[.cells 0 cs])){id ver b nb:Nat}(hlt:id<σ.length)(hl:E.loc id=some (ver,some b))(hn:E.loc σ.length=some (0,some nb)):
 let E':Env := { E with loc:=fun i=>if i=id then some (ver+1,some nb) else if i=σ.length then none else E.loc i }
 SR E' (σ.set id (.cells (ver+1) cs)++[.dead])∧ExtV E E'∧∀ sz len v,VR E (.os true sz σ.length 0 0 len false) v→VR E' (.os true sz id (ver+1) 0 len false) v:=by
 intro E'
 have hid:E'.loc id=some (ver+1,some nb):=by simp[E']
 have hlast:E'.loc σ.length=none:=by simp[E']; omega
 have hother:∀ i,i≠id→i≠σ.length→E'.loc i=E.loc i:=fun i h1 h2=>by simp[E',h1,h2]
 have hx:ExtV E E' := {
  shape:=fun _ _ h=>h
  st:=fun _ h=>⟨h,rfl⟩
  n:=qv _
  loc:=fun i _ v o h=>by
   by_cases h1:i=id
   · subst h1; rw[hid] at h; cases h; exact⟨ver,some b,hl,by omega,fun e=>by omega⟩
   by_cases h2:i=σ.length
   · subst h2; rw[hlast] at h; cases h
   rw[hother i h1 h2] at h; exact⟨v,o,h,qv _,fun _=>rfl⟩ }
 have hnE:E.n=σ.length+1:=by have:=hS.len; simp at this; omega
 have hold:∀ i v c,E'.loc i=some (v,some c)→(i=id∧c=nb)∨(i≠id∧i≠σ.length∧E.loc i=some (v,some c)):=by
  intro i v c h
  by_cases h1:i=id
  · subst h1; rw[hid] at h; cases h; exact .inl ⟨rfl,rfl⟩
  by_cases h2:i=σ.length
  · subst h2; rw[hlast] at h; cases h
  rw[hother i h1 h2] at h; exact .inr ⟨h1,h2,h⟩
 refine⟨⟨by simp[hnE,E'],fun i=>?_,fun i i' v v' c h1 h2=>?_,fun i v c h=>?_,hS.stb,hS.glb⟩,hx,fun sz len v h=>?_⟩
 · by_cases h1:i=id
   · subst h1;rw[qL (by simpa using hlt),uz hlt];have:=hS.obj σ.length;rw[um (qv _),uN] at this
     rcases this with ⟨c,e1,e2⟩|⟨_,e1⟩
     · rw[hn] at e1; cases e1
       refine .inl ⟨nb,hid,?_⟩;obtain⟨conc,t,fr,a1,a2,a3,a4⟩:=e2.blk;exact⟨conc,t,fr,a1,a2,a3,fun k hk=>(a4 k hk).extV hx⟩
     rw[hn] at e1; cases e1
   by_cases h2:i=σ.length
   · subst h2;rw[um (by simp)];simp only[uD,uN,uK];exact hlast
   have ho:=hS.obj i
   by_cases h3:i<σ.length
   · rw[qL (by simpa using h3),qW (fun e=>h1 e.symm)];rw[qL h3] at ho
     exact ho.extV hx (hother i h1 h2) fun _ _ _=>rfl
   rw[uB (by simp; omega)] at ho ⊢;exact (hother i h1 h2).trans ho
 · rcases hold _ _ _ h1 with ⟨e1,e2⟩|⟨e1,e2,e3⟩
   · subst e1; subst e2
     rcases hold _ _ _ h2 with ⟨f1,f2⟩|⟨f1,f2,f3⟩
     · exact f1.symm
     exact absurd (hS.inj _ _ _ _ _ f3 hn) f2
   rcases hold _ _ _ h2 with ⟨f1,f2⟩|⟨f1,f2,f3⟩
   · subst f2; exact absurd (hS.inj _ _ _ _ _ e3 hn) e2
   exact hS.inj _ _ _ _ _ e3 f3
 · rcases hold _ _ _ h with ⟨e1,e2⟩|⟨e1,e2,e3⟩
   · subst e2; exact hS.blk _ _ _ hn
   exact hS.blk _ _ _ e3
 have hok:E'.ok id (ver+1):=⟨by show id<E.n; omega,fun v o h=>by rw[hid] at h; cases h; exact qv _⟩
 cases h with
 |osn _ _ _ _ _ a hk h=>
  have:=h _ hn; cases this
 |os _ _ _ _ _ _ _ a cap hk hc ht hB h=>
  refine .os _ _ _ _ _ _ _ a cap hok hc ht hB fun ob hob=>?_
  rw[hid] at hob; cases hob
  exact h _ hn
theorem Ext.swap {E0 E:Env}(hx:Ext E0 E){σ0:Store}(h0:SR E0 σ0){id ver b nb:Nat}(hl:E.loc id=some (ver,some b))(hn:E.loc σ0.length=some (0,some nb))(hnb:E0.w.heap.size≤nb)(hlt:id<σ0.length):
 Ext E0 { E with loc:=fun i=>if i=id then some (ver+1,some nb) else if i=σ0.length then none else E.loc i }:=by
 refine { hx with loc:=fun i hi v o h=>?_,own:=fun i v c h hc=>?_,n:=hx.n,st:=hx.st }
 · by_cases h1:i=id
   · subst h1;simp only[if_true,Option.some.injEq,Prod.mk.injEq] at h;obtain⟨v0,o0,e1,e2,e3⟩:=hx.loc _ hi _ _ hl;exact⟨v0,o0,e1,by omega,fun e=>by omega⟩
   simp only[if_neg h1] at h
   split at h
   · cases h
   exact hx.loc i hi v o h
 by_cases h1:i=id
 · subst h1;simp only[if_true,Option.some.injEq,Prod.mk.injEq] at h
   omega
 simp only[if_neg h1] at h
 split at h
 · cases h
 exact hx.own i v c h hc
theorem ACalls.dies {P:Program}{f:FuncId}{args:List AV}{σ:Store}{x:AV}{τ:Store}(h:ACalls P f args σ fun r σ'=>r=x∧σ'=τ):ACalls P f args σ fun r σ'=>r=x∧σ'=τ++[.dead]:=by
 refine⟨h.1,fun E vs hS hl=>(h.2 E vs hS hl).mono ?_⟩;rintro e w ⟨v,r,σ',E',rfl,rfl,h3,h4,h5,rfl,rfl⟩;obtain⟨g1,g2⟩:=SR.die h4;exact⟨_,_,_,{ E' with n:=E'.n+1 },rfl,rfl,h3.ext g2,g1,h5.trans g2,rfl,rfl⟩
theorem bump {E E':Env}{σ:Store}(hS:SR E σ){id ver b:Nat}{cs cs':List AV}(hcs:Store.at σ id ver=some cs)(hk:E.ok id ver)(hloc:E.loc id=some (ver,some b))(hne:cs.length≠0)(hlen:cs'.length≠0)(h4:SR E' (σ.set id (.cells ver cs')))(h5:Ext E E'){sz len:Nat}{v:Value}
 (h3:VR E' (.os true sz id ver 0 len false) v):
 ∃ E2:Env,E2.w=E'.w∧SR E2 (σ.set id (.cells (ver+1) cs'))∧VR E2 (.os true sz id (ver+1) 0 len false) v∧Ext E E2:=by
 have hat:=Store.at_set (ver':=ver) (cs':=cs') hcs
 have hl':E'.loc id=some (ver,some b):=by
  rcases h4.at hat with ⟨b',e1,_⟩|⟨e1,_⟩
  · have:=h5.back hk e1; rw[hloc] at this; cases this; exact e1
  rw[e1] at hlen; exact absurd rfl hlen
 obtain⟨hS3,hx3⟩:=h4.move (YJ.refl E'.w) hat hl' (ob:=some b) (fun b hb=>by cases hb; exact⟨.inr rfl,(h4.blk _ _ _ hl').1⟩) (cs:=cs') (.inl ⟨b,by simp[Env.move],by
  rcases h4.at hat with ⟨b1,h1,hblk1⟩|⟨_,h1⟩
  · rw[hl'] at h1; cases h1
    obtain⟨conc,t,fr,a1,a2,a3,a4⟩:=hblk1.blk;exact⟨conc,t,fr,a1,a2,a3,fun k hk=>(a4 k hk).ext (Ext.move h4.stb (YJ.refl _) hl' _ fun b hb=>by cases hb; exact .inr rfl)⟩
  rw[hl'] at h1; cases h1⟩)
 rw[List.set_set] at hS3;refine⟨E'.move E'.w id (ver+1) (some b),rfl,hS3,?_,h5.trans hx3⟩;have hok:(E'.move E'.w id (ver+1) (some b)).ok id (ver+1):=⟨uj hk.1 h5.n,fun v o hvo=>by simp[Env.move] at hvo; omega⟩
 cases h3 with
 |osn _ _ _ _ _ a hk h=>have:=h _ hl'; cases this
 |os _ _ _ _ _ _ _ a cap hk hc ht hB h=>
  refine .os _ _ _ _ _ _ _ a cap hok hc ht hB fun ob hob=>?_
  simp only[Env.move,if_true,Option.some.injEq,Prod.mk.injEq,true_and] at hob;subst hob;exact h _ hl'
theorem Insert_at {σ:Store}{id ver n i vid vver:Nat}{nl:Bool}{cells new:List AV}(hcs:Store.at σ id ver=some cells)(hlen:cells.length=n*2)(hone:cells.all AV.one=true)(hi:i≤n)(hn:(n+1)*32≤140737488355328)
 (hv:Store.at σ vid vver=some new) (hnew:new.length=2) (honev:new.all AV.one=true) (hvid:vid≠id):
 ACalls qh 113 [.os nl 2 id ver 0 n false,.int .i64 (i:Int),.os true 2 vid vver 0 1 true] σ (fun r σ'=>r=.os true 2 id (ver+1) 0 (n+1) false∧
  σ'=σ.set id (.cells (ver+1) (cells.take (i*2)++(new++cells.drop (i*2))))++[.dead]):=by
 have hlt:=Store.at_lt hcs
 by_cases hin:i=n
 · subst hin;refine ACalls.dies ?_;refine Zr (rs:=[.tmp 6]) tok Tryz.func113 rfl Tryz.ntmps113 rfl Tryz.call113 (by simp) ?_
   have hap:z6 tab 27 27 (.os nl 2 id ver 0 i false) (.os true 2 vid vver 0 1 true) σ=some (.os true 2 id (ver+1) 0 (i+1) false,σ.set id (.cells (ver+1) (cells++new))):=by
    have e1:yj σ 2 (.os true 2 vid vver 0 1 true)=some (1,new):=by
     simp only[yj,hv];rw[if_pos (by omega),qC,Nat.one_mul,← hnew,ui]
    have hg:((i+1)*32≤140737488355328)=True:=eq_true (by omega);simp only[z6,Yl,Yk,e1,ym,hg,honev,qb,and_self,if_true,zJ,hcs,hlen]
   have hsl:Zc tab 27 (.os nl 2 id ver 0 i false) (some (.int .i64 (i:Int))) none none=some (.os nl 2 id ver (i*2) (i-i) false):=by
    simp only[Zc,Yl,Yk,vbj]
    simp
   refine zk [(0,.os nl 2 id ver 0 i false),(1,.int .i64 (i:Int)),(2,.os true 2 vid vver 0 1 true)] ⟨rfl,rfl,rfl,trivial⟩ ?_
   refine rg tok [0,1,2,6] fun K hK=>?_
   simp only[go_sem,qb,qa,reduceCtorEq];apply hK
   clear hK K
   refine rg tok [0,1,2,6] fun K hK=>?_
   simp only[go_sem,qb,qa,reduceCtorEq,hsl];apply hK
   clear hK K
   refine rg tok [0,1,2,6,7] fun K hK=>?_
   simp only[go_sem,qb,qa,reduceCtorEq];apply hK
   clear hK K
   refine za fun Z hZ=>?_
   refine rg tok [0,1,2,6,7,16] fun K hK=>?_
   simp only[go_sem,qb,qa,reduceCtorEq];apply hK
   clear hK K
   refine zq rfl (fun h=>absurd h (by decide)) (fun _=>?_);refine zd ?_;refine hZ _ _ ?_
   clear hZ Z
   refine rg tok [0,1,2,6,7,8] fun K hK=>?_
   simp only[go_sem,qb,qa,reduceCtorEq];apply hK
   clear hK K
   refine za fun Z hZ=>?_
   refine rg tok [0,1,2,6,7,8,22] fun K hK=>?_
   simp only[go_sem,qb,qa,reduceCtorEq,decide_true];apply hK
   clear hK K
   refine zo rfl ?_
   refine rg tok [6] fun K hK=>?_
   simp only[go_sem,qb,qa,reduceCtorEq,hap];apply hK
   clear hK K
   refine yz ?_;simp only[ZL,yT,xd,xZ,exists_eq_left',go_sem];rw[← hlen,ui,List.drop_length,qz]
 have hi':i<n:=by omega
 refine⟨Tryz.call113,fun E vs hS hl=>?_⟩;obtain⟨l1,l2⟩:=hl.arr
 rcases vs with ⟨_|⟨v0,_|⟨v1,_|⟨v2,_|⟨v3,l⟩⟩⟩⟩⟩<;>simp only[List.size_toArray,qj,ql,qd,reduceCtorEq,qa] at l1
 have h0:VR E (.os nl 2 id ver 0 n false) v0:=l2 0 (by simp);have h1:VR E (.int .i64 (i:Int)) v1:=l2 1 (by simp);have h2:VR E (.os true 2 vid vver 0 1 true) v2:=l2 2 (by simp)
 clear l2 hl
 cases h1
 cases h0 with
 |osn=>omega
 |os _ _ _ _ _ _ _ a cap hk hc ht hB hp=>
 cases h2 with
 |os _ _ _ _ _ _ _ av capv hkv hcv htv hBv hpv=>
 have:=htv rfl; subst this
 obtain⟨b,hloc,_⟩:=hS.block_of hcs (show 0<cells.length by omega);obtain⟨vb,hvloc,_⟩:=hS.block_of hv (show 0<new.length by omega);obtain⟨b',e1,e2,t,m,hsh,hts,hm⟩:=hp _ hloc;cases e1
 have:=e2.resolve_left (by omega); subst this
 obtain⟨b',e1,e2,tv,mv,hvsh,hvts,hmv⟩:=hpv _ hvloc;cases e1
 have:=e2.resolve_left (by omega); subst this
 by_cases hroom:n+1≤cap
 · refine (ins_shift hS hcs hlen hone hi' hloc hk hsh hts (by omega) hroom hn hv hnew honev hvid hvloc hkv hvsh hvts (by omega)).mono ?_;rintro e w ⟨E',rfl,rfl,h3,h4,h5⟩;obtain⟨E2,g1,g2,g3,g4⟩:=bump hS hcs hk hloc (by omega) (by simp only[qi,hnew]; omega) h4 h5 h3;obtain⟨hS3,hx3⟩:=SR.die g2;exact⟨_,_,_,{ E2 with n:=E2.n+1 },rfl,g1,g3.ext hx3,hS3,g4.trans hx3,rfl,rfl⟩
 have hcn:cap=n:=by omega
 subst hcn;refine (ins_grow hS hcs hlen hone hi' hloc hk hsh hts (by omega) hn hv hnew honev hvid hvloc hkv hvsh hvts (by omega)).mono ?_;rintro e w ⟨E',v,rfl,rfl,h3,h4,h5,hnew'⟩
 have hl':E'.loc id=some (ver,some b):=by
  have:=(h4.at (id:=id) (ver:=ver) (cs:=cells) (by
   have:=Store.at_lt hcs
   unfold Store.at at hcs ⊢; rw[qL this]; exact hcs))
  rcases this with ⟨b',e1,_⟩|⟨e1,_⟩
  · have:=h5.back hk e1; rw[hloc] at this; cases this; exact e1
  rw[e1] at hlen; simp at hlen; omega
 have hn':∃ nb,E'.loc σ.length=some (0,some nb)∧E.w.heap.size≤nb:=by
  rcases h4.at (Store.at_new σ 0 _) with ⟨nb,e1,_⟩|⟨e1,_⟩
  · refine⟨nb,e1,Nat.le_of_not_lt fun hlt'=>?_⟩;obtain⟨i2,v2,e2⟩:=h5.own _ _ _ e1 hlt';exact hnew' i2 v2 nb e2 e1
  have:(cells.take (i*2)++(new++cells.drop (i*2))).length=0:=by rw[e1]; rfl
  simp only[qi,hnew] at this; omega
 obtain⟨nb,hn1,hn2⟩:=hn';obtain⟨g1,g2,g3⟩:=SR.swap h4 hlt hl' hn1;exact⟨_,_,_,{ E' with loc:=fun i=>if i=id then some (ver+1,some nb) else if i=σ.length then none else E'.loc i },rfl,rfl,g3 _ _ _ h3,g1,Ext.swap h5 hS hl' hn1 hn2 hlt,rfl,rfl⟩
end
section
set_option maxRecDepth 8000
set_option maxHeartbeats 1000000
open Go.RowKit AM
structure Ent where
 tag:Int
 id:Nat
 ver:Nat
 trees:List GTree
def Ent.cells (e:Ent):List AV:=[.int .i64 e.tag,.os true 5 e.id e.ver 0 e.trees.length false]
def Ent.val (e:Ent):GEntry:=⟨e.tag,e.trees⟩
structure Rep (σ:Store)(tid eid ever:Nat)(L:List Ent):Prop where
 t:Store.at σ tid 0=some [.int .i64 3,.int .i64 0,.str [],.os true 2 eid ever 0 L.length false,.ds true [] 0 true]
 e:Store.at σ eid ever=some (L.flatMap Ent.cells)
 tr:∀ x∈L,Store.at σ x.id x.ver=some (x.trees.flatMap encGTree)
 nd:(tid::eid::L.map Ent.id).Nodup
def Y7 (es:List GEntry)(f:GField)(x:GTree):Option (List GEntry×Bool):=
 (zl es f.fTag).bind fun p=>
 (if p.2=true then some es else (grd (0≤p.1∧p.1≤(es.length:Int))).bind fun _=>(Yg (es.length+1) 32).bind fun _=>some (es.take p.1.toNat++⟨f.fTag,[]⟩::es.drop p.1.toNat)).bind fun es1=>
 (Zv es1 p.1).bind fun e=>
 (Yg ((if f.fLabel=3 then e.fTrees.length else 0)+1) 80).bind fun _=>
 some (es1.set p.1.toNat ⟨e.fTag,(if f.fLabel=3 then e.fTrees else [])++[x]⟩,decide ((((if f.fLabel=3 then e.fTrees else [])++[x]).length:Int)≤64))
theorem xE {σ:Store}{id ver:Nat}{cs:List AV}(h:Store.at σ id ver=some cs)(l:Store):Store.at (σ++l) id ver=some cs:=by
 have:=Store.at_lt h
 unfold Store.at at h ⊢; rw[qL this]; exact h
theorem zY {σ:Store}{id id' ver:Nat}{cs:List AV}(h:Store.at σ id ver=some cs)(hne:id≠id')(o:ZN):Store.at (σ.set id' o) id ver=some cs:=by
 unfold Store.at at h ⊢; rw[qW (fun e=>hne e.symm)]; exact h
theorem ZT (σ:Store)(cs:List AV)(l:Store):Store.at (σ++.cells 0 cs::l) σ.length 0=some cs:=by
 unfold Store.at; rw[um (qv _),uN]; rfl
theorem at_end1 (σ:Store)(o:ZN)(cs:List AV)(l:Store):Store.at (σ++o::.cells 0 cs::l) (σ.length+1) 0=some cs:=by
 unfold Store.at; rw[um (by omega)]; simp
theorem Rep.app {σ:Store}{tid eid ever:Nat}{L:List Ent}(h:Rep σ tid eid ever L)(l:Store):Rep (σ++l) tid eid ever L:=
 ⟨xE h.t l,xE h.e l,fun x hx=>xE (h.tr x hx) l,h.nd⟩
theorem Rep.toldC {σ:Store}{tid eid ever:Nat}{L:List Ent}(h:Rep σ tid eid ever L)(keep:List Nat)(ls:Bool)(f:Nat)(hk:∀ y∈L,ZO keep y.id 0=none):(L.flatMap Ent.cells).map (tell σ keep ls (f+2))=(L.map Ent.val).flatMap encGEntry:=by
 have key:∀ l:List Ent,(∀ x∈l,x∈L)→(l.flatMap Ent.cells).map (tell σ keep ls (f+2))=(l.map Ent.val).flatMap encGEntry:=by
  intro l
  induction l with
  |nil=>intro _; rfl
  |cons a l ih=>
   intro hl
   have h1:=h.tr a (hl a (qn ..));have h2:=hk a (hl a (qn ..));simp only[qO,qD,qE,ih fun x hx=>hl x (qm _ hx)]
   congr 1
   simp only[Ent.cells,Ent.val,qE,qw,YD,Zl,h2,h1,zS,cellsGEntry,GEntry.fTag,GEntry.fTrees];have hl:(a.trees.flatMap encGTree).length=a.trees.length*5:=zt E90.len a.trees;rw[if_pos (by rw[hl]; omega),qC,← hl,ui,zP]
 exact key L (fun _ h=>h)
theorem Rep.told {σ:Store}{tid eid ever:Nat}{L:List Ent}(h:Rep σ tid eid ever L)(nl:Bool):tell σ [] true 12 (.os nl 2 eid ever 0 L.length false)=.ds true ((L.map Ent.val).flatMap encGEntry) (L.map Ent.val).length false:=by
 have hl:(L.flatMap Ent.cells).length=L.length*2:=by
  clear h
  induction L with
  |nil=>rfl
  |cons a l ih=>rw[qO,qi,ih]; simp[Ent.cells]; omega
 simp only[Zl,wJ,h.e];rw[if_pos (by rw[hl]; omega),qC,← hl,ui,h.toldC [] true 9 (fun _ _=>rfl),q7]
theorem Rep.set_ne {σ:Store}{tid eid ever:Nat}{L:List Ent}(h:Rep σ tid eid ever L){j:Nat}(hj:j∉tid::eid::L.map Ent.id)(o:ZN):Rep (σ.set j o) tid eid ever L:=by
 refine⟨zY h.t (fun e=>hj (by rw[← e]; simp)) o,zY h.e (fun e=>hj (by rw[← e]; simp)) o,fun x hx=>zY (h.tr x hx) (fun e=>hj ?_) o,h.nd⟩;rw[← e];exact qm _ (qm _ (ud.2 ⟨x,hx,rfl⟩))
structure Mid (σ τ:Store)(tid eid ever:Nat)(ids:List Nat)(pre post:List Ent)(tag:Int)(av:AV)(trees:List GTree):Prop where
 t:Store.at τ tid 0=some [.int .i64 3,.int .i64 0,.str [],.os true 2 eid ever 0 (pre.length+(1+post.length)) false,.ds true [] 0 true]
 e:Store.at τ eid ever=some (pre.flatMap Ent.cells++([.int .i64 tag,av]++post.flatMap Ent.cells))
 tr:∀ y∈pre++post,Store.at τ y.id y.ver=some (y.trees.flatMap encGTree)
 nd:(tid::eid::(pre++post).map Ent.id).Nodup
 c:(av=.ds true [] 0 true∧trees=[])∨∃ id ver,av=.os true 5 id ver 0 trees.length false∧Store.at τ id ver=some (trees.flatMap encGTree)∧id∉tid::eid::(pre++post).map Ent.id∧id∈ids
 sub:∀ y∈pre++post,y.id∈ids
 len:σ.length+2≤τ.length
 fr:∀ j,j<σ.length→j∉tid::eid::ids→τ[j]?=σ[j]?
 lt:∀ j∈tid::eid::ids,j<σ.length
theorem va4 {x:List Nat}:∀ {s:Store} {i:Nat} (l:Store),agr x i s s (s++l)=True:=by
 intro s
 induction s with
 |nil=>intro i l; rfl
 |cons a s ih=>intro i l; simp only[qH,agr,ih]; simp
theorem ZE (l:List Ent):(l.flatMap Ent.cells).length=l.length*2:=by
 induction l with
 |nil=>rfl
 |cons a l ih=>rw[qO,qi,ih]; simp[Ent.cells]; omega
theorem cells_one (l:List Ent):(l.flatMap Ent.cells).all AV.one=true:=by
 induction l with
 |nil=>rfl
 |cons a l ih=>rw[qO,List.all_append,ih]; rfl
theorem split_at {α:Type}{l:List α}{k:Nat}(h:k≤l.length):∃ a b,l=a++b∧a.length=k:=⟨l.take k,l.drop k,(uu k l).symm,by simp[h]⟩
theorem split_el {α:Type}{l:List α}{k:Nat}(h:k<l.length):∃ a x b,l=a++x::b∧a.length=k:=by
 refine⟨l.take k,l[k],l.drop (k+1),?_,by simp; omega⟩;rw[← uO h,uu]
theorem set_mid {α:Type}(a:List α)(x y:α)(b:List α):(a++x::b).set a.length y=a++y::b:=by
 rw[List.set_append_right _ _ (qv _),uN]; rfl
theorem gc_mid (a b:List AV)(x y:AV):gc (a++([x,y]++b)) (a.length+1)=y:=by
 rw[Zo _ _ _ (by omega),Nat.add_sub_cancel_left]; rfl
theorem vap (a b:List AV)(x y z:AV):(a++([x,y]++b)).set (a.length+1) z=a++([x,z]++b):=by
 rw[List.set_append_right _ _ (by omega),Nat.add_sub_cancel_left]; rfl
theorem put_at {σ:Store}{tid eid ever:Nat}{L:List Ent}(hR:Rep σ tid eid ever L)(f:GField)(x:GTree){es':List GEntry}{b:Bool}(h:Y7 (L.map Ent.val) f x=some (es',b)):
 ACalls qh 67 [.op tid 0 0,.agg (encGField f),.agg (cellsGTree x)] σ (fun r σ'=>∃ ever' L',r=.bool b∧Rep σ' tid eid ever' L'∧L'.map Ent.val=es'∧
  (∀ y∈L',y.id∈L.map Ent.id∨σ.length≤y.id)∧σ.length≤σ'.length∧∀ j,j<σ.length→j∉tid::eid::L.map Ent.id→σ'[j]?=σ[j]?):=by
 refine Zr (rs:=[.tmp 6]) tok Tryz.func67 rfl Tryz.ntmps67 rfl Tryz.call67 (by simp) ?_;refine zk [(0,.op tid 0 0),(1,.agg (encGField f)),(2,.agg (cellsGTree x))] ⟨rfl,rfl,rfl,trivial⟩ ?_
 refine rg tok [0,4,5,6] fun K hK=>?_
 simp only[go_sem,qb,qa,qd,reduceCtorEq,encGField,cellsGTree];apply hK
 clear hK K
 simp only[qs,qH,qx,qi,qj,ql,qq]
 obtain⟨σ1,hσ1⟩:∃ s,s=σ++[.cells 0 [.str f.fName,.int .i64 f.fTag,.int .i64 f.fLabel,.int .i64 f.fType.fKind,.str f.fType.fName],
  .cells 0 [.int .i64 x.fKind,.int .i64 x.fN,.str x.fS,.ds true (qe encGEntry x.fEntries) x.fEntries.length false,.ds true (qe encGRaw x.fRest) x.fRest.length false]]:=⟨_,rfl⟩
 rw[← hσ1];have hR1:Rep σ1 tid eid ever L:=hσ1▸hR.app _;have h4:Store.at σ1 σ.length 0=some [.str f.fName,.int .i64 f.fTag,.int .i64 f.fLabel,.int .i64 f.fType.fKind,.str f.fType.fName]:=hσ1▸ZT _ _ _;have h5:Store.at σ1 (σ.length+1) 0=some [.int .i64 x.fKind,.int .i64 x.fN,.str x.fS,.ds true (qe encGEntry x.fEntries) x.fEntries.length false,.ds true (qe encGRaw x.fRest) x.fRest.length false]:=hσ1▸at_end1 _ _ _ _
 have hn1:σ1.length=σ.length+2:=by rw[hσ1]; simp
 have hfr:∀ j,j<σ.length→σ1[j]?=σ[j]?:=fun j hj=>by rw[hσ1,qL hj]
 have hlt:∀ j∈tid::eid::L.map Ent.id,j<σ.length:=by
  intro j hj
  rcases qB.1 hj with rfl|hj
  · exact Store.at_lt hR.t
  rcases qB.1 hj with rfl|hj
  · exact Store.at_lt hR.e
  obtain⟨y,hy,rfl⟩:=ud.1 hj;exact Store.at_lt (hR.tr y hy)
 clear hσ1
 unfold Y7 at h;obtain⟨p,hp,h⟩:=bind_some h;have ht1:=hR1.t
 refine rd [0,4,5,6,7,8] fun K hK=>?_
 refine DW.start (T:=tab) [.any,.any,.any,.at [],.any,.at [],.eff,.any,.any,.any,.any,.any] [] ?_;refine DW.runN tok 6 ?_;simp only[go_sem,qb,qa,qd,reduceCtorEq,ht1,h4];refine DW.call rfl rfl rfl ((zl.ok _ _ p hp).lend rfl true 12 (by simp only[qE,qw,go_sem,qa,reduceCtorEq,hR1.told true,YD]; rfl)) ?_;refine DW.runN tok 5 ?_;simp only[go_sem,qb,qa,qd,reduceCtorEq];refine DW.fin tok (by decide +kernel) rfl ?_;simp only[zj,upd,qa,reduceIte,yu,xe];apply hK
 clear hK K
 obtain⟨es1,hes1,h⟩:=bind_some h;obtain⟨e,he,h⟩:=bind_some h;obtain⟨u,hu,h⟩:=bind_some h;have hg:=yf hu
 have hidL:∀ l:List Ent,(l.map Ent.val).length=l.length:=fun l=>q7 _
 refine xG (fun F τ=>F=[(0,AV.op tid 0 0),(4,.op σ.length 0 0),(5,.op (σ.length+1) 0 0),(6,.bool false),(7,.int .i64 p.1)]∧∃ ever' pre post av,p.1=(pre.length:Int)∧es1=pre.map Ent.val++e::post.map Ent.val∧Mid σ τ tid eid ever' (L.map Ent.id) pre post e.fTag av e.fTrees∧
  Store.at τ σ.length 0=some [.str f.fName,.int .i64 f.fTag,.int .i64 f.fLabel,.int .i64 f.fType.fKind,.str f.fType.fName]∧
  Store.at τ (σ.length+1) 0=some [.int .i64 x.fKind,.int .i64 x.fN,.str x.fS,.ds true (qe encGEntry x.fEntries) x.fEntries.length false,.ds true (qe encGRaw x.fRest) x.fRest.length false]) ?_ ?_
 · refine rg tok [0,4,5,6,7,21] fun K hK=>?_
   simp only[go_sem,qb,qa,reduceCtorEq];apply hK
   clear hK K
   refine zm (b := !p.2) rfl (fun hc=>?_) (fun hc=>?_)
   · have hc':p.2=false:=by simpa using hc
     rw[xQ hc'] at hes1;obtain⟨_,h1,hes1⟩:=bind_some hes1;obtain⟨_,h2,hes1⟩:=bind_some hes1;have h1:=wq h1;have h2:=yf h2;obtain rfl:=Option.some.inj hes1
     obtain⟨k,hk⟩:∃ k:Nat,p.1=k:=⟨p.1.toNat,by omega⟩
     rw[hk] at he h1 ⊢;simp only[qU,hidL] at he h1 h2
     have hkl:k≤L.length:=by omega
     obtain⟨pre,post,rfl,rfl⟩:=split_at hkl;have hl2:(pre++post).length=pre.length+post.length:=qi
     have e1:List.take pre.length ((pre++post).map Ent.val)=pre.map Ent.val:=by rw[qD,← q7 (f:=Ent.val),List.take_left]
     have e2:List.drop pre.length ((pre++post).map Ent.val)=post.map Ent.val:=by rw[qD,← q7 (f:=Ent.val),List.drop_left]
     rw[e1,e2] at he
     have hee:e=⟨f.fTag,[]⟩:=by
      obtain⟨_,_,_,g3⟩:=wK he
      rw[← g3]; simp
     subst hee;rw[qU,e1,e2]
     have hc1:((pre++post).flatMap Ent.cells).take (pre.length*2)=pre.flatMap Ent.cells:=by rw[qS,← ZE,List.take_left]
     have hc2:((pre++post).flatMap Ent.cells).drop (pre.length*2)=post.flatMap Ent.cells:=by rw[qS,← ZE,List.drop_left]
     have htl:(tid<σ1.length)=True:=eq_true (by have:=hlt tid (by simp); omega);have htl2:(tid<σ.length)=True:=eq_true (hlt tid (by simp));have hel:=hlt eid (by simp)
     have hte:tid≠eid:=by have:=hR1.nd; simp at this; exact this.1.1
     have hins:=Insert_at (σ:=σ1++[ZN.cells 0 [AV.int .i64 f.fTag,AV.ds true [] 0 true]]) (nl:=true) (i:=pre.length) (xE hR1.e _) (ZE _) (cells_one _) (by omega) (by have:=of_eq_true h2; omega) (ZT σ1 _ []) (new:=[AV.int .i64 f.fTag,AV.ds true [] 0 true]) rfl rfl (by omega);rw[hc1,hc2] at hins
     obtain⟨σ2,hσ2⟩:∃ s,s=u4 (σ1++[ZN.cells 0 [AV.int .i64 f.fTag,AV.ds true [] 0 true]]) eid (ZN.cells (ever+1) (pre.flatMap Ent.cells++([AV.int .i64 f.fTag,AV.ds true [] 0 true]++post.flatMap Ent.cells)))++[ZN.dead]:=⟨_,rfl⟩
     rw[← hσ2] at hins
     have ht2:Store.at σ2 tid 0=some [.int .i64 3,.int .i64 0,.str [],.os true 2 eid ever 0 (pre++post).length false,.ds true [] 0 true]:=by
      rw[hσ2]; exact xE (zY (xE hR1.t _) hte _) _
     refine rdE [0,4,5,6,7] fun K hK=>?_
     refine DW.start (T:=tab) [.any,.any,.any,.any,.own 1 [],.any,.any,.at [],.any,.eff,.eff,.any,.any,.eff] [(1,[])] ?_;refine DW.runN tok 6 ?_;simp only[go_sem,qb,qa,qd,reduceCtorEq,ht1,htl];refine DW.runN tok 4 ?_;simp only[go_sem,qb,qf,qa,qd,qt,reduceCtorEq,h4,zC,z7,q3,qT,true_and,ub,va4];refine DW.callS rfl rfl rfl hins (fun m x hm hle=>by simp at hm hle; omega) ?_;refine DW.runN tok 3 ?_;simp only[go_sem,qb,qf,qa,qd,reduceCtorEq,ht2];refine DW.fin tok (by decide +kernel) rfl ?_;simp only[zj,upd,qa,reduceIte,yu,xe];apply hK
     clear hK K
     have hnd:=hR1.nd
     have keep:∀ {j v:Nat} {cs:List AV},Store.at σ1 j v=some cs→j≠eid→j≠tid→Store.at (σ2.set tid (.cells 0 [.int .i64 3,.int .i64 0,.str [],.os true 2 eid (ever+1) 0 ((pre++post).length+1) false,.ds true [] 0 true])) j v=some cs:=by
      intro j v cs hj h1 h2
      refine zY ?_ h2 _
      rw[hσ2]; exact xE (zY (xE hj _) h1 _) _
     have hnid:∀ y∈pre++post,y.id≠eid∧y.id≠tid:=by
      intro y hy
      have hm:y.id∈(pre++post).map Ent.id:=ud.2 ⟨y,hy,rfl⟩;rw[uA,uA] at hnd;exact⟨fun e=>hnd.2.1 (e▸hm),fun e=>hnd.1 (qm _ (e▸hm))⟩
     simp only[zj];refine⟨_,_,⟨rfl,ever+1,pre,post,.ds true [] 0 true,rfl,rfl,⟨?_,?_,?_,hnd,.inl ⟨rfl,rfl⟩,?_,?_,?_,hlt⟩,keep h4 (by omega) (by have:=of_eq_true htl2; omega),keep h5 (by omega) (by have:=of_eq_true htl2; omega)⟩,.same ⟨rfl,rfl,rfl,rfl,rfl,trivial⟩ rfl⟩
     · have:=Store.at_set (ver':=0) (cs':=[.int .i64 3,.int .i64 0,.str [],.os true 2 eid (ever+1) 0 ((pre++post).length+1) false,.ds true [] 0 true]) ht2;rw[this,hl2];simp only[Option.some.injEq,List.cons.injEq,AV.os.injEq,true_and,and_true]
       omega
     · refine zY ?_ hte.symm _
       rw[hσ2]; exact xE (Store.at_set (xE hR1.e _)) _
     · intro y hy; exact keep (hR1.tr y hy) (hnid y hy).1 (hnid y hy).2
     · intro y hy; exact ud.2 ⟨y,hy,rfl⟩
     · rw[hσ2]; simp; omega
     intro j hj hjn
     simp only[qB,not_or] at hjn;rw[qW (fun e=>hjn.1 e.symm),hσ2,qL (by simp; omega),qW (fun e=>hjn.2.1 e.symm),qL (by omega)];exact hfr j hj
   have hc':p.2=true:=by simpa using hc
   rw[if_pos hc'] at hes1;obtain rfl:=Option.some.inj hes1
   obtain⟨k,hk⟩:∃ k:Nat,p.1=k:=⟨p.1.toNat,by have:=(wK he).1; omega⟩
   have he':=he;rw[hk] at he';obtain⟨g0,g1,g2,g3⟩:=wK he';simp only[qU,hidL] at g1 g2 g3;obtain⟨pre,a,post,rfl,rfl⟩:=split_el (show k<L.length by omega)
   have hea:e=a.val:=by
    rw[← g3]; simp
   subst hea;refine zd ?_;simp only[zj];refine⟨_,σ1,⟨rfl,ever,pre,post,.os true 5 a.id a.ver 0 a.trees.length false,hk,by simp,⟨?_,?_,?_,?_,?_,?_,?_,?_,?_⟩,h4,h5⟩,.same ⟨rfl,rfl,rfl,rfl,rfl,trivial⟩ rfl⟩
   · have:=hR1.t
     rw[qi,qj,Nat.add_comm post.length 1] at this; exact this
   · have:=hR1.e
     rw[qS,qO] at this; exact this
   · intro y hy
     refine hR1.tr y ?_
     rcases ug.1 hy with h|h
     · exact uo _ h
     exact q2 _ (qm _ h)
   · have:=hR1.nd;refine List.Nodup.sublist ?_ this;refine List.Sublist.cons_cons _ (List.Sublist.cons_cons _ ?_);exact (List.Sublist.append_left (List.sublist_cons_self _ _) _).map _
   · refine .inr ⟨a.id,a.ver,rfl,hR1.tr a (by simp),?_,by simp⟩;have:=hR1.nd;simp only[qD,qE,uA,qB,ug,List.nodup_append,not_or] at this ⊢;obtain⟨⟨h1,h2,h3,h4⟩,⟨h5,h6,h7⟩,h8,⟨h9,h10⟩,h11⟩:=this;exact⟨fun e=>h3 e.symm,fun e=>h6 e.symm,fun hm=>h11 _ hm _ (.inl rfl) rfl,h9⟩
   · intro y hy
     rcases ug.1 hy with h|h
     · exact ud.2 ⟨y,uo _ h,rfl⟩
     exact ud.2 ⟨y,q2 _ (qm _ h),rfl⟩
   · omega
   · intro j hj _; exact hfr j hj
   exact hlt
 clear hes1 hp ht1 hR1 h4 h5 hn1 hfr σ1
 rintro _ τ ⟨rfl,ever1,pre,post,av,hp1,rfl,hM,h4,h5⟩;rw[hp1] at he h;simp only[qU] at h
 have hix:xH tab 27 (.os true 2 eid ever1 0 (pre.length+(1+post.length)) false) (.int .i64 p.1)=some (.op eid ever1 (pre.length*2)):=by
  rw[hp1];simp only[xH,Yl,Yk]
  simp
  omega
 have ht:=hM.t
 refine rg tok [4,5,6,9] fun K hK=>?_
 simp only[go_sem,qb,qa,qd,reduceCtorEq,ht,hix];apply hK
 clear hK K
 have hcl:(pre.flatMap Ent.cells).length=pre.length*2:=ZE pre
 refine xG (fun F τ'=>F=[(5,AV.op (σ.length+1) 0 0),(6,.bool false),(9,.op eid ever1 (pre.length*2))]∧∃ av',Mid σ τ' tid eid ever1 (L.map Ent.id) pre post e.fTag av' (if f.fLabel=3 then e.fTrees else [])∧
  Store.at τ' (σ.length+1) 0=some [.int .i64 x.fKind,.int .i64 x.fN,.str x.fS,.ds true (qe encGEntry x.fEntries) x.fEntries.length false,.ds true (qe encGRaw x.fRest) x.fRest.length false]) ?_ ?_
 · refine rg tok [5,6,9,43] fun K hK=>?_
   simp only[go_sem,qb,qa,qd,h4];apply hK
   clear hK K
   refine zq rfl (fun hc=>?_) (fun hc=>?_)
   · obtain⟨cs,hcs⟩:∃ cs,cs=pre.flatMap Ent.cells++([.int .i64 e.fTag,av]++post.flatMap Ent.cells):=⟨_,rfl⟩
     have hMe:=hM.e;rw[← hcs] at hMe;have hle:(pre.length*2+1<cs.length)=True:=eq_true (by rw[hcs]; simp only[qi,hcl,qj,ql]; omega);have hle':(pre.length*2+1+1≤cs.length)=True:=eq_true (by have:=of_eq_true hle; omega)
     refine rgE tok [5,6,9] fun K hK=>?_
     simp only[go_sem,qb,qa,hMe,hle'];apply hK
     clear hK K
     have hset:cs.set (pre.length*2+1) (.ds true [] 0 true)=pre.flatMap Ent.cells++([.int .i64 e.fTag,.ds true [] 0 true]++post.flatMap Ent.cells):=by
      rw[hcs,← hcl,vap]
     rw[hset];simp only[zj];rw[if_neg hc];have hnd:=hM.nd;have hlt:=hM.lt;rw[uA,uA] at hnd
     have hte:tid≠eid:=fun e=>hnd.1 (e▸qn ..)
     refine⟨_,_,⟨rfl,.ds true [] 0 true,⟨zY hM.t hte _,Store.at_set hM.e,?_,hM.nd,.inl ⟨rfl,rfl⟩,hM.sub,?_,?_,hM.lt⟩,zY h5 ?_ _⟩,.same ⟨rfl,rfl,rfl,trivial⟩ rfl⟩
     · intro y hy
       refine zY (hM.tr y hy) ?_ _
       intro e; exact hnd.2.1 (e▸ud.2 ⟨y,hy,rfl⟩)
     · have:=hM.len; simpa using this
     · intro j hj hjn
       rw[qW]
       · exact hM.fr j hj hjn
       intro e; exact hjn (e▸by simp)
     have:=hlt eid (by simp); omega
   refine zd ?_;simp only[zj];rw[if_pos hc];exact⟨_,τ,⟨rfl,av,hM,h5⟩,.same ⟨rfl,rfl,rfl,trivial⟩ rfl⟩
 clear hM h4 h5 hix ht τ av
 rintro _ τ ⟨rfl,av,hM,h5⟩
 obtain⟨cs,hcs⟩:∃ cs,cs=pre.flatMap Ent.cells++([.int .i64 e.fTag,av]++post.flatMap Ent.cells):=⟨_,rfl⟩
 have hMe:=hM.e;rw[← hcs] at hMe;have hle:(pre.length*2+1<cs.length)=True:=eq_true (by rw[hcs]; simp only[qi,hcl,qj,ql]; omega);have hle':(pre.length*2+1+1≤cs.length)=True:=eq_true (by have:=of_eq_true hle; omega)
 have hgc:gc cs (pre.length*2+1)=av:=by rw[hcs,← hcl,gc_mid]
 have heid:(eid<τ.length)=True:=eq_true (Store.at_lt hMe)
 refine rd [6,9] fun K hK=>?_
 refine DW.start (T:=tab) [.any,.any,.any,.any,.own 1 [],.at [],.eff,.eff,.any,.any,.eff] [(1,[])] ?_;refine DW.runN tok 6 ?_;simp only[go_sem,qb,qf,qa,qd,hMe,hle,hgc,heid,h5]
 obtain⟨xc,hxc⟩:∃ xc,xc=[AV.int .i64 x.fKind,.int .i64 x.fN,.str x.fS,.ds true (qe encGEntry x.fEntries) x.fEntries.length false,.ds true (qe encGRaw x.fRest) x.fRest.length false]:=⟨_,rfl⟩
 have hx5:xc.length=5:=by rw[hxc]; rfl
 have hx1:xc.all AV.one=true:=by rw[hxc]; rfl
 have hxe:xc=encGTree x:=by rw[hxc,yU]<;>rfl
 generalize htr:(if f.fLabel=3 then e.fTrees else [])=trees at *
 have key:∃ nid nver τ3,z6 tab 90 90 av (.os true 5 τ.length 0 0 1 true) (τ++[.cells 0 xc])=some (.os true 5 nid nver 0 (trees.length+1) false,τ3)∧Store.at τ3 nid nver=some (trees.flatMap encGTree++xc)∧
  (∀ j v cs,Store.at τ j v=some cs→j≠nid→Store.at τ3 j v=some cs)∧nid∉tid::eid::(pre++post).map Ent.id∧(nid∈L.map Ent.id∨σ.length≤nid)∧τ.length≤τ3.length∧∀ j,j<σ.length→j∉tid::eid::L.map Ent.id→τ3[j]?=τ[j]?:=by
  have e1:yj (τ++[.cells 0 xc]) 5 (.os true 5 τ.length 0 0 1 true)=some (1,xc):=by
   simp only[yj,ZT τ xc []];rw[if_pos (by omega),qC,Nat.one_mul,← hx5,ui]
  rcases hM.c with ⟨rfl,h0⟩|⟨id,ver,rfl,h1,h2,h3⟩
  · refine⟨τ.length+1,0,τ++[.cells 0 xc]++[.cells 0 xc],?_,?_,fun j v cs hj _=>xE (xE hj _) _,fun hj=>?_,.inr (by have:=hM.len; omega),by simp,fun j hj _=>?_⟩
    · subst h0;simp only[z6,tab_90,tab_30,e1,ym,hx1,zJ,if_true,qi,qj,ql]
      simp
    · subst h0;simp only[qs,qH,qx];exact at_end1 _ _ _ _
    · have:τ.length+1<σ.length:=hM.lt _ (by
       rcases qB.1 hj with h|h
       · rw[h]; simp
       rcases qB.1 h with h|h
       · rw[h]; simp
       obtain⟨y,hy,h'⟩:=ud.1 h
       rw[← h']; exact qm _ (qm _ (hM.sub y hy)))
      have:=hM.len; omega
    have:=hM.len;rw[qs,qL (by omega)]
  refine⟨id,ver+1,u4 (τ++[ZN.cells 0 xc]) id (ZN.cells (ver+1) (trees.flatMap encGTree++xc)),?_,Store.at_set (xE h1 _),fun j v cs hj hne=>zY (xE hj _) hne _,h2,.inl h3,by simp,fun j hj hjn=>?_⟩
  · have hl:(trees.flatMap encGTree).length=trees.length*5:=zt E90.len trees
    have hg':((trees.length+1)*80≤140737488355328)=True:=by
     rw[← htr]
     by_cases hl3:f.fLabel=3
     · rw[if_pos hl3]; rw[if_pos hl3] at hg; exact hg
     rw[if_neg hl3]; simp
    simp only[z6,tab_90,tab_30,e1,ym,hx1,zJ,xE h1,hl,hg',and_self,qb,if_true]
  have:=hM.len;rw[qW,qL (by omega)]
  intro e; exact hjn (e▸qm _ (qm _ h3))
 obtain⟨nid,nver,τ3,k1,k2,k3,k4,k5,k6,k7⟩:=key
 have hne:eid≠nid:=fun e=>k4 (e▸by simp)
 have hMe3:=k3 _ _ _ hMe hne;refine DW.runN tok 1 ?_;simp only[go_sem,qb,qf,qa,qd,qt,zC,z7,q3,qT,true_and,ub,va4];rw[← hxc];refine DW.runN tok 1 ?_;simp only[go_sem,qb,qf,qa,qd,k1];refine DW.runN tok 3 ?_;simp only[go_sem,qb,qf,qa,qd,hMe3,hle'];refine DW.fin tok (by decide +kernel) rfl ?_;simp only[zj,upd,qa,reduceIte,yu,xe];apply hK
 clear hK K
 have hset:cs.set (pre.length*2+1) (.os true 5 nid nver 0 (trees.length+1) false)=pre.flatMap Ent.cells++([.int .i64 e.fTag,.os true 5 nid nver 0 (trees.length+1) false]++post.flatMap Ent.cells):=by
  rw[hcs,← hcl,vap]
 have hat4:=Store.at_set (ver':=ever1) (cs':=cs.set (pre.length*2+1) (.os true 5 nid nver 0 (trees.length+1) false)) hMe3
 generalize cs.set (pre.length*2+1) (.os true 5 nid nver 0 (trees.length+1) false)=cs4 at *
 have hgc4:gc cs4 (pre.length*2+1)=.os true 5 nid nver 0 (trees.length+1) false:=by rw[hset,← hcl,gc_mid]
 have hle4:(pre.length*2+1<cs4.length)=True:=eq_true (by rw[hset]; simp only[qi,hcl,qj,ql]; omega)
 refine rg tok [6] fun K hK=>?_
 simp only[go_sem,qb,qa,hat4,hgc4,hle4];apply hK
 clear hK K
 refine yz ?_;simp only[ZL,yT,xd,xZ,exists_eq_left',go_sem];have h':=Option.some.inj h;obtain⟨h1,h2⟩:=Prod.mk.inj h';have hnd:=hM.nd;have hlt:=hM.lt;rw[uA,uA] at hnd
 have hte:tid≠eid:=fun e=>hnd.1 (e▸qn ..)
 have htn:tid≠nid:=fun e=>k4 (e▸by simp)
 have hll:(trees++[x]).length=trees.length+1:=by simp
 refine⟨ever1,pre++⟨e.fTag,nid,nver,trees++[x]⟩::post,?_,⟨?_,?_,?_,?_⟩,?_,?_,?_,?_⟩
 · rw[← h2,hll]
 · refine zY ?_ hte _;have:=k3 _ _ _ hM.t htn;rw[this];simp only[Option.some.injEq,List.cons.injEq,AV.os.injEq,true_and,and_true,qi,qj]
   omega
 · rw[hat4,hset]
   simp[Ent.cells]
 · intro y hy
   rcases ug.1 hy with hy|hy
   · refine zY (k3 _ _ _ (hM.tr y (uo _ hy)) ?_) ?_ _
     · intro e'; exact k4 (e'▸qm _ (qm _ (ud.2 ⟨y,uo _ hy,rfl⟩)))
     intro e'; exact hnd.2.1 (e'▸ud.2 ⟨y,uo _ hy,rfl⟩)
   rcases qB.1 hy with rfl|hy
   · refine zY ?_ hne.symm _
     show Store.at τ3 nid nver=some ((trees++[x]).flatMap encGTree)
     rw[k2,qS,hxe]; simp
   refine zY (k3 _ _ _ (hM.tr y (q2 _ hy)) ?_) ?_ _
   · intro e'; exact k4 (e'▸qm _ (qm _ (ud.2 ⟨y,q2 _ hy,rfl⟩)))
   intro e'; exact hnd.2.1 (e'▸ud.2 ⟨y,q2 _ hy,rfl⟩)
 · have hp:(nid::tid::eid::(pre++post).map Ent.id).Nodup:=uA.2 ⟨k4,hM.nd⟩;refine (List.Perm.nodup_iff ?_).1 hp;refine (List.Perm.swap _ _ _).trans (List.Perm.cons _ ((List.Perm.swap _ _ _).trans (List.Perm.cons _ ?_)));rw[qD,qD,qE];exact (List.perm_middle).symm
 · rw[← h1,← hidL pre,set_mid]
   simp[Ent.val]
 · intro y hy
   rcases ug.1 hy with hy|hy
   · exact .inl (hM.sub y (uo _ hy))
   rcases qB.1 hy with rfl|hy
   · exact k5
   exact .inl (hM.sub y (q2 _ hy))
 · have:=hM.len; simp; omega
 intro j hj hjn
 rw[qW (fun e=>hjn (by rw[← e]; simp)),k7 j hj hjn];exact hM.fr j hj hjn
end
section
set_option maxRecDepth 8000
set_option maxHeartbeats 1000000
open Go.RowKit AM
def w6 (m:GMessage):List GEntry→Option (List GEntry)
 |[]=>some []
 |e::l=>(xy e m).bind fun b=>(w6 m l).bind fun l'=>some (if b=true then l' else e::l')
theorem idx_del (m:GMessage):∀ (es:List GEntry) (x:Int) (es':List GEntry),w6 m es=some es'→
 ∃ r,zv.l4 m es x=some r∧((r = -1∧es'=es)∨∃ pre e post post',es=pre++e::post∧r=x+pre.length∧w6 m post=some post'∧es'=pre++post'):=by
 intro es
 induction es with
 |nil=>intro x es' h; cases h; exact⟨-1,rfl,.inl ⟨rfl,rfl⟩⟩
 |cons e l ih=>
  intro x es' h
  simp only[w6] at h;obtain⟨b,hb,h⟩:=bind_some h;obtain⟨l',hl,h⟩:=bind_some h;obtain rfl:=Option.some.inj h;simp only[zv.l4,hb,qg]
  cases b with
  |true=>exact⟨x,rfl,.inr ⟨[],e,l,l',rfl,by simp,hl,rfl⟩⟩
  |false=>
   obtain⟨r,h1,h2⟩:=ih (x+1) l' hl;refine⟨r,h1,?_⟩
   rcases h2 with ⟨rfl,rfl⟩|⟨pre,e2,post,post',rfl,rfl,h3,rfl⟩
   · exact .inl ⟨rfl,rfl⟩
   exact .inr ⟨e::pre,e2,post,post',rfl,by simp; omega,h3,rfl⟩
theorem tell_fn {σ:Store}{keep:List Nat}{ls:Bool}{f:Nat}{g:Fn}{a b:List AV}:tell σ keep ls (f+1) (.fn g a b)=.fn g (a.map (tell σ keep ls f)) (b.map (tell σ keep ls f)):=rfl
theorem tell_msg {σ:Store}{keep:List Nat}{f:Nat}{g:Fn}{m:GMessage}:tell σ keep true (f+1+1+1) (.fn g [] [.dp (encGMessage m) 0])=.fn g [] [.dp (encGMessage m) 0]:=by
 simp only[tell_fn,qw,qE,tell_dp,encGMessage,Xh,YK,zP,qP,qQ,qX]
theorem vbD (n:Nat):(z7 [AV.int .i64 0,.ds true [] 0 true] n).all AV.one=true:=by
 rw[uf]
 intro x hx
 obtain⟨k,_,rfl⟩:=ud.1 hx
 have:k % 2=0∨k % 2=1:=by omega
 rcases this with h|h<;>simp[h,AV.one,gc]
theorem DeleteFunc_at {σ:Store}{id ver:Nat}{nl:Bool}{es es':List GEntry}(m:GMessage)(hcs:Store.at σ id ver=some (es.flatMap encGEntry))(h:w6 m es=some es')(hB:es.length≤1000000000000000):
 ACalls qh 68 [.os nl 2 id ver 0 es.length false,.fn (.func 69) [] [.dp (encGMessage m) 0]] σ (fun r σ'=>∃ cs g,r=.os nl 2 id ver 0 es'.length false∧σ'=u4 σ id (.cells ver (es'.flatMap encGEntry++cs))++g):=by
 obtain⟨r,hr,hcase⟩:=idx_del m es 0 es' h;refine Zr (rs:=[.tmp 4]) tok Tryz.func68 rfl Tryz.ntmps68 rfl Tryz.call68 (by simp) ?_;refine zk [(0,.os nl 2 id ver 0 es.length false),(1,.fn (.func 69) [] [.dp (encGMessage m) 0])] ⟨rfl,rfl,trivial⟩ ?_
 refine rg tok [0,1] fun K hK=>?_
 simp only[go_sem,qb,qa,reduceCtorEq];apply hK
 clear hK K
 have htold:tell σ [] true 12 (.os nl 2 id ver 0 es.length false)=.ds true (es.flatMap encGEntry) es.length false:=by
  have hl:(es.flatMap encGEntry).length=es.length*2:=zt E27.len es;simp only[Zl,wJ,hcs];rw[if_pos (by rw[hl]; omega),qC,← hl,ui,zP]
 refine rc [0,1,5] fun K hK=>?_
 refine zi tok 2 ?_;simp only[go_sem,qb,qa,reduceCtorEq];refine wh rfl rfl rfl ((zv.ok es m r hr).lend rfl true 12 (by simp only[qE,qw,go_sem,qa,reduceCtorEq,htold,tell_msg])) ?_;rintro _ _ ⟨rfl,hσ⟩
 rw[hσ]; clear hσ
 refine zi tok 1 ?_;simp only[go_sem,qb,qa,reduceCtorEq];refine zb ?_;simp only[zj,upd,qa,reduceIte,yu,xe];apply hK
 clear hK K
 refine za fun Z hZ=>?_
 refine rg tok [0,1,5,12] fun K hK=>?_
 simp only[go_sem,qb,qa,reduceCtorEq];apply hK
 clear hK K
 refine zq rfl (fun hc=>?_) (fun hc=>?_)
 · have he:es'=es:=by
    rcases hcase with ⟨_,h⟩|⟨pre,e,post,post',_,h2,_⟩
    · exact h
    omega
   subst he
   refine rg tok [4] fun K hK=>?_
   simp only[go_sem,qb,qa,reduceCtorEq];apply hK
   clear hK K
   refine yz ?_;simp only[ZL,yT,xd,xZ,exists_eq_left',go_sem];exact⟨[],[],by rw[qz,qz,Store.set_at hcs]⟩
 obtain⟨pre,e,post,post',he,h2,h3,h4⟩:∃ pre e post post',es=pre++e::post∧r=0+(pre.length:Int)∧w6 m post=some post'∧es'=pre++post':=by
  rcases hcase with ⟨h,_⟩|h
  · exact absurd h hc
  exact h
 rw[Int.zero_add] at h2;subst h2
 have hl0:es.length=pre.length+(post.length+1):=by rw[he]; simp
 refine zd ?_;refine hZ _ _ ?_
 clear hZ Z
 have hw1:IntKind.i64.wrap ((pre.length:Int)+1)=(pre.length:Int)+1:=by rw[IntKind.wrap_i64]; omega
 refine za fun Z hZ=>?_
 refine rg tok [0,1,5,6] fun K hK=>?_
 simp only[go_sem,qb,qa,reduceCtorEq,hw1];apply hK
 clear hK K
 refine ze ?_
 refine zp (fun k F τ=>∃ (cur kept rest rest':List GEntry) (j:Nat) (g:Store),k=rest.length∧F=[(0,AV.os nl 2 id ver 0 es.length false),(1,.fn (.func 69) [] [.dp (encGMessage m) 0]),(5,.int .i64 (kept.length:Int)),(6,.int .i64 (j:Int))]∧
  τ=u4 σ id (.cells ver (cur.flatMap encGEntry))++g∧cur.length=es.length∧cur.take kept.length=kept∧cur.drop j=rest∧j+rest.length=es.length∧kept.length<j∧w6 m rest=some rest'∧es'=kept++rest') post.length
  ⟨es,pre,post,post',pre.length+1,[],rfl,rfl,by rw[Store.set_at hcs,qz],rfl,by rw[he,List.take_left],by rw[he,← ve,List.drop_left]; rfl,by omega,by omega,h3,h4⟩ (.same ⟨rfl,rfl,rfl,rfl,trivial⟩ rfl) ?_
 rintro k _ _ ⟨cur,kept,rest,rest',j,g,rfl,rfl,rfl,c1,c2,c3,c4,c5,c6,c7⟩;have hat:Store.at (u4 σ id (.cells ver (cur.flatMap encGEntry))++g) id ver=some (cur.flatMap encGEntry):=xE (Store.at_set hcs) _
 obtain⟨τ,hτ⟩:∃ τ,τ=u4 σ id (.cells ver (cur.flatMap encGEntry))++g:=⟨_,rfl⟩
 rw[← hτ] at hat ⊢
 refine za fun Y hY=>?_
 refine rg tok [0,1,5,6,19] fun K hK=>?_
 simp only[go_sem,qb,qa,reduceCtorEq];apply hK
 clear hK K
 refine zq rfl (fun hc=>?_) (fun hc=>?_)
 · refine zd ?_;refine hY _ _ ?_
   clear hY Y
   rcases rest with _|⟨e2,rest⟩
   · simp only[ql] at c4; omega
   simp only[w6] at c6;obtain⟨b,hb,c6⟩:=bind_some c6;obtain⟨l',hl',c6⟩:=bind_some c6;obtain rfl:=Option.some.inj c6;simp only[qj] at c4
   have hx:Zv cur (j:Int)=some e2:=by
    unfold Zv;rw[if_pos (by omega),qU]
    have:(cur.drop j)[0]?=some e2:=by rw[c3]; rfl
    rwa [List.getElem?_drop,uV] at this
   have hcd:cur.drop (j+1)=rest:=by rw[← ve,c3]; rfl
   have hw6:IntKind.i64.wrap ((j:Int)+1)=((j+1:Nat):Int):=by rw[IntKind.wrap_i64]; omega
   have hix:=E27.idxO hx nl false .i64 2 id ver;rw[c1] at hix;have hrd:=E27.rdO hx
   refine za fun X hX=>?_
   have fin:∀ (cur' kept':List GEntry) (F:Fr) (τ':Store),Fits F [(0,AV.os nl 2 id ver 0 es.length false),(1,.fn (.func 69) [] [.dp (encGMessage m) 0]),(5,.int .i64 (kept'.length:Int)),(6,.int .i64 (j:Int))]→(∃ g',τ'=u4 σ id (.cells ver (cur'.flatMap encGEntry))++g')→cur'.length=es.length→cur'.take kept'.length=kept'→cur'.drop (j+1)=rest→kept'.length<j+1→es'=kept'++l'→
    X F τ':=by
    rintro cur' kept' F _ hF ⟨g',rfl⟩ d1 d2 d3 d4 d5;refine hX _ _ (zU (.same hF rfl) ?_)
    refine rgE tok [0,1,5,6] fun K hK=>?_
    simp only[go_sem,qb,qa,reduceCtorEq,hw6];apply hK
    clear hK K
    simp only[zj];exact⟨rest.length,_,_,by simp,⟨cur',kept',rest,l',j+1,g',rfl,rfl,rfl,d1,d2,d3,by omega,by omega,hl',d5⟩,.same ⟨rfl,rfl,rfl,rfl,trivial⟩ rfl⟩
   clear hX
   have hae:∀ cs,Store.at (τ++[.cells 0 cs]) τ.length 0=some cs:=fun cs=>ZT τ cs []
   have hse:∀ cs cs',(τ++[ZN.cells 0 cs]).set τ.length (.cells 0 cs')=τ++[.cells 0 cs']:=fun cs cs'=>set_mid τ _ _ []
   have hw5:IntKind.i64.wrap ((kept.length:Int)+1)=((kept.length+1:Nat):Int):=by rw[IntKind.wrap_i64]; omega
   refine ze ?_
   refine rg tok [0,1,5,6,7] fun K hK=>?_
   simp only[go_sem,qb,qf,qa,qd,reduceCtorEq,hat,hix,hrd,zS,cellsGEntry,hae,hse,qj,ql,uk,uv];apply hK
   clear hK K
   refine rc [0,5,6,7,1,29] fun K hK=>?_
   refine zi tok 2 ?_;simp only[go_sem,qb,qf,qa,qd,reduceCtorEq,hae,qj,ql];refine wh rfl rfl rfl (xy.ev e2 m b hb _) ?_;rintro _ _ ⟨rfl,hσ⟩
   rw[hσ]; clear hσ
   refine zi tok 1 ?_;simp only[go_sem,qb,qa,reduceCtorEq];refine zb ?_;simp only[zj,upd,qa,reduceIte,yu,xe];apply hK
   clear hK K
   cases b with
   |true=>
    refine zn rfl ?_;refine zd ?_;simp only[ZS,zj];exact fin cur kept _ _ ⟨rfl,rfl,rfl,rfl,trivial⟩ ⟨g++[.cells 0 [.int .i64 e2.fTag,.ds true (qe encGTree e2.fTrees) e2.fTrees.length false]],by rw[hτ,qs]⟩ c1 c2 hcd (by omega) c7
   |false=>
    refine zo rfl ?_
    have hkl:kept.length<cur.length:=by omega
    have hx2:Zv cur (kept.length:Int)=some cur[kept.length]:=by
     unfold Zv;rw[if_pos (by omega),qU,q1 hkl]
    have hix2:=E27.idxO hx2 nl false .i64 2 id ver;rw[c1] at hix2;have hsc:=E27.stOc hx2;have hsr:=E27.stOr hx2 (y:=e2) (cs:=[.int .i64 e2.fTag,.ds true (qe encGTree e2.fTrees) e2.fTrees.length false]) (by rw[zS]<;>rfl);simp only[y1] at hsr;have hat1:Store.at (τ++[.cells 0 [.int .i64 e2.fTag,.ds true (qe encGTree e2.fTrees) e2.fTrees.length false]]) id ver=some (cur.flatMap encGEntry):=xE hat _
    refine rg tok [0,1,5,6] fun K hK=>?_
    simp only[go_sem,qb,qf,qa,qd,reduceCtorEq,hae,hix2,hsc,hsr,hat1,qj,ql];apply hK
    clear hK K
    refine rgE tok [0,1,5,6] fun K hK=>?_
    simp only[go_sem,qb,qa,reduceCtorEq,hw5];apply hK
    clear hK K
    simp only[ZS,zj]
    have hlen:(kept++[e2]).length=kept.length+1:=by simp
    refine fin (setI cur (kept.length:Int) e2) (kept++[e2]) _ _ ⟨rfl,rfl,by rw[hlen]; rfl,rfl,trivial⟩ ⟨g++[.cells 0 [.int .i64 e2.fTag,.ds true (qe encGTree e2.fTrees) e2.fTrees.length false]],?_⟩ ?_ ?_ ?_ (by rw[hlen]; omega) (by rw[c7]; simp)
    · rw[hτ,qs,List.set_append_left _ _ (by simpa using Store.at_lt hcs),List.set_set]
    · rw[ZF]; exact c1
    · rw[hlen];unfold setI;rw[qU,List.take_set,List.take_add_one,c2,q1 hkl]
      simp
    unfold setI;rw[qU,List.drop_set_of_lt (by omega)];exact hcd
 refine zr ?_;simp only[go_sem];have hr0:rest=[]:=qJ.1 (by omega);subst hr0;cases c6;rw[qz] at c7;subst c7;simp only[ql,uV] at c4
 have hkn:es'.length<es.length:=by omega
 have hsl1:Zc tab 27 (.os nl 2 id ver 0 es.length false) (some (.int .i64 (es'.length:Int))) none none=some (.os nl 2 id ver (es'.length*2) (es.length-es'.length) false):=by
  simp only[Zc,Yl,Yk,vbj]
  simp
  omega
 have hsl2:Zc tab 27 (.os nl 2 id ver 0 es.length false) none (some (.int .i64 (es'.length:Int))) none=some (.os nl 2 id ver 0 es'.length false):=by
  simp only[Zc,Yl,Yk,vbj]
  simp
  omega
 have hcl:(cur.flatMap encGEntry).length=es.length*2:=by rw[← c1]; exact zt E27.len cur
 have hzl:∀ n,(z7 [AV.int .i64 0,.ds true [] 0 true] n).length=n:=fun n=>by simp[z7]
 have hsr:y1 (cur.flatMap encGEntry) (es'.length*2) (z7 [AV.int .i64 0,.ds true [] 0 true] ((es.length-es'.length)*2))=es'.flatMap encGEntry++z7 [AV.int .i64 0,.ds true [] 0 true] ((es.length-es'.length)*2):=by
  have e0:cur.flatMap encGEntry=es'.flatMap encGEntry++((cur.drop es'.length).flatMap encGEntry++[]):=by
   rw[qz,← qS]
   congr 1
   conv=>lhs; rw[← uu es'.length cur,c2]
  have l1:(es'.flatMap encGEntry).length=es'.length*2:=zt E27.len _;rw[e0,← l1,Zh _ _ _ _ (by rw[hzl,zt E27.len,uQ,c1]),qz]
 have hclr:vce tab 27 (.os nl 2 id ver (es'.length*2) (es.length-es'.length) false) τ=some (.tup [],τ.set id (.cells ver (es'.flatMap encGEntry++z7 [AV.int .i64 0,.ds true [] 0 true] ((es.length-es'.length)*2)))):=by
  have hp:Zm τ (.os nl 2 id ver (es'.length*2) (es.length-es'.length) false) (es.length-es'.length) 2 (z7 [AV.int .i64 0,.ds true [] 0 true] ((es.length-es'.length)*2))=some (τ.set id (.cells ver (es'.flatMap encGEntry++z7 [AV.int .i64 0,.ds true [] 0 true] ((es.length-es'.length)*2)))):=by
   unfold Zm;rw[if_neg (by omega)];simp only[hat];rw[if_pos ⟨trivial,by rw[hzl,hcl,← uZ]; exact q5 _ (by omega),vbD _⟩,hsr]
  simp only[vce,Yl,Yk,AV.cells,hp]
  simp[AV.okc,AV.one]
 refine hZ _ _ ?_
 refine rg tok [0,5] fun K hK=>?_
 simp only[go_sem,qb,qa,reduceCtorEq,hsl1,hclr];apply hK
 clear hK K
 refine rg tok [4] fun K hK=>?_
 simp only[go_sem,qb,qa,reduceCtorEq,hsl2];apply hK
 clear hK K
 refine yz ?_;simp only[ZL,yT,xd,xZ,exists_eq_left',go_sem];refine⟨z7 [AV.int .i64 0,.ds true [] 0 true] ((es.length-es'.length)*2),g,?_⟩;rw[hτ,List.set_append_left _ _ (by simpa using Store.at_lt hcs),List.set_set]
end
section
set_option maxRecDepth 8000
set_option maxHeartbeats 1000000
open Go.RowKit AM
def zz.l (xb:GSchema→GType→GRaw→Int→Option (GTree×Int))(a0:GSchema)(a1:GMessage)(a3:Int):List GRaw→List GEntry→List GRaw→Option (GTree×Int)
 |[],es,rest=>(Yg es.length 32).bind fun _=>(w6 a1 es).bind fun es'=>(zO rest).bind fun r=>some ((⟨3,0,[],es',r⟩:GTree),0)
 |r::q,es,rest=>bnd (zw a1 r.fTag) fun f=>(if f.2=true then (xb a0 f.1.fType r a3).bind fun x=>(if x.2=0 then (Y7 es f.1 x.1).bind fun p=>(if p.2=true then zz.l xb a0 a1 a3 q p.1 rest else some ((⟨0,0,[],[],[]⟩:GTree),4)) else some ((⟨0,0,[],[],[]⟩:GTree),x.2))
  else (Yg (rest.length+1) 40).bind fun _=>zz.l xb a0 a1 a3 q es (rest++[r]))
def zz.body (zD:GSchema→GMessage→List UInt8→Int→Option (GTree×Int))(xb:GSchema→GType→GRaw→Int→Option (GTree×Int))(a0:GSchema)(a1:GMessage)(a2:List UInt8)(a3:Int):Option (GTree×Int):=
 if 10<a3 then some ((⟨0,0,[],[],[]⟩:GTree),10) else (xM a2).bind fun g=>if g.2=0 then zz.l xb a0 a1 a3 g.1 [] [] else some ((⟨0,0,[],[],[]⟩:GTree),g.2)
structure Loop (τ:Store)(a0:GSchema)(a1:GMessage)(ever rver:Nat)(L:List Ent)(rest:List GRaw):Prop where
 h0:Store.at τ 0 0=some (encGSchema a0)
 h1:Store.at τ 1 0=some (encGMessage a1)
 h2:Store.at τ 2 0=some [.int .i64 0,.int .i64 0,.str [],.ds true [] 0 true,.ds true [] 0 true]
 rep:Rep τ 3 4 ever L
 h5:Store.at τ 5 rver=some (rest.flatMap encGRaw)
 ids:∀ y∈L,6≤y.id
theorem Loop.app {τ:Store}{a0:GSchema}{a1:GMessage}{ever rver:Nat}{L:List Ent}{rest:List GRaw}(h:Loop τ a0 a1 ever rver L rest)(l:Store):Loop (τ++l) a0 a1 ever rver L rest:=
 ⟨xE h.h0 l,xE h.h1 l,xE h.h2 l,h.rep.app l,xE h.h5 l,h.ids⟩
theorem Yt {σ:Store}{keep:List Nat}{e:Int}:tell σ keep true 12 (.tup [.agg [.int .i64 0,.int .i64 0,.str [],.ds true [] 0 true,.ds true [] 0 true],.int .i64 e])=.tup [.agg (cellsGTree ⟨0,0,[],[],[]⟩),.int .i64 e]:=by
 simp only[tell_tup,qE,qw,tell_agg,YD,Xh,YK]
 rfl
theorem zz.step (zD:GSchema→GMessage→List UInt8→Int→Option (GTree×Int))(xb:GSchema→GType→GRaw→Int→Option (GTree×Int))
 (Xn:∀ (a0:GSchema) (a1:GType) (a2:GRaw) (a3:Int) (r:GTree×Int),xb a0 a1 a2 a3=some r→ACalls qh 66 [.agg (encGSchema a0),.agg (encGType a1),.agg (encGRaw a2),.int .i64 a3] [] (fun r' _=>r'=.tup [.agg (cellsGTree r.1),.int .i64 r.2]))
 (a0:GSchema) (a1:GMessage) (a2:List UInt8) (a3:Int) (r:GTree×Int) (h:zz.body zD xb a0 a1 a2 a3=some r):
 ACalls qh 41 [.agg (encGSchema a0),.agg (encGMessage a1),.ds true (qe encB a2) (qc a2) false,.int .i64 a3] [] (fun r' _=>r'=.tup [.agg (cellsGTree r.1),.int .i64 r.2]):=by
 have ev_one:=fun a0 a1 a2 a3 r h σ=>(Xn a0 a1 a2 a3 r h).pureAt (by simp only[AV.canon,canonL,canon_all,qR,qy,qP,encGRaw,encGSchema,encGType]) (by simp only[AV.canon,canonL,canon_all,qR,qy,qP,cellsGTree]) σ
 refine zf (rs:=[.cell 8 30,.tmp 9]) tok Tryz.func41 rfl Tryz.ntmps41 rfl Tryz.call41 (by simp) ?_;refine zk [(0,.agg (encGSchema a0)),(1,.agg (encGMessage a1)),(2,.ds true (qe encB a2) (qc a2) false),(3,.int .i64 a3)] ⟨rfl,rfl,rfl,rfl,trivial⟩ ?_;unfold zz.body at h
 refine rg tok [2,3,4,5,8,9] fun K hK=>?_
 simp only[go_sem,qb,qa,qd,reduceCtorEq,encGSchema,encGMessage];apply hK
 clear hK K
 refine za fun Z hZ=>?_
 refine rg tok [2,3,4,5,8,9,21] fun K hK=>?_
 simp only[go_sem,qb,qa];apply hK
 clear hK K
 refine zq rfl (fun hc=>?_) (fun hc=>?_)
 · rw[if_pos hc] at h;obtain rfl:=Option.some.inj h
   refine rg tok [8,9] fun K hK=>?_
   simp only[go_sem,qb,qf,qa,qd];apply hK
   clear hK K
   refine yz ?_;simp only[ZL,yT,xd,xZ,exists_eq_left',go_sem,qf,qa,qd];exact Yt
 rw[if_neg hc] at h;obtain⟨g,hg,h⟩:=bind_some h;refine zd ?_;refine hZ _ _ ?_
 clear hZ Z
 refine rc [3,4,5,8,9,10,11] fun K hK=>?_
 refine zi tok 1 ?_;simp only[go_sem,qb,qa];refine wh rfl rfl rfl (xM.ev a2 g hg _) ?_;rintro _ _ ⟨rfl,hσ⟩
 rw[hσ]; clear hσ
 refine zi tok 5 ?_;simp only[go_sem,qb,qa,qd];refine zb ?_;simp only[zj,upd,qa,reduceIte,yu,xe];apply hK
 clear hK K
 refine za fun Z hZ=>?_
 refine rg tok [3,4,5,8,9,10,11,29] fun K hK=>?_
 simp only[go_sem,qb,qa];apply hK
 clear hK K
 refine zq rfl (fun hc2=>?_) (fun hc2=>?_)
 · rw[if_neg hc2] at h;obtain rfl:=Option.some.inj h
   refine rg tok [8,9] fun K hK=>?_
   simp only[go_sem,qb,qf,qa,qd];apply hK
   clear hK K
   refine yz ?_;simp only[ZL,yT,xd,xZ,exists_eq_left',go_sem,qf,qa,qd];exact Yt
 rw[if_pos hc2] at h;refine zd ?_;refine hZ _ _ ?_
 clear hZ Z
 refine rg tok [3,4,5,8,9,10,12] fun K hK=>?_
 simp only[go_sem,qb,qf,qa,qd];apply hK
 clear hK K
 refine Zq 3 3 2 rfl (by simp) rfl (L:=[(3,.int .i64 a3),(4,.op 0 0 0),(5,.op 1 0 0),(8,.op 2 0 0),(9,.int .i64 0),(10,.ds true (qe encGRaw g.1) (qc g.1) false),(12,.op 3 0 0)]) (.same ⟨rfl,rfl,rfl,rfl,rfl,rfl,rfl,trivial⟩ rfl) ?_
 refine rg tok [3,4,5,8,9,10,12,13] fun K hK=>?_
 simp only[go_sem,qb,qa,qd];apply hK
 clear hK K
 refine wN 13 4 rfl ?_;refine zU (L:=[(3,.int .i64 a3),(4,.op 0 0 0),(5,.op 1 0 0),(8,.op 2 0 0),(9,.int .i64 0),(10,.ds true (qe encGRaw g.1) (qc g.1) false),(12,.op 3 0 0),(13,.os true 4 5 0 0 0 false)]) (.same ⟨rfl,rfl,rfl,rfl,rfl,rfl,rfl,rfl,trivial⟩ rfl) ?_
 refine za fun Z hZ=>?_
 refine yP 10 fun hb=>?_
 replace hb:qc g.1≤9223372036854775807:=hb.1
 refine rg tok [3,4,5,8,9,12,13,33,34,35] fun K hK=>?_
 simp only[go_sem,qb,qa];apply hK
 clear hK K
 refine ze ?_
 refine zp (fun k F τ=>∃ (p q:List GRaw) (i:Int) (L:List Ent) (rest:List GRaw) (ever rver:Nat),k=q.length∧F=[(3,AV.int .i64 a3),(4,.op 0 0 0),(5,.op 1 0 0),(8,.op 2 0 0),(9,.int .i64 0),(12,.op 3 0 0),(13,.os true 4 5 rver 0 rest.length false),(33,.ds true (qe encGRaw g.1) (qc g.1) false),(34,.int .i64 (qc g.1:Int)),(35,.int .i64 i)]∧Loop τ a0 a1 ever rver L rest∧g.1=p++q∧i=(p.length:Int)∧zz.l xb a0 a1 a3 q (L.map Ent.val) rest=some r) g.1.length
  ⟨[],g.1,0,[],[],0,0,rfl,rfl,⟨rfl,rfl,rfl,⟨rfl,rfl,fun _ h=>(by cases h),by simp⟩,rfl,fun _ h=>(by cases h)⟩,rfl,rfl,h⟩ (.same ⟨rfl,rfl,rfl,rfl,rfl,rfl,rfl,rfl,rfl,rfl,trivial⟩ rfl) ?_
 clear h
 rintro k _ τ ⟨p,q,i,L,rest,ever,rver,rfl,rfl,hL,hE,hi,h⟩
 refine rg tok [3,4,5,8,9,12,13,33,34,35,36] fun K hK=>?_
 simp only[go_sem,qb,qa];apply hK
 clear hK K
 refine za fun Y hY=>?_
 rcases q with _|⟨y,q⟩
 · have hz:=yl hE hi;refine zq rfl (fun hc=>absurd hc (by rw[hz]; exact id)) (fun _=>?_);refine zr ?_;simp only[zj,go_sem];simp only[zz.l] at h;obtain⟨u,hu,h⟩:=bind_some h;have hrm:=of_eq_true (yf hu);obtain⟨es',hes,h⟩:=bind_some h;obtain⟨rr,hrr,h⟩:=bind_some h;obtain rfl:=Option.some.inj h
   have hid:∀ y∈L,ZO [2,3,4] y.id 0=none:=by
    intro y hy
    have:=hL.ids y hy;simp only[wG,wJ];rw[if_neg (by omega),if_neg (by omega),if_neg (by omega)]
   have hget:∀ {j v:Nat} {cs:List AV},Store.at τ j v=some cs→τ.getD j .dead=.cells v cs:=by
    intro j v cs hj
    rw[qu,Store.at_some hj]; rfl
   have hl4:(rest.flatMap encGRaw).length=rest.length*4:=zt E28.len rest;have hcells:=hL.rep.toldC [2,3,4] false 10 hid
   have htS:tellS τ [2,3,4] false 12=[.cells 0 [.int .i64 0,.int .i64 0,.str [],.ds true [] 0 true,.ds true [] 0 true],.cells 0 [.int .i64 3,.int .i64 0,.str [],.os true 2 2 ever 0 (L.map Ent.val).length false,.ds true [] 0 true],.cells ever ((L.map Ent.val).flatMap encGEntry)]:=by
    simp only[tellS,qE,qw,hget hL.h2,hget hL.rep.t,hget hL.rep.e,Xi,YD,Xh,YK,Zl,wG,wJ,qa,if_true,if_false,hcells,q7,qZ,qy,qV,qd]
   have hrest:tell τ [2,3,4] false 12 (.os true 4 5 rver 0 rest.length false)=.ds true (rest.flatMap encGRaw) rest.length false:=by
    simp only[Zl,wG,wJ,qa,if_false,hL.h5];rw[if_pos (by rw[hl4]; omega),qC,← hl4,ui,zP]
   have hmsg:tell τ [2,3,4] false 12 (.op 1 0 0)=.dp (encGMessage a1) 0:=by
    simp only[tell_op,wG,wJ,qa,if_false,hL.h1,encGMessage,qE,qw,Xh,YK,zP,qZ,qy,qV]
   have hk3:[2,3,4].Nodup:=by decide
   have hlt5:=Store.at_lt hL.h5;refine hZ _ _ ?_;refine zU (L:=[(5,.dp (encGMessage a1) 0),(8,.op 0 0 0),(12,.op 1 0 0),(13,.ds true (rest.flatMap encGRaw) rest.length false)]) (.told [2,3,4] false hk3 (by intro id hid'; simp at hid'; omega) rfl htS ⟨hmsg,rfl,rfl,hrest,trivial⟩) ?_
   refine rc [8,12,13] fun K hK=>?_
   refine zi tok 3 ?_;simp only[go_sem,qb,qa,qd,q7];have hdel:=DeleteFunc_at (σ:=[.cells 0 [.int .i64 0,.int .i64 0,.str [],.ds true [] 0 true,.ds true [] 0 true],.cells 0 [.int .i64 3,.int .i64 0,.str [],.os true 2 2 ever 0 L.length false,.ds true [] 0 true],.cells ever ((L.map Ent.val).flatMap encGEntry)]) (id:=2) (ver:=ever) (nl:=true) a1 (by simp only[Store.at_hd,Store.at_tl,if_true]) hes (by omega);rw[q7] at hdel;refine wh rfl rfl rfl hdel ?_;rintro _ _ ⟨cs,g',rfl,rfl⟩;refine zi tok 2 ?_;simp only[go_sem,qb,qf,qa,qd,qH,qx,uv,uk];refine zb ?_;simp only[zj,upd,qa,reduceIte,yu,xe];apply hK
   clear hK K
   refine rc [8,12] fun K hK=>?_
   refine zi tok 1 ?_;simp only[go_sem,qb,qa];refine wh rfl rfl rfl (zO.ev rest rr hrr _) ?_;rintro _ _ ⟨rfl,hσ⟩
   rw[hσ]; clear hσ
   refine zi tok 2 ?_;simp only[go_sem,qb,qf,qa,qd,uv,uk];refine zb ?_;simp only[zj,upd,qa,reduceIte,yu,xe];apply hK
   clear hK K
   refine rg tok [8,9] fun K hK=>?_
   simp only[go_sem,qb,qf,qa,qd,uv,uk];apply hK
   clear hK K
   refine yz ?_;simp only[ZL,yT,xd,xZ,exists_eq_left',go_sem,qf,qa,qd];have hle:(es'.flatMap encGEntry).length=es'.length*2:=zt E27.len es';simp only[tell_tup,qE,qw,tell_agg,YD,Xh,YK,Zl,wJ,Store.at_hd,Store.at_tl,if_true,zP,cellsGTree,GTree.fKind,GTree.fN,GTree.fS,GTree.fEntries,GTree.fRest];rw[if_pos (by rw[qi,hle]; omega),qC,← hle,List.take_left,zP]
   rfl
 obtain⟨hz,hw,hx,hE',hi'⟩:=zV hE hi hb;refine zq rfl (fun _=>?_) (fun hc=>absurd (of_eq_true hz) hc);refine zd ?_;refine hY _ _ ?_
 clear hY Y
 refine za fun X hX=>?_
 have fin:∀ (F:Fr) (τ':Store) (L':List Ent) (rest':List GRaw) (ever' rver':Nat),Fits F [(3,AV.int .i64 a3),(4,.op 0 0 0),(5,.op 1 0 0),(8,.op 2 0 0),(9,.int .i64 0),(12,.op 3 0 0),(13,.os true 4 5 rver' 0 rest'.length false),(33,.ds true (qe encGRaw g.1) (qc g.1) false),(34,.int .i64 (qc g.1:Int)),(35,.int .i64 i)]→Loop τ' a0 a1 ever' rver' L' rest'→zz.l xb a0 a1 a3 q (L'.map Ent.val) rest'=some r→X F τ':=by
  intro F τ' L' rest' ever' rver' hF hL' h'
  refine hX _ _ (zU (.same hF rfl) ?_)
  refine rgE tok [3,4,5,8,9,12,13,33,34,35] fun K hK=>?_
  simp only[go_sem,qb,qa,hw];apply hK
  clear hK K
  simp only[zj];exact⟨q.length,_,_,by simp,⟨p++[y],q,i+1,L',rest',ever',rver',rfl,rfl,hL',hE',hi',h'⟩,.same ⟨rfl,rfl,rfl,rfl,rfl,rfl,rfl,rfl,rfl,rfl,trivial⟩ rfl⟩
 clear hX
 refine ze ?_;have hix:=E28.idxS hx;have hld:=E28.loadS rfl rfl hx
 have hae:∀ (τ:Store) cs,Store.at (τ++[.cells 0 cs]) τ.length 0=some cs:=fun τ cs=>ZT τ cs []
 have hse:∀ (τ:Store) cs cs',(τ++[ZN.cells 0 cs]).set τ.length (.cells 0 cs')=τ++[.cells 0 cs']:=fun τ cs cs'=>set_mid τ _ _ []
 refine rg tok [3,4,5,8,9,12,13,15,33,34,35] fun K hK=>?_
 simp only[go_sem,qb,qf,qa,qd,hix,hld,encGRaw,hae,hse,qj,ql,uk,uv];apply hK
 clear hK K
 simp only[zz.l] at h;obtain⟨f,hf,h⟩:=zQ h;have hL1:=hL.app [.cells 0 [.int .i64 y.fTag,.int .i64 y.fWire,.int .i64 y.fN,.str y.fB]];have hr1:=ZT τ [.int .i64 y.fTag,.int .i64 y.fWire,.int .i64 y.fN,.str y.fB] []
 generalize τ.length=k1 at *
 generalize τ++[.cells 0 [.int .i64 y.fTag,.int .i64 y.fWire,.int .i64 y.fN,.str y.fB]]=τ1 at *
 have hm1:=hL1.h1;have hs1:=hL1.h0;simp only[encGMessage] at hm1;simp only[encGSchema] at hs1
 refine rc [3,4,5,8,9,12,13,15,16,17,33,34,35] fun K hK=>?_
 refine zi tok 3 ?_;simp only[go_sem,qb,qf,qa,qd,hm1,hr1,qj,ql];refine wh rfl rfl rfl (zw.ev a1 y.fTag f hf _) ?_;rintro _ _ ⟨rfl,hσ⟩
 rw[hσ]; clear hσ
 refine zi tok 6 ?_;simp only[go_sem,qb,qf,qa,qd,encGField,hae,hse,qj,ql,uk,uv];refine zb ?_;simp only[zj,upd,qa,reduceIte,yu,xe];apply hK
 clear hK K
 have hL2:=hL1.app [.cells 0 [.str f.1.fName,.int .i64 f.1.fTag,.int .i64 f.1.fLabel,.int .i64 f.1.fType.fKind,.str f.1.fType.fName]];have hr2:=xE hr1 [.cells 0 [.str f.1.fName,.int .i64 f.1.fTag,.int .i64 f.1.fLabel,.int .i64 f.1.fType.fKind,.str f.1.fType.fName]];have hm2:=xE hs1 [.cells 0 [.str f.1.fName,.int .i64 f.1.fTag,.int .i64 f.1.fLabel,.int .i64 f.1.fType.fKind,.str f.1.fType.fName]];have hf2:=ZT τ1 [.str f.1.fName,.int .i64 f.1.fTag,.int .i64 f.1.fLabel,.int .i64 f.1.fType.fKind,.str f.1.fType.fName] []
 clear hm1 hs1 hr1
 generalize τ1.length=k2 at *
 generalize τ1++[.cells 0 [.str f.1.fName,.int .i64 f.1.fTag,.int .i64 f.1.fLabel,.int .i64 f.1.fType.fKind,.str f.1.fType.fName]]=τ2 at *
 refine za fun Y hY=>?_
 refine rg tok [3,4,5,8,9,12,13,15,16,17,33,34,35,47] fun K hK=>?_
 simp only[go_sem,qb,qa];apply hK
 clear hK K
 have hb2:∀ (b:Bool),(!b)=true→b=false:=by decide
 refine zm (b := !f.2) rfl (fun hc3=>?_) (fun hc3=>?_)
 · have hc4:f.2=false:=by simpa using hc3
   rw[xQ hc4] at h;obtain⟨u,hu,h⟩:=bind_some h;have hrm:=yf hu;have hL5:=hL2.h5;have hl4:(rest.flatMap encGRaw).length=rest.length*4:=zt E28.len rest
   refine rg tok [3,4,5,8,9,12,13,33,34,35] fun K hK=>?_
   have hlit:=ZT τ2 [.int .i64 y.fTag,.int .i64 y.fWire,.int .i64 y.fN,.str y.fB] [];have hat5:=xE hL5 [.cells 0 [.int .i64 y.fTag,.int .i64 y.fWire,.int .i64 y.fN,.str y.fB]]
   have hap:z6 tab 28 28 (.os true 4 5 rver 0 rest.length false) (.os true 4 τ2.length 0 0 1 true) (τ2++[.cells 0 [.int .i64 y.fTag,.int .i64 y.fWire,.int .i64 y.fN,.str y.fB]])=
    some (.os true 4 5 (rver+1) 0 (rest.length+1) false,u4 (τ2++[.cells 0 [.int .i64 y.fTag,.int .i64 y.fWire,.int .i64 y.fN,.str y.fB]]) 5 (.cells (rver+1) (rest.flatMap encGRaw++[.int .i64 y.fTag,.int .i64 y.fWire,.int .i64 y.fN,.str y.fB]))):=by
    have e1:yj (τ2++[.cells 0 [.int .i64 y.fTag,.int .i64 y.fWire,.int .i64 y.fN,.str y.fB]]) 4 (.os true 4 τ2.length 0 0 1 true)=some (1,[.int .i64 y.fTag,.int .i64 y.fWire,.int .i64 y.fN,.str y.fB]):=by
     simp only[yj,hlit]; simp
    simp only[z6,tab_28,tab_62,e1,ym,zJ,hat5,hl4,hrm]
    simp[AV.one]
   simp only[go_sem,qb,qf,qa,qd,qt,hr2,zC,z7,q3,qT,true_and,ub,qj,ql,hap];apply hK
   clear hK K
   refine zr ?_;simp only[go_sem,reduceCtorEq]
   have hLs:Loop (u4 (τ2++[.cells 0 [.int .i64 y.fTag,.int .i64 y.fWire,.int .i64 y.fN,.str y.fB]]) 5 (.cells (rver+1) (rest.flatMap encGRaw++[.int .i64 y.fTag,.int .i64 y.fWire,.int .i64 y.fN,.str y.fB]))) a0 a1 ever (rver+1) L (rest++[y]):=by
    have hL3:=hL2.app [.cells 0 [.int .i64 y.fTag,.int .i64 y.fWire,.int .i64 y.fN,.str y.fB]];refine⟨zY hL3.h0 (by decide) _,zY hL3.h1 (by decide) _,zY hL3.h2 (by decide) _,hL3.rep.set_ne (fun hm=>?_) _,?_,hL3.ids⟩
    · simp only[qB,ud] at hm
      rcases hm with h|h|⟨z,hz,h⟩
      · cases h
      · cases h
      have:=hL3.ids z hz; omega
    rw[Store.at_set hL3.h5,qS]
    simp[encGRaw]
   exact fin _ _ L (rest++[y]) ever (rver+1) ⟨rfl,rfl,rfl,rfl,rfl,rfl,by rw[qi]; rfl,rfl,rfl,rfl,trivial⟩ hLs h
 have hc4:f.2=true:=by simpa using hc3
 rw[if_pos hc4] at h;refine zd ?_;refine hY _ _ ?_
 clear hY Y
 obtain⟨x,hx1,h⟩:=bind_some h;have hty:AV.agg (encGType f.1.fType)=.agg [.int .i64 f.1.fType.fKind,.str f.1.fType.fName]:=rfl
 refine rc [3,4,5,8,9,12,13,16,18,19,33,34,35] fun K hK=>?_
 refine zi tok 5 ?_;simp only[go_sem,qb,qf,qa,qd,hm2,hr2,hf2,qj,ql,List.drop_succ_cons,qC,List.take_succ_cons,List.take_zero];refine wh rfl rfl rfl (ev_one a0 f.1.fType y a3 x hx1 _) ?_;rintro _ _ ⟨rfl,hσ⟩
 rw[hσ]; clear hσ
 refine zi tok 6 ?_;simp only[go_sem,qb,qf,qa,qd,cellsGTree,hae,hse,qj,ql,uk,uv];refine zb ?_;simp only[zj,upd,qa,reduceIte,yu,xe];apply hK
 clear hK K hr2 hm2
 obtain⟨xc,hxc⟩:∃ xc,xc=[AV.int .i64 x.1.fKind,.int .i64 x.1.fN,.str x.1.fS,.ds true (qe encGEntry x.1.fEntries) x.1.fEntries.length false,.ds true (qe encGRaw x.1.fRest) x.1.fRest.length false]:=⟨_,rfl⟩
 rw[← hxc];have hL3:=hL2.app [.cells 0 xc];have hf3:=xE hf2 [.cells 0 xc];have hx3:=ZT τ2 xc []
 clear hf2 hL2
 generalize τ2.length=k3 at *
 generalize τ2++[.cells 0 xc]=τ3 at *
 subst hxc
 refine za fun Y hY=>?_
 refine rg tok [3,4,5,8,9,12,13,16,18,19,33,34,35,62] fun K hK=>?_
 simp only[go_sem,qb,qa];apply hK
 clear hK K
 have h23:=hL3.h2;have h24:=Store.at_set (ver':=0) (cs':=[.int .i64 0,.int .i64 0,.str [],.ds true [] 0 true,.ds true [] 0 true]) h23;refine zq rfl (fun hc5=>?_) (fun hc5=>?_)
 · rw[if_neg hc5] at h;obtain rfl:=Option.some.inj h
   refine rg tok [8,9] fun K hK=>?_
   simp only[go_sem,qb,qf,qa,qd,h23,qj,ql,uk,uv];apply hK
   clear hK K
   refine yz ?_;simp only[vac,ZL,yT,xd,xZ,exists_eq_left',go_sem,qf,qa,qd,h24,qj,ql];exact Yt
 rw[if_pos hc5] at h;obtain⟨pp,hp,h⟩:=bind_some h;refine zd ?_;refine hY _ _ ?_
 clear hY Y
 refine rc [3,4,5,8,9,12,13,33,34,35,68] fun K hK=>?_
 refine zi tok 2 ?_;simp only[go_sem,qb,qf,qa,qd,hf3,hx3,qj,ql];refine wh rfl rfl rfl (put_at hL3.rep f.1 x.1 (es':=pp.1) (b:=pp.2) hp) ?_;rintro _ τ4 ⟨ever',L',rfl,hR4,he4,hid4,hle4,hfr4⟩;refine zi tok 1 ?_;simp only[go_sem,qb,qa];refine zb ?_;simp only[zj,upd,qa,reduceIte,yu,xe];apply hK
 clear hK K
 have hkeep:∀ {j v:Nat} {cs:List AV},Store.at τ3 j v=some cs→j<6→j≠3→j≠4→Store.at τ4 j v=some cs:=by
  intro j v cs hj h6 h3 h4
  have hlt:=Store.at_lt hj;unfold Store.at at hj ⊢;rw[hfr4 j hlt (fun hm=>?_)]
  · exact hj
  simp only[qB,ud] at hm
  rcases hm with h|h|⟨z,hz,h⟩
  · exact h3 h
  · exact h4 h
  have:=hL3.ids z hz; omega
 have h45:6≤τ3.length:=by
  have:=Store.at_lt hL3.h5; omega
 have hL4:Loop τ4 a0 a1 ever' rver L' rest:=by
  refine⟨hkeep hL3.h0 (by decide) (by decide) (by decide),hkeep hL3.h1 (by decide) (by decide) (by decide),hkeep hL3.h2 (by decide) (by decide) (by decide),hR4,hkeep hL3.h5 (by decide) (by decide) (by decide),fun z hz=>?_⟩
  rcases hid4 z hz with h|h
  · obtain⟨w,hw,h'⟩:=ud.1 h
    have:=hL3.ids w hw; omega
  omega
 have h43:=hL4.h2;have h44:=Store.at_set (ver':=0) (cs':=[.int .i64 0,.int .i64 0,.str [],.ds true [] 0 true,.ds true [] 0 true]) h43;refine zm (b := !pp.2) rfl (fun hc6=>?_) (fun hc6=>?_)
 · have hc7:pp.2=false:=by simpa using hc6
   rw[xQ hc7] at h;obtain rfl:=Option.some.inj h
   refine rg tok [8,9] fun K hK=>?_
   simp only[go_sem,qb,qf,qa,qd,h43,qj,ql,uk,uv];apply hK
   clear hK K
   refine yz ?_;simp only[vac,ZL,yT,xd,xZ,exists_eq_left',go_sem,qf,qa,qd,h44,qj,ql];exact Yt
 have hc7:pp.2=true:=by simpa using hc6
 rw[if_pos hc7] at h;refine zd ?_;simp only[ZS,zj];exact fin _ _ L' rest ever' rver ⟨rfl,rfl,rfl,rfl,rfl,rfl,rfl,rfl,rfl,rfl,trivial⟩ hL4 (by rw[he4]; exact h)
end
section
set_option maxRecDepth 8000
open Go.RowKit AM
mutual
def zz : Nat→GSchema→GMessage→List UInt8→Int→Option (GTree×Int)
 |0,_,_,_,_=>none
 |k+1,a0,a1,a2,a3=>zz.body (zz k) (zR k) a0 a1 a2 a3
def zR : Nat→GSchema→GType→GRaw→Int→Option (GTree×Int)
 |0,_,_,_,_=>none
 |k+1,a0,a1,a2,a3=>zR.body (zz k) (zR k) a0 a1 a2 a3
end
theorem zz.all (k:Nat):
 (∀ (a0:GSchema) (a1:GMessage) (a2:List UInt8) (a3:Int) (r:GTree×Int),zz k a0 a1 a2 a3=some r→ACalls qh 41 [.agg (encGSchema a0),.agg (encGMessage a1),.ds true (qe encB a2) (qc a2) false,.int .i64 a3] [] (fun r' _=>r'=.tup [.agg (cellsGTree r.1),.int .i64 r.2]))∧
 (∀ (a0:GSchema) (a1:GType) (a2:GRaw) (a3:Int) (r:GTree×Int),zR k a0 a1 a2 a3=some r→ACalls qh 66 [.agg (encGSchema a0),.agg (encGType a1),.agg (encGRaw a2),.int .i64 a3] [] (fun r' _=>r'=.tup [.agg (cellsGTree r.1),.int .i64 r.2])):=by
 induction k with
 |zero=>exact⟨fun a0 a1 a2 a3 r h=>(by simp only[zz] at h; cases h),fun a0 a1 a2 a3 r h=>(by simp only[zR] at h; cases h)⟩
 |succ k ih=>
  exact⟨fun a0 a1 a2 a3 r h=>zz.step (zz k) (zR k) ih.2 a0 a1 a2 a3 r (by simpa only [zz] using h),
   fun a0 a1 a2 a3 r h=>zR.step (zz k) (zR k) ih.1 ih.2 a0 a1 a2 a3 r (by simpa only [zR] using h)⟩
theorem zz.ok (k:Nat)(a0:GSchema)(a1:GMessage)(a2:List UInt8)(a3:Int)(r:GTree×Int)(h:zz k a0 a1 a2 a3=some r):ACalls qh 41 [.agg (encGSchema a0),.agg (encGMessage a1),.ds true (qe encB a2) (qc a2) false,.int .i64 a3] [] (fun r' _=>r'=.tup [.agg (cellsGTree r.1),.int .i64 r.2]):=
 (zz.all k).1 a0 a1 a2 a3 r h
theorem zz.ev (k:Nat)(a0:GSchema)(a1:GMessage)(a2:List UInt8)(a3:Int)(r:GTree×Int)(h:zz k a0 a1 a2 a3=some r)(σ:Store):ACalls qh 41 [.agg (encGSchema a0),.agg (encGMessage a1),.ds true (qe encB a2) (qc a2) false,.int .i64 a3] σ (fun r' σ'=>r'=.tup [.agg (cellsGTree r.1),.int .i64 r.2]∧σ'=σ):=
 (zz.ok k a0 a1 a2 a3 r h).pureAt (by simp only[AV.canon,canonL,canon_all,qR,qy,qP,encGMessage,encGSchema]) (by simp only[AV.canon,canonL,canon_all,qR,qy,qP,cellsGTree]) σ
end
section
set_option maxRecDepth 4000
set_option maxHeartbeats 1000000
open AM
def Zi (a0:List UInt8)(a1:Int):Option Int:=
 (if (qc a0:Int)≤a1 then some true else (Zv a0 a1).bind fun b2=>some (decide ((b2.toNat:Int)<128))).bind fun c2=>(if c2=true then some true else (Zv a0 a1).bind fun b7=>some (decide (191<(b7.toNat:Int)))).bind fun c7=>(if c7=true then some (-1) else (Zv a0 a1).bind fun b11=>some (IntKind.i64.wrap ((IntKind.i64.wrap (b11.toNat:Int))-128)))
theorem Zi.ok (a0:List UInt8)(a1:Int)(r:Int)(h:Zi a0 a1=some r):ACalls qh 146 [.str a0,.int .i64 a1] [] (fun r' _=>r'=.int .i64 r):=by
 refine zf (rs:=[.tmp 4]) tok Tryz.func146 rfl Tryz.ntmps146 rfl Tryz.call146 (by simp) ?_;refine zk [(0,.str a0),(1,.int .i64 a1)] ⟨rfl,rfl,trivial⟩ ?_;unfold Zi at h;refine rgN [0,1] ?_
 refine za fun Z1 hZ1=>?_
 refine rc [0,1,20] fun K hK=>?_
 refine rnN 5 ?_;obtain⟨c2,hc2,h⟩:=bind_some h;refine zh 5 (fun L τ=>L=[(0,.str a0),(1,.int .i64 a1),(14,.bool c2)]∧τ=[]) ?_ ?_
 · refine yw 9 rfl (fun hg9=>?_) (fun hg9=>?_)
   · have t3:=eq_true hg9;rw[if_pos hg9] at hc2;refine rnN 5 ?_;cases hc2;refine zb ⟨rfl,_,_,⟨rfl,rfl⟩,.p t3⟩
   have t4:=eq_false hg9;rw[if_neg hg9] at hc2;obtain⟨b5,hb5,hc2⟩:=bind_some hc2;have f6:=idx_str (T:=tab) (t:=9) rfl rfl hb5;refine zi tok 5 ?_;simp only[go_sem,qb,qa,reduceCtorEq,f6];cases hc2;refine zb ⟨rfl,_,_,⟨rfl,rfl⟩,.p t4⟩
 rintro _ _ ⟨rfl,rfl⟩;refine rnN 1 ?_;obtain⟨c7,hc7,h⟩:=bind_some h;refine zh 5 (fun L τ=>L=[(0,.str a0),(1,.int .i64 a1),(20,.bool c7)]∧τ=[]) ?_ ?_
 · refine zH (b:=c2) 15 rfl (fun hg15=>?_) (fun hg15=>?_)
   · rw[if_pos hg15] at hc7;refine rnN 5 ?_;cases hc7;refine zb ⟨rfl,_,_,⟨rfl,rfl⟩,.b hg15⟩
   rw[xQ hg15] at hc7;obtain⟨b8,hb8,hc7⟩:=bind_some hc7;have f9:=idx_str (T:=tab) (t:=9) rfl rfl hb8;refine zi tok 5 ?_;simp only[go_sem,qb,qa,reduceCtorEq,f9];cases hc7;refine zb ⟨rfl,_,_,⟨rfl,rfl⟩,.b hg15⟩
 rintro _ _ ⟨rfl,rfl⟩;refine nkN hK ?_;refine zm (b:=c7) rfl (fun hc10=>?_) (fun hc10=>?_)
 · rw[if_pos hc10] at h;refine rgN [4] ?_;cases h;exact rtA
 rw[xQ hc10] at h;apply zd;apply hZ1;obtain⟨b11,hb11,h⟩:=bind_some h;have f12:=idx_str (T:=tab) (t:=9) rfl rfl hb11;have f13:=yW (T:=tab) (src:=5) (dst:=3) rfl rfl rfl
 refine rg tok [4] fun K hK=>?_
 simp only[go_sem,qb,qa,reduceCtorEq,f12,f13];apply hK
 cases h;exact rtA
theorem Zi.ev (a0:List UInt8)(a1:Int)(r:Int)(h:Zi a0 a1=some r)(σ:Store):ACalls qh 146 [.str a0,.int .i64 a1] σ (fun r' σ'=>r'=.int .i64 r∧σ'=σ):=
 (Zi.ok a0 a1 r h).c σ
def yG.l17 (a0:List UInt8)(a1:Int)(x8:Int)(x10:Int):Nat→Int→Int→Option (Int×Int×Bool)
 |0,_,_=>none
 |k17+1,x13,x14=>(if x14<x8 then (Zi a0 (IntKind.i64.wrap (a1+x14))).bind fun r22=>(if r22<0 then some (0,0,false) else ((yG.l17 a0 a1 x8 x10 k17) (IntKind.i64.wrap ((IntKind.i64.wrap (64*x13))+r22)) (IntKind.i64.wrap (x14+1)))) else (if (((decide (x13<x10))||(decide (1114111<x13)))||((decide (55296≤x13))&&(decide (x13≤57343))))=true then some (0,0,false) else some (IntKind.i32.wrap x13,x8,true)))
def yG.j11 (a0:List UInt8)(a1:Int)(x8:Int)(x9:Int)(x10:Int):Option (Int×Int×Bool):=
 (yG.l17 a0 a1 x8 x10 rounds x9 1)
def yG (a0:List UInt8)(a1:Int):Option (Int×Int×Bool):=
 (if ((decide (a1<0))||(decide ((qc a0:Int)≤a1)))=true then some (0,0,false) else (Zv a0 a1).bind fun b5=>(if IntKind.i64.wrap (b5.toNat:Int)<128 then some (IntKind.i32.wrap (IntKind.i64.wrap (b5.toNat:Int)),1,true) else (if ((decide (192≤IntKind.i64.wrap (b5.toNat:Int)))&&(decide (IntKind.i64.wrap (b5.toNat:Int)<224)))=true then (yG.j11 a0 a1 2 (IntKind.i64.wrap ((IntKind.i64.wrap (b5.toNat:Int))-192)) 128) else (if ((decide (224≤IntKind.i64.wrap (b5.toNat:Int)))&&(decide (IntKind.i64.wrap (b5.toNat:Int)<240)))=true then (yG.j11 a0 a1 3 (IntKind.i64.wrap ((IntKind.i64.wrap (b5.toNat:Int))-224)) 2048) else (if ((decide (240≤IntKind.i64.wrap (b5.toNat:Int)))&&(decide (IntKind.i64.wrap (b5.toNat:Int)<248)))=true then (yG.j11 a0 a1 4 (IntKind.i64.wrap ((IntKind.i64.wrap (b5.toNat:Int))-240)) 65536) else some (0,0,false))))))
theorem yG.ok (a0:List UInt8)(a1:Int)(r:Int×Int×Bool)(h:yG a0 a1=some r):ACalls qh 120 [.str a0,.int .i64 a1] [] (fun r' _=>r'=.tup [.int .i32 r.1,.int .i64 r.2.1,.bool r.2.2]):=by
 refine zf (rs:=[.tmp 4,.tmp 5,.tmp 6]) tok Tryz.func120 rfl Tryz.ntmps120 rfl Tryz.call120 (by simp) ?_;refine zk [(0,.str a0),(1,.int .i64 a1)] ⟨rfl,rfl,trivial⟩ ?_;unfold yG at h;refine rgN [0,1] ?_
 refine za fun Z1 hZ1=>?_
 refine rc [0,1,20] fun K hK=>?_
 refine rnN 3 ?_;refine zh 5 (fun L τ=>L=[(0,.str a0),(1,.int .i64 a1),(20,.bool ((decide (a1<0))||(decide ((qc a0:Int)≤a1))))]∧τ=[]) ?_ ?_
 · refine yw 15 rfl (fun hg15=>?_) (fun hg15=>?_)
   · have t2:=eq_true hg15;refine rnN 5 ?_;refine zb ⟨rfl,_,_,⟨rfl,rfl⟩,.p t2⟩
   have t3:=eq_false hg15;refine rnN 5 ?_;refine zb ⟨rfl,_,_,⟨rfl,rfl⟩,.p t3⟩
 rintro _ _ ⟨rfl,rfl⟩;refine nkN hK ?_;refine zm (b:=((decide (a1<0))||(decide ((qc a0:Int)≤a1)))) rfl (fun hc4=>?_) (fun hc4=>?_)
 · rw[if_pos hc4] at h;refine rgN [4,5,6] ?_;cases h;exact rtA
 rw[xQ hc4] at h;apply zd;apply hZ1;obtain⟨b5,hb5,h⟩:=bind_some h;have f6:=idx_str (T:=tab) (t:=9) rfl rfl hb5;have f7:=yW (T:=tab) (src:=5) (dst:=3) rfl rfl rfl
 refine rg tok [0,1,7] fun K hK=>?_
 simp only[go_sem,qb,qa,reduceCtorEq,f6,f7];apply hK
 refine rgN [0,1,7] ?_;refine xG (fun L τ=>∃ (x8:Int) (x9:Int) (x10:Int),L=[(0,.str a0),(1,.int .i64 a1),(8,.int .i64 x8),(9,.int .i64 x9),(10,.int .i64 x10)]∧τ=[]∧yG.j11 a0 a1 x8 x9 x10=some r) ?_ ?_
 · apply ze;refine rgN [0,1,7,26] ?_;refine zq rfl (fun hc35=>?_) (fun hc35=>?_)
   · rw[if_pos hc35] at h;have t36:=eq_true hc35;have f37:=yW (T:=tab) (src:=3) (dst:=21) rfl rfl rfl
     refine rg tok [4,5,6] fun K hK=>?_
     simp only[go_sem,qb,qa,reduceCtorEq,t36,f37];apply hK
     cases h;exact rtA
   rw[if_neg hc35] at h;have t38:=eq_false hc35
   refine rc [0,1,7,31] fun K hK=>?_
   refine zi tok 3 ?_;simp only[go_sem,qb,qa,reduceCtorEq,t38];refine zh 3 (fun L τ=>L=[(0,.str a0),(1,.int .i64 a1),(7,.int .i64 (IntKind.i64.wrap (b5.toNat:Int))),(37,.bool ((decide (192≤IntKind.i64.wrap (b5.toNat:Int)))&&(decide (IntKind.i64.wrap (b5.toNat:Int)<224))))]∧τ=[]) ?_ ?_
   · refine yw 34 rfl (fun hg34=>?_) (fun hg34=>?_)
     · have t39:=eq_true hg34;refine rnN 3 ?_;refine zb ⟨rfl,_,_,⟨rfl,rfl⟩,.p t39⟩
     have t40:=eq_false hg34;refine rnN 3 ?_;refine zb ⟨rfl,_,_,⟨rfl,rfl⟩,.p t40⟩
   rintro _ _ ⟨rfl,rfl⟩;refine rnN 1 ?_;refine nkN hK ?_;refine zm (b:=((decide (192≤IntKind.i64.wrap (b5.toNat:Int)))&&(decide (IntKind.i64.wrap (b5.toNat:Int)<224)))) rfl (fun hc41=>?_) (fun hc41=>?_)
   · rw[if_pos hc41] at h
     refine rgE tok [0,1,8,9,10] fun K hK=>?_
     simp only[go_sem,qb,qa,reduceCtorEq];apply hK
     exact⟨_,_,⟨2,IntKind.i64.wrap ((IntKind.i64.wrap (b5.toNat:Int))-192),128,rfl,rfl,h⟩,.s⟩
   rw[xQ hc41] at h
   refine rc [0,1,7,40] fun K hK=>?_
   refine rnN 3 ?_;refine zh 3 (fun L τ=>L=[(0,.str a0),(1,.int .i64 a1),(7,.int .i64 (IntKind.i64.wrap (b5.toNat:Int))),(46,.bool ((decide (224≤IntKind.i64.wrap (b5.toNat:Int)))&&(decide (IntKind.i64.wrap (b5.toNat:Int)<240))))]∧τ=[]) ?_ ?_
   · refine yw 43 rfl (fun hg43=>?_) (fun hg43=>?_)
     · have t42:=eq_true hg43;refine rnN 3 ?_;refine zb ⟨rfl,_,_,⟨rfl,rfl⟩,.p t42⟩
     have t43:=eq_false hg43;refine rnN 3 ?_;refine zb ⟨rfl,_,_,⟨rfl,rfl⟩,.p t43⟩
   rintro _ _ ⟨rfl,rfl⟩;refine rnN 1 ?_;refine nkN hK ?_;refine zm (b:=((decide (224≤IntKind.i64.wrap (b5.toNat:Int)))&&(decide (IntKind.i64.wrap (b5.toNat:Int)<240)))) rfl (fun hc44=>?_) (fun hc44=>?_)
   · rw[if_pos hc44] at h
     refine rgE tok [0,1,8,9,10] fun K hK=>?_
     simp only[go_sem,qb,qa,reduceCtorEq];apply hK
     exact⟨_,_,⟨3,IntKind.i64.wrap ((IntKind.i64.wrap (b5.toNat:Int))-224),2048,rfl,rfl,h⟩,.s⟩
   rw[xQ hc44] at h
   refine rc [0,1,7,49] fun K hK=>?_
   refine rnN 3 ?_;refine zh 3 (fun L τ=>L=[(0,.str a0),(1,.int .i64 a1),(7,.int .i64 (IntKind.i64.wrap (b5.toNat:Int))),(55,.bool ((decide (240≤IntKind.i64.wrap (b5.toNat:Int)))&&(decide (IntKind.i64.wrap (b5.toNat:Int)<248))))]∧τ=[]) ?_ ?_
   · refine yw 52 rfl (fun hg52=>?_) (fun hg52=>?_)
     · have t45:=eq_true hg52;refine rnN 3 ?_;refine zb ⟨rfl,_,_,⟨rfl,rfl⟩,.p t45⟩
     have t46:=eq_false hg52;refine rnN 3 ?_;refine zb ⟨rfl,_,_,⟨rfl,rfl⟩,.p t46⟩
   rintro _ _ ⟨rfl,rfl⟩;refine rnN 1 ?_;refine nkN hK ?_;refine zm (b:=((decide (240≤IntKind.i64.wrap (b5.toNat:Int)))&&(decide (IntKind.i64.wrap (b5.toNat:Int)<248)))) rfl (fun hc47=>?_) (fun hc47=>?_)
   · rw[if_pos hc47] at h
     refine rgE tok [0,1,8,9,10] fun K hK=>?_
     simp only[go_sem,qb,qa,reduceCtorEq];apply hK
     exact⟨_,_,⟨4,IntKind.i64.wrap ((IntKind.i64.wrap (b5.toNat:Int))-240),65536,rfl,rfl,h⟩,.s⟩
   rw[xQ hc47] at h;refine rgN [4,5,6] ?_;cases h;exact rtA
 rintro _ _ ⟨x8,x9,x10,rfl,rfl,h⟩;unfold yG.j11 at h
 refine za fun Z12 hZ12=>?_
 refine rgN [0,1,8,9,10,11] ?_;apply ze;refine zp (fun m L τ=>∃ (k17:Nat) (x13:Int) (x14:Int),m=0+k17∧L=[(0,.str a0),(1,.int .i64 a1),(8,.int .i64 x8),(9,.int .i64 x13),(10,.int .i64 x10),(11,.int .i64 x14)]∧τ=[]∧yG.l17 a0 a1 x8 x10 k17 x13 x14=some r) _ ⟨rounds,x9,1,rfl,rfl,rfl,h⟩ .s ?_;rintro m L τ ⟨k17,x13,x14,rfl,rfl,rfl,h⟩
 rcases k17 with _|k17
 · cases h
 simp only[yG.l17] at h
 refine za fun Z18 hZ18=>?_
 refine rgN [0,1,8,9,10,11,60] ?_;refine zq rfl (fun hc19=>?_) (fun hc19=>?_)
 · rw[if_pos hc19] at h;have t20:=eq_true hc19;apply zd;apply hZ18
   refine za fun Z21 hZ21=>?_
   apply ze
   refine rc [0,1,8,9,10,11,12] fun K hK=>?_
   obtain⟨r22,hr22,h⟩:=bind_some h;refine zi tok 4 ?_;simp only[go_sem,qb,qa,reduceCtorEq,t20];refine clN rfl rfl rfl (Zi.ev a0 (IntKind.i64.wrap (a1+x14)) r22 hr22 _) ?_;refine rnN 1 ?_;refine nkN hK ?_
   refine za fun Z23 hZ23=>?_
   refine rgN [0,1,8,9,10,11,12,69] ?_;refine zq rfl (fun hc24=>?_) (fun hc24=>?_)
   · rw[if_pos hc24] at h;have t25:=eq_true hc24
     refine rg tok [4,5,6] fun K hK=>?_
     simp only[go_sem,qb,qa,reduceCtorEq,t25];apply hK
     cases h;exact rtA
   rw[if_neg hc24] at h;have t26:=eq_false hc24;apply zd;apply hZ23
   refine rgE tok [0,1,8,9,10,11] fun K hK=>?_
   simp only[go_sem,qb,qa,reduceCtorEq,t26];apply hK
   apply hZ21
   refine rgE tok [0,1,8,9,10,11] fun K hK=>?_
   simp only[go_sem,qb,qa,reduceCtorEq];apply hK
   exact⟨_,_,_,qp (0+k17),⟨k17,IntKind.i64.wrap ((IntKind.i64.wrap (64*x13))+r22),IntKind.i64.wrap (x14+1),rfl,rfl,rfl,h⟩,.s⟩
 rw[if_neg hc19] at h;have t27:=eq_false hc19;apply zr;apply hZ12
 refine za fun Z28 hZ28=>?_
 refine rc [8,9,88] fun K hK=>?_
 refine zi tok 4 ?_;simp only[go_sem,qb,qa,reduceCtorEq,t27];refine zh 3 (fun L τ=>L=[(8,.int .i64 x8),(9,.int .i64 x13),(80,.bool ((decide (x13<x10))||(decide (1114111<x13))))]∧τ=[]) ?_ ?_
 · refine yw 77 rfl (fun hg77=>?_) (fun hg77=>?_)
   · have t29:=eq_true hg77;refine rnN 3 ?_;refine zb ⟨rfl,_,_,⟨rfl,rfl⟩,.p t29⟩
   have t30:=eq_false hg77;refine rnN 3 ?_;refine zb ⟨rfl,_,_,⟨rfl,rfl⟩,.p t30⟩
 rintro _ _ ⟨rfl,rfl⟩;refine rnN 1 ?_;refine zh 7 (fun L τ=>L=[(8,.int .i64 x8),(9,.int .i64 x13),(88,.bool (((decide (x13<x10))||(decide (1114111<x13)))||((decide (55296≤x13))&&(decide (x13≤57343)))))]∧τ=[]) ?_ ?_
 · refine zH (b:=((decide (x13<x10))||(decide (1114111<x13)))) 81 rfl (fun hg81=>?_) (fun hg81=>?_)
   · refine rnN 7 ?_;refine zb ⟨rfl,_,_,⟨rfl,rfl⟩,.b hg81⟩
   refine rnN 3 ?_;refine zh 3 (fun L τ=>L=[(8,.int .i64 x8),(9,.int .i64 x13),(81,.bool false),(87,.bool ((decide (55296≤x13))&&(decide (x13≤57343))))]∧τ=[]) ?_ ?_
   · refine yw 84 rfl (fun hg84=>?_) (fun hg84=>?_)
     · have t31:=eq_true hg84;refine rnN 3 ?_;refine zb ⟨rfl,_,_,⟨rfl,rfl⟩,.p t31⟩
     have t32:=eq_false hg84;refine rnN 3 ?_;refine zb ⟨rfl,_,_,⟨rfl,rfl⟩,.p t32⟩
   rintro _ _ ⟨rfl,rfl⟩;refine rnN 1 ?_;refine zb ⟨rfl,_,_,⟨rfl,rfl⟩,.b hg81⟩
 rintro _ _ ⟨rfl,rfl⟩;refine nkN hK ?_;refine zm (b:=(((decide (x13<x10))||(decide (1114111<x13)))||((decide (55296≤x13))&&(decide (x13≤57343))))) rfl (fun hc33=>?_) (fun hc33=>?_)
 · rw[if_pos hc33] at h;refine rgN [4,5,6] ?_;cases h;exact rtA
 rw[xQ hc33] at h;apply zd;apply hZ28;have f34:=yW (T:=tab) (src:=3) (dst:=21) rfl rfl rfl
 refine rg tok [4,5,6] fun K hK=>?_
 simp only[go_sem,qb,qa,f34];apply hK
 cases h;exact rtA
theorem yG.ev (a0:List UInt8)(a1:Int)(r:Int×Int×Bool)(h:yG a0 a1=some r)(σ:Store):ACalls qh 120 [.str a0,.int .i64 a1] σ (fun r' σ'=>r'=.tup [.int .i32 r.1,.int .i64 r.2.1,.bool r.2.2]∧σ'=σ):=
 (yG.ok a0 a1 r h).c σ
def xX.l8 (a0:List UInt8):Nat→List Int→Int→Option (List Int×Bool)
 |0,_,_=>none
 |k8+1,l2,x4=>(if x4<(qc a0:Int) then (yG a0 x4).bind fun r12=>(if (!r12.2.2)=true then some (([]:List Int),false) else (Yg (qc l2+1) 4).bind fun _u15=>((xX.l8 a0 k8) (l2++[r12.1]) (IntKind.i64.wrap (x4+r12.2.1)))) else some (l2,true))
def xX (a0:List UInt8):Option (List Int×Bool):=
 (xX.l8 a0 rounds ([]:List Int) 0)
theorem xX.ok (a0:List UInt8)(r:List Int×Bool)(h:xX a0=some r):ACalls qh 78 [.str a0] [] (fun r' _=>r'=.tup [.ds true (qe (vcj .i32) r.1) (qc r.1) false,.bool r.2]):=by
 refine zf (rs:=[.tmp 2,.tmp 3]) tok Tryz.func78 rfl Tryz.ntmps78 rfl Tryz.call78 (by simp) ?_;refine zk [(0,.str a0)] ⟨rfl,trivial⟩ ?_;unfold xX at h;refine rgN [0] ?_;refine rgN [0,4] ?_;refine wN 4 1 rfl ?_;refine zU (L:=[(0,.str a0),(4,.os true 1 0 0 0 (qc ([]:List Int)) false)]) (τ:=[.cells 0 (qe (vcj .i32) ([]:List Int))]) .s ?_
 refine za fun Z1 hZ1=>?_
 refine rgN [0,4,5] ?_;apply ze;refine zp (fun m L τ=>∃ (k8:Nat) (l2:List Int) (x4:Int) (v3:Nat),m=0+k8∧L=[(0,.str a0),(4,.os true 1 0 v3 0 (qc l2) false),(5,.int .i64 x4)]∧τ=[.cells v3 (qe (vcj .i32) l2)]∧xX.l8 a0 k8 l2 x4=some r) _ ⟨rounds,([]:List Int),0,0,rfl,rfl,rfl,h⟩ .s ?_;rintro m L τ ⟨k8,l2,x4,v3,rfl,rfl,rfl,h⟩
 rcases k8 with _|k8
 · cases h
 simp only[xX.l8] at h
 refine za fun Z9 hZ9=>?_
 refine rgN [0,4,5,12] ?_;refine zq rfl (fun hc10=>?_) (fun hc10=>?_)
 · rw[if_pos hc10] at h;have t11:=eq_true hc10;apply zd;apply hZ9;apply ze
   refine rc [0,4,5,6,7,8] fun K hK=>?_
   obtain⟨r12,hr12,h⟩:=bind_some h;refine zi tok 2 ?_;simp only[go_sem,qb,qa,reduceCtorEq,t11];refine clN rfl rfl rfl (yG.ev a0 x4 r12 hr12 _) ?_;refine rnN 7 ?_;refine nkN hK ?_
   refine za fun Z13 hZ13=>?_
   refine rgN [0,4,5,6,7,21] ?_;refine zm (b:=(!r12.2.2)) rfl (fun hc14=>?_) (fun hc14=>?_)
   · rw[if_pos hc14] at h;refine rgN [2,3] ?_;cases h;exact rtA
   rw[xQ hc14] at h;apply zd;apply hZ13;obtain⟨_u15,hu15,h⟩:=bind_some h;have gu15:=yf hu15;have f16:=(zt E130.len l2)
   refine rg tok [0,4,5,7] fun K hK=>?_
   simp only[go_sem,qb,qf,qa,qt,reduceCtorEq,zC,z7,q3,qT,true_and,ub,z6,zJ,ym,gu15,f16,yJ,uc,qY,AV.one,qR,qx,qj,ql,qq,qH];apply hK
   refine zU (L:=[(0,.str a0),(4,.os true 1 0 (v3+1) 0 (qc (l2++[r12.1])) false),(5,.int .i64 x4),(7,.int .i64 r12.2.1)]) (τ:=[.cells (v3+1) (qe (vcj .i32) (l2++[r12.1])),.cells 0 [.int .i32 r12.1]]) .s ?_
   refine rgE tok [0,4,5] fun K hK=>?_
   simp only[go_sem,qb,qa,reduceCtorEq];apply hK
   exact⟨_,_,_,qp (0+k8),⟨k8,l2++[r12.1],IntKind.i64.wrap (x4+r12.2.1),v3+1,rfl,rfl,rfl,h⟩,(.t [0] false)⟩
 rw[if_neg hc10] at h;have t17:=eq_false hc10;apply zr;apply hZ1
 refine rg tok [2,3] fun K hK=>?_
 simp only[go_sem,qb,qa,reduceCtorEq,t17];apply hK
 cases h;exact rtA
theorem xX.ev (a0:List UInt8)(r:List Int×Bool)(h:xX a0=some r)(σ:Store):ACalls qh 78 [.str a0] σ (fun r' σ'=>r'=.tup [.ds true (qe (vcj .i32) r.1) (qc r.1) false,.bool r.2]∧σ'=σ):=
 (xX.ok a0 r h).c σ
def yO.l4 (a1:Int):List GField→Int→GField×Bool
 |[],x2=>((⟨[],0,0,(⟨0,[]⟩:GType)⟩:GField),false)
 |y4::q4,x2=>(if y4.fTag=a1 then (y4,true) else ((yO.l4 a1 q4) (x2+1)))
def yO (a0:GMessage)(a1:Int):GField×Bool:=
 (yO.l4 a1 a0.fFields 0)
theorem yO.ok (a0:GMessage)(a1:Int)(r:GField×Bool)(h:yO a0 a1=r):ACalls qh 73 [.agg (encGMessage a0),.int .i64 a1] [] (fun r' _=>r'=.tup [.agg (encGField r.1),.bool r.2]):=by
 refine zf (rs:=[.cell 4 57,.tmp 5]) tok Tryz.func73 rfl Tryz.ntmps73 rfl Tryz.call73 (by simp) ?_;refine zk [(0,.agg (encGMessage a0)),(1,.int .i64 a1)] ⟨rfl,rfl,trivial⟩ ?_;unfold yO at h
 refine rg tok [1,2,4] fun K hK=>?_
 simp only[go_sem,qb,qa,qd,reduceCtorEq,encGMessage];apply hK
 refine za fun Z1 hZ1=>?_
 refine rgN [1,2,4,6] ?_;apply ze
 refine xh 0 rfl fun hb4=>?_
 replace hb4:qc a0.fFields≤9223372036854775807:=hb4.2.1.1;refine zp (fun m L τ=>∃ (p4 q4:List GField) (x2:Int),m=qc q4∧L=[(1,.int .i64 a1),(2,.op 0 0 0),(4,.op 1 0 0),(6,.int .i64 x2)]∧τ=[.cells 0 (encGMessage a0),.cells 0 [.str [],.int .i64 0,.int .i64 0,.int .i64 0,.str []]]∧a0.fFields=p4++q4∧x2=(qc p4:Int)∧yO.l4 a1 q4 x2=r) _ ⟨[],a0.fFields,0,rfl,rfl,rfl,rfl,rfl,h⟩ .s ?_;rintro m L τ ⟨p4,q4,x2,rfl,rfl,rfl,hE4,hi4,h⟩
 rcases q4 with _|⟨y4,q4⟩
 · have hz4:=yl hE4 hi4;simp only[yO.l4] at h
   refine za fun Z5 hZ5=>?_
   refine rg tok [1,2,4,6,11] fun K hK=>?_
   simp only[go_sem,qb,qa,qd,hz4];apply hK
   refine zn rfl ?_;apply zr;apply hZ1;refine rgN [4,5] ?_;cases h;exact rtA
 obtain⟨hz4,hw4,hx4,hE'4,hi'4⟩:=zV hE4 hi4 hb4;simp only[yO.l4] at h
 refine za fun Z6 hZ6=>?_
 refine rg tok [1,2,4,6,11] fun K hK=>?_
 simp only[go_sem,qb,qa,qd,hz4];apply hK
 refine zo rfl ?_;apply zd;apply hZ6
 refine za fun Z7 hZ7=>?_
 apply ze;have f8:=E47.idxS hx4;have f9:=E47.fldS (f:=3) rfl rfl hx4 (o:=1) (by decide)
 refine rg tok [1,2,4,6,21] fun K hK=>?_
 simp only[go_sem,qb,qa,qd,encGField,f8,f9];apply hK
 refine zq rfl (fun hc10=>?_) (fun hc10=>?_)
 · rw[if_pos hc10] at h;have t11:=eq_true hc10;have f12:=E47.idxS hx4;have f13:=E47.loadS rfl rfl hx4
   refine rg tok [4,5] fun K hK=>?_
   simp only[go_sem,qb,qf,qa,qd,encGField,t11,f12,f13];apply hK
   cases h;exact rtA
 rw[if_neg hc10] at h;have t14:=eq_false hc10;apply zd;apply hZ7
 refine rgE tok [1,2,4,6] fun K hK=>?_
 simp only[go_sem,qb,qa,hw4,t14];apply hK
 exact⟨_,_,_,qp q4.length,⟨p4++[y4],q4,x2+1,rfl,rfl,rfl,hE'4,hi'4,h⟩,.s⟩
theorem yO.ev (a0:GMessage)(a1:Int)(r:GField×Bool)(h:yO a0 a1=r)(σ:Store):ACalls qh 73 [.agg (encGMessage a0),.int .i64 a1] σ (fun r' σ'=>r'=.tup [.agg (encGField r.1),.bool r.2]∧σ'=σ):=
 (yO.ok a0 a1 r h).c σ
def yd.l4 (a1:List UInt8):List GMessage→Int→GMessage×Bool
 |[],x2=>((⟨[],([]:List GField),([]:List Int)⟩:GMessage),false)
 |y4::q4,x2=>(if y4.fName=a1 then (y4,true) else ((yd.l4 a1 q4) (x2+1)))
def yd (a0:GSchema)(a1:List UInt8):GMessage×Bool:=
 (yd.l4 a1 a0.fMessages 0)
theorem yd.ok (a0:GSchema)(a1:List UInt8)(r:GMessage×Bool)(h:yd a0 a1=r):ACalls qh 43 [.agg (encGSchema a0),.str a1] [] (fun r' _=>r'=.tup [.agg (encGMessage r.1),.bool r.2]):=by
 refine zf (rs:=[.cell 4 49,.tmp 5]) tok Tryz.func43 rfl Tryz.ntmps43 rfl Tryz.call43 (by simp) ?_;refine zk [(0,.agg (encGSchema a0)),(1,.str a1)] ⟨rfl,rfl,trivial⟩ ?_;unfold yd at h
 refine rg tok [1,2,4] fun K hK=>?_
 simp only[go_sem,qb,qa,qd,reduceCtorEq,encGSchema];apply hK
 refine za fun Z1 hZ1=>?_
 refine rgN [1,2,4,6] ?_;apply ze
 refine xh 0 rfl fun hb4=>?_
 replace hb4:qc a0.fMessages≤9223372036854775807:=hb4.2.1.1;refine zp (fun m L τ=>∃ (p4 q4:List GMessage) (x2:Int),m=qc q4∧L=[(1,.str a1),(2,.op 0 0 0),(4,.op 1 0 0),(6,.int .i64 x2)]∧τ=[.cells 0 (encGSchema a0),.cells 0 [.str [],.ds true [] 0 true,.ds true [] 0 true]]∧a0.fMessages=p4++q4∧x2=(qc p4:Int)∧yd.l4 a1 q4 x2=r) _ ⟨[],a0.fMessages,0,rfl,rfl,rfl,rfl,rfl,h⟩ .s ?_;rintro m L τ ⟨p4,q4,x2,rfl,rfl,rfl,hE4,hi4,h⟩
 rcases q4 with _|⟨y4,q4⟩
 · have hz4:=yl hE4 hi4;simp only[yd.l4] at h
   refine za fun Z5 hZ5=>?_
   refine rg tok [1,2,4,6,11] fun K hK=>?_
   simp only[go_sem,qb,qa,qd,hz4];apply hK
   refine zn rfl ?_;apply zr;apply hZ1;refine rgN [4,5] ?_;cases h;exact rtA
 obtain⟨hz4,hw4,hx4,hE'4,hi'4⟩:=zV hE4 hi4 hb4;simp only[yd.l4] at h
 refine za fun Z6 hZ6=>?_
 refine rg tok [1,2,4,6,11] fun K hK=>?_
 simp only[go_sem,qb,qa,qd,hz4];apply hK
 refine zo rfl ?_;apply zd;apply hZ6
 refine za fun Z7 hZ7=>?_
 apply ze;have f8:=E22.idxS hx4;have f9:=E22.fldS0 (f:=9) rfl rfl hx4
 refine rg tok [1,2,4,6,21] fun K hK=>?_
 simp only[go_sem,qb,qa,qd,encGMessage,f8,f9];apply hK
 refine zq rfl (fun hc10=>?_) (fun hc10=>?_)
 · rw[if_pos hc10] at h;have t11:=eq_true hc10;have f12:=E22.idxS hx4;have f13:=E22.loadS rfl rfl hx4
   refine rg tok [4,5] fun K hK=>?_
   simp only[go_sem,qb,qf,qa,qd,encGMessage,t11,f12,f13];apply hK
   cases h;exact rtA
 rw[if_neg hc10] at h;have t14:=eq_false hc10;apply zd;apply hZ7
 refine rgE tok [1,2,4,6] fun K hK=>?_
 simp only[go_sem,qb,qa,hw4,t14];apply hK
 exact⟨_,_,_,qp q4.length,⟨p4++[y4],q4,x2+1,rfl,rfl,rfl,hE'4,hi'4,h⟩,.s⟩
theorem yd.ev (a0:GSchema)(a1:List UInt8)(r:GMessage×Bool)(h:yd a0 a1=r)(σ:Store):ACalls qh 43 [.agg (encGSchema a0),.str a1] σ (fun r' σ'=>r'=.tup [.agg (encGMessage r.1),.bool r.2]∧σ'=σ):=
 (yd.ok a0 a1 r h).c σ
def wb.l10 (a0:List UInt8)(a1:Int):Nat→Int→Int→Option (Int×Int×Int)
 |0,_,_=>none
 |k10+1,x6,x7=>(if x7<10 then (if IntKind.i64.wrap ((qc a0:Int)-a1)≤x7 then some (0,0,2) else (Zv a0 (IntKind.i64.wrap (a1+x7))).bind fun y19=>(if ((decide (x7=9))&&(decide (1<(y19.toNat:Int))))=true then some (0,0,3) else (grd (0≤IntKind.u64.wrap (IntKind.i64.wrap (7*x7)))).bind fun _u28=>(if (y19.toNat:Int)<128 then (if ((decide ((y19.toNat:Int)=0))&&(decide (0<x7)))=true then some (0,0,3) else some (IntKind.u64.wrap (x6+(IntKind.u64.wrap ((IntKind.u64.wrap (((y19.toNat:Int)).tmod 128))*2^(min (qF (IntKind.u64.wrap (IntKind.i64.wrap (7*x7)))) 64)))),IntKind.i64.wrap ((IntKind.i64.wrap (a1+x7))+1),0)) else ((wb.l10 a0 a1 k10) (IntKind.u64.wrap (x6+(IntKind.u64.wrap ((IntKind.u64.wrap (((y19.toNat:Int)).tmod 128))*2^(min (qF (IntKind.u64.wrap (IntKind.i64.wrap (7*x7)))) 64))))) (IntKind.i64.wrap (x7+1)))))) else some (0,0,3))
def wb (a0:List UInt8)(a1:Int):Option (Int×Int×Int):=
 (if ((decide (a1<0))||(decide ((qc a0:Int)<a1)))=true then some (0,0,1) else (wb.l10 a0 a1 rounds 0 0))
theorem wb.ok (a0:List UInt8)(a1:Int)(r:Int×Int×Int)(h:wb a0 a1=some r):ACalls qh 115 [.ds true (qe encB a0) (qc a0) false,.int .i64 a1] [] (fun r' _=>r'=.tup [.int .u64 r.1,.int .i64 r.2.1,.int .i64 r.2.2]):=by
 refine zf (rs:=[.tmp 4,.tmp 5,.tmp 6]) tok Tryz.func115 rfl Tryz.ntmps115 rfl Tryz.call115 (by simp) ?_;refine zk [(0,.ds true (qe encB a0) (qc a0) false),(1,.int .i64 a1)] ⟨rfl,rfl,trivial⟩ ?_;unfold wb at h;refine rgN [0,1] ?_
 refine za fun Z1 hZ1=>?_
 refine rc [0,1,17] fun K hK=>?_
 refine rnN 3 ?_;refine zh 5 (fun L τ=>L=[(0,.ds true (qe encB a0) (qc a0) false),(1,.int .i64 a1),(17,.bool ((decide (a1<0))||(decide ((qc a0:Int)<a1))))]∧τ=[]) ?_ ?_
 · refine yw 12 rfl (fun hg12=>?_) (fun hg12=>?_)
   · have t2:=eq_true hg12;refine rnN 5 ?_;refine zb ⟨rfl,_,_,⟨rfl,rfl⟩,.p t2⟩
   have t3:=eq_false hg12;refine rnN 5 ?_;refine zb ⟨rfl,_,_,⟨rfl,rfl⟩,.p t3⟩
 rintro _ _ ⟨rfl,rfl⟩;refine nkN hK ?_;refine zm (b:=((decide (a1<0))||(decide ((qc a0:Int)<a1)))) rfl (fun hc4=>?_) (fun hc4=>?_)
 · rw[if_pos hc4] at h;refine rgN [4,5,6] ?_;cases h;exact rtA
 rw[xQ hc4] at h;apply zd;apply hZ1;refine rgN [0,1,7] ?_
 refine za fun Z5 hZ5=>?_
 refine rgN [0,1,7,8] ?_;apply ze;refine zp (fun m L τ=>∃ (k10:Nat) (x6:Int) (x7:Int),m=0+k10∧L=[(0,.ds true (qe encB a0) (qc a0) false),(1,.int .i64 a1),(7,.int .u64 x6),(8,.int .i64 x7)]∧τ=[]∧wb.l10 a0 a1 k10 x6 x7=some r) _ ⟨rounds,0,0,rfl,rfl,rfl,h⟩ .s ?_;rintro m L τ ⟨k10,x6,x7,rfl,rfl,rfl,h⟩
 rcases k10 with _|k10
 · cases h
 simp only[wb.l10] at h
 refine za fun Z11 hZ11=>?_
 refine rgN [0,1,7,8,19] ?_;refine zq rfl (fun hc12=>?_) (fun hc12=>?_)
 · rw[if_pos hc12] at h;have t13:=eq_true hc12;apply zd;apply hZ11
   refine za fun Z14 hZ14=>?_
   apply ze
   refine za fun Z15 hZ15=>?_
   refine rg tok [0,1,7,8,27] fun K hK=>?_
   simp only[go_sem,qb,qa,reduceCtorEq,t13];apply hK
   refine zq rfl (fun hc16=>?_) (fun hc16=>?_)
   · rw[if_pos hc16] at h;have t17:=eq_true hc16
     refine rg tok [4,5,6] fun K hK=>?_
     simp only[go_sem,qb,qa,reduceCtorEq,t17];apply hK
     cases h;exact rtA
   rw[if_neg hc16] at h;have t18:=eq_false hc16;apply zd;apply hZ15;obtain⟨y19,hy19,h⟩:=bind_some h;have f20:=E34.idxS hy19;have f21:=E34.fldS0 (f:=5) rfl rfl hy19
   refine rg tok [0,1,7,8,9] fun K hK=>?_
   simp only[go_sem,qb,qa,reduceCtorEq,encB,t18,f20,f21];apply hK
   refine za fun Z22 hZ22=>?_
   refine rc [0,1,7,8,9,39] fun K hK=>?_
   refine rnN 3 ?_;refine zh 3 (fun L τ=>L=[(0,.ds true (qe encB a0) (qc a0) false),(1,.int .i64 a1),(7,.int .u64 x6),(8,.int .i64 x7),(9,.int .u8 (y19.toNat:Int)),(39,.bool ((decide (x7=9))&&(decide (1<(y19.toNat:Int)))))]∧τ=[]) ?_ ?_
   · refine yw 36 rfl (fun hg36=>?_) (fun hg36=>?_)
     · have t23:=eq_true hg36;refine rnN 3 ?_;refine zb ⟨rfl,_,_,⟨rfl,rfl⟩,.p t23⟩
     have t24:=eq_false hg36;refine rnN 3 ?_;refine zb ⟨rfl,_,_,⟨rfl,rfl⟩,.p t24⟩
   rintro _ _ ⟨rfl,rfl⟩;refine nkN hK ?_;refine zm (b:=((decide (x7=9))&&(decide (1<(y19.toNat:Int))))) rfl (fun hc25=>?_) (fun hc25=>?_)
   · rw[if_pos hc25] at h;refine rgN [4,5,6] ?_;cases h;exact rtA
   rw[xQ hc25] at h;apply zd;apply hZ22;have f26:=yW (T:=tab) (src:=5) (dst:=140) rfl rfl rfl;have f27:=yW (T:=tab) (src:=3) (dst:=184) rfl rfl rfl;obtain⟨_u28,hu28,h⟩:=bind_some h;have gu28:=wq hu28;have gu28n:(IntKind.u64.wrap (IntKind.i64.wrap (7*x7))<0)=False:=eq_false (by omega)
   refine rg tok [0,1,7,8,9] fun K hK=>?_
   simp only[go_sem,qb,qa,reduceCtorEq,f26,f27,gu28n,uW,YA];apply hK
   refine rgN [0,1,7,8,9,50] ?_;refine zq rfl (fun hc29=>?_) (fun hc29=>?_)
   · rw[if_pos hc29] at h;have t30:=eq_true hc29
     refine za fun Z31 hZ31=>?_
     refine rc [1,7,8,56] fun K hK=>?_
     refine zi tok 3 ?_;simp only[go_sem,qb,qa,reduceCtorEq,t30];refine zh 3 (fun L τ=>L=[(1,.int .i64 a1),(7,.int .u64 (IntKind.u64.wrap (x6+(IntKind.u64.wrap ((IntKind.u64.wrap (((y19.toNat:Int)).tmod 128))*2^(min (qF (IntKind.u64.wrap (IntKind.i64.wrap (7*x7)))) 64)))))),(8,.int .i64 x7),(56,.bool ((decide ((y19.toNat:Int)=0))&&(decide (0<x7))))]∧τ=[]) ?_ ?_
     · refine yw 53 rfl (fun hg53=>?_) (fun hg53=>?_)
       · have t32:=eq_true hg53;refine rnN 3 ?_;refine zb ⟨rfl,_,_,⟨rfl,rfl⟩,.p t32⟩
       have t33:=eq_false hg53;refine rnN 3 ?_;refine zb ⟨rfl,_,_,⟨rfl,rfl⟩,.p t33⟩
     rintro _ _ ⟨rfl,rfl⟩;refine nkN hK ?_;refine zm (b:=((decide ((y19.toNat:Int)=0))&&(decide (0<x7)))) rfl (fun hc34=>?_) (fun hc34=>?_)
     · rw[if_pos hc34] at h;refine rgN [4,5,6] ?_;cases h;exact rtA
     rw[xQ hc34] at h;apply zd;apply hZ31;refine rgN [4,5,6] ?_;cases h;exact rtA
   rw[if_neg hc29] at h;have t35:=eq_false hc29;apply zd;apply hZ14
   refine rgE tok [0,1,7,8] fun K hK=>?_
   simp only[go_sem,qb,qa,reduceCtorEq,t35];apply hK
   exact⟨_,_,_,qp (0+k10),⟨k10,IntKind.u64.wrap (x6+(IntKind.u64.wrap ((IntKind.u64.wrap (((y19.toNat:Int)).tmod 128))*2^(min (qF (IntKind.u64.wrap (IntKind.i64.wrap (7*x7)))) 64)))),IntKind.i64.wrap (x7+1),rfl,rfl,rfl,h⟩,.s⟩
 rw[if_neg hc12] at h;have t36:=eq_false hc12;apply zr;apply hZ5
 refine rg tok [4,5,6] fun K hK=>?_
 simp only[go_sem,qb,qa,reduceCtorEq,t36];apply hK
 cases h;exact rtA
theorem wb.ev (a0:List UInt8)(a1:Int)(r:Int×Int×Int)(h:wb a0 a1=some r)(σ:Store):ACalls qh 115 [.ds true (qe encB a0) (qc a0) false,.int .i64 a1] σ (fun r' σ'=>r'=.tup [.int .u64 r.1,.int .i64 r.2.1,.int .i64 r.2.2]∧σ'=σ):=
 (wb.ok a0 a1 r h).c σ
def ZA (a0:Int):Int:=
 (if (a0).tmod 2=0 then IntKind.i64.wrap (IntKind.u64.wrap ((a0).tdiv 2)) else IntKind.i64.wrap ((IntKind.i64.wrap (0-(IntKind.i64.wrap (IntKind.u64.wrap ((a0).tdiv 2)))))-1))
theorem ZA.ok (a0:Int)(r:Int)(h:ZA a0=r):ACalls qh 116 [.int .u64 a0] [] (fun r' _=>r'=.int .i64 r):=by
 refine zf (rs:=[.tmp 2]) tok Tryz.func116 rfl Tryz.ntmps116 rfl Tryz.call116 (by simp) ?_;refine zk [(0,.int .u64 a0)] ⟨rfl,trivial⟩ ?_;unfold ZA at h;refine rgN [0] ?_
 refine za fun Z1 hZ1=>?_
 refine rg tok [0,5] fun K hK=>?_
 simp only[go_sem,qb,qa,reduceCtorEq,uW];apply hK
 refine zq rfl (fun hc2=>?_) (fun hc2=>?_)
 · rw[if_pos hc2] at h;have t3:=eq_true hc2;have f4:=yW (T:=tab) (src:=140) (dst:=3) rfl rfl rfl
   refine rg tok [2] fun K hK=>?_
   simp only[go_sem,qb,qa,reduceCtorEq,t3,f4,uW];apply hK
   cases h;exact rtA
 rw[if_neg hc2] at h;have t5:=eq_false hc2;apply zd;apply hZ1;have f6:=yW (T:=tab) (src:=140) (dst:=3) rfl rfl rfl
 refine rg tok [2] fun K hK=>?_
 simp only[go_sem,qb,qa,reduceCtorEq,t5,f6,uW];apply hK
 cases h;exact rtA
theorem ZA.ev (a0:Int)(r:Int)(h:ZA a0=r)(σ:Store):ACalls qh 116 [.int .u64 a0] σ (fun r' σ'=>r'=.int .i64 r∧σ'=σ):=
 (ZA.ok a0 r h).c σ
def xr.j34 (l6:List GRaw)(rec12:List GRaw→Int→Option (List GRaw×Int))(m1_32:GRaw)(x33:Int):Option (List GRaw×Int):=
 (Yg (qc l6+1) 40).bind fun _u35=>(rec12 (l6++[m1_32]) x33)
def xr.l12 (a0:List UInt8):Nat→List GRaw→Int→Option (List GRaw×Int)
 |0,_,_=>none
 |k12+1,l6,x8=>(if x8<(qc a0:Int) then (wb a0 x8).bind fun r16=>(if r16.2.2=0 then (if ((decide (IntKind.u64.wrap ((r16.1).tdiv 2)<1))||(decide (500<IntKind.u64.wrap ((r16.1).tdiv 2))))=true then some (([]:List GRaw),7) else (wb a0 r16.2.1).bind fun r25=>(if r25.2.2=0 then (if IntKind.i64.wrap ((r16.1).tmod 2)=0 then bnd (ZA r25.1) fun r39=>(xr.j34 l6 (xr.l12 a0 k12) (⟨IntKind.i64.wrap (IntKind.u64.wrap ((r16.1).tdiv 2)),IntKind.i64.wrap ((r16.1).tmod 2),r39,[]⟩:GRaw) r25.2.1) else (if IntKind.u64.wrap (IntKind.i64.wrap ((qc a0:Int)-r25.2.1))<r25.1 then some (([]:List GRaw),2) else (grd ((0:Int)≤r25.2.1∧r25.2.1≤IntKind.i64.wrap (r25.2.1+(IntKind.i64.wrap r25.1))∧IntKind.i64.wrap (r25.2.1+(IntKind.i64.wrap r25.1))≤(qc a0:Int))).bind fun _u47=>(xr.j34 l6 (xr.l12 a0 k12) (⟨IntKind.i64.wrap (IntKind.u64.wrap ((r16.1).tdiv 2)),IntKind.i64.wrap ((r16.1).tmod 2),0,Xc a0 r25.2.1 (IntKind.i64.wrap (r25.2.1+(IntKind.i64.wrap r25.1)))⟩:GRaw) (IntKind.i64.wrap (r25.2.1+(IntKind.i64.wrap r25.1)))))) else some (([]:List GRaw),r25.2.2))) else some (([]:List GRaw),r16.2.2)) else some (l6,0))
def xr (a0:List UInt8):Option (List GRaw×Int):=
 (if 4096<(qc a0:Int) then some (([]:List GRaw),4) else (xr.l12 a0 rounds ([]:List GRaw) 0))
theorem xr.ok (a0:List UInt8)(r:List GRaw×Int)(h:xr a0=some r):ACalls qh 72 [.ds true (qe encB a0) (qc a0) false] [] (fun r' _=>r'=.tup [.ds true (qe encGRaw r.1) (qc r.1) false,.int .i64 r.2]):=by
 refine zf (rs:=[.tmp 2,.tmp 3]) tok Tryz.func72 rfl Tryz.ntmps72 rfl Tryz.call72 (by simp) ?_;refine zk [(0,.ds true (qe encB a0) (qc a0) false)] ⟨rfl,trivial⟩ ?_;unfold xr at h;refine rgN [0] ?_
 refine za fun Z1 hZ1=>?_
 refine rgN [0,14] ?_;refine zq rfl (fun hc2=>?_) (fun hc2=>?_)
 · rw[if_pos hc2] at h;have t3:=eq_true hc2
   refine rg tok [2,3] fun K hK=>?_
   simp only[go_sem,qb,qa,reduceCtorEq,t3];apply hK
   cases h;exact rtA
 rw[if_neg hc2] at h;have t4:=eq_false hc2;apply zd;apply hZ1
 refine rg tok [0,4] fun K hK=>?_
 simp only[go_sem,qb,qa,reduceCtorEq,t4];apply hK
 refine wN 4 4 rfl ?_;refine zU (L:=[(0,.ds true (qe encB a0) (qc a0) false),(4,.os true 4 0 0 0 (qc ([]:List GRaw)) false)]) (τ:=[.cells 0 (qe encGRaw ([]:List GRaw))]) .s ?_
 refine za fun Z5 hZ5=>?_
 refine rgN [0,4,5] ?_;apply ze;refine zp (fun m L τ=>∃ (k12:Nat) (l6:List GRaw) (x8:Int) (v7:Nat),m=0+k12∧L=[(0,.ds true (qe encB a0) (qc a0) false),(4,.os true 4 0 v7 0 (qc l6) false),(5,.int .i64 x8)]∧τ=[.cells v7 (qe encGRaw l6)]∧xr.l12 a0 k12 l6 x8=some r) _ ⟨rounds,([]:List GRaw),0,0,rfl,rfl,rfl,h⟩ .s ?_;rintro m L τ ⟨k12,l6,x8,v7,rfl,rfl,rfl,h⟩
 rcases k12 with _|k12
 · cases h
 simp only[xr.l12] at h
 refine za fun Z13 hZ13=>?_
 refine rgN [0,4,5,18] ?_;refine zq rfl (fun hc14=>?_) (fun hc14=>?_)
 · rw[if_pos hc14] at h;have t15:=eq_true hc14;apply zd;apply hZ13;apply ze
   refine rc [0,4,6,7,8] fun K hK=>?_
   obtain⟨r16,hr16,h⟩:=bind_some h;refine zi tok 2 ?_;simp only[go_sem,qb,qa,reduceCtorEq,t15];refine clN rfl rfl rfl (wb.ev a0 x8 r16 hr16 _) ?_;refine rnN 7 ?_;refine nkN hK ?_
   refine za fun Z17 hZ17=>?_
   refine rgN [0,4,6,7,8,27] ?_;refine zq rfl (fun hc18=>?_) (fun hc18=>?_)
   · rw[if_neg hc18] at h;have t19:=eq_false hc18
     refine rg tok [2,3] fun K hK=>?_
     simp only[go_sem,qb,qa,reduceCtorEq,t19];apply hK
     cases h;exact rtA
   rw[if_pos hc18] at h;have t20:=eq_true hc18;apply zd;apply hZ17
   refine za fun Z21 hZ21=>?_
   refine rc [0,4,6,7,36] fun K hK=>?_
   refine zi tok 4 ?_;simp only[go_sem,qb,qa,reduceCtorEq,t20,uW];refine zh 4 (fun L τ=>L=[(0,.ds true (qe encB a0) (qc a0) false),(4,.os true 4 0 v7 0 (qc l6) false),(6,.int .u64 r16.1),(7,.int .i64 r16.2.1),(36,.bool ((decide (IntKind.u64.wrap ((r16.1).tdiv 2)<1))||(decide (500<IntKind.u64.wrap ((r16.1).tdiv 2)))))]∧τ=[.cells v7 (qe encGRaw l6)]) ?_ ?_
   · refine yw 32 rfl (fun hg32=>?_) (fun hg32=>?_)
     · have t22:=eq_true hg32;refine rnN 4 ?_;refine zb ⟨rfl,_,_,⟨rfl,rfl⟩,.p t22⟩
     have t23:=eq_false hg32;refine zi tok 4 ?_;simp only[go_sem,qb,qa,reduceCtorEq,uW];refine zb ⟨rfl,_,_,⟨rfl,rfl⟩,.p t23⟩
   rintro _ _ ⟨rfl,rfl⟩;refine nkN hK ?_;refine zm (b:=((decide (IntKind.u64.wrap ((r16.1).tdiv 2)<1))||(decide (500<IntKind.u64.wrap ((r16.1).tdiv 2))))) rfl (fun hc24=>?_) (fun hc24=>?_)
   · rw[if_pos hc24] at h;refine rgN [2,3] ?_;cases h;exact rtA
   rw[xQ hc24] at h;apply zd;apply hZ21
   refine rc [0,4,6,8,9,10] fun K hK=>?_
   obtain⟨r25,hr25,h⟩:=bind_some h;refine rnN 2 ?_;refine clN rfl rfl rfl (wb.ev a0 r16.2.1 r25 hr25 _) ?_;refine rnN 7 ?_;refine nkN hK ?_
   refine za fun Z26 hZ26=>?_
   refine rgN [0,4,6,8,9,10,45] ?_;refine zq rfl (fun hc27=>?_) (fun hc27=>?_)
   · rw[if_neg hc27] at h;have t28:=eq_false hc27
     refine rg tok [2,3] fun K hK=>?_
     simp only[go_sem,qb,qa,reduceCtorEq,t28];apply hK
     cases h;exact rtA
   rw[if_pos hc27] at h;have t29:=eq_true hc27;apply zd;apply hZ26;have f30:=yW (T:=tab) (src:=140) (dst:=3) rfl rfl rfl;have f31:=yW (T:=tab) (src:=140) (dst:=3) rfl rfl rfl
   refine rg tok [0,4,9,10,11] fun K hK=>?_
   simp only[go_sem,qb,qf,qa,qd,reduceCtorEq,t29,f30,uW];apply hK
   refine xG (fun L τ=>∃ (m1_32:GRaw) (x33:Int),L=[(0,.ds true (qe encB a0) (qc a0) false),(4,.os true 4 0 v7 0 (qc l6) false),(10,.int .i64 x33),(11,.op 1 0 0)]∧τ=[.cells v7 (qe encGRaw l6),.cells 0 [.int .i64 m1_32.fTag,.int .i64 m1_32.fWire,.int .i64 m1_32.fN,.str m1_32.fB]]∧xr.j34 l6 (xr.l12 a0 k12) m1_32 x33=some r) ?_ ?_
   · refine rgN [0,4,9,10,11,56] ?_;refine zq rfl (fun hc37=>?_) (fun hc37=>?_)
     · rw[if_pos hc37] at h;have t38:=eq_true hc37
       refine rcE [0,4,10,11] fun K hK=>?_
       obtain⟨r39,hr39,h⟩:=zQ h;refine zi tok 1 ?_;simp only[go_sem,qb,qa,reduceCtorEq,t38];refine clN rfl rfl rfl (ZA.ev r25.1 r39 hr39 _) ?_;refine rnN 2 ?_;refine nkN hK ?_;exact⟨_,_,⟨(⟨IntKind.i64.wrap (IntKind.u64.wrap ((r16.1).tdiv 2)),IntKind.i64.wrap ((r16.1).tmod 2),r39,[]⟩:GRaw),r25.2.1,rfl,rfl,h⟩,.s⟩
     rw[if_neg hc37] at h;have t40:=eq_false hc37
     refine za fun Z41 hZ41=>?_
     have f42:=yW (T:=tab) (src:=3) (dst:=140) rfl rfl rfl
     refine rg tok [0,4,9,10,11,66] fun K hK=>?_
     simp only[go_sem,qb,qa,reduceCtorEq,t40,f42];apply hK
     refine zq rfl (fun hc43=>?_) (fun hc43=>?_)
     · rw[if_pos hc43] at h;have t44:=eq_true hc43
       refine rg tok [2,3] fun K hK=>?_
       simp only[go_sem,qb,qa,reduceCtorEq,t44];apply hK
       cases h;exact rtA
     rw[if_neg hc43] at h;have t45:=eq_false hc43;apply zd;apply hZ41;have f46:=yW (T:=tab) (src:=140) (dst:=3) rfl rfl rfl;obtain⟨_u47,hu47,h⟩:=bind_some h;have gu47:=wq hu47;have f48:=E34.sl_lh gu47;have f49:=Xt (T:=tab) (src:=34) (dst:=9) rfl rfl rfl rfl rfl rfl (Xc a0 r25.2.1 (IntKind.i64.wrap (r25.2.1+(IntKind.i64.wrap r25.1))))
     refine rg tok [0,4,9,10,11] fun K hK=>?_
     simp only[go_sem,qb,qf,qa,qd,reduceCtorEq,t45,f46,f48,f49];apply hK
     have f50:=yW (T:=tab) (src:=140) (dst:=3) rfl rfl rfl
     refine rgE tok [0,4,10,11] fun K hK=>?_
     simp only[go_sem,qb,qa,reduceCtorEq,f50];apply hK
     exact⟨_,_,⟨(⟨IntKind.i64.wrap (IntKind.u64.wrap ((r16.1).tdiv 2)),IntKind.i64.wrap ((r16.1).tmod 2),0,Xc a0 r25.2.1 (IntKind.i64.wrap (r25.2.1+(IntKind.i64.wrap r25.1)))⟩:GRaw),IntKind.i64.wrap (r25.2.1+(IntKind.i64.wrap r25.1)),rfl,rfl,h⟩,.s⟩
   rintro _ _ ⟨m1_32,x33,rfl,rfl,h⟩;unfold xr.j34 at h;obtain⟨_u35,hu35,h⟩:=bind_some h;have gu35:=yf hu35;have f36:=(zt E28.len l6)
   refine rg tok [0,4,10] fun K hK=>?_
   simp only[go_sem,qb,qf,qa,qd,qt,reduceCtorEq,zC,z7,q3,qT,true_and,ub,z6,zJ,ym,gu35,f36,yJ,uc,qY,AV.one,qR,qx,qj,ql,qq,qH];apply hK
   refine zU (L:=[(0,.ds true (qe encB a0) (qc a0) false),(4,.os true 4 0 (v7+1) 0 (qc (l6++[m1_32])) false),(10,.int .i64 x33)]) (τ:=[.cells (v7+1) (qe encGRaw (l6++[m1_32])),.cells 0 [.int .i64 m1_32.fTag,.int .i64 m1_32.fWire,.int .i64 m1_32.fN,.str m1_32.fB],.cells 0 [.int .i64 m1_32.fTag,.int .i64 m1_32.fWire,.int .i64 m1_32.fN,.str m1_32.fB]]) .s ?_
   refine rgE tok [0,4,5] fun K hK=>?_
   simp only[go_sem,qb,qa,reduceCtorEq];apply hK
   exact⟨_,_,_,qp (0+k12),⟨k12,l6++[m1_32],x33,v7+1,rfl,rfl,rfl,h⟩,(.t [0] false)⟩
 rw[if_neg hc14] at h;have t51:=eq_false hc14;apply zr;apply hZ5
 refine rg tok [2,3] fun K hK=>?_
 simp only[go_sem,qb,qa,reduceCtorEq,t51];apply hK
 cases h;exact rtA
end
section
set_option maxRecDepth 4000
set_option maxHeartbeats 1000000
open AM
theorem xr.ev (a0:List UInt8)(r:List GRaw×Int)(h:xr a0=some r)(σ:Store):ACalls qh 72 [.ds true (qe encB a0) (qc a0) false] σ (fun r' σ'=>r'=.tup [.ds true (qe encGRaw r.1) (qc r.1) false,.int .i64 r.2]∧σ'=σ):=
 (xr.ok a0 r h).c σ
def wg.j3 (a0:GType)(x2:Bool):Int:=
 (if x2=true then 2 else (if a0.fKind=7 then 3 else 1))
def wg (a0:GType):Int:=
 (if a0.fKind=4 then (wg.j3 a0 (decide (a0.fKind=4))) else (wg.j3 a0 (decide (a0.fKind=5))))
theorem wg.ok (a0:GType)(r:Int)(h:wg a0=r):ACalls qh 117 [.agg (encGType a0)] [] (fun r' _=>r'=.int .i64 r):=by
 refine zf (rs:=[.tmp 2]) tok Tryz.func117 rfl Tryz.ntmps117 rfl Tryz.call117 (by simp) ?_;refine zk [(0,.agg (encGType a0))] ⟨rfl,trivial⟩ ?_;unfold wg at h
 refine rg tok [1] fun K hK=>?_
 simp only[go_sem,qb,qa,qd,reduceCtorEq,encGType];apply hK
 refine za fun Z1 hZ1=>?_
 refine rgN [4] ?_;apply ze;refine xG (fun L τ=>∃ (x2:Bool),L=[(4,.int .i64 a0.fKind),(5,.bool x2)]∧τ=[]∧wg.j3 a0 x2=r) ?_ ?_
 · refine rgN [4,5] ?_;refine zq rfl (fun hc8=>?_) (fun hc8=>?_)
   · rw[if_pos hc8] at h;have t9:=eq_true hc8;apply zd;exact⟨_,_,⟨decide (a0.fKind=4),rfl,rfl,h⟩,(.t [] false)⟩
   rw[if_neg hc8] at h;have t10:=eq_false hc8
   refine rgE tok [4,5] fun K hK=>?_
   simp only[go_sem,qb,qa,t10];apply hK
   exact⟨_,_,⟨decide (a0.fKind=5),rfl,rfl,h⟩,(.t [] false)⟩
 rintro _ _ ⟨x2,rfl,rfl,h⟩;unfold wg.j3 at h;refine zm (b:=x2) rfl (fun hc4=>?_) (fun hc4=>?_)
 · rw[if_pos hc4] at h;refine rgN [2] ?_;cases h;exact rtA
 rw[xQ hc4] at h;refine rgN [8] ?_;refine zq rfl (fun hc5=>?_) (fun hc5=>?_)
 · rw[if_pos hc5] at h;have t6:=eq_true hc5
   refine rg tok [2] fun K hK=>?_
   simp only[go_sem,qb,qa,t6];apply hK
   cases h;exact rtA
 rw[if_neg hc5] at h;have t7:=eq_false hc5;apply zd;apply hZ1
 refine rg tok [2] fun K hK=>?_
 simp only[go_sem,qb,qa,t7];apply hK
 cases h;exact rtA
theorem wg.ev (a0:GType)(r:Int)(h:wg a0=r)(σ:Store):ACalls qh 117 [.agg (encGType a0)] σ (fun r' σ'=>r'=.int .i64 r∧σ'=σ):=
 (wg.ok a0 r h).c σ
def wz (a0:GType)(a1:Int):Bool:=
 (if a0.fKind=1 then ((decide ((-2147483648)≤a1))&&(decide (a1≤2147483647))) else (if a0.fKind=2 then true else (if a0.fKind=3 then ((decide (a1=0))||(decide (a1=1))) else (if a0.fKind=6 then ((decide (0≤a1))&&(decide (a1≤2147483647))) else false))))
theorem wz.ok (a0:GType)(a1:Int)(r:Bool)(h:wz a0 a1=r):ACalls qh 118 [.agg (encGType a0),.int .i64 a1] [] (fun r' _=>r'=.bool r):=by
 refine zf (rs:=[.tmp 4]) tok Tryz.func118 rfl Tryz.ntmps118 rfl Tryz.call118 (by simp) ?_;refine zk [(0,.agg (encGType a0)),(1,.int .i64 a1)] ⟨rfl,rfl,trivial⟩ ?_;unfold wz at h
 refine rg tok [1,2] fun K hK=>?_
 simp only[go_sem,qb,qa,qd,reduceCtorEq,encGType];apply hK
 refine za fun Z1 hZ1=>?_
 refine rgN [1,6] ?_;apply ze;refine rgN [1,6,7] ?_;refine zq rfl (fun hc2=>?_) (fun hc2=>?_)
 · rw[if_pos hc2] at h;have t3:=eq_true hc2
   refine rc [4] fun K hK=>?_
   refine zi tok 3 ?_;simp only[go_sem,qb,qa,t3];refine zh 3 (fun L τ=>L=[(14,.bool ((decide ((-2147483648)≤a1))&&(decide (a1≤2147483647))))]∧τ=[.cells 0 [.int .i64 a0.fKind,.str a0.fName]]) ?_ ?_
   · refine yw 11 rfl (fun hg11=>?_) (fun hg11=>?_)
     · have t4:=eq_true hg11;refine rnN 3 ?_;refine zb ⟨rfl,_,_,⟨rfl,rfl⟩,.p t4⟩
     have t5:=eq_false hg11;refine rnN 3 ?_;refine zb ⟨rfl,_,_,⟨rfl,rfl⟩,.p t5⟩
   rintro _ _ ⟨rfl,rfl⟩;refine rnN 1 ?_;refine nkN hK ?_;cases h;exact rtA
 rw[if_neg hc2] at h;have t6:=eq_false hc2
 refine rg tok [1,6,15] fun K hK=>?_
 simp only[go_sem,qb,qa,t6];apply hK
 refine zq rfl (fun hc7=>?_) (fun hc7=>?_)
 · rw[if_pos hc7] at h;have t8:=eq_true hc7
   refine rg tok [4] fun K hK=>?_
   simp only[go_sem,qb,qa,t8];apply hK
   cases h;exact rtA
 rw[if_neg hc7] at h;have t9:=eq_false hc7
 refine rg tok [1,6,17] fun K hK=>?_
 simp only[go_sem,qb,qa,t9];apply hK
 refine zq rfl (fun hc10=>?_) (fun hc10=>?_)
 · rw[if_pos hc10] at h;have t11:=eq_true hc10
   refine rc [4] fun K hK=>?_
   refine zi tok 3 ?_;simp only[go_sem,qb,qa,t11];refine zh 3 (fun L τ=>L=[(24,.bool ((decide (a1=0))||(decide (a1=1))))]∧τ=[.cells 0 [.int .i64 a0.fKind,.str a0.fName]]) ?_ ?_
   · refine yw 21 rfl (fun hg21=>?_) (fun hg21=>?_)
     · have t12:=eq_true hg21;refine rnN 3 ?_;refine zb ⟨rfl,_,_,⟨rfl,rfl⟩,.p t12⟩
     have t13:=eq_false hg21;refine rnN 3 ?_;refine zb ⟨rfl,_,_,⟨rfl,rfl⟩,.p t13⟩
   rintro _ _ ⟨rfl,rfl⟩;refine rnN 1 ?_;refine nkN hK ?_;cases h;exact rtA
 rw[if_neg hc10] at h;have t14:=eq_false hc10
 refine rg tok [1,25] fun K hK=>?_
 simp only[go_sem,qb,qa,t14];apply hK
 refine zq rfl (fun hc15=>?_) (fun hc15=>?_)
 · rw[if_pos hc15] at h;have t16:=eq_true hc15
   refine rc [4] fun K hK=>?_
   refine zi tok 3 ?_;simp only[go_sem,qb,qa,t16];refine zh 3 (fun L τ=>L=[(32,.bool ((decide (0≤a1))&&(decide (a1≤2147483647))))]∧τ=[.cells 0 [.int .i64 a0.fKind,.str a0.fName]]) ?_ ?_
   · refine yw 29 rfl (fun hg29=>?_) (fun hg29=>?_)
     · have t17:=eq_true hg29;refine rnN 3 ?_;refine zb ⟨rfl,_,_,⟨rfl,rfl⟩,.p t17⟩
     have t18:=eq_false hg29;refine rnN 3 ?_;refine zb ⟨rfl,_,_,⟨rfl,rfl⟩,.p t18⟩
   rintro _ _ ⟨rfl,rfl⟩;refine rnN 1 ?_;refine nkN hK ?_;cases h;exact rtA
 rw[if_neg hc15] at h;have t19:=eq_false hc15;apply zd;apply hZ1
 refine rg tok [4] fun K hK=>?_
 simp only[go_sem,qb,qa,t19];apply hK
 cases h;exact rtA
theorem wz.ev (a0:GType)(a1:Int)(r:Bool)(h:wz a0 a1=r)(σ:Store):ACalls qh 118 [.agg (encGType a0),.int .i64 a1] σ (fun r' σ'=>r'=.bool r∧σ'=σ):=
 (wz.ok a0 a1 r h).c σ
def wT (a0:List UInt8):Option Bool:=
 (xX a0).bind fun r1=>some r1.2
theorem wT.ok (a0:List UInt8)(r:Bool)(h:wT a0=some r):ACalls qh 119 [.str a0] [] (fun r' _=>r'=.bool r):=by
 refine zf (rs:=[.tmp 2]) tok Tryz.func119 rfl Tryz.ntmps119 rfl Tryz.call119 (by simp) ?_;refine zk [(0,.str a0)] ⟨rfl,trivial⟩ ?_;unfold wT at h;refine rgN [0] ?_
 refine rc [4] fun K hK=>?_
 obtain⟨r1,hr1,h⟩:=bind_some h;refine rnN 1 ?_;refine clN rfl rfl rfl (xX.ev a0 r1 hr1 _) ?_;refine rnN 5 ?_;refine nkN hK ?_;refine rgN [2] ?_;cases h;exact rtA
theorem wT.ev (a0:List UInt8)(r:Bool)(h:wT a0=some r)(σ:Store):ACalls qh 119 [.str a0] σ (fun r' σ'=>r'=.bool r∧σ'=σ):=
 (wT.ok a0 r h).c σ
def zB.j23 (x4:Int)(rec8:Int→List GRaw→Option (List GRaw))(l16:List GRaw)(x17:Int)(rec20:List GRaw→Int→Option (List GRaw))(x22:Bool):Option (List GRaw):=
 (if x22=true then (Zv l16 x17).bind fun y25=>(Zv l16 (IntKind.i64.wrap (x17-1))).bind fun y28=>(Zv (setI l16 (IntKind.i64.wrap (x17-1)) y25) x17).bind fun y34=>(rec20 (setI (setI l16 (IntKind.i64.wrap (x17-1)) y25) x17 y28) (IntKind.i64.wrap (x17-1))) else (rec8 (x4+1) l16))
def zB.l20 (x4:Int)(rec8:Int→List GRaw→Option (List GRaw)):Nat→List GRaw→Int→Option (List GRaw)
 |0,_,_=>none
 |k20+1,l16,x17=>(if 0<x17 then (Zv l16 (IntKind.i64.wrap (x17-1))).bind fun y39=>(Zv l16 x17).bind fun y42=>(zB.j23 x4 rec8 l16 x17 (zB.l20 x4 rec8 k20) (decide (y42.fTag<y39.fTag))) else (zB.j23 x4 rec8 l16 x17 (zB.l20 x4 rec8 k20) false))
def zB.l8 : List GRaw→Int→List GRaw→Option (List GRaw)
 |[],x4,l2=>some l2
 |y8::q8,x4,l2=>(Yg (qc l2+1) 40).bind fun _u14=>(zB.l20 x4 (zB.l8 q8) rounds (l2++[y8]) (qc l2:Int))
def zB (a0:List GRaw):Option (List GRaw):=
 (zB.l8 a0 0 ([]:List GRaw))
theorem zB.own (a0:List GRaw)(r:List GRaw)(h:zB a0=some r):ACalls qh 76 [.ds true (qe encGRaw a0) (qc a0) false] [] (fun r' σ'=>r'=.os true 4 0 0 0 (qc r) false∧σ'=[.cells 0 (qe encGRaw r)]):=by
 refine ACalls.own0 (by simp only[push_cast]) ?_;refine ZM (rs:=[.tmp 2]) tok Tryz.func76 rfl Tryz.ntmps76 rfl Tryz.call76 (by simp) ?_;refine zk [(0,.ds true (qe encGRaw a0) (qc a0) false)] ⟨rfl,trivial⟩ ?_;unfold zB at h;refine rgN [0] ?_;refine rgN [0,3] ?_;refine wN 3 4 rfl ?_;refine zU (L:=[(0,.ds true (qe encGRaw a0) (qc a0) false),(3,.os true 4 0 0 0 (qc ([]:List GRaw)) false)]) (τ:=[.cells 0 (qe encGRaw ([]:List GRaw))]) .s ?_
 refine za fun Z1 hZ1=>?_
 refine rgN [0,3,4] ?_;apply ze
 refine yP 0 fun hb8=>?_
 replace hb8:qc a0≤9223372036854775807:=hb8.1;refine zp (fun m L τ=>∃ (p8 q8:List GRaw) (x4:Int) (l2:List GRaw) (v3:Nat),m=qc q8∧L=[(0,.ds true (qe encGRaw a0) (qc a0) false),(3,.os true 4 0 v3 0 (qc l2) false),(4,.int .i64 x4)]∧τ=[.cells v3 (qe encGRaw l2)]∧a0=p8++q8∧x4=(qc p8:Int)∧zB.l8 q8 x4 l2=some r) _ ⟨[],a0,0,([]:List GRaw),0,rfl,rfl,rfl,rfl,rfl,h⟩ .s ?_;rintro m L τ ⟨p8,q8,x4,l2,v3,rfl,rfl,rfl,hE8,hi8,h⟩
 rcases q8 with _|⟨y8,q8⟩
 · have hz8:=yl hE8 hi8;simp only[zB.l8] at h
   refine za fun Z9 hZ9=>?_
   refine rg tok [0,3,4,9] fun K hK=>?_
   simp only[go_sem,qb,qa,reduceCtorEq,hz8];apply hK
   refine zn rfl ?_;apply zr;apply hZ1;refine rgN [2] ?_;apply yz;cases h;simp only[ZL,yT,xd,xZ,exists_eq_left',go_sem];refine⟨0,v3,by simp,?_,?_⟩
   · first|rfl|(simp only[go_sem,qb,qf,qa,qd,qt,qK,reduceIte,reduceCtorEq,push_cast,if_true,qC,qq,qE,qw,qD,qP,qZ,qV,qX,qQ,qy,zP,encGRaw]<;>rfl)
   first|rfl|(simp only[go_sem,push_cast,qw,zP]<;>rfl)
 obtain⟨hz8,hw8,hx8,hE'8,hi'8⟩:=zV hE8 hi8 hb8;simp only[zB.l8] at h
 refine za fun Z10 hZ10=>?_
 refine rg tok [0,3,4,9] fun K hK=>?_
 simp only[go_sem,qb,qa,reduceCtorEq,hz8];apply hK
 refine zo rfl ?_;apply zd;apply hZ10
 refine za fun Z11 hZ11=>?_
 apply ze;refine rgN [0,3,4,5] ?_;have f12:=E28.idxS hx8;have f13:=E28.loadS rfl rfl hx8;obtain⟨_u14,hu14,h⟩:=bind_some h;have gu14:=yf hu14;have f15:=(zt E28.len l2)
 refine rg tok [0,3,4,5] fun K hK=>?_
 simp only[go_sem,qb,qf,qa,qd,qt,reduceCtorEq,zC,z7,q3,qT,true_and,ub,z6,zJ,ym,encGRaw,f12,f13,gu14,f15,yJ,uc,qY,AV.one,qR,qx,qj,ql,qq,qH];apply hK
 refine zU (L:=[(0,.ds true (qe encGRaw a0) (qc a0) false),(3,.os true 4 0 (v3+1) 0 (qc (l2++[y8])) false),(4,.int .i64 x4),(5,.int .i64 (qc l2:Int))]) (τ:=[.cells (v3+1) (qe encGRaw (l2++[y8])),.cells 0 [.int .i64 y8.fTag,.int .i64 y8.fWire,.int .i64 y8.fN,.str y8.fB]]) .s ?_;apply ze;refine zp (fun m L τ=>∃ (k20:Nat) (l16:List GRaw) (x17:Int),m=0+k20∧L=[(0,.ds true (qe encGRaw a0) (qc a0) false),(3,.os true 4 0 (v3+1) 0 (qc l16) false),(4,.int .i64 x4),(5,.int .i64 x17)]∧τ=[.cells (v3+1) (qe encGRaw l16)]∧zB.l20 x4 (zB.l8 q8) k20 l16 x17=some r) _ ⟨rounds,l2++[y8],(qc l2:Int),rfl,rfl,rfl,h⟩ (.t [0] false) ?_;rintro m L τ ⟨k20,l16,x17,rfl,rfl,rfl,h⟩
 rcases k20 with _|k20
 · cases h
 simp only[zB.l20] at h
 refine za fun Z21 hZ21=>?_
 refine xG (fun L τ=>∃ (x22:Bool),L=[(0,.ds true (qe encGRaw a0) (qc a0) false),(3,.os true 4 0 (v3+1) 0 (qc l16) false),(4,.int .i64 x4),(5,.int .i64 x17),(36,.bool x22)]∧τ=[.cells (v3+1) (qe encGRaw l16)]∧zB.j23 x4 (zB.l8 q8) l16 x17 (zB.l20 x4 (zB.l8 q8) k20) x22=some r) ?_ ?_
 · refine rdE [0,3,4,5,36] fun K hK=>?_
   refine DW.start (T:=tab) [.any,.any,.any,.any,.any,.any,.any,.any,.at [],.any,.any,.any,.any,.at [],.any,.any] [] ?_;refine DW.runN tok 3 ?_;simp only[go_sem,qb,qa,reduceCtorEq]
   refine DW.if 23 rfl (fun hg23=>?_) (fun hg23=>?_)
   · rw[if_pos hg23] at h;have t38:=eq_true hg23;obtain⟨y39,hy39,h⟩:=bind_some h;have f40:=E28.idxO hy39;have f41:=E28.rdfO0 hy39;obtain⟨y42,hy42,h⟩:=bind_some h;have f43:=E28.idxO hy42;have f44:=E28.rdfO0 hy42;refine DW.runN tok 8 ?_;simp only[go_sem,qb,qa,reduceCtorEq,encGRaw,t38,f40,f41];refine DW.runN tok 5 ?_;simp only[go_sem,qb,qa,reduceCtorEq,encGRaw,f43,f44];refine DW.fin tok (by decide +kernel) rfl ?_;simp only[zj,upd,qa,reduceIte,yu,xe];apply hK
     exact⟨_,_,⟨decide (y42.fTag<y39.fTag),rfl,rfl,h⟩,.s⟩
   rw[if_neg hg23] at h;have t45:=eq_false hg23;refine DW.runN tok 8 ?_;simp only[go_sem,qb,qa,reduceCtorEq,t45];refine DW.runN tok 5 ?_;simp only[go_sem,qb,qa,reduceCtorEq];refine DW.fin tok (by decide +kernel) rfl ?_;simp only[zj,upd,qa,reduceIte,yu,xe];apply hK
   exact⟨_,_,⟨false,rfl,rfl,h⟩,.s⟩
 rintro _ _ ⟨x22,rfl,rfl,h⟩;unfold zB.j23 at h;refine zm (b:=x22) rfl (fun hc24=>?_) (fun hc24=>?_)
 · rw[if_pos hc24] at h;apply zd;apply hZ21;apply ze;obtain⟨y25,hy25,h⟩:=bind_some h;have f26:=E28.idxO hy25;have f27:=E28.rdO hy25;obtain⟨y28,hy28,h⟩:=bind_some h;have f29:=E28.idxO hy28;have f30:=E28.rdO hy28;have f31:=E28.idxO hy28;have f32:=E28.stOc hy28;have f33:=E28.stOr hy28 (y:=y25) (cs:=[.int .i64 y25.fTag,.int .i64 y25.fWire,.int .i64 y25.fN,.str y25.fB]) rfl;simp only[y1] at f33;obtain⟨y34,hy34,h⟩:=bind_some h;have f35:=E28.idxO hy34;have f36:=E28.stOc hy34;have f37:=E28.stOr hy34 (y:=y28) (cs:=[.int .i64 y28.fTag,.int .i64 y28.fWire,.int .i64 y28.fN,.str y28.fB]) rfl;simp only[y1] at f37
   refine rd [0,3,4,5] fun K hK=>?_
   refine DW.start (T:=tab) [.any,.any,.any,.any,.any,.any,.any,.any,.at [],.any,.any,.any,.any,.at [],.any,.eff,.any,.eff] [] ?_;refine DW.runN tok 8 ?_;simp only[go_sem,qb,qa,reduceCtorEq,f26];refine DW.runN tok 8 ?_;simp only[go_sem,qb,qa,qd,reduceCtorEq,encGRaw,f27,f29,f30,f32,f33];refine DW.runN tok 2 ?_;simp only[go_sem,qb,qa,qd,reduceCtorEq,f26,f36,f37];refine DW.fin tok (by decide +kernel) rfl ?_;simp only[zj,upd,qa,reduceIte,yu,xe];apply hK
   refine rgE tok [0,3,4,5] fun K hK=>?_
   simp only[go_sem,qb,qa,reduceCtorEq];apply hK
   exact⟨_,_,_,qp (0+k20),⟨k20,setI (setI l16 (IntKind.i64.wrap (x17-1)) y25) x17 y28,IntKind.i64.wrap (x17-1),rfl,rfl,rfl,h⟩,.s⟩
 rw[xQ hc24] at h;apply zr;apply hZ11
 refine rgE tok [0,3,4] fun K hK=>?_
 simp only[go_sem,qb,qa,reduceCtorEq,hw8];apply hK
 exact⟨_,_,_,qp q8.length,⟨p8++[y8],q8,x4+1,l16,v3+1,rfl,rfl,rfl,hE'8,hi'8,h⟩,.s⟩
theorem zB.ok (a0:List GRaw)(r:List GRaw)(h:zB a0=some r):ACalls qh 76 [.ds true (qe encGRaw a0) (qc a0) false] [] (fun r' _=>r'=.ds true (qe encGRaw r) (qc r) false):=
 (zB.own a0 r h).ownData (zt E28.len r) (by simp only[push_cast])
theorem zB.ev (a0:List GRaw)(r:List GRaw)(h:zB a0=some r)(σ:Store):ACalls qh 76 [.ds true (qe encGRaw a0) (qc a0) false] σ (fun r' σ'=>r'=.ds true (qe encGRaw r) (qc r) false∧σ'=σ):=
 (zB.ok a0 r h).c σ
def Zs (a0:GTree):Bool:=
 ((((((decide (1≤a0.fKind))&&(decide (a0.fKind≤3)))&&(decide (a0.fN=0)))&&(decide (a0.fS=[])))&&(decide ((qc a0.fEntries:Int)=0)))&&(decide ((qc a0.fRest:Int)=0)))
theorem Zs.ok (a0:GTree)(r:Bool)(h:Zs a0=r):ACalls qh 86 [.agg (cellsGTree a0)] [] (fun r' _=>r'=.bool r):=by
 refine zf (rs:=[.tmp 2]) tok Tryz.func86 rfl Tryz.ntmps86 rfl Tryz.call86 (by simp) ?_;refine zk [(0,.agg (cellsGTree a0))] ⟨rfl,trivial⟩ ?_;unfold Zs at h
 refine rg tok [1] fun K hK=>?_
 simp only[go_sem,qb,qa,qd,reduceCtorEq,cellsGTree];apply hK
 refine rc [2] fun K hK=>?_
 refine rnN 4 ?_;refine zh 4 (fun L τ=>L=[(1,.op 0 0 0),(10,.bool ((decide (1≤a0.fKind))&&(decide (a0.fKind≤3))))]∧τ=[.cells 0 (cellsGTree a0)]) ?_ ?_
 · refine yw 6 rfl (fun hg6=>?_) (fun hg6=>?_)
   · have t1:=eq_true hg6;refine rnN 4 ?_;refine zb ⟨rfl,_,_,⟨rfl,rfl⟩,.p t1⟩
   have t2:=eq_false hg6;refine rnN 4 ?_;refine zb ⟨rfl,_,_,⟨rfl,rfl⟩,.p t2⟩
 rintro _ _ ⟨rfl,rfl⟩;refine rnN 1 ?_;refine zh 4 (fun L τ=>L=[(1,.op 0 0 0),(15,.bool (((decide (1≤a0.fKind))&&(decide (a0.fKind≤3)))&&(decide (a0.fN=0))))]∧τ=[.cells 0 (cellsGTree a0)]) ?_ ?_
 · refine zH (b:=((decide (1≤a0.fKind))&&(decide (a0.fKind≤3)))) 11 rfl (fun hg11=>?_) (fun hg11=>?_)
   · refine rnN 4 ?_;refine zb ⟨rfl,_,_,⟨rfl,rfl⟩,.b hg11⟩
   refine rnN 4 ?_;refine zb ⟨rfl,_,_,⟨rfl,rfl⟩,.b hg11⟩
 rintro _ _ ⟨rfl,rfl⟩;refine rnN 1 ?_;refine zh 4 (fun L τ=>L=[(1,.op 0 0 0),(20,.bool ((((decide (1≤a0.fKind))&&(decide (a0.fKind≤3)))&&(decide (a0.fN=0)))&&(decide (a0.fS=[]))))]∧τ=[.cells 0 (cellsGTree a0)]) ?_ ?_
 · refine zH (b:=(((decide (1≤a0.fKind))&&(decide (a0.fKind≤3)))&&(decide (a0.fN=0)))) 16 rfl (fun hg16=>?_) (fun hg16=>?_)
   · refine rnN 4 ?_;refine zb ⟨rfl,_,_,⟨rfl,rfl⟩,.b hg16⟩
   refine rnN 4 ?_;refine zb ⟨rfl,_,_,⟨rfl,rfl⟩,.b hg16⟩
 rintro _ _ ⟨rfl,rfl⟩;refine rnN 1 ?_;refine zh 5 (fun L τ=>L=[(1,.op 0 0 0),(26,.bool (((((decide (1≤a0.fKind))&&(decide (a0.fKind≤3)))&&(decide (a0.fN=0)))&&(decide (a0.fS=[])))&&(decide ((qc a0.fEntries:Int)=0))))]∧τ=[.cells 0 (cellsGTree a0)]) ?_ ?_
 · refine zH (b:=((((decide (1≤a0.fKind))&&(decide (a0.fKind≤3)))&&(decide (a0.fN=0)))&&(decide (a0.fS=[])))) 21 rfl (fun hg21=>?_) (fun hg21=>?_)
   · refine rnN 5 ?_;refine zb ⟨rfl,_,_,⟨rfl,rfl⟩,.b hg21⟩
   refine rnN 5 ?_;refine zb ⟨rfl,_,_,⟨rfl,rfl⟩,.b hg21⟩
 rintro _ _ ⟨rfl,rfl⟩;refine rnN 1 ?_;refine zh 5 (fun L τ=>L=[(32,.bool ((((((decide (1≤a0.fKind))&&(decide (a0.fKind≤3)))&&(decide (a0.fN=0)))&&(decide (a0.fS=[])))&&(decide ((qc a0.fEntries:Int)=0)))&&(decide ((qc a0.fRest:Int)=0))))]∧τ=[.cells 0 (cellsGTree a0)]) ?_ ?_
 · refine zH (b:=(((((decide (1≤a0.fKind))&&(decide (a0.fKind≤3)))&&(decide (a0.fN=0)))&&(decide (a0.fS=[])))&&(decide ((qc a0.fEntries:Int)=0)))) 27 rfl (fun hg27=>?_) (fun hg27=>?_)
   · refine rnN 5 ?_;refine zb ⟨rfl,_,_,⟨rfl,rfl⟩,.b hg27⟩
   refine rnN 5 ?_;refine zb ⟨rfl,_,_,⟨rfl,rfl⟩,.b hg27⟩
 rintro _ _ ⟨rfl,rfl⟩;refine rnN 1 ?_;refine nkN hK ?_;cases h;exact rtA
theorem Zs.ev (a0:GTree)(r:Bool)(h:Zs a0=r)(σ:Store):ACalls qh 86 [.agg (cellsGTree a0)] σ (fun r' σ'=>r'=.bool r∧σ'=σ):=
 (Zs.ok a0 r h).c σ
def ya.j13 (x4:Int)(rec8:Int→List GEntry→Option GTree)(l11:List GEntry):Option GTree:=
 (rec8 (x4+1) l11)
def ya.l8 (a0:GMessage)(a1:GTree):List GEntry→Int→List GEntry→Option GTree
 |[],x4,l2=>some (⟨3,0,[],l2,a1.fRest⟩:GTree)
 |y8::q8,x4,l2=>bnd (yO a0 y8.fTag) fun r16=>(if r16.1.fLabel=1 then (Zv y8.fTrees 0).bind fun y19=>bnd (Zs y19) fun r22=>some (!r22) else some true).bind fun c17=>(if c17=true then (Yg (qc l2+1) 32).bind fun _u29=>(ya.j13 x4 (ya.l8 a0 a1 q8) (l2++[y8])) else (ya.j13 x4 (ya.l8 a0 a1 q8) l2))
def ya (a0:GMessage)(a1:GTree):Option GTree:=
 (ya.l8 a0 a1 a1.fEntries 0 ([]:List GEntry))
theorem ya.ok (a0:GMessage)(a1:GTree)(r:GTree)(h:ya a0 a1=some r):ACalls qh 77 [.agg (encGMessage a0),.agg (cellsGTree a1)] [] (fun r' _=>r'=.agg (cellsGTree r)):=by
 refine zf (rs:=[.cell 4 30]) tok Tryz.func77 rfl Tryz.ntmps77 rfl Tryz.call77 (by simp) ?_;refine zk [(0,.agg (encGMessage a0)),(1,.agg (cellsGTree a1))] ⟨rfl,rfl,trivial⟩ ?_;unfold ya at h
 refine rg tok [2,3,4] fun K hK=>?_
 simp only[go_sem,qb,qa,qd,reduceCtorEq,cellsGTree,encGMessage];apply hK
 refine rgN [2,3,4,5] ?_;refine Zq 3 3 2 rfl (by simp) rfl (L:=[(2,.op 0 0 0),(3,.op 1 0 0),(4,.op 2 0 0),(5,.op 3 0 0)]) (τ:=[.cells 0 (encGMessage a0),.cells 0 (cellsGTree a1),.cells 0 [.int .i64 0,.int .i64 0,.str [],.ds true [] 0 true,.ds true [] 0 true],.cells 0 [.int .i64 3,.int .i64 0,.str [],.os true 2 4 0 0 (qc ([]:List GEntry)) false,.ds true (qe encGRaw a1.fRest) (qc a1.fRest) false],.cells 0 (qe encGEntry ([]:List GEntry))]) .s ?_
 refine za fun Z1 hZ1=>?_
 refine rgN [2,3,4,5,6] ?_;apply ze
 refine xh 1 rfl fun hb8=>?_
 replace hb8:qc a1.fEntries≤9223372036854775807:=hb8.2.2.2.1.1;refine zp (fun m L τ=>∃ (p8 q8:List GEntry) (x4:Int) (l2:List GEntry) (v3:Nat),m=qc q8∧L=[(2,.op 0 0 0),(3,.op 1 0 0),(4,.op 2 0 0),(5,.op 3 0 0),(6,.int .i64 x4)]∧τ=[.cells 0 (encGMessage a0),.cells 0 (cellsGTree a1),.cells 0 [.int .i64 0,.int .i64 0,.str [],.ds true [] 0 true,.ds true [] 0 true],.cells 0 [.int .i64 3,.int .i64 0,.str [],.os true 2 4 v3 0 (qc l2) false,.ds true (qe encGRaw a1.fRest) (qc a1.fRest) false],.cells v3 (qe encGEntry l2)]∧a1.fEntries=p8++q8∧x4=(qc p8:Int)∧ya.l8 a0 a1 q8 x4 l2=some r) _ ⟨[],a1.fEntries,0,([]:List GEntry),0,rfl,rfl,rfl,rfl,rfl,h⟩ .s ?_;rintro m L τ ⟨p8,q8,x4,l2,v3,rfl,rfl,rfl,hE8,hi8,h⟩
 rcases q8 with _|⟨y8,q8⟩
 · have hz8:=yl hE8 hi8;simp only[ya.l8] at h
   refine za fun Z9 hZ9=>?_
   refine rg tok [2,3,4,5,6,16] fun K hK=>?_
   simp only[go_sem,qb,qa,qd,hz8];apply hK
   refine zn rfl ?_;apply zr;apply hZ1;refine rgN [4] ?_;cases h;exact rtA
 obtain⟨hz8,hw8,hx8,hE'8,hi'8⟩:=zV hE8 hi8 hb8;simp only[ya.l8] at h
 refine za fun Z10 hZ10=>?_
 refine rg tok [2,3,4,5,6,16] fun K hK=>?_
 simp only[go_sem,qb,qa,qd,hz8];apply hK
 refine zo rfl ?_;apply zd;apply hZ10;refine xG (fun L τ=>∃ (l11:List GEntry) (v12:Nat),L=[(2,.op 0 0 0),(3,.op 1 0 0),(4,.op 2 0 0),(5,.op 3 0 0),(6,.int .i64 x4)]∧τ=[.cells 0 (encGMessage a0),.cells 0 (cellsGTree a1),.cells 0 [.int .i64 0,.int .i64 0,.str [],.ds true [] 0 true,.ds true [] 0 true],.cells 0 [.int .i64 3,.int .i64 0,.str [],.os true 2 4 v12 0 (qc l11) false,.ds true (qe encGRaw a1.fRest) (qc a1.fRest) false],.cells v12 (qe encGEntry l11)]∧ya.j13 x4 (ya.l8 a0 a1 q8) l11=some r) ?_ ?_
 · apply ze;have f14:=E27.idxS hx8;have f15:=E27.fldS0 (f:=3) rfl rfl hx8;obtain⟨r16,hr16,h⟩:=zQ h
   refine rd [2,3,4,5,6,7] fun K hK=>?_
   refine DW.start (T:=tab) [.at [],.any,.at [],.any,.any,.any,.at [],.eff,.any,.any,.any,.flt,.eff,.any] [] ?_;refine DW.runN tok 7 ?_;simp only[go_sem,qb,qf,qa,qd,cellsGEntry,zS,f14,f15];refine DW.call rfl rfl rfl (yO.ev a0 y8.fTag r16 hr16 _) ?_;refine DW.runN tok 6 ?_;simp only[go_sem,qb,qf,qa,qd,encGField];refine DW.fin tok (by decide +kernel) rfl ?_;simp only[zj,upd,qa,reduceIte,yu,xe];apply hK
   refine rc [2,3,4,5,6,44] fun K hK=>?_
   refine rnN 4 ?_;obtain⟨c17,hc17,h⟩:=bind_some h;refine zh 11 (fun L τ=>L=[(2,.op 0 0 0),(3,.op 1 0 0),(4,.op 2 0 0),(5,.op 3 0 0),(6,.int .i64 x4),(44,.bool c17)]∧τ=[.cells 0 (encGMessage a0),.cells 0 (cellsGTree a1),.cells 0 [.int .i64 0,.int .i64 0,.str [],.ds true [] 0 true,.ds true [] 0 true],.cells 0 [.int .i64 3,.int .i64 0,.str [],.os true 2 4 v3 0 (qc l2) false,.ds true (qe encGRaw a1.fRest) (qc a1.fRest) false],.cells v3 (qe encGEntry l2),.cells 0 (encGField r16.1)]) ?_ ?_
   · refine yw 33 rfl (fun hg33=>?_) (fun hg33=>?_)
     · have t18:=eq_false hg33;rw[if_neg hg33] at hc17;refine rnN 10 ?_;refine rnN 1 ?_;cases hc17;refine zb ⟨rfl,_,_,⟨rfl,rfl⟩,.p t18⟩
     have t19:=eq_true hg33;rw[if_pos hg33] at hc17;have f20:=E27.idxS hx8;have f21:=E27.fldS (f:=90) rfl rfl hx8 (o:=1) (by decide);obtain⟨y22,hy22,hc17⟩:=bind_some hc17;have f23:=E90.idxS hy22;have f24:=E90.loadS rfl rfl hy22;obtain⟨r25,hr25,hc17⟩:=zQ hc17;refine zi tok 8 ?_;simp only[go_sem,qb,qa,qd,cellsGEntry,cellsGTree,zS,yU,f20,f21,f23,f24];refine clN rfl rfl rfl (Zs.ev y22 r25 hr25 _) ?_;refine rnN 2 ?_;cases hc17;refine zb ⟨rfl,_,_,⟨rfl,rfl⟩,.p t19⟩
   rintro _ _ ⟨rfl,rfl⟩;refine nkN hK ?_;refine zm (b:=c17) rfl (fun hc26=>?_) (fun hc26=>?_)
   · rw[if_pos hc26] at h;have f27:=E27.idxS hx8;have f28:=E27.loadS rfl rfl hx8;obtain⟨_u29,hu29,h⟩:=bind_some h;have gu29:=yf hu29;have f30:=(zt E27.len l2)
     refine rdE [2,3,4,5,6] fun K hK=>?_
     refine DW.start (T:=tab) [.any,.own 1 [],.any,.at [],.any,.any,.at [],.eff,.eff,.any,.eff] [(1,[])] ?_;refine DW.runN tok 8 ?_;simp only[go_sem,qb,qf,qa,qd,qt,zC,z7,q3,qT,true_and,ub,cellsGEntry,cellsGTree,zS,f27,f28,uc,qY,AV.one,qR,qx,qj,ql,qq,qH];refine DW.runN tok 3 ?_;simp only[go_sem,qb,qf,qa,qd,qt,z6,zJ,ym,true_and,gu29,f30,yJ,uc,qY,AV.one,qR,qj,ql,qq];refine DW.fin tok (by decide +kernel) rfl ?_;simp only[zj,upd,qa,reduceIte,yu,xe];apply hK
     exact⟨_,_,⟨l2++[y8],v3+1,rfl,rfl,h⟩,(.t [0,1,2,3,4] false)⟩
   rw[xQ hc26] at h;apply zd;exact⟨_,_,⟨l2,v3,rfl,rfl,h⟩,(.t [0,1,2,3,4] false)⟩
 rintro _ _ ⟨l11,v12,rfl,rfl,h⟩;unfold ya.j13 at h
 refine rgE tok [2,3,4,5,6] fun K hK=>?_
 simp only[go_sem,qb,qa,hw8];apply hK
 exact⟨_,_,_,qp q8.length,⟨p8++[y8],q8,x4+1,l11,v12,rfl,rfl,rfl,hE'8,hi'8,h⟩,.s⟩
theorem ya.ev (a0:GMessage)(a1:GTree)(r:GTree)(h:ya a0 a1=some r)(σ:Store):ACalls qh 77 [.agg (encGMessage a0),.agg (cellsGTree a1)] σ (fun r' σ'=>r'=.agg (cellsGTree r)∧σ'=σ):=
 (ya.ok a0 a1 r h).c σ
def xL.body (wa:GSchema→GMessage→(List UInt8)→Int→Option (GTree×Int))(yS:GSchema→GField→GRaw→Int→Option (GTree×Int))(a0:GSchema)(a1:GField)(a2:GRaw)(a3:Int):Option (GTree×Int):=
 bnd (wg a1.fType) fun r1=>(if (!(decide (r1=1)==decide (a2.fWire=0)))=true then some ((⟨0,0,[],([]:List GEntry),([]:List GRaw)⟩:GTree),8) else (if r1=1 then bnd (if a1.fType.fKind=1 then false else bnd (wz a1.fType a2.fN) fun r7 => !r7) fun c7=>(if c7=true then some ((⟨0,0,[],([]:List GEntry),([]:List GRaw)⟩:GTree),11) else some ((⟨r1,a2.fN,[],([]:List GEntry),([]:List GRaw)⟩:GTree),0)) else (if r1=2 then (if a1.fType.fKind=4 then (wT a2.fB).bind fun r16=>some (!r16) else some false).bind fun c16=>(if c16=true then some ((⟨0,0,[],([]:List GEntry),([]:List GRaw)⟩:GTree),9) else some ((⟨r1,0,a2.fB,([]:List GEntry),([]:List GRaw)⟩:GTree),0)) else (if 10≤a3 then some ((⟨0,0,[],([]:List GEntry),([]:List GRaw)⟩:GTree),10) else bnd (yd a0 a1.fType.fName) fun r26=>(grd (qc a2.fB≤9223372036854775807)).bind fun _u27=>(wa a0 r26.1 a2.fB (IntKind.i64.wrap (a3+1))).bind fun r29=>some (r29.1,r29.2)))))
theorem xL.step (wa:GSchema→GMessage→(List UInt8)→Int→Option (GTree×Int))(yS:GSchema→GField→GRaw→Int→Option (GTree×Int))(vbm:∀ (a0:GSchema) (a1:GMessage) (a2:List UInt8) (a3:Int) (r:GTree×Int),wa a0 a1 a2 a3=some r→ACalls qh 44 [.agg (encGSchema a0),.agg (encGMessage a1),.ds true (qe encB a2) (qc a2) false,.int .i64 a3] [] (fun r' _=>r'=.tup [.agg (cellsGTree r.1),.int .i64 r.2]))(ih_ref12_value:∀ (a0:GSchema) (a1:GField) (a2:GRaw) (a3:Int) (r:GTree×Int),yS a0 a1 a2 a3=some r→ACalls qh 74 [.agg (encGSchema a0),.agg (encGField a1),.agg (encGRaw a2),.int .i64 a3] [] (fun r' _=>r'=.tup [.agg (cellsGTree r.1),.int .i64 r.2]))(a0:GSchema)(a1:GField)(a2:GRaw)(a3:Int)(r:GTree×Int)(h:xL.body wa yS a0 a1 a2 a3=some r):ACalls qh 74 [.agg (encGSchema a0),.agg (encGField a1),.agg (encGRaw a2),.int .i64 a3] [] (fun r' _=>r'=.tup [.agg (cellsGTree r.1),.int .i64 r.2]):=by
 have ev_ref12_message:=fun a0 a1 a2 a3 r h σ=>(vbm a0 a1 a2 a3 r h).c σ
 have ev_ref12_value:=fun a0 a1 a2 a3 r h σ=>(ih_ref12_value a0 a1 a2 a3 r h).c σ
 refine zf (rs:=[.cell 8 30,.tmp 9]) tok Tryz.func74 rfl Tryz.ntmps74 rfl Tryz.call74 (by simp) ?_;refine zk [(0,.agg (encGSchema a0)),(1,.agg (encGField a1)),(2,.agg (encGRaw a2)),(3,.int .i64 a3)] ⟨rfl,rfl,rfl,rfl,trivial⟩ ?_;unfold xL.body at h
 refine rg tok [3,4,5,6,8] fun K hK=>?_
 simp only[go_sem,qb,qa,qd,reduceCtorEq,encGField,encGRaw,encGSchema];apply hK
 refine rc [3,4,5,6,8,10] fun K hK=>?_
 obtain⟨r1,hr1,h⟩:=zQ h;refine rnN 2 ?_;refine clN rfl rfl rfl (wg.ev a1.fType r1 hr1 _) ?_;refine rnN 1 ?_;refine nkN hK ?_
 refine za fun Z2 hZ2=>?_
 apply ze
 refine rg tok [3,4,5,6,8,10,16] fun K hK=>?_
 simp only[go_sem,qb,qa,qd,evEq];apply hK
 refine zm (b:=(!(decide (r1=1)==decide (a2.fWire=0)))) rfl (fun hc3=>?_) (fun hc3=>?_)
 · rw[if_pos hc3] at h;refine rgN [8,9] ?_;cases h;exact rtA
 rw[xQ hc3] at h;refine rgN [3,4,5,6,8,10,24] ?_;refine zq rfl (fun hc4=>?_) (fun hc4=>?_)
 · rw[if_pos hc4] at h;have t5:=eq_true hc4
   refine za fun Z6 hZ6=>?_
   refine rc [6,8,10,38] fun K hK=>?_
   refine zi tok 5 ?_;simp only[go_sem,qb,qa,qd,t5];obtain⟨c7,hc7,h⟩:=zQ h;refine zh 7 (fun L τ=>L=[(6,.op 2 0 0),(8,.op 3 0 0),(10,.int .i64 r1),(38,.bool c7)]∧τ=[.cells 0 (encGSchema a0),.cells 0 (encGField a1),.cells 0 [.int .i64 a2.fTag,.int .i64 a2.fWire,.int .i64 a2.fN,.str a2.fB],.cells 0 [.int .i64 0,.int .i64 0,.str [],.ds true [] 0 true,.ds true [] 0 true]]) ?_ ?_
   · refine yw 31 rfl (fun hg31=>?_) (fun hg31=>?_)
     · have t8:=eq_false hg31;rw[if_neg hg31] at hc7;obtain⟨r9,hr9,hc7⟩:=zQ hc7;refine rnN 4 ?_;refine clN rfl rfl rfl (wz.ev a1.fType a2.fN r9 hr9 _) ?_;refine rnN 2 ?_;subst hc7;refine zb ⟨rfl,_,_,⟨rfl,rfl⟩,.p t8⟩
     have t10:=eq_true hg31;rw[if_pos hg31] at hc7;refine rnN 7 ?_;subst hc7;refine zb ⟨rfl,_,_,⟨rfl,rfl⟩,.p t10⟩
   rintro _ _ ⟨rfl,rfl⟩;refine nkN hK ?_;refine zm (b:=c7) rfl (fun hc11=>?_) (fun hc11=>?_)
   · rw[if_pos hc11] at h;refine rgN [8,9] ?_;cases h;exact rtA
   rw[xQ hc11] at h;apply zd;apply hZ6;refine rgN [8,9] ?_;cases h;exact rtA
 rw[if_neg hc4] at h;have t12:=eq_false hc4
 refine rg tok [3,4,5,6,8,10,44] fun K hK=>?_
 simp only[go_sem,qb,qa,t12];apply hK
 refine zq rfl (fun hc13=>?_) (fun hc13=>?_)
 · rw[if_pos hc13] at h;have t14:=eq_true hc13
   refine za fun Z15 hZ15=>?_
   refine rc [6,8,10,56] fun K hK=>?_
   refine zi tok 5 ?_;simp only[go_sem,qb,qa,qd,t14];obtain⟨c16,hc16,h⟩:=bind_some h;refine zh 5 (fun L τ=>L=[(6,.op 2 0 0),(8,.op 3 0 0),(10,.int .i64 r1),(56,.bool c16)]∧τ=[.cells 0 (encGSchema a0),.cells 0 (encGField a1),.cells 0 [.int .i64 a2.fTag,.int .i64 a2.fWire,.int .i64 a2.fN,.str a2.fB],.cells 0 [.int .i64 0,.int .i64 0,.str [],.ds true [] 0 true,.ds true [] 0 true]]) ?_ ?_
   · refine yw 51 rfl (fun hg51=>?_) (fun hg51=>?_)
     · have t17:=eq_true hg51;rw[if_pos hg51] at hc16;obtain⟨r18,hr18,hc16⟩:=bind_some hc16;refine rnN 2 ?_;refine clN rfl rfl rfl (wT.ev a2.fB r18 hr18 _) ?_;refine rnN 2 ?_;cases hc16;refine zb ⟨rfl,_,_,⟨rfl,rfl⟩,.p t17⟩
     have t19:=eq_false hg51;rw[if_neg hg51] at hc16;refine rnN 5 ?_;cases hc16;refine zb ⟨rfl,_,_,⟨rfl,rfl⟩,.p t19⟩
   rintro _ _ ⟨rfl,rfl⟩;refine nkN hK ?_;refine zm (b:=c16) rfl (fun hc20=>?_) (fun hc20=>?_)
   · rw[if_pos hc20] at h;refine rgN [8,9] ?_;cases h;exact rtA
   rw[xQ hc20] at h;apply zd;apply hZ15;refine rgN [8,9] ?_;cases h;exact rtA
 rw[if_neg hc13] at h;have t21:=eq_false hc13;apply zd;apply hZ2
 refine za fun Z22 hZ22=>?_
 refine rg tok [3,4,5,6,8,63] fun K hK=>?_
 simp only[go_sem,qb,qa,t21];apply hK
 refine zq rfl (fun hc23=>?_) (fun hc23=>?_)
 · rw[if_pos hc23] at h;have t24:=eq_true hc23
   refine rg tok [8,9] fun K hK=>?_
   simp only[go_sem,qb,qf,qa,qd,t24];apply hK
   cases h;exact rtA
 rw[if_neg hc23] at h;have t25:=eq_false hc23;apply zd;apply hZ22
 refine rc [3,4,6,8,11] fun K hK=>?_
 obtain⟨r26,hr26,h⟩:=zQ h;refine zi tok 4 ?_;simp only[go_sem,qb,qf,qa,qd,t25];refine clN rfl rfl rfl (yd.ev a0 a1.fType.fName r26 hr26 _) ?_;refine zi tok 6 ?_;simp only[go_sem,qb,qf,qa,qd,encGMessage];refine nkN hK ?_
 refine rc [8,9] fun K hK=>?_
 obtain⟨_u27,hu27,h⟩:=bind_some h;have gu27:=wq hu27;have gu27t:=eq_true gu27;have f28:=vbB (T:=tab) (src:=9) (dst:=34) rfl rfl rfl rfl rfl rfl (wq hu27);obtain⟨r29,hr29,h⟩:=bind_some h;refine zi tok 7 ?_;simp only[go_sem,qb,qf,qa,qd,f28];refine Y0 (L:=[(8,.op 0 0 0),(73,.agg (encGSchema a0)),(74,.agg (encGMessage r26.1)),(77,.ds true (qe encB a2.fB) (qc a2.fB) false),(79,.int .i64 (IntKind.i64.wrap (a3+1)))]) (τ:=[.cells 0 [.int .i64 0,.int .i64 0,.str [],.ds true [] 0 true,.ds true [] 0 true]]) (.t [3] false) ?_;refine clN rfl rfl rfl (ev_ref12_message a0 r26.1 a2.fB (IntKind.i64.wrap (a3+1)) r29 hr29 _) ?_;refine zi tok 4 ?_;simp only[go_sem,qb,qf,qa,qd,cellsGTree,encGMessage,encGSchema];refine nkN hK ?_;cases h;exact rtA
end
section
set_option maxRecDepth 8000
set_option maxHeartbeats 1000000
open Go.RowKit AM
def Zy (e:GEntry):List GEntry→List GEntry→List GEntry
 |[],B=>e::B
 |a::A,B=>if e.fTag<a.fTag then Zy e A (a::B) else (a::A).reverse++e::B
def wE (f:GField)(x:GTree):List GEntry→List GEntry→Option (List GEntry×Bool)
 |pre,[]=>(Yg (pre.length+1) 32).bind fun _=>some (Zy ⟨f.fTag,[x]⟩ pre.reverse [],true)
 |pre,e::q=>if e.fTag=f.fTag then (if f.fLabel=3 then (Yg (e.fTrees.length+1) 80).bind fun _=>some (pre++⟨e.fTag,e.fTrees++[x]⟩::q,decide (((e.fTrees++[x]).length:Int)≤64)) else some (pre++⟨e.fTag,[x]⟩::q,true)) else wE f x (pre++[e]) q
def XK (es:List GEntry)(f:GField)(x:GTree):Option (List GEntry×Bool):=wE f x [] es
theorem awp_cellL {P:Program}{n k:Nat}{Q:Exit→Fr→Store→Prop}{F:Fr}{σ:Store}{c:Code}{id ver:Nat}{cs:List AV}(hcs:Store.at σ id ver=some cs){i:Nat}(hi:i<cs.length){nl:Bool}{sz id' ver' off len:Nat}{t:Bool}(hg:gc cs i=.os nl sz id' ver' off len t)(h:awp P n k c Q F (σ.set id (.cells ver (cs.set i (.os nl sz id' ver' off len false))))):awp P n k c Q F σ:=
 fun E a hk hS hF=>h E a hk (hS.cell hcs hi fun v hv=>by rw[hg] at hv; exact hv.loose) hF
theorem gc_set1 {l:List AV}{i:Nat}(h:i<l.length)(v:AV):gc (l.set i v) i=v:=by
 rw[gc_set _ _ _ _ h,if_pos rfl]
theorem agr_refl {x:List Nat}:∀ {z s:Store} {i:Nat},z.length≤s.length→agr x i z s s
 |[],_,_,_=>trivial
 |a::z,[],_,h=>absurd h (by simp)
 |a::z,b::s,i,h=>⟨Or.inr rfl,agr_refl (Nat.le_of_succ_le_succ h)⟩
theorem agr_set {o:ZN}:∀ {z s:Store} {i id:Nat},z.length≤s.length→agr [i+id] i z s (s.set id o)
 |[],_,_,_,_=>trivial
 |a::z,[],_,_,h=>absurd h (by simp)
 |a::z,b::s,i,0,h=>⟨Or.inl (by simp[hasN]),agr_refl (Nat.le_of_succ_le_succ h)⟩
 |a::z,b::s,i,id+1,h=>by
  refine⟨Or.inr rfl,?_⟩;have:=agr_set (o:=o) (z:=z) (s:=s) (i:=i+1) (id:=id) (Nat.le_of_succ_le_succ h)
  rw[show i+(id+1)=i+1+id by omega]; exact this
theorem agr_appz {x:List Nat}{l:Store}:∀ {z s:Store} {i:Nat},z.length≤s.length→agr x i z s (s++l)
 |[],_,_,_=>trivial
 |a::z,[],_,h=>absurd h (by simp)
 |a::z,b::s,i,h=>⟨Or.inr rfl,agr_appz (Nat.le_of_succ_le_succ h)⟩
structure RepR (rv:AV)(σ:Store)(tid eid ever:Nat)(L:List Ent):Prop where
 t:Store.at σ tid 0=some [.int .i64 3,.int .i64 0,.str [],.os true 2 eid ever 0 L.length false,rv]
 e:Store.at σ eid ever=some (L.flatMap Ent.cells)
 tr:∀ x∈L,Store.at σ x.id x.ver=some (x.trees.flatMap encGTree)
 nd:(tid::eid::L.map Ent.id).Nodup
theorem RepR.app {rv:AV}{σ:Store}{tid eid ever:Nat}{L:List Ent}(h:RepR rv σ tid eid ever L)(l:Store):RepR rv (σ++l) tid eid ever L:=
 ⟨xE h.t l,xE h.e l,fun x hx=>xE (h.tr x hx) l,h.nd⟩
theorem rep_mid {rv:AV}{σ τ:Store}{tid eid ever:Nat}{pre post:List Ent}{e e':Ent}(hR:RepR rv σ tid eid ever (pre++e::post))(ht:Store.at τ tid 0=Store.at σ tid 0)(he:Store.at τ eid ever=some (pre.flatMap Ent.cells++(e'.cells++post.flatMap Ent.cells)))(hn:Store.at τ e'.id e'.ver=some (e'.trees.flatMap encGTree))
 (hk:∀ y∈pre++post,Store.at τ y.id y.ver=Store.at σ y.id y.ver) (hid:e'.id∉tid::eid::(pre++post).map Ent.id):RepR rv τ tid eid ever (pre++e'::post):=by
 have hsub:∀ y∈pre++post,y∈pre++e::post:=fun y hy=>by
  rcases ug.1 hy with h|h
  · exact uo _ h
  exact q2 _ (qm _ h)
 have hnd:(tid::eid::(pre++post).map Ent.id).Nodup:=by
  refine List.Nodup.sublist ?_ hR.nd;refine List.Sublist.cons_cons _ (List.Sublist.cons_cons _ ?_);exact (List.Sublist.append_left (List.sublist_cons_self _ _) _).map _
 refine⟨?_,?_,fun y hy=>?_,?_⟩
 · rw[ht,hR.t,qi,qi,qj,qj]
 · rw[he,qS,qO]
 · rcases ug.1 hy with h|h
   · rw[hk y (uo _ h)]; exact hR.tr y (hsub y (uo _ h))
   rcases qB.1 h with rfl|h
   · exact hn
   rw[hk y (q2 _ h)]; exact hR.tr y (hsub y (q2 _ h))
 have hp:(e'.id::tid::eid::(pre++post).map Ent.id).Nodup:=uA.2 ⟨hid,hnd⟩;refine (List.Perm.nodup_iff ?_).1 hp;refine (List.Perm.swap _ _ _).trans (List.Perm.cons _ ((List.Perm.swap _ _ _).trans (List.Perm.cons _ ?_)));rw[qD,qD,qE];exact (List.perm_middle).symm
def renE (g:List Nat→List Nat):EK→EK
 |.own m x=>.own m (g x)
 |e=>e
theorem kOf_ren (g:List Nat→List Nat)(es:List EK)(i:Nat):kOf (es.map (renE g)) i=renE g (kOf es i):=by
 simp only[kOf,qu,List.getElem?_map]
 cases es[i]?<;>rfl
theorem isE_ren (g:List Nat→List Nat)(es:List EK):isE (es.map (renE g))=isE es:=by
 funext i; unfold isE; rw[kOf_ren]; cases kOf es i<;>rfl
theorem isF_ren (g:List Nat→List Nat)(es:List EK):isF (es.map (renE g))=isF es:=by
 funext i; unfold isF; rw[kOf_ren]; cases kOf es i<;>rfl
theorem inEx_ren (g:List Nat→List Nat){ex:List (Nat×List Nat)}{q:Nat}{y:List Nat}(h:inEx ex q y=true):inEx (ex.map fun p=>(p.1,g p.2)) q (g y)=true:=by
 induction ex with
 |nil=>cases h
 |cons p ex ih=>
  obtain⟨m,x⟩:=p;simp only[inEx,qE,qI,qo,beq_iff_eq] at h ⊢
  rcases h with ⟨rfl,rfl⟩|h
  · exact .inl ⟨rfl,rfl⟩
  exact .inr (ih h)
theorem chkD_ren (g:List Nat→List Nat){ops:List Oper}{es:List EK}{ex:List (Nat×List Nat)}(h:chkD ops es ex=true):chkD ops (es.map (renE g)) (ex.map fun p=>(p.1,g p.2))=true:=by
 simp only[chkD,qo,isE_ren,isF_ren] at h ⊢;refine⟨h.1,uf.2 fun j hj=>?_⟩;have:=uf.1 h.2 j hj;rw[kOf_ren]
 cases hk:kOf es j with
 |own m x=>
  rw[hk] at this;simp only[renE,qo] at this ⊢;exact⟨⟨inEx_ren g this.1.1,this.1.2⟩,this.2⟩
 |eff=>rfl
 |flt=>rfl
 |any=>rfl
 |_=>rw[hk] at this; exact this
theorem Zh (a b:List AV)(x y w v:AV):y1 (a++([x,y]++b)) a.length [w,v]=a++([w,v]++b):=by
 simp[y1]
theorem put12_at {rv:AV}{σ:Store}{tid eid ever:Nat}{L:List Ent}(hR:RepR rv σ tid eid ever L)(f:GField)(x:GTree){es':List GEntry}{b:Bool}(h:XK (L.map Ent.val) f x=some (es',b)):
 ACalls qh 75 [.op tid 0 0,.agg (encGField f),.agg (cellsGTree x)] σ (fun r σ'=>∃ ever' L',r=.bool b∧RepR rv σ' tid eid ever' L'∧L'.map Ent.val=es'∧
  (∀ y∈L',y.id∈L.map Ent.id∨σ.length≤y.id)∧σ.length≤σ'.length∧∀ j,j<σ.length→j∉tid::eid::L.map Ent.id→σ'[j]?=σ[j]?):=by
 refine Zr (rs:=[.tmp 6]) tok Tryz.func75 rfl Tryz.ntmps75 rfl Tryz.call75 (by simp) ?_;refine zk [(0,.op tid 0 0),(1,.agg (encGField f)),(2,.agg (cellsGTree x))] ⟨rfl,rfl,rfl,trivial⟩ ?_
 refine rg tok [0,4,5,6] fun K hK=>?_
 simp only[go_sem,qb,qa,qd,reduceCtorEq,encGField,cellsGTree];apply hK
 clear hK K
 simp only[qs,qH,qx,qi,qj,ql,qq]
 obtain⟨σ1,hσ1⟩:∃ s,s=σ++[.cells 0 [.str f.fName,.int .i64 f.fTag,.int .i64 f.fLabel,.int .i64 f.fType.fKind,.str f.fType.fName],
  .cells 0 [.int .i64 x.fKind,.int .i64 x.fN,.str x.fS,.ds true (qe encGEntry x.fEntries) x.fEntries.length false,.ds true (qe encGRaw x.fRest) x.fRest.length false]]:=⟨_,rfl⟩
 rw[← hσ1];have hR1:RepR rv σ1 tid eid ever L:=hσ1▸hR.app _;have h4:Store.at σ1 σ.length 0=some [.str f.fName,.int .i64 f.fTag,.int .i64 f.fLabel,.int .i64 f.fType.fKind,.str f.fType.fName]:=hσ1▸ZT _ _ _;have h5:Store.at σ1 (σ.length+1) 0=some [.int .i64 x.fKind,.int .i64 x.fN,.str x.fS,.ds true (qe encGEntry x.fEntries) x.fEntries.length false,.ds true (qe encGRaw x.fRest) x.fRest.length false]:=hσ1▸at_end1 _ _ _ _
 have hn1:σ1.length=σ.length+2:=by rw[hσ1]; simp
 have hfr:∀ j,j<σ.length→σ1[j]?=σ[j]?:=fun j hj=>by rw[hσ1,qL hj]
 have ht1:=hR1.t;unfold XK at h
 refine za fun Z1 hZ1=>?_
 refine rg tok [0,4,5,6,7] fun K hK=>?_
 simp only[go_sem,qb,qa,reduceCtorEq];apply hK
 clear hK K
 refine ze ?_
 refine xh tid (Store.at_some ht1) fun hB=>?_
 replace hB:L.length≤9223372036854775807:=hB.2.2.2.1;refine zp (fun m F τ=>∃ pre post:List Ent,L=pre++post∧m=post.length∧F=[(0,AV.op tid 0 0),(4,.op σ.length 0 0),(5,.op (σ.length+1) 0 0),(6,.bool false),(7,.int .i64 pre.length)]∧σ1=τ∧wE f x (pre.map Ent.val) (post.map Ent.val)=some (es',b)) L.length ⟨[],L,rfl,rfl,rfl,rfl,h⟩ .s ?_;rintro m F τ ⟨pre,post,rfl,rfl,rfl,rfl,hp⟩
 cases post with
 |nil=>
  rw[qz] at hR hR1 ht1 hB h;have hl1:((pre.length:Int)<(pre.length:Int))=False:=eq_false (Int.lt_irrefl _);simp only[qz,qw,wE] at hp ⊢;obtain⟨_,hu,hp⟩:=bind_some hp;have hg:=yf hu;obtain⟨hp1,hp2⟩:=Prod.mk.inj (Option.some.inj hp);have he1:=hR1.e;have hcl:(pre.flatMap Ent.cells).length=pre.length*2:=ZE pre;have htl:(tid<σ1.length)=True:=eq_true (Store.at_lt ht1);have heid:(eid<σ1.length)=True:=eq_true (Store.at_lt he1);have hnd:=hR1.nd;rw[uA,uA] at hnd
  have hte:tid≠eid:=fun e=>hnd.1 (e▸qn ..)
  refine za fun Z2 hZ2=>?_
  refine rg tok [0,4,5,6,15] fun K hK=>?_
  simp only[go_sem,qb,qa,qd,reduceCtorEq,ht1,hl1,decide_false];apply hK
  clear hK K
  refine zn rfl ?_;refine zr ?_;apply hZ1
  clear hZ1 hZ2
  obtain⟨xc,hxc⟩:∃ xc,xc=[AV.int .i64 x.fKind,.int .i64 x.fN,.str x.fS,.ds true (qe encGEntry x.fEntries) x.fEntries.length false,.ds true (qe encGRaw x.fRest) x.fRest.length false]:=⟨_,rfl⟩
  have hx5:xc.length=5:=by rw[hxc]; rfl
  have hx1:xc.all AV.one=true:=by rw[hxc]; rfl
  have hxe:xc=encGTree x:=by rw[hxc,yU]<;>rfl
  simp only[qz];have hsl:(σ.length<σ1.length)=True:=eq_true (by omega)
  refine rd [0,6] fun K hK=>?_
  refine DW.start (T:=tab) [.any,.any,.any,.any,.own 2 [],.any,.own 1 [],.at [],.eff,.any,.eff,.eff,.any,.any,.eff] [(2,[]),(1,[])] ?_;refine DW.runN tok 8 ?_;simp only[go_sem,qb,qf,qa,qd,reduceCtorEq,ht1,h4,h5,htl,hsl];refine DW.runN tok 1 ?_;simp only[go_sem,qb,qf,qa,qd,qt,reduceCtorEq,zC,z7,q3,qT,true_and,ub,va4];rw[← hxc];refine DW.runN tok 1 ?_;simp only[go_sem,qb,qf,qa,qd,reduceCtorEq]
  obtain⟨s2,hs2⟩:∃ s,s=σ1++[.cells 0 xc]:=⟨_,rfl⟩
  have hl2:s2.length=σ1.length+1:=by rw[hs2,qi]; rfl
  rw[← hs2];refine DW.runN tok 1 ?_;simp only[go_sem,qb,qf,qa,qd,qt,reduceCtorEq,zC,z7,q3,qT,true_and,ub]
  obtain⟨nc,hnc⟩:∃ l,l=[AV.int .i64 f.fTag,.os true 5 σ1.length 0 0 1 true]:=⟨_,rfl⟩
  obtain⟨s3,hs3⟩:∃ s,s=s2++[.cells 0 nc]:=⟨_,rfl⟩
  rw[← hnc,← hs3]
  have hl3:s3.length=s2.length+1:=by rw[hs3,qi]; rfl
  have e1:yj s3 2 (.os true 2 s2.length 0 0 1 true)=some (1,nc):=by
   simp only[yj,hs3,ZT s2 nc []]
   rw[hnc]; rfl
  have he3:Store.at s3 eid ever=some (pre.flatMap Ent.cells):=by rw[hs3,hs2]; exact xE (xE he1 _) _
  have ht3:Store.at s3 tid 0=some [.int .i64 3,.int .i64 0,.str [],.os true 2 eid ever 0 pre.length false,rv]:=by rw[hs3,hs2]; exact xE (xE ht1 _) _
  have hn1:nc.all AV.one=true:=by rw[hnc]; rfl
  have k1:z6 tab 27 27 (.os true 2 eid ever 0 pre.length false) (.os true 2 s2.length 0 0 1 true) s3=some (.os true 2 eid (ever+1) 0 (pre.length+1) false,s3.set eid (.cells (ever+1) (pre.flatMap Ent.cells++nc))):=by
   have hg':((pre.length+1)*32≤140737488355328)=True:=by
    rw[q7] at hg; exact hg
   simp only[z6,Yl,Yk,e1,ym,hn1,zJ,he3,hcl,hg',and_self,qb,if_true]
  have ht4:=zY ht3 hte (.cells (ever+1) (pre.flatMap Ent.cells++nc));refine⟨hs3▸agr_appz (by omega),?_⟩;refine DW.runN tok 1 ?_;simp only[go_sem,qb,qf,qa,qd,reduceCtorEq,k1];refine DW.runN tok 3 ?_;simp only[go_sem,qb,qf,qa,qd,reduceCtorEq,ht4];refine DW.fin tok (by decide +kernel) rfl ?_;simp only[zj,upd,qa,reduceIte,yu,xe];apply hK
  clear hK K
  have hge:gc (pre.flatMap Ent.cells++nc) (pre.length*2+1)=.os true 5 σ1.length 0 0 1 true:=by
   rw[hnc,← hcl]; exact gc_mid _ [] _ _
  have hct:(pre.flatMap Ent.cells++nc).set (pre.length*2+1) (.os true 5 σ1.length 0 0 1 false)=(pre++[(⟨f.fTag,σ1.length,0,[x]⟩:Ent)]).flatMap Ent.cells:=by
   rw[qS,hnc,← hcl];exact vap _ [] _ _ _
  obtain⟨s5,hs5⟩:∃ s,s=(u4 s3 eid (ZN.cells (ever+1) (qe Ent.cells pre++nc))).set tid (ZN.cells 0 [AV.int IntKind.i64 3,AV.int IntKind.i64 0,AV.str [],AV.os true 2 eid (ever+1) 0 (pre.length+1) false,rv]):=⟨_,rfl⟩
  rw[← hs5]
  have he5:Store.at s5 eid (ever+1)=some (pre.flatMap Ent.cells++nc):=by rw[hs5]; exact zY (Store.at_set he3) (fun h=>hte h.symm) _
  have ht5:Store.at s5 tid 0=some [.int .i64 3,.int .i64 0,.str [],.os true 2 eid (ever+1) 0 (pre.length+1) false,rv]:=by rw[hs5]; exact Store.at_set ht4
  refine awp_cellL he5 (i:=pre.length*2+1) (by rw[qi,hcl,hnc]; simp) hge ?_;rw[hct]
  obtain⟨s6,hs6⟩:∃ s,s=s5.set eid (.cells (ever+1) ((pre++[(⟨f.fTag,σ1.length,0,[x]⟩:Ent)]).flatMap Ent.cells)):=⟨_,rfl⟩
  rw[← hs6]
  have hids:∀ y∈pre,y.id≠eid∧y.id≠tid∧y.id<σ1.length:=fun y hy=>
   ⟨fun e'=>hnd.2.1 (e'▸ud.2 ⟨y,hy,rfl⟩),fun e'=>hnd.1 (e'▸qm _ (ud.2 ⟨y,hy,rfl⟩)),Store.at_lt (hR1.tr y hy)⟩
  have htl':=of_eq_true htl;have heid':=of_eq_true heid
  have hR6:RepR rv s6 tid eid (ever+1) (pre++[⟨f.fTag,σ1.length,0,[x]⟩]):=by
   refine⟨?_,?_,fun y hy=>?_,?_⟩
   · rw[hs6,qi]; exact zY ht5 hte _
   · rw[hs6]; exact Store.at_set he5
   · rw[hs6,hs5,hs3,hs2]
     rcases ug.1 hy with hy|hy
     · obtain⟨h1,h2,_⟩:=hids y hy;exact zY (zY (zY (xE (xE (hR1.tr y hy) _) _) h1 _) h2 _) h1 _
     rw[ut.1 hy];refine zY (zY (zY (xE ?_ _) (by dsimp only; omega) _) (by dsimp only; omega) _) (by dsimp only; omega) _
     rw[hxe]; exact (ZT σ1 _ []).trans (by simp)
   have hp:(σ1.length::tid::eid::pre.map Ent.id).Nodup:=uA.2 ⟨fun hm=>by
    rcases qB.1 hm with h|hm
    · omega
    rcases qB.1 hm with h|hm
    · omega
    obtain⟨y,hy,hye⟩:=ud.1 hm;have:=(hids y hy).2.2
    omega,hR1.nd⟩
   refine (List.Perm.nodup_iff ?_).1 hp;refine (List.Perm.swap _ _ _).trans (List.Perm.cons _ ((List.Perm.swap _ _ _).trans (List.Perm.cons _ ?_)));rw[qD];exact (List.perm_append_singleton _ _).symm
  have hn6:σ.length≤s6.length:=by rw[hs6,hs5,uD,uD,uD,hl3,hl2]; omega
  have hf6:∀ j,j<σ.length→j∉tid::eid::pre.map Ent.id→s6[j]?=σ[j]?:=by
   intro j hj hjn
   have h1:eid≠j:=fun h=>hjn (by rw[← h]; simp)
   have h2:tid≠j:=fun h=>hjn (by rw[← h]; simp)
   rw[hs6,qW h1,hs5,qW h2,qW h1,hs3,hs2,qL (by rw[qi]; omega),qL (by omega)];exact hfr j hj
  have ht6:=hR6.t
  have hw6:IntKind.i64.wrap (((pre++[(⟨f.fTag,σ1.length,0,[x]⟩:Ent)]).length:Int)-1)=(pre.length:Int):=by
   rw[qi,qG,yq (by omega) (by omega)]; omega
  refine za fun Z4 hZ4=>?_
  refine rg tok [0,6,8] fun K hK=>?_
  simp only[go_sem,qb,qa,qd,reduceCtorEq,ht6,hw6];apply hK
  clear hK K
  refine ze ?_
  refine zp (fun m F τ=>∃ (A:List Ent) (e:Ent) (B:List Ent),F=[(0,AV.op tid 0 0),(6,.bool false),(8,.int .i64 A.length)]∧m=A.length∧RepR rv τ tid eid (ever+1) (A.reverse++e::B)∧Zy e.val (A.map Ent.val) (B.map Ent.val)=es'∧
   (A.reverse++e::B).length=pre.length+1∧(∀ y∈A.reverse++e::B,y.id∈pre.map Ent.id∨σ.length≤y.id)∧σ.length≤τ.length∧∀ j,j<σ.length→j∉tid::eid::pre.map Ent.id→τ[j]?=σ[j]?) pre.length ⟨pre.reverse,⟨f.fTag,σ1.length,0,[x]⟩,[],by rw[List.length_reverse],by rw[List.length_reverse],by rw[List.reverse_reverse]; exact hR6,by rw[← hp1,List.map_reverse]; rfl,by rw[List.reverse_reverse,qi]; rfl,fun y hy=>by
    rw[List.reverse_reverse] at hy
    rcases ug.1 hy with hy|hy
    · exact .inl (ud.2 ⟨y,hy,rfl⟩)
    rw[ut.1 hy]; exact .inr (by dsimp only; omega),hn6,hf6⟩ .s ?_
  clear ht6 hw6 hR6 hn6 hf6 ht5 he5 hs6 hs5 ht4 k1 hn1 ht3 he3 e1 hl3 hs3
  rintro m F τ ⟨A,e,B,rfl,rfl,hRt,hb,hlt,hidt,hnt,hft⟩;have htt:=hRt.t
  refine za fun Z5 hZ5=>?_
  cases A with
  |nil=>
   have h0:((0:Int)<((0:Nat):Int))=False:=eq_false (by decide)
   refine rd [0,6,8,110] fun K hK=>?_
   refine DW.start (T:=tab) [.any,.any,.any,.any,.any,.any,.at [],.any,.any,.any,.at [],.any,.any,.any,.at [],.any,.any,.any,.any,.at [],.any,.any] [] ?_;refine DW.runN tok 3 ?_;simp only[go_sem,qb,qa,reduceCtorEq,h0,decide_false];refine DW.runN tok 19 ?_;simp only[go_sem,qb,qa,reduceCtorEq];refine DW.fin tok (by decide +kernel) rfl ?_;simp only[zj,upd,qa,reduceIte,yu,xe];apply hK
   clear hK K
   refine zn rfl ?_;refine zr ?_;apply hZ4
   refine rg tok [6] fun K hK=>?_
   simp only[go_sem,qb,qa,reduceCtorEq];apply hK
   clear hK K
   refine yz ?_;simp only[ZL,yT,xd,xZ,exists_eq_left',go_sem];exact⟨_,e::B,by rw[← hp2],hRt,hb,hidt,hnt,hft⟩
  |cons a A=>
   have hrv:(a::A).reverse++e::B=A.reverse++(a::e::B):=by rw[u3,qs]; rfl
   have hk0:((a::A).length:Int)=((A.length+1:Nat):Int):=rfl;have h0:((0:Int)<((A.length+1:Nat):Int))=True:=eq_true (by omega);rw[hrv] at htt hlt hidt
   have hlen:(A.reverse++(a::e::B)).length=A.length+2+B.length:=by rw[qi,List.length_reverse,qj,qj]; omega
   have hcA:(A.reverse.flatMap Ent.cells).length=A.length*2:=by rw[ZE,List.length_reverse]
   obtain⟨cs,hcs⟩:∃ cs,cs=A.reverse.flatMap Ent.cells++(a.cells++(e.cells++B.flatMap Ent.cells)):=⟨_,rfl⟩
   have hce:Store.at τ eid (ever+1)=some cs:=by
    have:=hRt.e
    rw[hrv,qS,qO,qO] at this; rw[hcs]; exact this
   have hcsl:cs.length=A.length*2+(4+B.length*2):=by rw[hcs,qi,hcA,qi,qi,ZE]; simp[Ent.cells]; omega
   have hw1:IntKind.i64.wrap (((A.length+1:Nat):Int)-1)=(A.length:Int):=by rw[yq (by omega) (by omega)]; omega
   have hx0:xH tab 27 (.os true 2 eid (ever+1) 0 (A.reverse++(a::e::B)).length false) (.int .i64 ((A.length+1:Nat):Int))=some (.op eid (ever+1) (A.length*2+2)):=by
    simp only[xH,Yl,Yk,hlen]
    simp
    omega
   have hx1':xH tab 27 (.os true 2 eid (ever+1) 0 (A.reverse++(a::e::B)).length false) (.int .i64 (A.length:Int))=some (.op eid (ever+1) (A.length*2)):=by
    simp only[xH,Yl,Yk,hlen]
    simp
    omega
   have hc0:(A.length*2<cs.length)=True:=eq_true (by omega);have hc1:(A.length*2+2<cs.length)=True:=eq_true (by omega)
   have hg0:gc cs (A.length*2)=.int .i64 a.tag:=by rw[hcs,← hcA]; simp[gc,Ent.cells]
   have hg1:gc cs (A.length*2+2)=.int .i64 e.tag:=by rw[hcs,← hcA,Zo _ _ _ (by omega),Nat.add_sub_cancel_left]; rfl
   rw[qE,Zy] at hb
   refine rd [0,6,8,110] fun K hK=>?_
   refine DW.start (T:=tab) [.any,.any,.any,.any,.any,.any,.at [],.any,.any,.any,.at [],.any,.any,.any,.at [],.any,.any,.any,.any,.at [],.any,.any] [] ?_;refine DW.runN tok 3 ?_;simp only[go_sem,qb,qa,reduceCtorEq,h0,decide_true];refine DW.runN tok 8 ?_;simp only[go_sem,qb,qa,qd,reduceCtorEq,htt,hx0,hce,hc1,hg1];refine DW.runN tok 8 ?_;simp only[go_sem,qb,qa,qd,reduceCtorEq,htt,hw1,hx1'];refine DW.runN tok 3 ?_;simp only[go_sem,qb,qa,reduceCtorEq,hce,hc0,hg0];refine DW.fin tok (by decide +kernel) rfl ?_;simp only[zj,upd,qa,reduceIte,yu,xe];apply hK
   clear hK K
   refine zq rfl (fun hlt'=>?_) (fun hge'=>?_)
   · refine zd ?_;apply hZ5
     refine za fun Z6 hZ6=>?_
     refine ze ?_
     refine rdE [0,6,8] fun K hK=>?_
     refine DW.start (T:=tab) [.any,.any,.any,.at [],.any,.any,.any,.any,.at [],.any,.any,.any,.any,.any,.at [],.any,.any,.any,.at [],.any,.any,.any,.at [],.any,.any,.at [],.any,.eff,.any,.eff] [] ?_;refine DW.runN tok 9 ?_;simp only[go_sem,qb,qa,qd,reduceCtorEq,htt];have hd0:(A.length*2+2≤cs.length)=True:=eq_true (by omega);have hoa:(a.cells.all AV.one=true)=True:=eq_true rfl;have hoal:(a.cells.length=2)=True:=eq_true rfl;have hob:(e.cells.all AV.one=true)=True:=eq_true rfl;have hobl:(e.cells.length=2)=True:=eq_true rfl;have hd1:(A.length*2+2+2≤cs.length)=True:=eq_true (by omega)
     have hs0:List.take 2 (List.drop (A.length*2) cs)=a.cells:=by rw[hcs,← hcA,List.drop_left]; rfl
     have hs1:List.take 2 (List.drop (A.length*2+2) cs)=e.cells:=by
      rw[hcs,← hcA,List.drop_append,Nat.add_sub_cancel_left,List.drop_eq_nil_of_le (by omega)]; rfl
     refine DW.runN tok 10 ?_;simp only[go_sem,qb,qa,qd,reduceCtorEq,htt,hw1,hx1',hce,hd0,hs0];refine DW.runN tok 7 ?_;simp only[go_sem,qb,qa,qd,reduceCtorEq,htt,hx0,hce,hd1,hs1];refine DW.runN tok 2 ?_;simp only[go_sem,qb,qa,reduceCtorEq,hx0,hce,hd1,hoa,hoal,and_self]
     obtain⟨c1,hc1e⟩:∃ c,c=y1 cs (A.length*2+2) a.cells:=⟨_,rfl⟩
     have hc1':c1=A.reverse.flatMap Ent.cells++(a.cells++(a.cells++B.flatMap Ent.cells)):=by
      rw[hc1e,hcs,← hcA,← qs,show (A.reverse.flatMap Ent.cells).length+2=(A.reverse.flatMap Ent.cells++a.cells).length by rw[qi]; rfl];exact (Zh _ _ _ _ _ _).trans (qs _ _ _)
     obtain⟨c2,hc2e⟩:∃ c,c=y1 c1 (A.length*2) e.cells:=⟨_,rfl⟩
     have hc2':c2=A.reverse.flatMap Ent.cells++(e.cells++(a.cells++B.flatMap Ent.cells)):=by
      rw[hc2e,hc1',← hcA];exact Zh _ _ _ _ _ _
     rw[← hc1e]
     obtain⟨τ1,hτ1⟩:∃ t,t=u4 τ eid (ZN.cells (ever+1) c1):=⟨_,rfl⟩
     have hce1:Store.at τ1 eid (ever+1)=some c1:=by rw[hτ1]; exact Store.at_set hce
     have hd2:(A.length*2+2≤c1.length)=True:=eq_true (by rw[hc1',qi,hcA,qi]; simp[Ent.cells]);rw[← hτ1];refine DW.runN tok 2 ?_;simp only[go_sem,qb,qa,reduceCtorEq,hx1',hce1,hd2,hob,hobl,and_self];rw[← hc2e];refine DW.fin tok (by decide +kernel) rfl ?_;simp only[zj,upd,qa,reduceIte,yu,xe];apply hK
     clear hK K
     apply hZ6
     refine rgE tok [0,6,8] fun K hK=>?_
     simp only[go_sem,qb,qa,reduceCtorEq,hw1];apply hK
     clear hK K
     have hlt'':e.val.fTag<a.val.fTag:=hlt';rw[if_pos hlt''] at hb
     have hei:∀ y∈A.reverse++a::e::B,y.id≠eid:=fun y hy h=>by
      have:=hRt.nd;rw[hrv,uA,uA] at this;exact this.2.1 (h▸ud.2 ⟨y,hy,rfl⟩)
     have hpm:(A.reverse++e::a::B).Perm (A.reverse++a::e::B):=List.Perm.append_left _ (List.Perm.swap _ _ _);rw[hrv] at hRt;refine⟨_,_,_,qp A.length,⟨A,e,a::B,rfl,rfl,⟨?_,?_,fun y hy=>?_,?_⟩,hb,?_,fun y hy=>hidt y (hpm.mem_iff.1 hy),?_,?_⟩,.s⟩
     · rw[hpm.length_eq,hτ1]; exact zY (zY htt hte _) hte _
     · rw[Store.at_set hce1,hc2',qS,qO,qO]
     · have hy':=hpm.mem_iff.1 hy;rw[hτ1];exact zY (zY (hRt.tr y hy') (hei y hy') _) (hei y hy') _
     · exact (List.Perm.nodup_iff (List.Perm.cons _ (List.Perm.cons _ (hpm.map _)))).2 hRt.nd
     · rw[hpm.length_eq]; exact hlt
     · rw[uD,hτ1,uD]; exact hnt
     intro j hj hjn
     have h1:eid≠j:=fun h=>hjn (by rw[← h]; simp)
     rw[qW h1,hτ1,qW h1];exact hft j hj hjn
   have hge'':¬ e.val.fTag<a.val.fTag:=hge';rw[if_neg hge''] at hb;refine zr ?_;apply hZ4
   refine rg tok [6] fun K hK=>?_
   simp only[go_sem,qb,qa,reduceCtorEq];apply hK
   clear hK K
   refine yz ?_;simp only[ZL,yT,xd,xZ,exists_eq_left',go_sem];refine⟨_,A.reverse++(a::e::B),by rw[← hp2],hrv▸hRt,?_,hidt,hnt,hft⟩
   rw[← hb,qD,List.map_reverse,u3,qs]; rfl
 |cons e post=>
  have hlen:(pre++e::post).length=pre.length+(post.length+1):=by rw[qi,qj]
  have hl1:((pre.length:Int)<((pre++e::post).length:Int))=True:=eq_true (by omega);have hcl:(pre.flatMap Ent.cells).length=pre.length*2:=ZE pre
  have he1:Store.at σ1 eid ever=some (pre.flatMap Ent.cells++(e.cells++post.flatMap Ent.cells)):=by
   have:=hR1.e
   rw[qS,qO] at this; exact this
  obtain⟨cs,hcs⟩:∃ cs,cs=pre.flatMap Ent.cells++(e.cells++post.flatMap Ent.cells):=⟨_,rfl⟩
  rw[← hcs] at he1
  have hcsl:cs.length=pre.length*2+(2+post.length*2):=by rw[hcs,qi,hcl,qi,ZE]; rfl
  have hc0:(pre.length*2<cs.length)=True:=eq_true (by omega);have hc1:(pre.length*2+1<cs.length)=True:=eq_true (by omega);have hc1':(pre.length*2+1+1≤cs.length)=True:=eq_true (by omega)
  have hg0:gc cs (pre.length*2)=.int .i64 e.tag:=by
   rw[hcs,← hcl]; simp[gc,Ent.cells]
  have hg1:gc cs (pre.length*2+1)=.os true 5 e.id e.ver 0 e.trees.length false:=by
   rw[hcs,← hcl]; exact gc_mid _ _ _ _
  have hix:xH tab 27 (.os true 2 eid ever 0 (pre++e::post).length false) (.int .i64 (pre.length:Int))=some (.op eid ever (pre.length*2)):=by
   simp only[xH,Yl,Yk]
   simp
   omega
  rw[qE,wE] at hp
  refine za fun Z2 hZ2=>?_
  refine rg tok [0,4,5,6,7,15] fun K hK=>?_
  simp only[go_sem,qb,qa,qd,reduceCtorEq,ht1,hl1,decide_true];apply hK
  clear hK K
  refine zo rfl ?_;refine zd ?_;apply hZ2
  refine za fun Z3 hZ3=>?_
  refine ze ?_
  refine za fun Z4 hZ4=>?_
  refine rd [0,4,5,6,7,28] fun K hK=>?_
  refine DW.start (T:=tab) [.any,.any,.any,.at [],.any,.any,.any,.at [],.any,.at [],.any] [] ?_;refine DW.runN tok 11 ?_;simp only[go_sem,qb,qa,qd,reduceCtorEq,ht1,h4,he1,hix,hc0,hg0];refine DW.fin tok (by decide +kernel) rfl ?_;simp only[zj,upd,qa,reduceIte,yu,xe];apply hK
  clear hK K
  refine zq rfl (fun hne=>?_) (fun heq=>?_)
  · -- another tag: on
    have hne':¬ e.val.fTag=f.fTag:=hne;rw[if_neg hne'] at hp;refine zr ?_;apply hZ3
    refine rgE tok [0,4,5,6,7] fun K hK=>?_
    have hw:IntKind.i64.wrap ((pre.length:Int)+1)=((pre++[e]).length:Int):=by
     have:=hB
     rw[yq (by omega) (by omega),qi,qG]; omega
    simp only[go_sem,qb,qa,reduceCtorEq,hw];apply hK
    clear hK K
    refine⟨_,_,_,qp post.length,⟨pre++[e],post,by rw[qs]; rfl,rfl,rfl,rfl,?_⟩,.s⟩
    rw[qD]; exact hp
  have heq':e.val.fTag=f.fTag:=heq;rw[if_pos heq'] at hp;refine zd ?_;apply hZ4;have htl:(tid<σ1.length)=True:=eq_true (Store.at_lt ht1);have heid:(eid<σ1.length)=True:=eq_true (Store.at_lt he1);have hnd:=hR1.nd;rw[uA,uA] at hnd
  have hte:tid≠eid:=fun e=>hnd.1 (e▸qn ..)
  refine za fun Z5 hZ5=>?_
  refine rg tok [0,4,5,6,7,31] fun K hK=>?_
  simp only[go_sem,qb,qa,qd,reduceCtorEq,h4];apply hK
  clear hK K
  obtain⟨xc,hxc⟩:∃ xc,xc=[AV.int .i64 x.fKind,.int .i64 x.fN,.str x.fS,.ds true (qe encGEntry x.fEntries) x.fEntries.length false,.ds true (qe encGRaw x.fRest) x.fRest.length false]:=⟨_,rfl⟩
  have hx5:xc.length=5:=by rw[hxc]; rfl
  have hx1:xc.all AV.one=true:=by rw[hxc]; rfl
  have hxe:xc=encGTree x:=by rw[hxc,yU]<;>rfl
  refine zq rfl (fun hl3=>?_) (fun hl3=>?_)
  · -- one value: it alone
    have hl3':¬ f.fLabel=3:=hl3;rw[if_neg hl3'] at hp;obtain⟨hp1,hp2⟩:=Prod.mk.inj (Option.some.inj hp);have he2:Store.at (σ1++[.cells 0 xc]) eid ever=some cs:=xE he1 _
    refine rd [6] fun K hK=>?_
    refine DW.start (T:=tab) [.any,.any,.any,.own 1 [],.any,.at [],.eff,.any,.any,.eff] [(1,[])] ?_;refine DW.runN tok 6 ?_;simp only[go_sem,qb,qf,qa,qd,reduceCtorEq,ht1,h5,htl];refine DW.runN tok 1 ?_;simp only[go_sem,qb,qf,qa,qd,qt,reduceCtorEq,zC,z7,q3,qT,true_and,ub,va4];rw[← hxc];refine DW.runN tok 3 ?_;simp only[go_sem,qb,qf,qa,qd,reduceCtorEq,hix,he2,hc1'];refine DW.fin tok (by decide +kernel) rfl ?_;simp only[zj,upd,qa,reduceIte,yu,xe];apply hK
    clear hK K
    refine rg tok [6] fun K hK=>?_
    simp only[go_sem,qb];apply hK
    clear hK K
    have hst:=Store.at_set (ver':=ever) (cs':=cs.set (pre.length*2+1) (.os true 5 σ1.length 0 0 1 true)) he2;refine awp_cellL hst (i:=pre.length*2+1) (by rw[uD]; exact of_eq_true hc1) (gc_set1 (of_eq_true hc1) _) ?_;rw[List.set_set,List.set_set]
    have hcs2:cs.set (pre.length*2+1) (.os true 5 σ1.length 0 0 1 false)=pre.flatMap Ent.cells++([.int .i64 e.tag,.os true 5 σ1.length 0 0 1 false]++post.flatMap Ent.cells):=by
     rw[hcs,← hcl]; exact vap _ _ _ _ _
    rw[hcs2]
    have hids:∀ y∈pre++post,y.id≠eid∧y.id<σ1.length:=by
     intro y hy
     have hy':y∈pre++e::post:=by
      rcases ug.1 hy with h|h
      · exact uo _ h
      exact q2 _ (qm _ h)
     exact⟨fun e'=>hnd.2.1 (e'▸ud.2 ⟨y,hy',rfl⟩),Store.at_lt (hR1.tr y hy')⟩
    refine yz ?_;simp only[ZL,yT,xd,xZ,exists_eq_left',go_sem];refine⟨ever,pre++⟨e.tag,σ1.length,0,[x]⟩::post,by rw[← hp2],rep_mid (e':=⟨e.tag,σ1.length,0,[x]⟩) hR1 ?_ ?_ ?_ ?_ ?_,?_,?_,?_,?_⟩
    · rw[zY (xE ht1 _) hte _,ht1]
    · exact Store.at_set he2
    · refine zY ?_ (by have:=of_eq_true heid; dsimp only; omega) _
      rw[hxe]; exact (ZT σ1 _ []).trans (by simp)
    · intro y hy
      have hy':y∈pre++e::post:=by
       rcases ug.1 hy with h|h
       · exact uo _ h
       exact q2 _ (qm _ h)
      rw[zY (xE (hR1.tr y hy') _) (hids y hy).1 _,hR1.tr y hy']
    · intro hm
      have h1:=of_eq_true htl;have h2:=of_eq_true heid
      rcases qB.1 hm with h|hm
      · dsimp only at h; omega
      rcases qB.1 hm with h|hm
      · dsimp only at h; omega
      obtain⟨y,hy,hye⟩:=ud.1 hm;have:=(hids y hy).2
      dsimp only at hye; omega
    · rw[← hp1,qD,qE]; rfl
    · intro y hy
      rcases ug.1 hy with hy|hy
      · exact .inl (ud.2 ⟨y,uo _ hy,rfl⟩)
      rcases qB.1 hy with rfl|hy
      · exact .inr (by dsimp only; omega)
      exact .inl (ud.2 ⟨y,q2 _ (qm _ hy),rfl⟩)
    · rw[uD,qi]; omega
    intro j hj hjn
    rw[qW (fun h=>hjn (by rw[← h]; simp)),qL (by omega)];exact hfr j hj
  -- one more
  have hl3':f.fLabel=3:=hl3;rw[if_pos hl3'] at hp;obtain⟨_,hu,hp⟩:=bind_some hp;have hg:=yf hu;obtain⟨hp1,hp2⟩:=Prod.mk.inj (Option.some.inj hp);have htr:=hR1.tr e (q2 _ (qn ..));have hidm:e.id∈(pre++e::post).map Ent.id:=ud.2 ⟨e,q2 _ (qn ..),rfl⟩
  have hei:eid≠e.id:=fun h=>hnd.2.1 (h▸hidm)
  have hti:tid≠e.id:=fun h=>hnd.1 (h▸qm _ hidm)
  refine zd ?_;apply hZ5
  refine rd [0,4,5,6,7] fun K hK=>?_
  refine DW.start (T:=tab) [.any,.any,.any,.own 2 [e.id],.any,.any,.any,.any,.own 1 [],.any,.any,.any,.own 1 [],.at [],.eff,.eff,.any,.any,.eff] [(2,[e.id]),(1,[])] ?_;refine DW.runN tok 7 ?_;simp only[go_sem,qb,qa,qd,reduceCtorEq,ht1,htl,hti]
  have hagr:∀ o,agr [e.id] 0 σ1 (σ1++[ZN.cells 0 xc]) (u4 (σ1++[ZN.cells 0 xc]) e.id o)=True:=fun o=>eq_true (by
   have:=agr_set (o:=o) (z:=σ1) (s:=σ1++[ZN.cells 0 xc]) (i:=0) (id:=e.id) (by simp)
   rw[qq] at this; exact this)
  have e1:yj (σ1++[.cells 0 xc]) 5 (.os true 5 σ1.length 0 0 1 true)=some (1,xc):=by
   simp only[yj,ZT σ1 xc []];rw[if_pos (by omega),qC,Nat.one_mul,← hx5,ui]
  have hl:(e.trees.flatMap encGTree).length=e.trees.length*5:=zt E90.len e.trees
  have k1:z6 tab 90 90 (.os true 5 e.id e.ver 0 e.trees.length false) (.os true 5 σ1.length 0 0 1 true) (σ1++[.cells 0 xc])=some (.os true 5 e.id (e.ver+1) 0 (e.trees.length+1) false,u4 (σ1++[ZN.cells 0 xc]) e.id (ZN.cells (e.ver+1) (e.trees.flatMap encGTree++xc))):=by
   have hg':((e.trees.length+1)*80≤140737488355328)=True:=hg;simp only[z6,tab_90,tab_30,e1,ym,hx1,zJ,xE htr,hl,hg',and_self,qb,if_true]
  obtain⟨τ3,hτ3⟩:∃ t,t=u4 (σ1++[ZN.cells 0 xc]) e.id (ZN.cells (e.ver+1) (e.trees.flatMap encGTree++xc)):=⟨_,rfl⟩
  have he3:Store.at τ3 eid ever=some cs:=by rw[hτ3]; exact zY (xE he1 _) hei _
  refine DW.runN tok 7 ?_;simp only[go_sem,qb,qf,qa,qd,reduceCtorEq,ht1,h5,htl,heid,hix,he1,hc1,hg1];refine DW.runN tok 1 ?_;simp only[go_sem,qb,qf,qa,qd,qt,reduceCtorEq,zC,z7,q3,qT,true_and,ub,va4];rw[← hxc];refine DW.runN tok 1 ?_;simp only[go_sem,qb,qf,qa,qd,reduceCtorEq,k1,hagr];rw[← hτ3];refine DW.runN tok 3 ?_;simp only[go_sem,qb,qf,qa,qd,reduceCtorEq,hix,he3,hc1'];refine DW.fin tok (chkD_ren (fun x=>match x with|[]=>[]|_=>[e.id]) (es:=[.any,.any,.any,.own 2 [0],.any,.any,.any,.any,.own 1 [],.any,.any,.any,.own 1 [],.at [],.eff,.eff,.any,.any,.eff]) (ex:=[(2,[0]),(1,[])]) (by decide +kernel)) rfl ?_;simp only[zj,upd,qa,reduceIte,yu,xe];apply hK
  clear hK K
  obtain⟨c4,hc4⟩:∃ c,c=cs.set (pre.length*2+1) (.os true 5 e.id (e.ver+1) 0 (e.trees.length+1) false):=⟨_,rfl⟩
  have hc4':c4=pre.flatMap Ent.cells++([.int .i64 e.tag,.os true 5 e.id (e.ver+1) 0 (e.trees.length+1) false]++post.flatMap Ent.cells):=by
   rw[hc4,hcs,← hcl]; exact vap _ _ _ _ _
  have hg4:gc c4 (pre.length*2+1)=.os true 5 e.id (e.ver+1) 0 (e.trees.length+1) false:=by
   rw[hc4',← hcl]; exact gc_mid _ _ _ _
  have hc5:(pre.length*2+1<c4.length)=True:=eq_true (by rw[hc4,uD]; exact of_eq_true hc1);rw[← hc4]
  have ht3:Store.at τ3 tid 0=some [.int .i64 3,.int .i64 0,.str [],.os true 2 eid ever 0 (pre++e::post).length false,rv]:=by rw[hτ3]; exact zY (xE ht1 _) hti _
  have ht4:=zY ht3 hte (.cells ever c4);have he4:Store.at (τ3.set eid (.cells ever c4)) eid ever=some c4:=Store.at_set he3
  refine rg tok [6] fun K hK=>?_
  simp only[go_sem,qb,qa,qd,reduceCtorEq,ht4,he4,hix,hg4,hc5];apply hK
  clear hK K
  have hn3:Store.at τ3 e.id (e.ver+1)=some (e.trees.flatMap encGTree++xc):=by rw[hτ3]; exact Store.at_set (xE htr _)
  have hsub:∀ y∈pre++post,y∈pre++e::post:=fun y hy=>by
   rcases ug.1 hy with h|h
   · exact uo _ h
   exact q2 _ (qm _ h)
  have hme:e.id∉(pre++post).map Ent.id:=by
   have:=hnd.2.2;rw[qD,qE] at this;rw[qD];exact (uA.1 ((List.Perm.nodup_iff List.perm_middle).1 this)).1
  refine yz ?_;simp only[ZL,yT,xd,xZ,exists_eq_left',go_sem];refine⟨ever,pre++⟨e.tag,e.id,e.ver+1,e.trees++[x]⟩::post,?_,rep_mid (e':=⟨e.tag,e.id,e.ver+1,e.trees++[x]⟩) hR1 ?_ ?_ ?_ ?_ ?_,?_,?_,?_,?_⟩
  · rw[← hp2,qi]; rfl
  · rw[ht4,ht1]
  · rw[he4,hc4']; simp only[Ent.cells,qi,qj,ql,qq]
  · refine (zY hn3 (fun h=>hei h.symm) _).trans ?_
    rw[hxe,qS]; simp
  · intro y hy
    have hy':=hsub y hy
    have h1:y.id≠eid:=fun e'=>hnd.2.1 (e'▸ud.2 ⟨y,hy',rfl⟩)
    have h2:y.id≠e.id:=fun e'=>hme (e'▸ud.2 ⟨y,hy,rfl⟩)
    rw[zY (by rw[hτ3]; exact zY (xE (hR1.tr y hy') _) h2 _) h1 _,hR1.tr y hy']
  · intro hm
    rcases qB.1 hm with h|hm
    · exact hti h.symm
    rcases qB.1 hm with h|hm
    · exact hei h.symm
    exact hme hm
  · rw[← hp1,qD,qE]; rfl
  · intro y hy
    refine .inl ?_
    rcases ug.1 hy with hy|hy
    · exact ud.2 ⟨y,uo _ hy,rfl⟩
    rcases qB.1 hy with rfl|hy
    · exact hidm
    exact ud.2 ⟨y,q2 _ (qm _ hy),rfl⟩
  · rw[uD,hτ3,uD,qi]; omega
  intro j hj hjn
  rw[qW (fun h=>hjn (by rw[← h]; simp)),hτ3,qW (fun h=>hjn (by rw[← h]; exact qm _ (qm _ hidm))),qL (by omega)];exact hfr j hj
end
section
set_option maxRecDepth 8000
set_option maxHeartbeats 1000000
open Go.RowKit AM
def zL.l (yS:GSchema→GField→GRaw→Int→Option (GTree×Int))(a0:GSchema)(a1:GMessage)(a3:Int):List GRaw→List GEntry→List GRaw→Option (GTree×Int)
 |[],es,rest=>(zB rest).bind fun r=>(ya a1 ⟨3,0,[],es,r⟩).bind fun t=>some (t,0)
 |r::q,es,rest=>bnd (yO a1 r.fTag) fun f=>(if f.2=true then (yS a0 f.1 r a3).bind fun x=>(if x.2=0 then (XK es f.1 x.1).bind fun p=>(if p.2=true then zL.l yS a0 a1 a3 q p.1 rest else some ((⟨0,0,[],[],[]⟩:GTree),4)) else some ((⟨0,0,[],[],[]⟩:GTree),x.2))
  else (Yg (rest.length+1) 40).bind fun _=>zL.l yS a0 a1 a3 q es (rest++[r]))
def zL.body (wa:GSchema→GMessage→List UInt8→Int→Option (GTree×Int))(yS:GSchema→GField→GRaw→Int→Option (GTree×Int))(a0:GSchema)(a1:GMessage)(a2:List UInt8)(a3:Int):Option (GTree×Int):=
 (xr a2).bind fun g=>if g.2=0 then zL.l yS a0 a1 a3 g.1 [] [] else some ((⟨0,0,[],[],[]⟩:GTree),g.2)
structure Loop12 (τ:Store)(a0:GSchema)(a1:GMessage)(ever rver:Nat)(L:List Ent)(rest:List GRaw):Prop where
 h0:Store.at τ 0 0=some (encGSchema a0)
 h1:Store.at τ 1 0=some (encGMessage a1)
 h2:Store.at τ 2 0=some [.int .i64 0,.int .i64 0,.str [],.ds true [] 0 true,.ds true [] 0 true]
 rep:RepR (.os true 4 5 rver 0 rest.length false) τ 3 4 ever L
 h5:Store.at τ 5 rver=some (rest.flatMap encGRaw)
 ids:∀ y∈L,6≤y.id
theorem Loop12.app {τ:Store}{a0:GSchema}{a1:GMessage}{ever rver:Nat}{L:List Ent}{rest:List GRaw}(h:Loop12 τ a0 a1 ever rver L rest)(l:Store):Loop12 (τ++l) a0 a1 ever rver L rest:=
 ⟨xE h.h0 l,xE h.h1 l,xE h.h2 l,h.rep.app l,xE h.h5 l,h.ids⟩
theorem RepR.toldC {rv:AV}{σ:Store}{tid eid ever:Nat}{L:List Ent}(h:RepR rv σ tid eid ever L)(keep:List Nat)(ls:Bool)(f:Nat)(hk:∀ y∈L,ZO keep y.id 0=none):(L.flatMap Ent.cells).map (tell σ keep ls (f+2))=(L.map Ent.val).flatMap encGEntry:=by
 have key:∀ l:List Ent,(∀ x∈l,x∈L)→(l.flatMap Ent.cells).map (tell σ keep ls (f+2))=(l.map Ent.val).flatMap encGEntry:=by
  intro l
  induction l with
  |nil=>intro _; rfl
  |cons a l ih=>
   intro hl
   have h1:=h.tr a (hl a (qn ..));have h2:=hk a (hl a (qn ..));simp only[qO,qD,qE,ih fun x hx=>hl x (qm _ hx)]
   congr 1
   simp only[Ent.cells,Ent.val,qE,qw,YD,Zl,h2,h1,zS,cellsGEntry,GEntry.fTag,GEntry.fTrees];have hl:(a.trees.flatMap encGTree).length=a.trees.length*5:=zt E90.len a.trees;rw[if_pos (by rw[hl]; omega),qC,← hl,ui,zP]
 exact key L (fun _ h=>h)
theorem zL.step (wa:GSchema→GMessage→List UInt8→Int→Option (GTree×Int))(yS:GSchema→GField→GRaw→Int→Option (GTree×Int))
 (ih_value:∀ (a0:GSchema) (a1:GField) (a2:GRaw) (a3:Int) (r:GTree×Int),yS a0 a1 a2 a3=some r→ACalls qh 74 [.agg (encGSchema a0),.agg (encGField a1),.agg (encGRaw a2),.int .i64 a3] [] (fun r' _=>r'=.tup [.agg (cellsGTree r.1),.int .i64 r.2]))
 (a0:GSchema) (a1:GMessage) (a2:List UInt8) (a3:Int) (r:GTree×Int) (h:zL.body wa yS a0 a1 a2 a3=some r):
 ACalls qh 44 [.agg (encGSchema a0),.agg (encGMessage a1),.ds true (qe encB a2) (qc a2) false,.int .i64 a3] [] (fun r' _=>r'=.tup [.agg (cellsGTree r.1),.int .i64 r.2]):=by
 have ev_value:=fun a0 a1 a2 a3 r h σ=>(ih_value a0 a1 a2 a3 r h).pureAt (by simp only[AV.canon,canonL,canon_all,qR,qy,qP,encGRaw,encGSchema,encGField]) (by simp only[AV.canon,canonL,canon_all,qR,qy,qP,cellsGTree]) σ
 refine zf (rs:=[.cell 8 30,.tmp 9]) tok Tryz.func44 rfl Tryz.ntmps44 rfl Tryz.call44 (by simp) ?_;refine zk [(0,.agg (encGSchema a0)),(1,.agg (encGMessage a1)),(2,.ds true (qe encB a2) (qc a2) false),(3,.int .i64 a3)] ⟨rfl,rfl,rfl,rfl,trivial⟩ ?_;unfold zL.body at h;obtain⟨g,hg,h⟩:=bind_some h
 refine rg tok [2,3,4,5,8,9] fun K hK=>?_
 simp only[go_sem,qb,qa,qd,reduceCtorEq,encGSchema,encGMessage];apply hK
 clear hK K
 refine rc [3,4,5,8,9,10,11] fun K hK=>?_
 refine zi tok 1 ?_;simp only[go_sem,qb,qa];refine wh rfl rfl rfl (xr.ev a2 g hg _) ?_;rintro _ _ ⟨rfl,hσ⟩
 rw[hσ]; clear hσ
 refine zi tok 5 ?_;simp only[go_sem,qb,qa,qd];refine zb ?_;simp only[zj,upd,qa,reduceIte,yu,xe];apply hK
 clear hK K
 refine za fun Z hZ=>?_
 refine rg tok [3,4,5,8,9,10,11,24] fun K hK=>?_
 simp only[go_sem,qb,qa];apply hK
 clear hK K
 refine zq rfl (fun hc2=>?_) (fun hc2=>?_)
 · rw[if_neg hc2] at h;obtain rfl:=Option.some.inj h
   refine rg tok [8,9] fun K hK=>?_
   simp only[go_sem,qb,qf,qa,qd];apply hK
   clear hK K
   refine yz ?_;simp only[ZL,yT,xd,xZ,exists_eq_left',go_sem,qf,qa,qd];exact Yt
 rw[if_pos hc2] at h;refine zd ?_;refine hZ _ _ ?_
 clear hZ Z
 refine rg tok [3,4,5,8,9,10,12] fun K hK=>?_
 simp only[go_sem,qb,qf,qa,qd];apply hK
 clear hK K
 refine Zq 3 3 2 rfl (by simp) rfl (L:=[(3,.int .i64 a3),(4,.op 0 0 0),(5,.op 1 0 0),(8,.op 2 0 0),(9,.int .i64 0),(10,.ds true (qe encGRaw g.1) (qc g.1) false),(12,.op 3 0 0)]) (.same ⟨rfl,rfl,rfl,rfl,rfl,rfl,rfl,trivial⟩ rfl) ?_;refine Zq 3 4 4 rfl (by simp) rfl (L:=[(3,.int .i64 a3),(4,.op 0 0 0),(5,.op 1 0 0),(8,.op 2 0 0),(9,.int .i64 0),(10,.ds true (qe encGRaw g.1) (qc g.1) false),(12,.op 3 0 0)]) (.same ⟨rfl,rfl,rfl,rfl,rfl,rfl,rfl,trivial⟩ rfl) ?_
 refine za fun Z hZ=>?_
 refine rg tok [3,4,5,8,9,10,12,13] fun K hK=>?_
 simp only[go_sem,qb,qa,qd];apply hK
 clear hK K
 refine ze ?_
 refine yP 10 fun hb=>?_
 replace hb:qc g.1≤9223372036854775807:=hb.1
 refine zp (fun k F τ=>∃ (p q:List GRaw) (i:Int) (L:List Ent) (rest:List GRaw) (ever rver:Nat),k=q.length∧F=[(3,AV.int .i64 a3),(4,.op 0 0 0),(5,.op 1 0 0),(8,.op 2 0 0),(9,.int .i64 0),(10,.ds true (qe encGRaw g.1) (qc g.1) false),(12,.op 3 0 0),(13,.int .i64 i)]∧Loop12 τ a0 a1 ever rver L rest∧g.1=p++q∧i=(p.length:Int)∧zL.l yS a0 a1 a3 q (L.map Ent.val) rest=some r) g.1.length
  ⟨[],g.1,0,[],[],0,0,rfl,rfl,⟨rfl,rfl,rfl,⟨rfl,rfl,fun _ h=>(by cases h),by simp⟩,rfl,fun _ h=>(by cases h)⟩,rfl,rfl,h⟩ (.same ⟨rfl,rfl,rfl,rfl,rfl,rfl,rfl,rfl,trivial⟩ rfl) ?_
 clear h
 rintro k _ τ ⟨p,q,i,L,rest,ever,rver,rfl,rfl,hL,hE,hi,h⟩
 refine za fun Y hY=>?_
 rcases q with _|⟨y,q⟩
 · have hz:=yl hE hi
   refine rg tok [3,4,5,8,9,10,12,13,31] fun K hK=>?_
   simp only[go_sem,qb,qa,hz];apply hK
   clear hK K
   refine zn rfl ?_;refine zr ?_;simp only[zL.l] at h;obtain⟨rr,hrr,h⟩:=bind_some h;obtain⟨t,ht,h⟩:=bind_some h;obtain rfl:=Option.some.inj h
   have hid:∀ y∈L,ZO [1,2,3] y.id 0=none:=by
    intro y hy
    have:=hL.ids y hy;simp only[wG,wJ];rw[if_neg (by omega),if_neg (by omega),if_neg (by omega)]
   have hget:∀ {j v:Nat} {cs:List AV},Store.at τ j v=some cs→τ.getD j .dead=.cells v cs:=by
    intro j v cs hj
    rw[qu,Store.at_some hj]; rfl
   have hl4:(rest.flatMap encGRaw).length=rest.length*4:=zt E28.len rest;have hcl:(L.flatMap Ent.cells).length=L.length*2:=ZE L;have hcells:=hL.rep.toldC [1,2,3] false 9 hid
   have hrest:∀ k,tell τ [1,2,3] false (k+1) (.os true 4 5 rver 0 rest.length false)=.ds true (rest.flatMap encGRaw) rest.length false:=by
    intro k
    simp only[Zl,wG,wJ,qa,if_false,hL.h5];rw[if_pos (by rw[hl4]; omega),qC,← hl4,ui,zP]
   have hents:tell τ [1,2,3] false 12 (.os true 2 4 ever 0 L.length false)=.ds true ((L.map Ent.val).flatMap encGEntry) (L.map Ent.val).length false:=by
    simp only[Zl,wG,wJ,qa,if_false,hL.rep.e];rw[if_pos (by rw[hcl]; omega),qC,← hcl,ui,hcells,q7]
   have htS:tellS τ [1,2,3] false 12=[.cells 0 (encGMessage a1),.cells 0 [.int .i64 0,.int .i64 0,.str [],.ds true [] 0 true,.ds true [] 0 true],.cells 0 [.int .i64 3,.int .i64 0,.str [],.ds true ((L.map Ent.val).flatMap encGEntry) (L.map Ent.val).length false,.ds true (rest.flatMap encGRaw) rest.length false]]:=by
    simp only[tellS,qE,qw,hget hL.h1,hget hL.h2,hget hL.rep.t,Xi,hents,hrest];simp only[encGMessage,qE,qw,YD,Xh,YK,zP,qZ,qy,qV]
   have hk3:[1,2,3].Nodup:=by decide
   have hlt5:=Store.at_lt hL.h5;refine hZ _ _ ?_;refine zU (L:=[(5,.op 0 0 0),(8,.op 1 0 0),(12,.op 2 0 0)]) (.told [1,2,3] false hk3 (by intro id hid'; simp at hid'; omega) rfl htS ⟨rfl,rfl,rfl,trivial⟩) ?_
   refine rc [5,8,12] fun K hK=>?_
   refine zi tok 2 ?_;simp only[go_sem,qb,qa,qd,encGMessage];refine wh rfl rfl rfl (zB.ev rest rr hrr _) ?_;rintro _ _ ⟨rfl,hσ⟩
   rw[hσ]; clear hσ
   refine zi tok 2 ?_;simp only[go_sem,qb,qf,qa,qd,uv,uk];refine zb ?_;simp only[zj,upd,qa,reduceIte,yu,xe];apply hK
   clear hK K
   refine rc [8,9] fun K hK=>?_
   refine zi tok 2 ?_;simp only[go_sem,qb,qf,qa,qd,qj,ql,List.take_succ_cons,List.take_zero,qC];refine wh rfl rfl rfl (ya.ev a1 ⟨3,0,[],L.map Ent.val,rr⟩ t ht _) ?_;rintro _ _ ⟨rfl,hσ⟩
   rw[hσ]; clear hσ
   refine zi tok 2 ?_;simp only[go_sem,qb,qf,qa,qd,uv,uk,cellsGTree,qj,ql];refine zb ?_;simp only[zj,upd,qa,reduceIte,yu,xe];apply hK
   clear hK K
   refine yz ?_;exact retA
 obtain⟨hz,hw,hx,hE',hi'⟩:=zV hE hi hb
 refine rg tok [3,4,5,8,9,10,12,13,31] fun K hK=>?_
 simp only[go_sem,qb,qa,hz];apply hK
 clear hK K
 refine zo rfl ?_;refine zd ?_;refine hY _ _ ?_
 clear hY Y
 refine za fun X hX=>?_
 have fin:∀ (F:Fr) (τ':Store) (L':List Ent) (rest':List GRaw) (ever' rver':Nat),Fits F [(3,AV.int .i64 a3),(4,.op 0 0 0),(5,.op 1 0 0),(8,.op 2 0 0),(9,.int .i64 0),(10,.ds true (qe encGRaw g.1) (qc g.1) false),(12,.op 3 0 0),(13,.int .i64 i)]→Loop12 τ' a0 a1 ever' rver' L' rest'→zL.l yS a0 a1 a3 q (L'.map Ent.val) rest'=some r→X F τ':=by
  intro F τ' L' rest' ever' rver' hF hL' h'
  refine hX _ _ (zU (.same hF rfl) ?_)
  refine rgE tok [3,4,5,8,9,10,12,13] fun K hK=>?_
  simp only[go_sem,qb,qa,hw];apply hK
  clear hK K
  simp only[zj];exact⟨q.length,_,_,by simp,⟨p++[y],q,i+1,L',rest',ever',rver',rfl,rfl,hL',hE',hi',h'⟩,.same ⟨rfl,rfl,rfl,rfl,rfl,rfl,rfl,rfl,trivial⟩ rfl⟩
 clear hX
 refine ze ?_;have hix:=E28.idxS hx;have hld:=E28.loadS rfl rfl hx
 have hae:∀ (τ:Store) cs,Store.at (τ++[.cells 0 cs]) τ.length 0=some cs:=fun τ cs=>ZT τ cs []
 have hse:∀ (τ:Store) cs cs',(τ++[ZN.cells 0 cs]).set τ.length (.cells 0 cs')=τ++[.cells 0 cs']:=fun τ cs cs'=>set_mid τ _ _ []
 have hfl:=E28.fldS0 (f:=3) rfl rfl hx;have hm1:=hL.h1;simp only[encGMessage] at hm1;simp only[zL.l] at h;obtain⟨f,hf,h⟩:=zQ h
 refine rd [3,4,5,8,9,10,12,13,14,15] fun K hK=>?_
 refine DW.start (T:=tab) [.at [],.any,.any,.any,.any,.at [],.eff,.any,.any,.any,.flt,.eff,.any] [] ?_;refine DW.runN tok 6 ?_;simp only[go_sem,qb,qf,qa,qd,hm1,hix,hfl,qj,ql];refine DW.call rfl rfl rfl (yO.ev a1 y.fTag f hf _) ?_;refine DW.runN tok 6 ?_;simp only[go_sem,qb,qf,qa,qd,encGField,hae,hse,qj,ql,uk,uv];refine DW.fin tok (by decide +kernel) rfl ?_;simp only[zj,upd,qa,reduceIte,yu,xe];apply hK
 clear hK K hm1
 have hL2:=hL.app [.cells 0 [.str f.1.fName,.int .i64 f.1.fTag,.int .i64 f.1.fLabel,.int .i64 f.1.fType.fKind,.str f.1.fType.fName]];have hf2:=ZT τ [.str f.1.fName,.int .i64 f.1.fTag,.int .i64 f.1.fLabel,.int .i64 f.1.fType.fKind,.str f.1.fType.fName] []
 generalize τ.length=k2 at *
 generalize τ++[.cells 0 [.str f.1.fName,.int .i64 f.1.fTag,.int .i64 f.1.fLabel,.int .i64 f.1.fType.fKind,.str f.1.fType.fName]]=τ2 at *
 refine za fun Y hY=>?_
 refine rg tok [3,4,5,8,9,10,12,13,14,15,45] fun K hK=>?_
 simp only[go_sem,qb,qa];apply hK
 clear hK K
 refine zm (b := !f.2) rfl (fun hc3=>?_) (fun hc3=>?_)
 · have hc4:f.2=false:=by simpa using hc3
   rw[xQ hc4] at h;obtain⟨_,hu,h⟩:=bind_some h;have hrm:=yf hu;have hL5:=hL2.h5;have ht3:=hL2.rep.t;have hl4:(rest.flatMap encGRaw).length=rest.length*4:=zt E28.len rest
   obtain⟨yc,hyc⟩:∃ yc,yc=[AV.int .i64 y.fTag,.int .i64 y.fWire,.int .i64 y.fN,.str y.fB]:=⟨_,rfl⟩
   have hye:encGRaw y=yc:=by rw[hyc]; rfl
   have hy1:yc.all AV.one=true:=by rw[hyc]; rfl
   have hy4:yc.length=4:=by rw[hyc]; rfl
   have hys:y1 [AV.int .i64 0,.int .i64 0,.int .i64 0,.str []] 0 yc=yc:=by rw[hyc]; rfl
   have hlit:=ZT τ2 yc [];have hat5:=xE hL5 [.cells 0 yc];have hat3:=xE ht3 [.cells 0 yc]
   have hap:z6 tab 28 28 (.os true 4 5 rver 0 rest.length false) (.os true 4 τ2.length 0 0 1 true) (τ2++[.cells 0 yc])=
    some (.os true 4 5 (rver+1) 0 (rest.length+1) false,u4 (τ2++[.cells 0 yc]) 5 (.cells (rver+1) (rest.flatMap encGRaw++yc))):=by
    have e1:yj (τ2++[.cells 0 yc]) 4 (.os true 4 τ2.length 0 0 1 true)=some (1,yc):=by
     simp only[yj,hlit]; rw[hyc]; rfl
    simp only[z6,tab_28,tab_62,e1,ym,zJ,hat5,hl4,hrm,hy1,and_self,qb,if_true]
   have hlt3:(3<τ2.length)=True:=eq_true (Store.at_lt ht3)
   refine rd [3,4,5,8,9,10,12,13] fun K hK=>?_
   refine DW.start (T:=tab) [.any,.own 1 [],.any,.any,.any,.at [],.eff,.eff,.any,.eff] [(1,[])] ?_;refine DW.runN tok 6 ?_;simp only[go_sem,qb,qa,qd,hix,hld,hye,ht3,hlt3];refine DW.runN tok 1 ?_;simp only[go_sem,qb,qf,qa,qd,qt,zC,z7,q3,qT,true_and,ub,hy1,hy4,hys,and_self,va4];refine DW.runN tok 1 ?_;simp only[go_sem,qb,qf,qa,qd,hap];have ht5:=zY hat3 (id':=5) (by decide) (.cells (rver+1) (rest.flatMap encGRaw++yc));refine DW.runN tok 2 ?_;simp only[go_sem,qb,qf,qa,qd,ht5];refine DW.fin tok (by decide +kernel) rfl ?_;simp only[zj,upd,qa,reduceIte,yu,xe];apply hK
   clear hK K
   refine zr ?_;simp only[vac,zj,go_sem,reduceCtorEq];have hL3:=hL2.app [.cells 0 yc]
   have hid:∀ z∈L,z.id≠5∧z.id≠3:=fun z hz=>by have:=hL3.ids z hz; omega
   refine fin _ _ L (rest++[y]) ever (rver+1) ⟨rfl,rfl,rfl,rfl,rfl,rfl,rfl,rfl,trivial⟩ ⟨zY (zY hL3.h0 (by decide) _) (by decide) _,zY (zY hL3.h1 (by decide) _) (by decide) _,zY (zY hL3.h2 (by decide) _) (by decide) _,⟨?_,zY (zY hL3.rep.e (by decide) _) (by decide) _,fun z hz=>zY (zY (hL3.rep.tr z hz) (hid z hz).1 _) (hid z hz).2 _,hL3.rep.nd⟩,?_,hL3.ids⟩ h
   · rw[qi]; exact Store.at_set ht5
   rw[zY (Store.at_set hat5) (by decide) _,qS,← hye]; simp
 have hc4:f.2=true:=by simpa using hc3
 rw[if_pos hc4] at h;refine zd ?_;refine hY _ _ ?_
 clear hY Y
 obtain⟨x,hx1,h⟩:=bind_some h;have hs2:=hL2.h0;simp only[encGSchema] at hs2
 refine rd [3,4,5,8,9,10,12,13,14,16,17] fun K hK=>?_
 refine DW.start (T:=tab) [.at [],.at [],.any,.any,.any,.at [],.any,.eff,.any,.any,.any,.flt,.eff,.any] [] ?_;refine DW.runN tok 7 ?_;simp only[go_sem,qb,qf,qa,qd,hix,hld,hs2,hf2,qj,ql];refine DW.call rfl rfl rfl (ev_value a0 f.1 y a3 x hx1 _) ?_;refine DW.runN tok 6 ?_;simp only[go_sem,qb,qf,qa,qd,cellsGTree,hae,hse,qj,ql,uk,uv];refine DW.fin tok (by decide +kernel) rfl ?_;simp only[zj,upd,qa,reduceIte,yu,xe];apply hK
 clear hK K hs2
 obtain⟨xc,hxc⟩:∃ xc,xc=[AV.int .i64 x.1.fKind,.int .i64 x.1.fN,.str x.1.fS,.ds true (qe encGEntry x.1.fEntries) x.1.fEntries.length false,.ds true (qe encGRaw x.1.fRest) x.1.fRest.length false]:=⟨_,rfl⟩
 rw[← hxc];have hL3:=hL2.app [.cells 0 xc];have hf3:=xE hf2 [.cells 0 xc];have hx3:=ZT τ2 xc []
 clear hf2 hL2
 generalize τ2.length=k3 at *
 generalize τ2++[.cells 0 xc]=τ3 at *
 subst hxc
 refine za fun Y hY=>?_
 refine rg tok [3,4,5,8,9,10,12,13,14,16,17,67] fun K hK=>?_
 simp only[go_sem,qb,qa];apply hK
 clear hK K
 have h23:=hL3.h2;have h24:=Store.at_set (ver':=0) (cs':=[.int .i64 0,.int .i64 0,.str [],.ds true [] 0 true,.ds true [] 0 true]) h23;refine zq rfl (fun hc5=>?_) (fun hc5=>?_)
 · rw[if_neg hc5] at h;obtain rfl:=Option.some.inj h
   refine rg tok [8,9] fun K hK=>?_
   simp only[go_sem,qb,qf,qa,qd,h23,qj,ql,uk,uv];apply hK
   clear hK K
   refine yz ?_;simp only[vac,ZL,yT,xd,xZ,exists_eq_left',go_sem,qf,qa,qd,h24,qj,ql];exact Yt
 rw[if_pos hc5] at h;obtain⟨pp,hp,h⟩:=bind_some h;refine zd ?_;refine hY _ _ ?_
 clear hY Y
 refine rc [3,4,5,8,9,10,12,13,73] fun K hK=>?_
 refine zi tok 2 ?_;simp only[go_sem,qb,qf,qa,qd,hf3,hx3,qj,ql];refine wh rfl rfl rfl (put12_at hL3.rep f.1 x.1 (es':=pp.1) (b:=pp.2) hp) ?_;rintro _ τ4 ⟨ever',L',rfl,hR4,he4,hid4,hle4,hfr4⟩;refine zi tok 1 ?_;simp only[go_sem,qb,qa];refine zb ?_;simp only[zj,upd,qa,reduceIte,yu,xe];apply hK
 clear hK K
 have hkeep:∀ {j v:Nat} {cs:List AV},Store.at τ3 j v=some cs→j<6→j≠3→j≠4→Store.at τ4 j v=some cs:=by
  intro j v cs hj h6 h3 h4
  have hlt:=Store.at_lt hj;unfold Store.at at hj ⊢;rw[hfr4 j hlt (fun hm=>?_)]
  · exact hj
  simp only[qB,ud] at hm
  rcases hm with h|h|⟨z,hz,h⟩
  · exact h3 h
  · exact h4 h
  have:=hL3.ids z hz; omega
 have h45:6≤τ3.length:=by
  have:=Store.at_lt hL3.h5; omega
 have hL4:Loop12 τ4 a0 a1 ever' rver L' rest:=by
  refine⟨hkeep hL3.h0 (by decide) (by decide) (by decide),hkeep hL3.h1 (by decide) (by decide) (by decide),hkeep hL3.h2 (by decide) (by decide) (by decide),hR4,hkeep hL3.h5 (by decide) (by decide) (by decide),fun z hz=>?_⟩
  rcases hid4 z hz with h|h
  · obtain⟨w,hw,h'⟩:=ud.1 h
    have:=hL3.ids w hw; omega
  omega
 have h43:=hL4.h2;have h44:=Store.at_set (ver':=0) (cs':=[.int .i64 0,.int .i64 0,.str [],.ds true [] 0 true,.ds true [] 0 true]) h43;refine zm (b := !pp.2) rfl (fun hc6=>?_) (fun hc6=>?_)
 · have hc7:pp.2=false:=by simpa using hc6
   rw[xQ hc7] at h;obtain rfl:=Option.some.inj h
   refine rg tok [8,9] fun K hK=>?_
   simp only[go_sem,qb,qf,qa,qd,h43,qj,ql,uk,uv];apply hK
   clear hK K
   refine yz ?_;simp only[vac,ZL,yT,xd,xZ,exists_eq_left',go_sem,qf,qa,qd,h44,qj,ql];exact Yt
 have hc7:pp.2=true:=by simpa using hc6
 rw[if_pos hc7] at h;refine zd ?_;simp only[ZS,zj];exact fin _ _ L' rest ever' rver ⟨rfl,rfl,rfl,rfl,rfl,rfl,rfl,rfl,trivial⟩ hL4 (by rw[he4]; exact h)
end
section
set_option maxRecDepth 8000
open Go.RowKit AM
mutual
def zL : Nat→GSchema→GMessage→List UInt8→Int→Option (GTree×Int)
 |0,_,_,_,_=>none
 |k+1,a0,a1,a2,a3=>zL.body (zL k) (xL k) a0 a1 a2 a3
def xL : Nat→GSchema→GField→GRaw→Int→Option (GTree×Int)
 |0,_,_,_,_=>none
 |k+1,a0,a1,a2,a3=>xL.body (zL k) (xL k) a0 a1 a2 a3
end
theorem zL.all (k:Nat):
 (∀ (a0:GSchema) (a1:GMessage) (a2:List UInt8) (a3:Int) (r:GTree×Int),zL k a0 a1 a2 a3=some r→ACalls qh 44 [.agg (encGSchema a0),.agg (encGMessage a1),.ds true (qe encB a2) (qc a2) false,.int .i64 a3] [] (fun r' _=>r'=.tup [.agg (cellsGTree r.1),.int .i64 r.2]))∧
 (∀ (a0:GSchema) (a1:GField) (a2:GRaw) (a3:Int) (r:GTree×Int),xL k a0 a1 a2 a3=some r→ACalls qh 74 [.agg (encGSchema a0),.agg (encGField a1),.agg (encGRaw a2),.int .i64 a3] [] (fun r' _=>r'=.tup [.agg (cellsGTree r.1),.int .i64 r.2])):=by
 induction k with
 |zero=>exact⟨fun a0 a1 a2 a3 r h=>(by simp only[zL] at h; cases h),fun a0 a1 a2 a3 r h=>(by simp only[xL] at h; cases h)⟩
 |succ k ih=>
  exact⟨fun a0 a1 a2 a3 r h=>zL.step (zL k) (xL k) ih.2 a0 a1 a2 a3 r (by simpa only [zL] using h),
   fun a0 a1 a2 a3 r h=>xL.step (zL k) (xL k) ih.1 ih.2 a0 a1 a2 a3 r (by simpa only [xL] using h)⟩
theorem zL.ok (k:Nat)(a0:GSchema)(a1:GMessage)(a2:List UInt8)(a3:Int)(r:GTree×Int)(h:zL k a0 a1 a2 a3=some r):ACalls qh 44 [.agg (encGSchema a0),.agg (encGMessage a1),.ds true (qe encB a2) (qc a2) false,.int .i64 a3] [] (fun r' _=>r'=.tup [.agg (cellsGTree r.1),.int .i64 r.2]):=
 (zL.all k).1 a0 a1 a2 a3 r h
theorem zL.ev (k:Nat)(a0:GSchema)(a1:GMessage)(a2:List UInt8)(a3:Int)(r:GTree×Int)(h:zL k a0 a1 a2 a3=some r)(σ:Store):ACalls qh 44 [.agg (encGSchema a0),.agg (encGMessage a1),.ds true (qe encB a2) (qc a2) false,.int .i64 a3] σ (fun r' σ'=>r'=.tup [.agg (cellsGTree r.1),.int .i64 r.2]∧σ'=σ):=
 (zL.ok k a0 a1 a2 a3 r h).pureAt (by simp only[AV.canon,canonL,canon_all,qR,qy,qP,encGMessage,encGSchema]) (by simp only[AV.canon,canonL,canon_all,qR,qy,qP,cellsGTree]) σ
end
end Go.Proofs.YtaddlmlpeghonaaGreatDoor
