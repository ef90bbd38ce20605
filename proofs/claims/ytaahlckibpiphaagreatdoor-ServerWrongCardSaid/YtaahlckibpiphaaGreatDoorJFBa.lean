/- Parts of the proof, cut down to what it needs. -/
import Derived.Test.YtaahlckibpiphaaGreatDoorJFB
set_option linter.constructorNameAsVariable false
set_option linter.unusedSimpArgs false
set_option linter.unusedVariables false
namespace Go.Proofs.YtaahlckibpiphaaGreatDoor
open _root_.List renaming length → qa, flatMap → qc, map_nil → qj, map_cons → qn, length_cons → qs, length_nil → qt, drop_zero → qv, map_append → qx, getD_eq_getElem?_getD → qy, length_eq_zero_iff → qC, getElem?_eq_some_iff → qD, length_append → qG, replicate → qH, range_zero → qI, nil_append → qL, getElem?_append_left → qM, cons_append → qN, range_succ → qO, flatMap_cons → qP, getElem?_set_ne → qQ, all_nil → qR, eq_nil_of_length_eq_zero → qS, getElem?_eq_getElem → qU, take_length → qV, all_cons → qX, flatMap_append → qZ, append_nil → q1, length_map → q5, getElem?_set_self → ua, mem_cons_of_mem → ub, flatMap_nil → uc, all_eq_true → ud, append_assoc → ue, getElem?_append_right → uf, take_append_drop → ug, getElem?_eq_none → uh, take_of_length_le → uj, mem_cons → ul, mem_map → uo, getElem?_cons_zero → ur, getElem?_cons_succ → ut, range → uw, set_cons_zero → ux, set_cons_succ → uy, ext_getElem? → uD, mem_append_left → uH, getElem?_toArray → uM, length_take → uN, nodup_cons → uP, map_congr_left → uQ, drop_drop → uS, getElem?_map → uT
open _root_.Option renaming map_some → uq, getD_some → uz, bind_some → uA
open _root_.Nat renaming reduceEqDiff → qb, reduceLT → qd, reduceAdd → qe, reduceLeDiff → qf, reduceMul → qi, zero_add → qk, reduceSub → qm, le_refl → qu, lt_succ_self → qw, reduceMod → qT, mul_le_mul_right → qY, lt_of_lt_of_le → q3, zero_mul → q9, zero_le → uu, sub_zero → uE, add_zero → uF, succ_mul → uI, sub_self → uJ, le_trans → uK, lt_or_ge → uO, add_mul → uR
open _root_.Bool renaming or_true → qo, not_false → qp, not_true → qq, and_false → qr, and_true → qz, and_self → qB, or_false → qE, and_eq_true → qJ, false_eq_true → q2, or_eq_true → um, true_or → uC, false_or → uU
open _root_.Int renaming toNat → qK, toNat_natCast → uG
open _root_.BitVec renaming ofInt → qF, toNat → ui
open _root_.Array renaming length_toList → qW, getD_eq_getD_getElem? → uk, getElem?_eq_getElem → un, getElem?_setIfInBounds_ne → uB, getElem?_modify → uL, replicate → uV
open _root_.UInt8 renaming ofNat → uv
open Result renaming andThen_ok → qh
open Sem renaming run_bind → ql, run_pure → qA
open _root_.Go.Proofs.Tryz renaming prog → qg
section
set_option maxRecDepth 4000
set_option maxHeartbeats 1000000
open AM
theorem yT.ok (a0:GSchema)(a1:List UInt8)(r:GMethod×Bool)(h:yT a0 a1=r):ACalls qg 59 [.agg (encGSchema a0),.str a1] [] (fun r' _=>r'=.tup [.agg (encGMethod r.1),.bool r.2]):=by
 refine zf (rs:=[.cell 4 61,.tmp 5]) tok Tryz.func59 rfl Tryz.ntmps59 rfl Tryz.call59 (by simp) ?_;refine zk [(0,.agg (encGSchema a0)),(1,.str a1)] ⟨rfl,rfl,trivial⟩ ?_;unfold yT at h
 refine rg tok [1,2,4] fun K hK=>?_
 simp only[go_sem,qd,qb,qe,reduceCtorEq,encGSchema];apply hK
 refine za fun Z1 hZ1=>?_
 refine rgN [1,4,9,10,11] ?_;apply ze
 refine yl 9 fun hb4=>?_
 replace hb4:qa a0.fMethods≤9223372036854775807:=hb4.1;refine zN (fun m L τ=>∃ (p4 q4:List GMethod) (x2:Int),m=qa q4∧L=[(1,.str a1),(4,.op 0 0 0),(9,.ds true (qc encGMethod a0.fMethods) (qa a0.fMethods) false),(10,.int .i64 (qa a0.fMethods:Int)),(11,.int .i64 x2)]∧τ=[.cells 0 [.str [],.str [],.str []]]∧a0.fMethods=p4++q4∧x2=(qa p4:Int)∧yT.l4 a1 q4 x2=r) _ ⟨[],a0.fMethods,0,rfl,rfl,rfl,rfl,rfl,h⟩ (.t [1] false) ?_;rintro m L τ ⟨p4,q4,x2,rfl,rfl,rfl,hE4,hi4,h⟩
 rcases q4 with _|⟨y4,q4⟩
 · have hz4:=yJ hE4 hi4;simp only[yT.l4] at h
   refine rg tok [1,4,9,10,11,12] fun K hK=>?_
   simp only[go_sem,qd,qb,hz4];apply hK
   refine za fun Z5 hZ5=>?_
   refine zp rfl ?_;apply zI;apply hZ1;refine rgN [4,5] ?_;cases h;exact rtA
 obtain⟨hz4,hw4,hx4,hE'4,hi'4⟩:=yk hE4 hi4 hb4;simp only[yT.l4] at h
 refine rg tok [1,4,9,10,11,12] fun K hK=>?_
 simp only[go_sem,qd,qb,hz4];apply hK
 refine za fun Z6 hZ6=>?_
 refine zq rfl ?_;apply zd;apply hZ6
 refine za fun Z7 hZ7=>?_
 apply ze;have f8:=E29.idxS hx4;have f9:=E29.loadS rfl rfl hx4
 refine rg tok [1,4,7,9,10,11] fun K hK=>?_
 simp only[go_sem,qd,qf,qb,qe,encGMethod,f8,f9];apply hK
 refine rgN [1,4,7,9,10,11,18] ?_;refine zF rfl (fun hc10=>?_) (fun hc10=>?_)
 · rw[if_pos hc10] at h;have t11:=eq_true hc10
   refine rg tok [4,5] fun K hK=>?_
   simp only[go_sem,qd,qf,qb,qe,t11];apply hK
   cases h;exact rtA
 rw[if_neg hc10] at h;have t12:=eq_false hc10;apply zd;apply hZ7
 refine rgE tok [1,4,9,10,11] fun K hK=>?_
 simp only[go_sem,qd,qb,hw4,t12];apply hK
 exact⟨_,_,_,qw q4.length,⟨p4++[y4],q4,x2+1,rfl,rfl,rfl,hE'4,hi'4,h⟩,(.t [0] false)⟩
theorem yT.ev (a0:GSchema)(a1:List UInt8)(r:GMethod×Bool)(h:yT a0 a1=r)(σ:Store):ACalls qg 59 [.agg (encGSchema a0),.str a1] σ (fun r' σ'=>r'=.tup [.agg (encGMethod r.1),.bool r.2]∧σ'=σ):=
 (yT.ok a0 a1 r h).c σ
def yu.l20 (yY:GTree→Int→Option Int)(a1:Int)(x7:Int)(rec10:Int→Int→Option Int):List GTree→Int→Int→Option Int
 |[],x17,x16=>(rec10 (x7+1) x16)
 |y20::q20,x17,x16=>(yY y20 (IntKind.i64.wrap (a1-1))).bind fun r26=>((yu.l20 yY a1 x7 rec10 q20) (x17+1) (if x16<r26 then r26 else x16))
def yu.l10 (yY:GTree→Int→Option Int)(a1:Int):List GEntry→Int→Int→Option Int
 |[],x7,x6=>some (IntKind.i64.wrap (x6+1))
 |y10::q10,x7,x6=>(yu.l20 yY a1 x7 (yu.l10 yY a1 q10) y10.fTrees 0 x6)
def yu.body (yY:GTree→Int→Option Int)(a0:GTree)(a1:Int):Option Int:=
 (if ((!(decide (a0.fKind=3)))||(decide (a1=0)))=true then some 0 else (yu.l10 yY a1 a0.fEntries 0 0))
theorem yu.step (yY:GTree→Int→Option Int)(ih_value_deep:∀ (a0:GTree) (a1:Int) (r:Int),yY a0 a1=some r→ACalls qg 179 [.agg (cellsGTree a0),.int .i64 a1] [] (fun r' _=>r'=.int .i64 r))(a0:GTree)(a1:Int)(r:Int)(h:yu.body yY a0 a1=some r):ACalls qg 179 [.agg (cellsGTree a0),.int .i64 a1] [] (fun r' _=>r'=.int .i64 r):=by
 have ev_value_deep:=fun a0 a1 r h σ=>(ih_value_deep a0 a1 r h).c σ
 refine zf (rs:=[.tmp 4]) tok Tryz.func179 rfl Tryz.ntmps179 rfl Tryz.call179 (by simp) ?_;refine zk [(0,.agg (cellsGTree a0)),(1,.int .i64 a1)] ⟨rfl,rfl,trivial⟩ ?_;unfold yu.body at h
 refine rg tok [1,2] fun K hK=>?_
 simp only[go_sem,qd,qb,qe,reduceCtorEq,cellsGTree];apply hK
 refine za fun Z1 hZ1=>?_
 refine rc [1,2,16] fun K hK=>?_
 refine rnN 4 ?_;refine zo 3 (fun L τ=>L=[(1,.int .i64 a1),(2,.op 0 0 0),(16,.bool ((!(decide (a0.fKind=3)))||(decide (a1=0))))]∧τ=[.cells 0 (cellsGTree a0)]) ?_ ?_
 · refine xj 13 rfl (fun hg13=>?_) (fun hg13=>?_)
   · have t2:=eq_false hg13;refine rnN 3 ?_;refine zb ⟨rfl,_,_,⟨rfl,rfl⟩,.p t2⟩
   have t3:=eq_true hg13;refine rnN 3 ?_;refine zb ⟨rfl,_,_,⟨rfl,rfl⟩,.p t3⟩
 rintro _ _ ⟨rfl,rfl⟩;refine nkN hK ?_;refine zw (b:=((!(decide (a0.fKind=3)))||(decide (a1=0)))) rfl (fun hc4=>?_) (fun hc4=>?_)
 · rw[if_pos hc4] at h;refine rgN [4] ?_;cases h;exact rtA
 rw[xU hc4] at h;apply zd;apply hZ1;refine rgN [1,2,5] ?_
 refine za fun Z5 hZ5=>?_
 refine rgN [1,5,18,19,20] ?_;apply ze
 refine yl 18 fun hb10=>?_
 replace hb10:qa a0.fEntries≤9223372036854775807:=hb10.1;refine zN (fun m L τ=>∃ (p10 q10:List GEntry) (x7:Int) (x6:Int),m=qa q10∧L=[(1,.int .i64 a1),(5,.int .i64 x6),(18,.ds true (qc encGEntry a0.fEntries) (qa a0.fEntries) false),(19,.int .i64 (qa a0.fEntries:Int)),(20,.int .i64 x7)]∧τ=[]∧a0.fEntries=p10++q10∧x7=(qa p10:Int)∧yu.l10 yY a1 q10 x7 x6=some r) _ ⟨[],a0.fEntries,0,0,rfl,rfl,rfl,rfl,rfl,h⟩ (.t [] false) ?_;rintro m L τ ⟨p10,q10,x7,x6,rfl,rfl,rfl,hE10,hi10,h⟩
 rcases q10 with _|⟨y10,q10⟩
 · have hz10:=yJ hE10 hi10;simp only[yu.l10] at h
   refine rg tok [1,5,18,19,20,21] fun K hK=>?_
   simp only[go_sem,qd,qb,hz10];apply hK
   refine za fun Z11 hZ11=>?_
   refine zp rfl ?_;apply zI;apply hZ5;refine rgN [4] ?_;cases h;exact rtA
 obtain⟨hz10,hw10,hx10,hE'10,hi'10⟩:=yk hE10 hi10 hb10;simp only[yu.l10] at h
 refine rg tok [1,5,18,19,20,21] fun K hK=>?_
 simp only[go_sem,qd,qb,hz10];apply hK
 refine za fun Z12 hZ12=>?_
 refine zq rfl ?_;apply zd;apply hZ12
 refine za fun Z13 hZ13=>?_
 apply ze;have f14:=E34.idxS hx10;have f15:=E34.loadS rfl rfl hx10
 refine rg tok [1,5,7,18,19,20] fun K hK=>?_
 simp only[go_sem,qd,qf,qb,qe,cellsGEntry,yq,f14,f15];apply hK
 refine rgN [1,5,18,19,20,25,26,27] ?_;apply ze
 refine yl 25 fun hb20=>?_
 replace hb20:qa y10.fTrees≤9223372036854775807:=hb20.1;refine zN (fun m L τ=>∃ (p20 q20:List GTree) (x17:Int) (x16:Int),m=qa q20∧L=[(1,.int .i64 a1),(5,.int .i64 x16),(18,.ds true (qc encGEntry a0.fEntries) (qa a0.fEntries) false),(19,.int .i64 (qa a0.fEntries:Int)),(20,.int .i64 x7),(25,.ds true (qc encGTree y10.fTrees) (qa y10.fTrees) false),(26,.int .i64 (qa y10.fTrees:Int)),(27,.int .i64 x17)]∧τ=[]∧y10.fTrees=p20++q20∧x17=(qa p20:Int)∧yu.l20 yY a1 x7 (yu.l10 yY a1 q10) q20 x17 x16=some r) _ ⟨[],y10.fTrees,0,x6,rfl,rfl,rfl,rfl,rfl,h⟩ (.t [] false) ?_;rintro m L τ ⟨p20,q20,x17,x16,rfl,rfl,rfl,hE20,hi20,h⟩
 rcases q20 with _|⟨y20,q20⟩
 · have hz20:=yJ hE20 hi20;simp only[yu.l20] at h
   refine rg tok [1,5,18,19,20,25,26,27,28] fun K hK=>?_
   simp only[go_sem,qd,qb,hz20];apply hK
   refine za fun Z21 hZ21=>?_
   refine zp rfl ?_;apply zI;apply hZ13
   refine rgE tok [1,5,18,19,20] fun K hK=>?_
   simp only[go_sem,qd,qb,hw10];apply hK
   exact⟨_,_,_,qw q10.length,⟨p10++[y10],q10,x7+1,x16,rfl,rfl,rfl,hE'10,hi'10,h⟩,.s⟩
 obtain⟨hz20,hw20,hx20,hE'20,hi'20⟩:=yk hE20 hi20 hb20;simp only[yu.l20] at h
 refine rg tok [1,5,18,19,20,25,26,27,28] fun K hK=>?_
 simp only[go_sem,qd,qb,hz20];apply hK
 refine za fun Z22 hZ22=>?_
 refine zq rfl ?_;apply zd;apply hZ22
 refine za fun Z23 hZ23=>?_
 apply ze;have f24:=E38.idxS hx20;have f25:=E38.loadS rfl rfl hx20
 refine rg tok [1,5,9,18,19,20,25,26,27] fun K hK=>?_
 simp only[go_sem,qd,qf,qb,qe,cellsGTree,zM,f24,f25];apply hK
 refine rcE [1,5,18,19,20,25,26,27] fun K hK=>?_
 obtain⟨r26,hr26,h⟩:=bind_some h;refine rnN 4 ?_;refine clN rfl rfl rfl (ev_value_deep y20 (IntKind.i64.wrap (a1-1)) r26 hr26 _) ?_;refine zj tok 2 ?_;simp only[go_sem,qd,qb,XL,foldO,vaj];refine nkN hK ?_;apply hZ23
 refine rgE tok [1,5,18,19,20,25,26,27] fun K hK=>?_
 simp only[go_sem,qd,qb,hw20];apply hK
 exact⟨_,_,_,qw q20.length,⟨p20++[y20],q20,x17+1,(if x16<r26 then r26 else x16),rfl,rfl,rfl,hE'20,hi'20,h⟩,(.t [] false)⟩
def yu : Nat→GTree→Int→Option Int
 |0,_,_=>none
 |k+1,a0,a1=>yu.body (yu k) a0 a1
theorem yu.all (k:Nat):(∀ (a0:GTree) (a1:Int) (r:Int),yu k a0 a1=some r→ACalls qg 179 [.agg (cellsGTree a0),.int .i64 a1] [] (fun r' _=>r'=.int .i64 r)):=by
 induction k with
 |zero=>exact (fun a0 a1 r h=>by simp only[yu] at h; cases h)
 |succ k ih=>exact (fun a0 a1 r h=>yu.step _ ih a0 a1 r (by simpa only [yu] using h))
theorem yu.ev (k:Nat)(a0:GTree)(a1:Int)(r:Int)(h:yu k a0 a1=some r)(σ:Store):ACalls qg 179 [.agg (cellsGTree a0),.int .i64 a1] σ (fun r' σ'=>r'=.int .i64 r∧σ'=σ):=
 ((yu.all k) a0 a1 r h).c σ
def wT (a0:GTree):Option Int:=
 (yu xo a0 101).bind fun r1=>some r1
theorem wT.ok (a0:GTree)(r:Int)(h:wT a0=some r):ACalls qg 139 [.agg (cellsGTree a0)] [] (fun r' _=>r'=.int .i64 r):=by
 refine zf (rs:=[.tmp 2]) tok Tryz.func139 rfl Tryz.ntmps139 rfl Tryz.call139 (by simp) ?_;refine zk [(0,.agg (cellsGTree a0))] ⟨rfl,trivial⟩ ?_;unfold wT at h
 refine rg tok [1] fun K hK=>?_
 simp only[go_sem,qd,qb,qe,reduceCtorEq,cellsGTree];apply hK
 refine rc [2] fun K hK=>?_
 obtain⟨r1,hr1,h⟩:=bind_some h;refine rnN 1 ?_;refine clN rfl rfl rfl (yu.ev xo a0 101 r1 hr1 _) ?_;refine rnN 1 ?_;refine nkN hK ?_;cases h;exact rtA
theorem wT.ev (a0:GTree)(r:Int)(h:wT a0=some r)(σ:Store):ACalls qg 139 [.agg (cellsGTree a0)] σ (fun r' σ'=>r'=.int .i64 r∧σ'=σ):=
 (wT.ok a0 r h).c σ
def wh (a0:GRaw):Bool:=
 (if ((decide (a0.fTag<1))||(decide (500<a0.fTag)))=true then false else (if a0.fWire=0 then decide (a0.fB=[]) else (if a0.fWire=1 then ((decide (a0.fN=0))&&(decide ((qa a0.fB:Int)≤4096))) else false)))
theorem wh.ok (a0:GRaw)(r:Bool)(h:wh a0=r):ACalls qg 147 [.agg (encGRaw a0)] [] (fun r' _=>r'=.bool r):=by
 refine zf (rs:=[.tmp 2]) tok Tryz.func147 rfl Tryz.ntmps147 rfl Tryz.call147 (by simp) ?_;refine zk [(0,.agg (encGRaw a0))] ⟨rfl,trivial⟩ ?_;unfold wh at h
 refine rg tok [1] fun K hK=>?_
 simp only[go_sem,qd,qb,qe,reduceCtorEq,encGRaw];apply hK
 refine za fun Z1 hZ1=>?_
 refine rc [1,10] fun K hK=>?_
 refine rnN 4 ?_;refine zo 4 (fun L τ=>L=[(1,.op 0 0 0),(10,.bool ((decide (a0.fTag<1))||(decide (500<a0.fTag))))]∧τ=[.cells 0 [.int .i64 a0.fTag,.int .i64 a0.fWire,.int .i64 a0.fN,.str a0.fB]]) ?_ ?_
 · refine xj 6 rfl (fun hg6=>?_) (fun hg6=>?_)
   · have t2:=eq_true hg6;refine rnN 4 ?_;refine zb ⟨rfl,_,_,⟨rfl,rfl⟩,.p t2⟩
   have t3:=eq_false hg6;refine rnN 4 ?_;refine zb ⟨rfl,_,_,⟨rfl,rfl⟩,.p t3⟩
 rintro _ _ ⟨rfl,rfl⟩;refine nkN hK ?_;refine zw (b:=((decide (a0.fTag<1))||(decide (500<a0.fTag)))) rfl (fun hc4=>?_) (fun hc4=>?_)
 · rw[if_pos hc4] at h;refine rgN [2] ?_;cases h;exact rtA
 rw[xU hc4] at h;apply zd;apply hZ1
 refine za fun Z5 hZ5=>?_
 refine rgN [1,12] ?_;apply ze;refine rgN [1,12,13] ?_;refine zF rfl (fun hc6=>?_) (fun hc6=>?_)
 · rw[if_pos hc6] at h;have t7:=eq_true hc6
   refine rg tok [2] fun K hK=>?_
   simp only[go_sem,qd,qb,qe,t7];apply hK
   cases h;exact rtA
 rw[if_neg hc6] at h;have t8:=eq_false hc6
 refine rg tok [1,18] fun K hK=>?_
 simp only[go_sem,qd,qb,t8];apply hK
 refine zF rfl (fun hc9=>?_) (fun hc9=>?_)
 · rw[if_pos hc9] at h;have t10:=eq_true hc9
   refine rc [2] fun K hK=>?_
   refine zj tok 4 ?_;simp only[go_sem,qd,qb,qe,t10];refine zo 5 (fun L τ=>L=[(28,.bool ((decide (a0.fN=0))&&(decide ((qa a0.fB:Int)≤4096))))]∧τ=[.cells 0 [.int .i64 a0.fTag,.int .i64 a0.fWire,.int .i64 a0.fN,.str a0.fB]]) ?_ ?_
   · refine xj 23 rfl (fun hg23=>?_) (fun hg23=>?_)
     · have t11:=eq_true hg23;refine rnN 5 ?_;refine zb ⟨rfl,_,_,⟨rfl,rfl⟩,.p t11⟩
     have t12:=eq_false hg23;refine rnN 5 ?_;refine zb ⟨rfl,_,_,⟨rfl,rfl⟩,.p t12⟩
   rintro _ _ ⟨rfl,rfl⟩;refine rnN 1 ?_;refine nkN hK ?_;cases h;exact rtA
 rw[if_neg hc9] at h;have t13:=eq_false hc9;apply zd;apply hZ5
 refine rg tok [2] fun K hK=>?_
 simp only[go_sem,qd,qb,t13];apply hK
 cases h;exact rtA
theorem wh.ev (a0:GRaw)(r:Bool)(h:wh a0=r)(σ:Store):ACalls qg 147 [.agg (encGRaw a0)] σ (fun r' σ'=>r'=.bool r∧σ'=σ):=
 (wh.ok a0 r h).c σ
def xK.l4 (a0:List GRaw):Nat→Int→Option Bool
 |0,_=>none
 |k4+1,x2=>(if x2<(qa a0:Int) then (YS a0 x2).bind fun y9=>(YS a0 (IntKind.i64.wrap (x2-1))).bind fun y12=>(if y9.fTag<y12.fTag then some false else ((xK.l4 a0 k4) (IntKind.i64.wrap (x2+1)))) else some true)
def xK (a0:List GRaw):Option Bool:=
 (xK.l4 a0 xo 1)
theorem xK.ok (a0:List GRaw)(r:Bool)(h:xK a0=some r):ACalls qg 223 [.ds true (qc encGRaw a0) (qa a0) false] [] (fun r' _=>r'=.bool r):=by
 refine zf (rs:=[.tmp 2]) tok Tryz.func223 rfl Tryz.ntmps223 rfl Tryz.call223 (by simp) ?_;refine zk [(0,.ds true (qc encGRaw a0) (qa a0) false)] ⟨rfl,trivial⟩ ?_;unfold xK at h;refine rgN [0] ?_
 refine za fun Z1 hZ1=>?_
 refine rgN [0,3] ?_;apply ze;refine zN (fun m L τ=>∃ (k4:Nat) (x2:Int),m=0+k4∧L=[(0,.ds true (qc encGRaw a0) (qa a0) false),(3,.int .i64 x2)]∧τ=[]∧xK.l4 a0 k4 x2=some r) _ ⟨xo,1,rfl,rfl,rfl,h⟩ .s ?_;rintro m L τ ⟨k4,x2,rfl,rfl,rfl,h⟩
 rcases k4 with _|k4
 · cases h
 simp only[xK.l4] at h
 refine za fun Z5 hZ5=>?_
 refine rgN [0,3,7] ?_;refine zF rfl (fun hc6=>?_) (fun hc6=>?_)
 · rw[if_pos hc6] at h;have t7:=eq_true hc6;apply zd;apply hZ5
   refine za fun Z8 hZ8=>?_
   apply ze;obtain⟨y9,hy9,h⟩:=bind_some h;have f10:=E35.idxS hy9;have f11:=E35.fldS0 (f:=3) rfl rfl hy9;obtain⟨y12,hy12,h⟩:=bind_some h;have f13:=E35.idxS hy12;have f14:=E35.fldS0 (f:=3) rfl rfl hy12
   refine rd [0,3,21] fun K hK=>?_
   refine DW.start (T:=tab) [.any,.any,.any,.any,.at [],.any,.any,.any,.any,.any,.at [],.any] [] ?_;refine DW.runN tok 8 ?_;simp only[go_sem,qd,qb,reduceCtorEq,encGRaw,t7,f10,f11];refine DW.runN tok 4 ?_;simp only[go_sem,qd,qb,reduceCtorEq,encGRaw,f13,f14];refine DW.fin tok (by decide +kernel) rfl ?_;simp only[zn,upd,qb,reduceIte,ym,y1];apply hK
   refine zF rfl (fun hc15=>?_) (fun hc15=>?_)
   · rw[if_pos hc15] at h;have t16:=eq_true hc15
     refine rg tok [2] fun K hK=>?_
     simp only[go_sem,qd,qb,reduceCtorEq,t16];apply hK
     cases h;exact rtA
   rw[if_neg hc15] at h;have t17:=eq_false hc15;apply zd;apply hZ8
   refine rgE tok [0,3] fun K hK=>?_
   simp only[go_sem,qd,qb,reduceCtorEq,t17];apply hK
   exact⟨_,_,_,qw (0+k4),⟨k4,IntKind.i64.wrap (x2+1),rfl,rfl,rfl,h⟩,.s⟩
 rw[if_neg hc6] at h;have t18:=eq_false hc6;apply zI;apply hZ1
 refine rg tok [2] fun K hK=>?_
 simp only[go_sem,qd,qb,reduceCtorEq,t18];apply hK
 cases h;exact rtA
theorem xK.ev (a0:List GRaw)(r:Bool)(h:xK a0=some r)(σ:Store):ACalls qg 223 [.ds true (qc encGRaw a0) (qa a0) false] σ (fun r' σ'=>r'=.bool r∧σ'=σ):=
 (xK.ok a0 r h).c σ
def y5.l16 (x2:Int)(rec4:Int→Option Bool)(y4:GRaw):List GEntry→Int→Option Bool
 |[],x14=>(rec4 (x2+1))
 |y16::q16,x14=>(if y16.fTag=y4.fTag then some false else ((y5.l16 x2 rec4 y4 q16) (x14+1)))
def y5.l4 (a0:GTree):List GRaw→Int→Option Bool
 |[],x2=>(xK a0.fRest).bind fun r6=>some r6
 |y4::q4,x2=>bnd (wh y4) fun r12=>(if (!r12)=true then some false else (y5.l16 x2 (y5.l4 a0 q4) y4 a0.fEntries 0))
def y5 (a0:GTree):Option Bool:=
 (y5.l4 a0 a0.fRest 0)
theorem y5.ok (a0:GTree)(r:Bool)(h:y5 a0=some r):ACalls qg 181 [.agg (cellsGTree a0)] [] (fun r' _=>r'=.bool r):=by
 refine zf (rs:=[.tmp 2]) tok Tryz.func181 rfl Tryz.ntmps181 rfl Tryz.call181 (by simp) ?_;refine zk [(0,.agg (cellsGTree a0))] ⟨rfl,trivial⟩ ?_;unfold y5 at h
 refine rg tok [1] fun K hK=>?_
 simp only[go_sem,qd,qb,qe,reduceCtorEq,cellsGTree];apply hK
 refine za fun Z1 hZ1=>?_
 refine rgN [1,8,9,10] ?_;apply ze
 refine yl 8 fun hb4=>?_
 replace hb4:qa a0.fRest≤9223372036854775807:=hb4.1;refine zN (fun m L τ=>∃ (p4 q4:List GRaw) (x2:Int),m=qa q4∧L=[(1,.op 0 0 0),(8,.ds true (qc encGRaw a0.fRest) (qa a0.fRest) false),(9,.int .i64 (qa a0.fRest:Int)),(10,.int .i64 x2)]∧τ=[.cells 0 (cellsGTree a0)]∧a0.fRest=p4++q4∧x2=(qa p4:Int)∧y5.l4 a0 q4 x2=some r) _ ⟨[],a0.fRest,0,rfl,rfl,rfl,rfl,rfl,h⟩ .s ?_;rintro m L τ ⟨p4,q4,x2,rfl,rfl,rfl,hE4,hi4,h⟩
 rcases q4 with _|⟨y4,q4⟩
 · have hz4:=yJ hE4 hi4;simp only[y5.l4] at h
   refine rg tok [1,8,9,10,11] fun K hK=>?_
   simp only[go_sem,qd,qb,hz4];apply hK
   refine za fun Z5 hZ5=>?_
   refine zp rfl ?_;apply zI;apply hZ1
   refine rc [2] fun K hK=>?_
   obtain⟨r6,hr6,h⟩:=bind_some h;refine rnN 2 ?_;refine clN rfl rfl rfl (xK.ev a0.fRest r6 hr6 _) ?_;refine rnN 1 ?_;refine nkN hK ?_;cases h;exact rtA
 obtain⟨hz4,hw4,hx4,hE'4,hi'4⟩:=yk hE4 hi4 hb4;simp only[y5.l4] at h
 refine rg tok [1,8,9,10,11] fun K hK=>?_
 simp only[go_sem,qd,qb,hz4];apply hK
 refine za fun Z7 hZ7=>?_
 refine zq rfl ?_;apply zd;apply hZ7
 refine za fun Z8 hZ8=>?_
 apply ze;have f9:=E35.idxS hx4;have f10:=E35.loadS rfl rfl hx4
 refine rg tok [1,4,8,9,10] fun K hK=>?_
 simp only[go_sem,qd,qf,qb,qe,encGRaw,f9,f10];apply hK
 refine za fun Z11 hZ11=>?_
 refine rc [1,4,8,9,10,16] fun K hK=>?_
 obtain⟨r12,hr12,h⟩:=zH h;refine rnN 1 ?_;refine clN rfl rfl rfl (wh.ev y4 r12 hr12 _) ?_;refine rnN 1 ?_;refine nkN hK ?_;refine zw (b:=(!r12)) rfl (fun hc13=>?_) (fun hc13=>?_)
 · rw[if_pos hc13] at h;refine rgN [2] ?_;cases h;exact rtA
 rw[xU hc13] at h;apply zd;apply hZ11;refine rgN [1,4,8,9,10,18,19,20] ?_;apply ze
 refine yl 18 fun hb16=>?_
 replace hb16:qa a0.fEntries≤9223372036854775807:=hb16.1;refine zN (fun m L τ=>∃ (p16 q16:List GEntry) (x14:Int),m=qa q16∧L=[(1,.op 0 0 0),(4,.op 1 0 0),(8,.ds true (qc encGRaw a0.fRest) (qa a0.fRest) false),(9,.int .i64 (qa a0.fRest:Int)),(10,.int .i64 x2),(18,.ds true (qc encGEntry a0.fEntries) (qa a0.fEntries) false),(19,.int .i64 (qa a0.fEntries:Int)),(20,.int .i64 x14)]∧τ=[.cells 0 (cellsGTree a0),.cells 0 [.int .i64 y4.fTag,.int .i64 y4.fWire,.int .i64 y4.fN,.str y4.fB]]∧a0.fEntries=p16++q16∧x14=(qa p16:Int)∧y5.l16 x2 (y5.l4 a0 q4) y4 q16 x14=some r) _ ⟨[],a0.fEntries,0,rfl,rfl,rfl,rfl,rfl,h⟩ .s ?_;rintro m L τ ⟨p16,q16,x14,rfl,rfl,rfl,hE16,hi16,h⟩
 rcases q16 with _|⟨y16,q16⟩
 · have hz16:=yJ hE16 hi16;simp only[y5.l16] at h
   refine rg tok [1,4,8,9,10,18,19,20,21] fun K hK=>?_
   simp only[go_sem,qd,qb,hz16];apply hK
   refine za fun Z17 hZ17=>?_
   refine zp rfl ?_;apply zI;apply hZ8
   refine rgE tok [1,8,9,10] fun K hK=>?_
   simp only[go_sem,qd,qb,hw4];apply hK
   exact⟨_,_,_,qw q4.length,⟨p4++[y4],q4,x2+1,rfl,rfl,rfl,hE'4,hi'4,h⟩,(.t [0] false)⟩
 obtain⟨hz16,hw16,hx16,hE'16,hi'16⟩:=yk hE16 hi16 hb16;simp only[y5.l16] at h
 refine rg tok [1,4,8,9,10,18,19,20,21] fun K hK=>?_
 simp only[go_sem,qd,qb,hz16];apply hK
 refine za fun Z18 hZ18=>?_
 refine zq rfl ?_;apply zd;apply hZ18
 refine za fun Z19 hZ19=>?_
 apply ze;have f20:=E34.idxS hx16;have f21:=E34.loadS rfl rfl hx16
 refine rg tok [1,4,6,8,9,10,18,19,20] fun K hK=>?_
 simp only[go_sem,qd,qf,qb,qe,cellsGEntry,yq,f20,f21];apply hK
 refine rgN [1,4,8,9,10,18,19,20,28] ?_;refine zF rfl (fun hc22=>?_) (fun hc22=>?_)
 · rw[if_pos hc22] at h;have t23:=eq_true hc22
   refine rg tok [2] fun K hK=>?_
   simp only[go_sem,qd,qb,t23];apply hK
   cases h;exact rtA
 rw[if_neg hc22] at h;have t24:=eq_false hc22;apply zd;apply hZ19
 refine rgE tok [1,4,8,9,10,18,19,20] fun K hK=>?_
 simp only[go_sem,qd,qb,hw16,t24];apply hK
 exact⟨_,_,_,qw q16.length,⟨p16++[y16],q16,x14+1,rfl,rfl,rfl,hE'16,hi'16,h⟩,(.t [0,1] false)⟩
theorem y5.ev (a0:GTree)(r:Bool)(h:y5 a0=some r)(σ:Store):ACalls qg 181 [.agg (cellsGTree a0)] σ (fun r' σ'=>r'=.bool r∧σ'=σ):=
 (y5.ok a0 r h).c σ
def zJ.j25 (x16:Int)(rec18:Int→Option Bool)(x24:Bool):Option Bool:=
 (if x24=true then some false else (rec18 (x16+1)))
def zJ.l18 (zY:GTree→Option Bool)(x3:Int)(rec6:Int→Int→Option Bool)(y6:GEntry):List GTree→Int→Option Bool
 |[],x16=>(rec6 (x3+1) y6.fTag)
 |y18::q18,x16=>(YS y6.fTrees 0).bind fun y27=>(if y18.fKind=y27.fKind then (zY y18).bind fun r32=>(zJ.j25 x16 (zJ.l18 zY x3 rec6 y6 q18) (!r32)) else (zJ.j25 x16 (zJ.l18 zY x3 rec6 y6 q18) true))
def zJ.l6 (zY:GTree→Option Bool):List GEntry→Int→Int→Option Bool
 |[],x3,x2=>some true
 |y6::q6,x3,x2=>(if ((((decide (y6.fTag≤x2))||(decide (500<y6.fTag)))||(decide ((qa y6.fTrees:Int)<1)))||(decide (64<(qa y6.fTrees:Int))))=true then some false else (zJ.l18 zY x3 (zJ.l6 zY q6) y6 y6.fTrees 0))
def zJ.body (xm:GTree→Option Bool)(zY:GTree→Option Bool)(a0:GTree):Option Bool:=
 (zJ.l6 zY a0.fEntries 0 0)
theorem zJ.step (xm:GTree→Option Bool)(zY:GTree→Option Bool)(ZK:∀ (a0:GTree) (r:Bool),xm a0=some r→ACalls qg 180 [.agg (cellsGTree a0)] [] (fun r' _=>r'=.bool r))(Ym:∀ (a0:GTree) (r:Bool),zY a0=some r→ACalls qg 140 [.agg (cellsGTree a0)] [] (fun r' _=>r'=.bool r))(a0:GTree)(r:Bool)(h:zJ.body xm zY a0=some r):ACalls qg 180 [.agg (cellsGTree a0)] [] (fun r' _=>r'=.bool r):=by
 have ev_value_entries:=fun a0 r h σ=>(ZK a0 r h).c σ
 have ev_value_right:=fun a0 r h σ=>(Ym a0 r h).c σ
 refine zf (rs:=[.tmp 2]) tok Tryz.func180 rfl Tryz.ntmps180 rfl Tryz.call180 (by simp) ?_;refine zk [(0,.agg (cellsGTree a0))] ⟨rfl,trivial⟩ ?_;unfold zJ.body at h
 refine rg tok [1] fun K hK=>?_
 simp only[go_sem,qd,qb,qe,reduceCtorEq,cellsGTree];apply hK
 refine rgN [1,3] ?_
 refine za fun Z1 hZ1=>?_
 refine rgN [3,9,10,11] ?_;apply ze
 refine yl 9 fun hb6=>?_
 replace hb6:qa a0.fEntries≤9223372036854775807:=hb6.1;refine zN (fun m L τ=>∃ (p6 q6:List GEntry) (x3:Int) (x2:Int),m=qa q6∧L=[(3,.int .i64 x2),(9,.ds true (qc encGEntry a0.fEntries) (qa a0.fEntries) false),(10,.int .i64 (qa a0.fEntries:Int)),(11,.int .i64 x3)]∧τ=[]∧a0.fEntries=p6++q6∧x3=(qa p6:Int)∧zJ.l6 zY q6 x3 x2=some r) _ ⟨[],a0.fEntries,0,0,rfl,rfl,rfl,rfl,rfl,h⟩ (.t [] false) ?_;rintro m L τ ⟨p6,q6,x3,x2,rfl,rfl,rfl,hE6,hi6,h⟩
 rcases q6 with _|⟨y6,q6⟩
 · have hz6:=yJ hE6 hi6;simp only[zJ.l6] at h
   refine rg tok [3,9,10,11,12] fun K hK=>?_
   simp only[go_sem,qd,qb,hz6];apply hK
   refine za fun Z7 hZ7=>?_
   refine zp rfl ?_;apply zI;apply hZ1;refine rgN [2] ?_;cases h;exact rtA
 obtain⟨hz6,hw6,hx6,hE'6,hi'6⟩:=yk hE6 hi6 hb6;simp only[zJ.l6] at h
 refine rg tok [3,9,10,11,12] fun K hK=>?_
 simp only[go_sem,qd,qb,hz6];apply hK
 refine za fun Z8 hZ8=>?_
 refine zq rfl ?_;apply zd;apply hZ8
 refine za fun Z9 hZ9=>?_
 apply ze;have f10:=E34.idxS hx6;have f11:=E34.loadS rfl rfl hx6
 refine rg tok [3,5,9,10,11] fun K hK=>?_
 simp only[go_sem,qd,qf,qb,qe,cellsGEntry,yq,f10,f11];apply hK
 refine za fun Z12 hZ12=>?_
 refine rc [5,9,10,11,35] fun K hK=>?_
 refine rnN 5 ?_;refine zo 4 (fun L τ=>L=[(5,.op 0 0 0),(9,.ds true (qc encGEntry a0.fEntries) (qa a0.fEntries) false),(10,.int .i64 (qa a0.fEntries:Int)),(11,.int .i64 x3),(23,.bool ((decide (y6.fTag≤x2))||(decide (500<y6.fTag))))]∧τ=[.cells 0 (cellsGEntry y6)]) ?_ ?_
 · refine xj 19 rfl (fun hg19=>?_) (fun hg19=>?_)
   · have t13:=eq_true hg19;refine rnN 4 ?_;refine zb ⟨rfl,_,_,⟨rfl,rfl⟩,.p t13⟩
   have t14:=eq_false hg19;refine rnN 4 ?_;refine zb ⟨rfl,_,_,⟨rfl,rfl⟩,.p t14⟩
 rintro _ _ ⟨rfl,rfl⟩;refine rnN 1 ?_;refine zo 5 (fun L τ=>L=[(5,.op 0 0 0),(9,.ds true (qc encGEntry a0.fEntries) (qa a0.fEntries) false),(10,.int .i64 (qa a0.fEntries:Int)),(11,.int .i64 x3),(29,.bool (((decide (y6.fTag≤x2))||(decide (500<y6.fTag)))||(decide ((qa y6.fTrees:Int)<1))))]∧τ=[.cells 0 (cellsGEntry y6)]) ?_ ?_
 · refine zP (b:=((decide (y6.fTag≤x2))||(decide (500<y6.fTag)))) 24 rfl (fun hg24=>?_) (fun hg24=>?_)
   · refine rnN 5 ?_;refine zb ⟨rfl,_,_,⟨rfl,rfl⟩,.b hg24⟩
   refine rnN 5 ?_;refine zb ⟨rfl,_,_,⟨rfl,rfl⟩,.b hg24⟩
 rintro _ _ ⟨rfl,rfl⟩;refine rnN 1 ?_;refine zo 5 (fun L τ=>L=[(5,.op 0 0 0),(9,.ds true (qc encGEntry a0.fEntries) (qa a0.fEntries) false),(10,.int .i64 (qa a0.fEntries:Int)),(11,.int .i64 x3),(35,.bool ((((decide (y6.fTag≤x2))||(decide (500<y6.fTag)))||(decide ((qa y6.fTrees:Int)<1)))||(decide (64<(qa y6.fTrees:Int)))))]∧τ=[.cells 0 (cellsGEntry y6)]) ?_ ?_
 · refine zP (b:=(((decide (y6.fTag≤x2))||(decide (500<y6.fTag)))||(decide ((qa y6.fTrees:Int)<1)))) 30 rfl (fun hg30=>?_) (fun hg30=>?_)
   · refine rnN 5 ?_;refine zb ⟨rfl,_,_,⟨rfl,rfl⟩,.b hg30⟩
   refine rnN 5 ?_;refine zb ⟨rfl,_,_,⟨rfl,rfl⟩,.b hg30⟩
 rintro _ _ ⟨rfl,rfl⟩;refine nkN hK ?_;refine zw (b:=((((decide (y6.fTag≤x2))||(decide (500<y6.fTag)))||(decide ((qa y6.fTrees:Int)<1)))||(decide (64<(qa y6.fTrees:Int))))) rfl (fun hc15=>?_) (fun hc15=>?_)
 · rw[if_pos hc15] at h;refine rgN [2] ?_;cases h;exact rtA
 rw[xU hc15] at h;apply zd;apply hZ12;refine rgN [3,5,9,10,11] ?_;refine rgN [3,5,9,10,11,39,40,41] ?_;apply ze
 refine yl 39 fun hb18=>?_
 replace hb18:qa y6.fTrees≤9223372036854775807:=hb18.1;refine zN (fun m L τ=>∃ (p18 q18:List GTree) (x16:Int),m=qa q18∧L=[(3,.int .i64 y6.fTag),(5,.op 0 0 0),(9,.ds true (qc encGEntry a0.fEntries) (qa a0.fEntries) false),(10,.int .i64 (qa a0.fEntries:Int)),(11,.int .i64 x3),(39,.ds true (qc encGTree y6.fTrees) (qa y6.fTrees) false),(40,.int .i64 (qa y6.fTrees:Int)),(41,.int .i64 x16)]∧τ=[.cells 0 (cellsGEntry y6)]∧y6.fTrees=p18++q18∧x16=(qa p18:Int)∧zJ.l18 zY x3 (zJ.l6 zY q6) y6 q18 x16=some r) _ ⟨[],y6.fTrees,0,rfl,rfl,rfl,rfl,rfl,h⟩ .s ?_;rintro m L τ ⟨p18,q18,x16,rfl,rfl,rfl,hE18,hi18,h⟩
 rcases q18 with _|⟨y18,q18⟩
 · have hz18:=yJ hE18 hi18;simp only[zJ.l18] at h
   refine rg tok [3,5,9,10,11,39,40,41,42] fun K hK=>?_
   simp only[go_sem,qd,qb,hz18];apply hK
   refine za fun Z19 hZ19=>?_
   refine zp rfl ?_;apply zI;apply hZ9
   refine rgE tok [3,9,10,11] fun K hK=>?_
   simp only[go_sem,qd,qb,hw6];apply hK
   exact⟨_,_,_,qw q6.length,⟨p6++[y6],q6,x3+1,y6.fTag,rfl,rfl,rfl,hE'6,hi'6,h⟩,(.t [] false)⟩
 obtain⟨hz18,hw18,hx18,hE'18,hi'18⟩:=yk hE18 hi18 hb18;simp only[zJ.l18] at h
 refine rg tok [3,5,9,10,11,39,40,41,42] fun K hK=>?_
 simp only[go_sem,qd,qb,hz18];apply hK
 refine za fun Z20 hZ20=>?_
 refine zq rfl ?_;apply zd;apply hZ20
 refine za fun Z21 hZ21=>?_
 apply ze;have f22:=E38.idxS hx18;have f23:=E38.loadS rfl rfl hx18
 refine rg tok [3,5,7,9,10,11,39,40,41] fun K hK=>?_
 simp only[go_sem,qd,qf,qb,qe,cellsGTree,zM,f22,f23];apply hK
 refine yR (fun L τ=>∃ (x24:Bool),L=[(3,.int .i64 y6.fTag),(5,.op 0 0 0),(9,.ds true (qc encGEntry a0.fEntries) (qa a0.fEntries) false),(10,.int .i64 (qa a0.fEntries:Int)),(11,.int .i64 x3),(39,.ds true (qc encGTree y6.fTrees) (qa y6.fTrees) false),(40,.int .i64 (qa y6.fTrees:Int)),(41,.int .i64 x16),(57,.bool x24)]∧τ=[.cells 0 (cellsGEntry y6)]∧zJ.j25 x16 (zJ.l18 zY x3 (zJ.l6 zY q6) y6 q18) x24=some r) ?_ ?_
 · refine rdE [3,5,9,10,11,39,40,41,57] fun K hK=>?_
   refine DW.start (T:=tab) [.any,.at [],.any,.at [],.any,.any,.at [],.any,.any,.at [],.eff,.any,.any] [] ?_;obtain⟨y27,hy27,h⟩:=bind_some h;have f28:=E38.idxS hy27;have f29:=E38.fldS0 (f:=3) rfl rfl hy27;refine DW.runN tok 8 ?_;simp only[go_sem,qd,qb,qe,cellsGTree,zM,f28,f29];refine DW.runN tok 1 ?_;simp only[go_sem,qd,qb]
   refine DW.if 53 rfl (fun hg53=>?_) (fun hg53=>?_)
   · rw[if_neg hg53] at h;have t30:=eq_false hg53;refine DW.runN tok 4 ?_;simp only[go_sem,qd,qb,t30];refine DW.fin tok (by decide +kernel) rfl ?_;simp only[zn,upd,qb,reduceIte,ym,y1];apply hK
     exact⟨_,_,⟨true,rfl,rfl,h⟩,(.t [0] false)⟩
   rw[if_pos hg53] at h;have t31:=eq_true hg53;obtain⟨r32,hr32,h⟩:=bind_some h;refine DW.runN tok 1 ?_;simp only[go_sem,qd,qf,qb,qe,t31];refine DW.call rfl rfl rfl (ev_value_right y18 r32 hr32 _) ?_;refine DW.runN tok 2 ?_;simp only[go_sem,qd,qb];refine DW.fin tok (by decide +kernel) rfl ?_;simp only[zn,upd,qb,reduceIte,ym,y1];apply hK
   exact⟨_,_,⟨!r32,rfl,rfl,h⟩,(.t [0] false)⟩
 rintro _ _ ⟨x24,rfl,rfl,h⟩;unfold zJ.j25 at h;refine zw (b:=x24) rfl (fun hc26=>?_) (fun hc26=>?_)
 · rw[if_pos hc26] at h;refine rgN [2] ?_;cases h;exact rtA
 rw[xU hc26] at h;apply zd;apply hZ21
 refine rgE tok [3,5,9,10,11,39,40,41] fun K hK=>?_
 simp only[go_sem,qd,qb,hw18];apply hK
 exact⟨_,_,_,qw q18.length,⟨p18++[y18],q18,x16+1,rfl,rfl,rfl,hE'18,hi'18,h⟩,.s⟩
def xz.body (xm:GTree→Option Bool)(zY:GTree→Option Bool)(a0:GTree):Option Bool:=
 (if a0.fKind=1 then some (((decide (a0.fS=[]))&&(decide ((qa a0.fEntries:Int)=0)))&&(decide ((qa a0.fRest:Int)=0))) else (if a0.fKind=2 then some (((decide (a0.fN=0))&&(decide ((qa a0.fEntries:Int)=0)))&&(decide ((qa a0.fRest:Int)=0))) else (if a0.fKind=3 then (if ((decide (a0.fN=0))&&(decide (a0.fS=[])))=true then (xm a0).bind fun r16=>some r16 else some false).bind fun c16=>(if c16=true then (y5 a0).bind fun r18=>some r18 else some false).bind fun c18=>some c18 else some false)))
theorem xz.step (xm:GTree→Option Bool)(zY:GTree→Option Bool)(ZK:∀ (a0:GTree) (r:Bool),xm a0=some r→ACalls qg 180 [.agg (cellsGTree a0)] [] (fun r' _=>r'=.bool r))(Ym:∀ (a0:GTree) (r:Bool),zY a0=some r→ACalls qg 140 [.agg (cellsGTree a0)] [] (fun r' _=>r'=.bool r))(a0:GTree)(r:Bool)(h:xz.body xm zY a0=some r):ACalls qg 140 [.agg (cellsGTree a0)] [] (fun r' _=>r'=.bool r):=by
 have ev_value_entries:=fun a0 r h σ=>(ZK a0 r h).c σ
 have ev_value_right:=fun a0 r h σ=>(Ym a0 r h).c σ
 refine zf (rs:=[.tmp 2]) tok Tryz.func140 rfl Tryz.ntmps140 rfl Tryz.call140 (by simp) ?_;refine zk [(0,.agg (cellsGTree a0))] ⟨rfl,trivial⟩ ?_;unfold xz.body at h
 refine rg tok [1] fun K hK=>?_
 simp only[go_sem,qd,qb,qe,reduceCtorEq,cellsGTree];apply hK
 refine za fun Z1 hZ1=>?_
 refine rgN [1,4] ?_;apply ze;refine rgN [1,4,5] ?_;refine zF rfl (fun hc2=>?_) (fun hc2=>?_)
 · rw[if_pos hc2] at h;have t3:=eq_true hc2
   refine rc [2] fun K hK=>?_
   refine zj tok 4 ?_;simp only[go_sem,qd,qb,qe,t3];refine zo 5 (fun L τ=>L=[(1,.op 0 0 0),(15,.bool ((decide (a0.fS=[]))&&(decide ((qa a0.fEntries:Int)=0))))]∧τ=[.cells 0 (cellsGTree a0)]) ?_ ?_
   · refine xj 10 rfl (fun hg10=>?_) (fun hg10=>?_)
     · have t4:=eq_true hg10;refine rnN 5 ?_;refine zb ⟨rfl,_,_,⟨rfl,rfl⟩,.p t4⟩
     have t5:=eq_false hg10;refine rnN 5 ?_;refine zb ⟨rfl,_,_,⟨rfl,rfl⟩,.p t5⟩
   rintro _ _ ⟨rfl,rfl⟩;refine rnN 1 ?_;refine zo 5 (fun L τ=>L=[(21,.bool (((decide (a0.fS=[]))&&(decide ((qa a0.fEntries:Int)=0)))&&(decide ((qa a0.fRest:Int)=0))))]∧τ=[.cells 0 (cellsGTree a0)]) ?_ ?_
   · refine zP (b:=((decide (a0.fS=[]))&&(decide ((qa a0.fEntries:Int)=0)))) 16 rfl (fun hg16=>?_) (fun hg16=>?_)
     · refine rnN 5 ?_;refine zb ⟨rfl,_,_,⟨rfl,rfl⟩,.b hg16⟩
     refine rnN 5 ?_;refine zb ⟨rfl,_,_,⟨rfl,rfl⟩,.b hg16⟩
   rintro _ _ ⟨rfl,rfl⟩;refine rnN 1 ?_;refine nkN hK ?_;cases h;exact rtA
 rw[if_neg hc2] at h;have t6:=eq_false hc2
 refine rg tok [1,4,22] fun K hK=>?_
 simp only[go_sem,qd,qb,t6];apply hK
 refine zF rfl (fun hc7=>?_) (fun hc7=>?_)
 · rw[if_pos hc7] at h;have t8:=eq_true hc7
   refine rc [2] fun K hK=>?_
   refine zj tok 4 ?_;simp only[go_sem,qd,qb,qe,t8];refine zo 5 (fun L τ=>L=[(1,.op 0 0 0),(32,.bool ((decide (a0.fN=0))&&(decide ((qa a0.fEntries:Int)=0))))]∧τ=[.cells 0 (cellsGTree a0)]) ?_ ?_
   · refine xj 27 rfl (fun hg27=>?_) (fun hg27=>?_)
     · have t9:=eq_true hg27;refine rnN 5 ?_;refine zb ⟨rfl,_,_,⟨rfl,rfl⟩,.p t9⟩
     have t10:=eq_false hg27;refine rnN 5 ?_;refine zb ⟨rfl,_,_,⟨rfl,rfl⟩,.p t10⟩
   rintro _ _ ⟨rfl,rfl⟩;refine rnN 1 ?_;refine zo 5 (fun L τ=>L=[(38,.bool (((decide (a0.fN=0))&&(decide ((qa a0.fEntries:Int)=0)))&&(decide ((qa a0.fRest:Int)=0))))]∧τ=[.cells 0 (cellsGTree a0)]) ?_ ?_
   · refine zP (b:=((decide (a0.fN=0))&&(decide ((qa a0.fEntries:Int)=0)))) 33 rfl (fun hg33=>?_) (fun hg33=>?_)
     · refine rnN 5 ?_;refine zb ⟨rfl,_,_,⟨rfl,rfl⟩,.b hg33⟩
     refine rnN 5 ?_;refine zb ⟨rfl,_,_,⟨rfl,rfl⟩,.b hg33⟩
   rintro _ _ ⟨rfl,rfl⟩;refine rnN 1 ?_;refine nkN hK ?_;cases h;exact rtA
 rw[if_neg hc7] at h;have t11:=eq_false hc7
 refine rg tok [1,39] fun K hK=>?_
 simp only[go_sem,qd,qb,t11];apply hK
 refine zF rfl (fun hc12=>?_) (fun hc12=>?_)
 · rw[if_pos hc12] at h;have t13:=eq_true hc12
   refine rc [2] fun K hK=>?_
   refine zj tok 4 ?_;simp only[go_sem,qd,qb,qe,t13];refine zo 4 (fun L τ=>L=[(1,.op 0 0 0),(48,.bool ((decide (a0.fN=0))&&(decide (a0.fS=[]))))]∧τ=[.cells 0 (cellsGTree a0)]) ?_ ?_
   · refine xj 44 rfl (fun hg44=>?_) (fun hg44=>?_)
     · have t14:=eq_true hg44;refine rnN 4 ?_;refine zb ⟨rfl,_,_,⟨rfl,rfl⟩,.p t14⟩
     have t15:=eq_false hg44;refine rnN 4 ?_;refine zb ⟨rfl,_,_,⟨rfl,rfl⟩,.p t15⟩
   rintro _ _ ⟨rfl,rfl⟩;refine rnN 1 ?_;obtain⟨c16,hc16,h⟩:=bind_some h;refine zo 3 (fun L τ=>L=[(1,.op 0 0 0),(52,.bool c16)]∧τ=[.cells 0 (cellsGTree a0)]) ?_ ?_
   · refine zP (b:=((decide (a0.fN=0))&&(decide (a0.fS=[])))) 49 rfl (fun hg49=>?_) (fun hg49=>?_)
     · rw[if_pos hg49] at hc16;obtain⟨r17,hr17,hc16⟩:=bind_some hc16;refine rnN 1 ?_;refine clN rfl rfl rfl (ev_value_entries a0 r17 hr17 _) ?_;refine rnN 1 ?_;cases hc16;refine zb ⟨rfl,_,_,⟨rfl,rfl⟩,.b hg49⟩
     rw[xU hg49] at hc16;refine rnN 3 ?_;cases hc16;refine zb ⟨rfl,_,_,⟨rfl,rfl⟩,.b hg49⟩
   rintro _ _ ⟨rfl,rfl⟩;refine rnN 1 ?_;obtain⟨c18,hc18,h⟩:=bind_some h;refine zo 3 (fun L τ=>L=[(56,.bool c18)]∧τ=[.cells 0 (cellsGTree a0)]) ?_ ?_
   · refine zP (b:=c16) 53 rfl (fun hg53=>?_) (fun hg53=>?_)
     · rw[if_pos hg53] at hc18;obtain⟨r19,hr19,hc18⟩:=bind_some hc18;refine rnN 1 ?_;refine clN rfl rfl rfl (y5.ev a0 r19 hr19 _) ?_;refine rnN 1 ?_;cases hc18;refine zb ⟨rfl,_,_,⟨rfl,rfl⟩,.b hg53⟩
     rw[xU hg53] at hc18;refine rnN 3 ?_;cases hc18;refine zb ⟨rfl,_,_,⟨rfl,rfl⟩,.b hg53⟩
   rintro _ _ ⟨rfl,rfl⟩;refine rnN 1 ?_;refine nkN hK ?_;cases h;exact rtA
 rw[if_neg hc12] at h;have t20:=eq_false hc12;apply zd;apply hZ1
 refine rg tok [2] fun K hK=>?_
 simp only[go_sem,qd,qb,t20];apply hK
 cases h;exact rtA
end
section
set_option maxRecDepth 4000
set_option maxHeartbeats 1000000
open AM
mutual
def zJ : Nat→GTree→Option Bool
 |0,_=>none
 |k+1,a0=>zJ.body (zJ k) (xz k) a0
def xz : Nat→GTree→Option Bool
 |0,_=>none
 |k+1,a0=>xz.body (zJ k) (xz k) a0
end
theorem zJ.all (k:Nat):(∀ (a0:GTree) (r:Bool),zJ k a0=some r→ACalls qg 180 [.agg (cellsGTree a0)] [] (fun r' _=>r'=.bool r))∧(∀ (a0:GTree) (r:Bool),xz k a0=some r→ACalls qg 140 [.agg (cellsGTree a0)] [] (fun r' _=>r'=.bool r)):=by
 induction k with
 |zero=>exact⟨(fun a0 r h=>by simp only[zJ] at h; cases h),(fun a0 r h=>by simp only[xz] at h; cases h)⟩
 |succ k ih=>exact⟨(fun a0 r h=>zJ.step _ _ ih.1 ih.2 a0 r (by simpa only [zJ] using h)),(fun a0 r h=>xz.step _ _ ih.1 ih.2 a0 r (by simpa only [xz] using h))⟩
theorem xz.ev (k:Nat)(a0:GTree)(r:Bool)(h:xz k a0=some r)(σ:Store):ACalls qg 140 [.agg (cellsGTree a0)] σ (fun r' σ'=>r'=.bool r∧σ'=σ):=
 ((zJ.all k).2 a0 r h).c σ
def wn (a0:GTree):Option Bool:=
 (wT a0).bind fun r1=>(if r1≤10 then (xz xo a0).bind fun r2=>some r2 else some false).bind fun c2=>some c2
theorem wn.ok (a0:GTree)(r:Bool)(h:wn a0=some r):ACalls qg 93 [.agg (cellsGTree a0)] [] (fun r' _=>r'=.bool r):=by
 refine zf (rs:=[.tmp 2]) tok Tryz.func93 rfl Tryz.ntmps93 rfl Tryz.call93 (by simp) ?_;refine zk [(0,.agg (cellsGTree a0))] ⟨rfl,trivial⟩ ?_;unfold wn at h
 refine rg tok [1] fun K hK=>?_
 simp only[go_sem,qd,qb,qe,reduceCtorEq,cellsGTree];apply hK
 refine rc [2] fun K hK=>?_
 obtain⟨r1,hr1,h⟩:=bind_some h;refine rnN 1 ?_;refine clN rfl rfl rfl (wT.ev a0 r1 hr1 _) ?_;refine rnN 2 ?_;obtain⟨c2,hc2,h⟩:=bind_some h;refine zo 3 (fun L τ=>L=[(9,.bool c2)]∧τ=[.cells 0 (cellsGTree a0)]) ?_ ?_
 · refine xj 6 rfl (fun hg6=>?_) (fun hg6=>?_)
   · have t3:=eq_true hg6;rw[if_pos hg6] at hc2;obtain⟨r4,hr4,hc2⟩:=bind_some hc2;refine rnN 1 ?_;refine clN rfl rfl rfl (xz.ev xo a0 r4 hr4 _) ?_;refine rnN 1 ?_;cases hc2;refine zb ⟨rfl,_,_,⟨rfl,rfl⟩,.p t3⟩
   have t5:=eq_false hg6;rw[if_neg hg6] at hc2;refine rnN 3 ?_;cases hc2;refine zb ⟨rfl,_,_,⟨rfl,rfl⟩,.p t5⟩
 rintro _ _ ⟨rfl,rfl⟩;refine rnN 1 ?_;refine nkN hK ?_;cases h;exact rtA
theorem wn.ev (a0:GTree)(r:Bool)(h:wn a0=some r)(σ:Store):ACalls qg 93 [.agg (cellsGTree a0)] σ (fun r' σ'=>r'=.bool r∧σ'=σ):=
 (wn.ok a0 r h).c σ
def ZH (a0:Int):GValueValue:=
 (GValueValue.num a0)
theorem ZH.ok (a0:Int)(r:GValueValue)(h:ZH a0=r):ACalls qg 225 [.int .i64 a0] [] (fun r' _=>r'=.agg (encGValueValue r)):=by
 refine zf (rs:=[.cell 2 228]) tok Tryz.func225 rfl Tryz.ntmps225 rfl Tryz.call225 (by simp) ?_;refine zk [(0,.int .i64 a0)] ⟨rfl,trivial⟩ ?_;unfold ZH at h;refine rgN [0,2] ?_;refine rgN [2] ?_;cases h;exact rtA
theorem ZH.ev (a0:Int)(r:GValueValue)(h:ZH a0=r)(σ:Store):ACalls qg 225 [.int .i64 a0] σ (fun r' σ'=>r'=.agg (encGValueValue r)∧σ'=σ):=
 (ZH.ok a0 r h).c σ
def ZG (a0:List UInt8):GValueValue:=
 (GValueValue.str a0)
theorem ZG.ok (a0:List UInt8)(r:GValueValue)(h:ZG a0=r):ACalls qg 226 [.str a0] [] (fun r' _=>r'=.agg (encGValueValue r)):=by
 refine zf (rs:=[.cell 2 228]) tok Tryz.func226 rfl Tryz.ntmps226 rfl Tryz.call226 (by simp) ?_;refine zk [(0,.str a0)] ⟨rfl,trivial⟩ ?_;unfold ZG at h;refine rgN [0,2] ?_;refine rgN [2] ?_;cases h;exact rtA
theorem ZG.ev (a0:List UInt8)(r:GValueValue)(h:ZG a0=r)(σ:Store):ACalls qg 226 [.str a0] σ (fun r' σ'=>r'=.agg (encGValueValue r)∧σ'=σ):=
 (ZG.ok a0 r h).c σ
def y3 (a0:List GRaw):Option (List GRaw):=(Xm (qa a0) 40).bind fun _=>some a0
theorem y3.ok (a0 r:List GRaw)(h:y3 a0=some r):ACalls qg 227 [.ds true (qc encGRaw a0) (qa a0) false] [] (fun r' _=>r'=.ds true (qc encGRaw r) (qa r) false):=by
 obtain⟨_u,hu,h⟩:=bind_some h;have gu:=yy hu;cases h
 have f1:=fun nl tt σ=>ww E35.len a0 nl tt σ
 have f2:=zz E35.len a0;have f3:=Yg encGRaw a0
 have fin:∀ σ id ver tt,Store.at σ id ver=some (qc encGRaw a0)→tell σ [] true 12 (.os true 4 id ver 0 (qa a0) tt)=.ds true (qc encGRaw a0) (qa a0) false:=by
  intro σ id ver tt hs
  simp only[wf,xI,hs,qv,qk];rw[if_pos (by rw[f2]; exact qu _),← f2,qV,zg]
 refine zf (rs:=[.tmp 2]) tok Tryz.func227 rfl Tryz.ntmps227 rfl Tryz.call227 (by simp) ?_;refine zk [(0,.ds true (qc encGRaw a0) (qa a0) false)] ⟨rfl,trivial⟩ ?_;refine rgN [0] ?_
 refine za fun Z1 hZ1=>?_
 refine rc [0,4] fun K hK=>?_
 refine rnN 1 ?_
 refine ZA tok rfl rfl rfl rfl rfl rfl fun b hnil=>?_
 have hb:b=true→a0=[]:=fun hb=>by
  have:=hnil hb;simp only[yd,go_sem,reduceCtorEq] at this;exact qS this
 clear hnil
 refine nkN hK ?_;cases b
 · refine zp rfl ?_;apply zd;apply hZ1
   refine rg tok [2] fun K hK=>?_
   by_cases h0:qa a0=0
   · obtain rfl:=qS h0;simp only[go_sem,qd,qb,qe,reduceCtorEq,zv,zQ,qI,uu,ye,zO,yd,z1,uc,qt,q9,qR];apply hK
     apply zE;simp only[wg,zX,z7,yN,exists_eq_left',go_sem]
     first|rfl|(simp only[go_sem,qd,qf,qb,qe,qi,qm,reduceIte,reduceCtorEq,wf,xI,qj]<;>rfl)
   have h1:=eq_false h0;simp only[go_sem,qd,qb,qe,reduceCtorEq,zv,zQ,qI,uu,ye,zO,yd,f1,f3,h1,gu,yv,qj,qL,q9];apply hK
   apply zE;simp only[wg,zX,z7,yN,exists_eq_left',go_sem];exact fin _ _ _ _ (by simp only[Store.at_hd,Store.at_tl,if_true])
 obtain rfl:=hb rfl;refine zq rfl ?_;refine rgN [2] ?_;apply zE;simp only[wg,zX,z7,yN,exists_eq_left',go_sem]
 first|rfl|(simp only[go_sem,qd,qf,qb,qe,qi,qm,reduceIte,reduceCtorEq,Zw,qj,qo,qq,qr]<;>rfl)
theorem y3.own (a0 r:List GRaw)(h:y3 a0=some r):ACalls qg 227 [.ds true (qc encGRaw a0) (qa a0) false] [] (fun r' σ'=>r'=.os true 4 0 0 0 (qa r) false∧σ'=[.cells 0 (qc encGRaw r)]):=by
 obtain⟨_u,hu,h⟩:=bind_some h;have gu:=yy hu;cases h
 have f1:=fun nl tt σ=>ww E35.len a0 nl tt σ
 have f2:=zz E35.len a0;have f3:=Yg encGRaw a0;refine vaY (rs:=[.tmp 2]) tok Tryz.func227 rfl Tryz.ntmps227 rfl Tryz.call227 (by simp) ?_;refine zk [(0,.ds true (qc encGRaw a0) (qa a0) false)] ⟨rfl,trivial⟩ ?_;refine rgN [0] ?_
 refine za fun Z1 hZ1=>?_
 refine rc [0,4] fun K hK=>?_
 refine rnN 1 ?_
 refine ZA tok rfl rfl rfl rfl rfl rfl fun b hnil=>?_
 have hb:b=true→a0=[]:=fun hb=>by
  have:=hnil hb;simp only[yd,go_sem,reduceCtorEq] at this;exact qS this
 clear hnil
 refine nkN hK ?_;cases b
 · refine zp rfl ?_;apply zd;apply hZ1
   refine rg tok [2] fun K hK=>?_
   by_cases h0:qa a0=0
   · obtain rfl:=qS h0;simp only[go_sem,qd,qb,qe,reduceCtorEq,zv,zQ,qI,uu,ye,zO,yd,z1,uc,qt,q9,qR];apply hK
     apply zE;simp only[wg,zX,z7,yN,exists_eq_left',go_sem];refine .inl ⟨0,true,by simp,?_,?_⟩
     · first|rfl|(simp only[go_sem,qd,qf,qb,qe,qi,qm,reduceIte,reduceCtorEq,wf,wO,if_true]<;>rfl)
     first|rfl|(simp only[go_sem,qd,qf,qb,qe,qi,qm,reduceIte,reduceCtorEq,Zk,Y2,wU,Zl,Zx,qj]<;>rfl)
   have h1:=eq_false h0;simp only[go_sem,qd,qb,qe,reduceCtorEq,zv,zQ,qI,uu,ye,zO,yd,f1,f3,h1,gu,yv,qj,qL,q9];apply hK
   apply zE;simp only[wg,zX,z7,yN,exists_eq_left',go_sem,qe];refine .inl ⟨1,false,by simp,?_,?_⟩
   · first|rfl|(simp only[go_sem,qd,qf,qb,qe,qi,qm,reduceIte,reduceCtorEq,wf,wO,if_true]<;>rfl)
   first|rfl|(simp only[go_sem,Zk,wU,Zl,Zx,zg]<;>rfl)
 obtain rfl:=hb rfl;refine zq rfl ?_;refine rgN [2] ?_;apply zE;simp only[wg,zX,z7,yN,exists_eq_left',go_sem];refine .inr ?_
 first|rfl|(simp only[go_sem,qd,qf,qb,qe,qi,qm,reduceIte,reduceCtorEq,Zw,qj,qo,qE,qp,qz]<;>rfl)
theorem y3.ev (a0 r:List GRaw)(h:y3 a0=some r)(σ:Store):ACalls qg 227 [.ds true (qc encGRaw a0) (qa a0) false] σ (fun r' σ'=>r'=.ds true (qc encGRaw r) (qa r) false∧σ'=σ):=
 (y3.ok a0 r h).pureAt (by simp only[AV.canon,canonL,canon_all,qB,qp,uC]) (by simp only[AV.canon,canon_all,qB,qp,uC]) σ
def yg.l35 (yj:GTree→Option GValueValue)(l14:List GValueEntry)(x16:Int)(rec20:List GValueEntry→Int→Option GValueValue)(y25:GEntry):List GTree→Int→List GValueValue→Option GValueValue
 |[],x31,l29=>(Xm (qa l14+1) 32).bind fun _u37=>(rec20 (l14++[(⟨y25.fTag,l29⟩:GValueEntry)]) (IntKind.i64.wrap (x16+1)))
 |y35::q35,x31,l29=>(yj y35).bind fun r43=>(Xm (qa l29+1) 16).bind fun _u45=>((yg.l35 yj l14 x16 rec20 y25 q35) (x31+1) (l29++[r43]))
def yg.l20 (yj:GTree→Option GValueValue)(a0:GTree)(r12:List GRaw):Nat→List GValueEntry→Int→Option GValueValue
 |0,_,_=>none
 |k20+1,l14,x16=>(if x16<(qa a0.fEntries:Int) then (YS a0.fEntries x16).bind fun y25=>(yg.l35 yj l14 x16 (yg.l20 yj a0 r12 k20) y25 y25.fTrees 0 ([]:List GValueValue)) else some (GValueValue.node l14 r12))
def yg.l62 (yj:GTree→Option GValueValue)(a0:GTree)(r12:List GRaw)(y52:GEntry):List GTree→Int→List GValueValue→Option GValueValue
 |[],x58,l56=>(yg.l20 yj a0 r12 xo [(⟨y52.fTag,l56⟩:GValueEntry)] (IntKind.i64.wrap (0+1)))
 |y62::q62,x58,l56=>(yj y62).bind fun r68=>(Xm (qa l56+1) 16).bind fun _u70=>((yg.l62 yj a0 r12 y52 q62) (x58+1) (l56++[r68]))
def yg.body (yj:GTree→Option GValueValue)(a0:GTree):Option GValueValue:=
 (if a0.fKind=1 then bnd (ZH a0.fN) fun r4=>some r4 else (if a0.fKind=2 then bnd (ZG a0.fS) fun r9=>some r9 else (y3 a0.fRest).bind fun r12=>(if 0<(qa a0.fEntries:Int) then (YS a0.fEntries 0).bind fun y52=>(yg.l62 yj a0 r12 y52 y52.fTrees 0 ([]:List GValueValue)) else some (GValueValue.node ([]:List GValueEntry) r12))))
theorem yg.step (yj:GTree→Option GValueValue)(ih_value_made:∀ (a0:GTree) (r:GValueValue),yj a0=some r→ACalls qg 185 [.agg (cellsGTree a0)] [] (fun r' _=>r'=.agg (encGValueValue r)))(a0:GTree)(r:GValueValue)(h:yg.body yj a0=some r):ACalls qg 185 [.agg (cellsGTree a0)] [] (fun r' _=>r'=.agg (encGValueValue r)):=by
 have ev_value_made:=fun a0 r h σ=>(ih_value_made a0 r h).c σ
 refine zf (rs:=[.cell 2 228]) tok Tryz.func185 rfl Tryz.ntmps185 rfl Tryz.call185 (by simp) ?_;refine zk [(0,.agg (cellsGTree a0))] ⟨rfl,trivial⟩ ?_;unfold yg.body at h
 refine rg tok [1,2] fun K hK=>?_
 simp only[go_sem,qd,qb,qe,reduceCtorEq,cellsGTree];apply hK
 refine za fun Z1 hZ1=>?_
 refine rgN [1,2,10] ?_;apply ze;refine rgN [1,2,10,11] ?_;refine zF rfl (fun hc2=>?_) (fun hc2=>?_)
 · rw[if_pos hc2] at h;have t3:=eq_true hc2
   refine rc [2] fun K hK=>?_
   obtain⟨r4,hr4,h⟩:=zH h;refine zj tok 2 ?_;simp only[go_sem,qd,qb,qe,t3];refine clN rfl rfl rfl (ZH.ev a0.fN r4 hr4 _) ?_;have f5:=wD r4;unfold AV.one at f5;refine zj tok 1 ?_;simp only[go_sem,qf,qb,encGValueValue,f5];refine nkN hK ?_;cases h;exact rtA
 rw[if_neg hc2] at h;have t6:=eq_false hc2
 refine rg tok [1,2,16] fun K hK=>?_
 simp only[go_sem,qd,qb,t6];apply hK
 refine zF rfl (fun hc7=>?_) (fun hc7=>?_)
 · rw[if_pos hc7] at h;have t8:=eq_true hc7
   refine rc [2] fun K hK=>?_
   obtain⟨r9,hr9,h⟩:=zH h;refine zj tok 2 ?_;simp only[go_sem,qd,qb,qe,t8];refine clN rfl rfl rfl (ZG.ev a0.fS r9 hr9 _) ?_;have f10:=wD r9;unfold AV.one at f10;refine zj tok 1 ?_;simp only[go_sem,qf,qb,encGValueValue,f10];refine nkN hK ?_;cases h;exact rtA
 rw[if_neg hc7] at h;have t11:=eq_false hc7;apply zd;apply hZ1
 refine rc [1,2,3] fun K hK=>?_
 obtain⟨r12,hr12,h⟩:=bind_some h;refine zj tok 2 ?_;simp only[go_sem,qd,qb,qe,t11];refine clN rfl rfl rfl (y3.ev a0.fRest r12 hr12 _) ?_;refine rnN 3 ?_;refine nkN hK ?_
 refine za fun Z13 hZ13=>?_
 refine rgN [2,3,27,28,29] ?_;apply ze;refine awp_loopS1 (fun m L τ=>∃ (k20:Nat) (l14:List GValueEntry) (x16:Int) (v15:Nat),m=0+k20∧L=[(2,.op 0 0 0),(3,.op 1 0 0),(27,.ds true (qc encGEntry a0.fEntries) (qa a0.fEntries) false),(28,.int .i64 (qa a0.fEntries:Int)),(29,.int .i64 x16)]∧τ=[.cells 0 [.nilI],.cells 0 [.os true 2 2 v15 0 (qa l14) false,.ds true (qc encGRaw r12) (qa r12) false],.cells v15 (qc encGValueEntry l14)]∧yg.l20 yj a0 r12 k20 l14 x16=some r) (xo+1) ?_ ?_
 · refine rgN [2,3,27,28,29,30] ?_
   refine za fun Z48 hZ48=>?_
   refine zF rfl (fun hc49=>?_) (fun hc49=>?_)
   · rw[if_pos hc49] at h;have t50:=eq_true hc49;apply zd;apply hZ48
     refine za fun Z51 hZ51=>?_
     apply ze;obtain⟨y52,hy52,h⟩:=bind_some h;have f53:=E34.idxS hy52;have f54:=E34.loadS rfl rfl hy52
     refine rg tok [2,3,5,27,28,29] fun K hK=>?_
     simp only[go_sem,qd,qf,qb,qe,cellsGEntry,yq,t50,f53,f54];apply hK
     refine rgN [2,3,5,6,27,28,29] ?_;refine wd 4 1 1 rfl (by simp) rfl (L:=[(2,.op 1 0 0),(3,.op 2 0 0),(5,.op 3 0 0),(6,.op 4 0 0),(27,.ds true (qc encGEntry a0.fEntries) (qa a0.fEntries) false),(28,.int .i64 (qa a0.fEntries:Int)),(29,.int .i64 0)]) (τ:=[.cells 0 (cellsGTree a0),.cells 0 [.nilI],.cells 0 [.ds true [] 0 true,.ds true (qc encGRaw r12) (qa r12) false],.cells 0 (cellsGEntry y52),.cells 0 [.int .i64 y52.fTag,.os true 1 5 0 0 (qa ([]:List GValueValue)) false],.cells 0 (qc encGValueValue ([]:List GValueValue))]) .s ?_
     refine za fun Z55 hZ55=>?_
     refine rgN [2,3,6,27,28,29,37,38,39] ?_;apply ze
     refine yl 37 fun hb62=>?_
     replace hb62:qa y52.fTrees≤9223372036854775807:=hb62.1;refine zN (fun m L τ=>∃ (p62 q62:List GTree) (x58:Int) (l56:List GValueValue) (v57:Nat),m=qa q62∧L=[(2,.op 0 0 0),(3,.op 1 0 0),(6,.op 2 0 0),(27,.ds true (qc encGEntry a0.fEntries) (qa a0.fEntries) false),(28,.int .i64 (qa a0.fEntries:Int)),(29,.int .i64 0),(37,.ds true (qc encGTree y52.fTrees) (qa y52.fTrees) false),(38,.int .i64 (qa y52.fTrees:Int)),(39,.int .i64 x58)]∧τ=[.cells 0 [.nilI],.cells 0 [.ds true [] 0 true,.ds true (qc encGRaw r12) (qa r12) false],.cells 0 [.int .i64 y52.fTag,.os true 1 3 v57 0 (qa l56) false],.cells v57 (qc encGValueValue l56)]∧y52.fTrees=p62++q62∧x58=(qa p62:Int)∧yg.l62 yj a0 r12 y52 q62 x58 l56=some r) _ ⟨[],y52.fTrees,0,([]:List GValueValue),0,rfl,rfl,rfl,rfl,rfl,h⟩ (.t [1,2,4,5] false) ?_;rintro m L τ ⟨p62,q62,x58,l56,v57,rfl,rfl,rfl,hE62,hi62,h⟩
     rcases q62 with _|⟨y62,q62⟩
     · have hz62:=yJ hE62 hi62;simp only[yg.l62] at h
       refine rg tok [2,3,6,27,28,29,37,38,39,40] fun K hK=>?_
       simp only[go_sem,qd,qb,hz62];apply hK
       refine za fun Z63 hZ63=>?_
       refine zp rfl ?_;apply zI;apply hZ55
       refine rdE [2,3,27,28,29] fun K hK=>?_
       refine DW.start (T:=tab) [.any,.any,.any,.any,.own 1 [],.at [],.eff,.eff,.any,.any,.eff] [(1,[])] ?_;refine DW.runN tok 8 ?_;simp only[go_sem,qd,qf,qb,qe,qi,reduceCtorEq,zv,zQ,qO,qI,true_and,qT,ye,zO,yd,yv,qR,qX,AV.one,qB,qL,qs,qt,qk,qN];refine DW.runN tok 3 ?_;simp only[go_sem,qd,qf,qb,qe,qs,qt,qk];refine DW.fin tok (by decide +kernel) rfl ?_;simp only[zn,upd,qb,reduceIte,ym,y1];apply hK
       apply hZ51
       refine rgE tok [2,3,27,28,29] fun K hK=>?_
       simp only[go_sem,qd,qb];apply hK
       exact⟨_,_,_,(Nat.lt_succ_of_le (Nat.le_of_eq (qk xo))),⟨xo,[(⟨y52.fTag,l56⟩:GValueEntry)],IntKind.i64.wrap (0+1),0,rfl,rfl,rfl,h⟩,(.t [0,1,5] false)⟩
     obtain⟨hz62,hw62,hx62,hE'62,hi'62⟩:=yk hE62 hi62 hb62;simp only[yg.l62] at h
     refine rg tok [2,3,6,27,28,29,37,38,39,40] fun K hK=>?_
     simp only[go_sem,qd,qb,hz62];apply hK
     refine za fun Z64 hZ64=>?_
     refine zq rfl ?_;apply zd;apply hZ64
     refine za fun Z65 hZ65=>?_
     apply ze;have f66:=E38.idxS hx62;have f67:=E38.loadS rfl rfl hx62
     refine rg tok [2,3,6,8,27,28,29,37,38,39] fun K hK=>?_
     simp only[go_sem,qd,qf,qb,qe,cellsGTree,zM,f66,f67];apply hK
     obtain⟨r68,hr68,h⟩:=bind_some h;have f69:=wD r68;unfold AV.one at f69;obtain⟨_u70,hu70,h⟩:=bind_some h;have gu70:=yy hu70;have f71:=(zz E282.len l56)
     refine rdE [2,3,6,27,28,29,37,38,39] fun K hK=>?_
     refine DW.start (T:=tab) [.any,.own 2 [],.at [],.eff,.eff,.eff,.any,.eff] [(2,[])] ?_;refine DW.runN tok 3 ?_;simp only[go_sem,qd,qf,qb,qe,encGValueValue,qs,qt,qk];refine DW.call rfl rfl rfl (ev_value_made y62 r68 hr68 _) ?_;refine DW.runN tok 4 ?_;simp only[go_sem,qd,qf,qb,qe,qi,zv,zQ,qO,qI,true_and,qT,ye,zO,yd,encGValueValue,f69,gu70,f71,yv,qR,qX,AV.one,qB,qL,qs,qt,qk,qN];refine DW.fin tok (by decide +kernel) rfl ?_;simp only[zn,upd,qb,reduceIte,ym,y1];apply hK
     apply hZ65
     refine rgE tok [2,3,6,27,28,29,37,38,39] fun K hK=>?_
     simp only[go_sem,qd,qb,hw62];apply hK
     exact⟨_,_,_,qw q62.length,⟨p62++[y62],q62,x58+1,l56++[r68],v57+1,rfl,rfl,rfl,hE'62,hi'62,h⟩,(.t [0,1,2,3] false)⟩
   rw[if_neg hc49] at h;have t72:=eq_false hc49;apply zI;apply hZ13
   refine rg tok [2] fun K hK=>?_
   simp only[go_sem,qd,qf,qb,t72];apply hK
   cases h;exact rtA
 clear h
 rintro m L τ ⟨k20,l14,x16,v15,rfl,rfl,rfl,h⟩
 rcases k20 with _|k20
 · cases h
 simp only[yg.l20] at h;refine rgN [2,3,27,28,29,30] ?_
 refine za fun Z21 hZ21=>?_
 refine zF rfl (fun hc22=>?_) (fun hc22=>?_)
 · rw[if_pos hc22] at h;have t23:=eq_true hc22;apply zd;apply hZ21
   refine za fun Z24 hZ24=>?_
   apply ze;obtain⟨y25,hy25,h⟩:=bind_some h;have f26:=E34.idxS hy25;have f27:=E34.loadS rfl rfl hy25
   refine rg tok [2,3,5,27,28,29] fun K hK=>?_
   simp only[go_sem,qd,qf,qb,qe,cellsGEntry,yq,t23,f26,f27];apply hK
   refine rgN [2,3,5,6,27,28,29] ?_;refine wd 4 1 1 rfl (by simp) rfl (L:=[(2,.op 0 0 0),(3,.op 1 0 0),(5,.op 3 0 0),(6,.op 4 0 0),(27,.ds true (qc encGEntry a0.fEntries) (qa a0.fEntries) false),(28,.int .i64 (qa a0.fEntries:Int)),(29,.int .i64 x16)]) (τ:=[.cells 0 [.nilI],.cells 0 [.os true 2 2 v15 0 (qa l14) false,.ds true (qc encGRaw r12) (qa r12) false],.cells v15 (qc encGValueEntry l14),.cells 0 (cellsGEntry y25),.cells 0 [.int .i64 y25.fTag,.os true 1 5 0 0 (qa ([]:List GValueValue)) false],.cells 0 (qc encGValueValue ([]:List GValueValue))]) .s ?_
   refine za fun Z28 hZ28=>?_
   refine rgN [2,3,6,27,28,29,37,38,39] ?_;apply ze
   refine yl 37 fun hb35=>?_
   replace hb35:qa y25.fTrees≤9223372036854775807:=hb35.1;refine zN (fun m L τ=>∃ (p35 q35:List GTree) (x31:Int) (l29:List GValueValue) (v30:Nat),m=qa q35∧L=[(2,.op 0 0 0),(3,.op 1 0 0),(6,.op 3 0 0),(27,.ds true (qc encGEntry a0.fEntries) (qa a0.fEntries) false),(28,.int .i64 (qa a0.fEntries:Int)),(29,.int .i64 x16),(37,.ds true (qc encGTree y25.fTrees) (qa y25.fTrees) false),(38,.int .i64 (qa y25.fTrees:Int)),(39,.int .i64 x31)]∧τ=[.cells 0 [.nilI],.cells 0 [.os true 2 2 v15 0 (qa l14) false,.ds true (qc encGRaw r12) (qa r12) false],.cells v15 (qc encGValueEntry l14),.cells 0 [.int .i64 y25.fTag,.os true 1 4 v30 0 (qa l29) false],.cells v30 (qc encGValueValue l29)]∧y25.fTrees=p35++q35∧x31=(qa p35:Int)∧yg.l35 yj l14 x16 (yg.l20 yj a0 r12 k20) y25 q35 x31 l29=some r) _ ⟨[],y25.fTrees,0,([]:List GValueValue),0,rfl,rfl,rfl,rfl,rfl,h⟩ (.t [0,1,2,4,5] false) ?_;rintro m L τ ⟨p35,q35,x31,l29,v30,rfl,rfl,rfl,hE35,hi35,h⟩
   rcases q35 with _|⟨y35,q35⟩
   · have hz35:=yJ hE35 hi35;simp only[yg.l35] at h
     refine rg tok [2,3,6,27,28,29,37,38,39,40] fun K hK=>?_
     simp only[go_sem,qd,qb,hz35];apply hK
     refine za fun Z36 hZ36=>?_
     refine zp rfl ?_;apply zI;apply hZ28;obtain⟨_u37,hu37,h⟩:=bind_some h;have gu37:=yy hu37;have f38:=(zz E324.len l14)
     refine rdE [2,3,27,28,29] fun K hK=>?_
     refine DW.start (T:=tab) [.any,.any,.any,.any,.own 1 [],.at [],.eff,.eff,.any,.any,.eff] [(1,[])] ?_;refine DW.runN tok 8 ?_;simp only[go_sem,qd,qf,qb,qe,qi,zv,zQ,qO,qI,true_and,qT,ye,zO,yd,gu37,f38,yv,qR,qX,AV.one,qB,qL,qs,qt,qk,qN];refine DW.runN tok 3 ?_;simp only[go_sem,qd,qf,qb,qe,qs,qt,qk];refine DW.fin tok (by decide +kernel) rfl ?_;simp only[zn,upd,qb,reduceIte,ym,y1];apply hK
     apply hZ24
     refine rgE tok [2,3,27,28,29] fun K hK=>?_
     simp only[go_sem,qd,qb];apply hK
     exact⟨_,_,_,qw (0+k20),⟨k20,l14++[(⟨y25.fTag,l29⟩:GValueEntry)],IntKind.i64.wrap (x16+1),v15+1,rfl,rfl,rfl,h⟩,(.t [0,1,2] false)⟩
   obtain⟨hz35,hw35,hx35,hE'35,hi'35⟩:=yk hE35 hi35 hb35;simp only[yg.l35] at h
   refine rg tok [2,3,6,27,28,29,37,38,39,40] fun K hK=>?_
   simp only[go_sem,qd,qb,hz35];apply hK
   refine za fun Z39 hZ39=>?_
   refine zq rfl ?_;apply zd;apply hZ39
   refine za fun Z40 hZ40=>?_
   apply ze;have f41:=E38.idxS hx35;have f42:=E38.loadS rfl rfl hx35
   refine rg tok [2,3,6,8,27,28,29,37,38,39] fun K hK=>?_
   simp only[go_sem,qd,qf,qb,qe,cellsGTree,zM,f41,f42];apply hK
   obtain⟨r43,hr43,h⟩:=bind_some h;have f44:=wD r43;unfold AV.one at f44;obtain⟨_u45,hu45,h⟩:=bind_some h;have gu45:=yy hu45;have f46:=(zz E282.len l29)
   refine rdE [2,3,6,27,28,29,37,38,39] fun K hK=>?_
   refine DW.start (T:=tab) [.any,.own 2 [],.at [],.eff,.eff,.eff,.any,.eff] [(2,[])] ?_;refine DW.runN tok 3 ?_;simp only[go_sem,qd,qf,qb,qe,encGValueValue,qs,qt,qk];refine DW.call rfl rfl rfl (ev_value_made y35 r43 hr43 _) ?_;refine DW.runN tok 4 ?_;simp only[go_sem,qd,qf,qb,qe,qi,zv,zQ,qO,qI,true_and,qT,ye,zO,yd,encGValueValue,f44,gu45,f46,yv,qR,qX,AV.one,qB,qL,qs,qt,qk,qN];refine DW.fin tok (by decide +kernel) rfl ?_;simp only[zn,upd,qb,reduceIte,ym,y1];apply hK
   apply hZ40
   refine rgE tok [2,3,6,27,28,29,37,38,39] fun K hK=>?_
   simp only[go_sem,qd,qb,hw35];apply hK
   exact⟨_,_,_,qw q35.length,⟨p35++[y35],q35,x31+1,l29++[r43],v30+1,rfl,rfl,rfl,hE'35,hi'35,h⟩,(.t [0,1,2,3,4] false)⟩
 rw[if_neg hc22] at h;have t47:=eq_false hc22;apply zI;apply hZ13
 refine rg tok [2] fun K hK=>?_
 simp only[go_sem,qd,qf,qb,t47];apply hK
 cases h;exact rtA
def yg : Nat→GTree→Option GValueValue
 |0,_=>none
 |k+1,a0=>yg.body (yg k) a0
theorem yg.all (k:Nat):(∀ (a0:GTree) (r:GValueValue),yg k a0=some r→ACalls qg 185 [.agg (cellsGTree a0)] [] (fun r' _=>r'=.agg (encGValueValue r))):=by
 induction k with
 |zero=>exact (fun a0 r h=>by simp only[yg] at h; cases h)
 |succ k ih=>exact (fun a0 r h=>yg.step _ ih a0 r (by simpa only [yg] using h))
theorem yg.ev (k:Nat)(a0:GTree)(r:GValueValue)(h:yg k a0=some r)(σ:Store):ACalls qg 185 [.agg (cellsGTree a0)] σ (fun r' σ'=>r'=.agg (encGValueValue r)∧σ'=σ):=
 ((yg.all k) a0 r h).c σ
def ZE (a0:GTree):Option (GValueValue×Bool):=
 (wn a0).bind fun r2=>(if (!r2)=true then some (GValueValue.nil,false) else (yg xo a0).bind fun r4=>some (r4,true))
theorem ZE.ok (a0:GTree)(r:GValueValue×Bool)(h:ZE a0=some r):ACalls qg 144 [.agg (cellsGTree a0)] [] (fun r' _=>r'=.tup [.agg (encGValueValue r.1),.bool r.2]):=by
 refine zf (rs:=[.cell 2 228,.tmp 3]) tok Tryz.func144 rfl Tryz.ntmps144 rfl Tryz.call144 (by simp) ?_;refine zk [(0,.agg (cellsGTree a0))] ⟨rfl,trivial⟩ ?_;unfold ZE at h
 refine rg tok [1,2] fun K hK=>?_
 simp only[go_sem,qd,qb,qe,reduceCtorEq,cellsGTree];apply hK
 refine za fun Z1 hZ1=>?_
 refine rc [1,2,6] fun K hK=>?_
 obtain⟨r2,hr2,h⟩:=bind_some h;refine rnN 1 ?_;refine clN rfl rfl rfl (wn.ev a0 r2 hr2 _) ?_;refine rnN 1 ?_;refine nkN hK ?_;refine zw (b:=(!r2)) rfl (fun hc3=>?_) (fun hc3=>?_)
 · rw[if_pos hc3] at h;refine rgN [2,3] ?_;cases h;exact rtA
 rw[xU hc3] at h;apply zd;apply hZ1
 refine rc [2,3] fun K hK=>?_
 obtain⟨r4,hr4,h⟩:=bind_some h;refine rnN 1 ?_;refine clN rfl rfl rfl (yg.ev xo a0 r4 hr4 _) ?_;have f5:=wD r4;unfold AV.one at f5;refine zj tok 2 ?_;simp only[go_sem,qd,qf,qb,encGValueValue,f5];refine nkN hK ?_;cases h;exact rtA
theorem ZE.ev (a0:GTree)(r:GValueValue×Bool)(h:ZE a0=some r)(σ:Store):ACalls qg 144 [.agg (cellsGTree a0)] σ (fun r' σ'=>r'=.tup [.agg (encGValueValue r.1),.bool r.2]∧σ'=σ):=
 (ZE.ok a0 r h).c σ
def yn (a0:GValueValue):Option GValueNode:=
 (match a0 with|.nil=>none|.num n2=>none|.str s2=>none|.node e2 r2=>some (⟨e2,r2⟩:GValueNode))
theorem yn.ok (a0:GValueValue)(r:GValueNode)(h:yn a0=some r):ACalls qg 146 [.agg (encGValueValue a0)] [] (fun r' _=>r'=.dp (encGValueNode r) 0):=by
 refine zf (rs:=[.tmp 2]) tok Tryz.func146 rfl Tryz.ntmps146 rfl Tryz.call146 (by simp) ?_;refine zk [(0,.agg (encGValueValue a0))] ⟨rfl,trivial⟩ ?_;unfold yn at h;have f1:=wD a0;unfold AV.one at f1
 refine rg tok [1] fun K hK=>?_
 simp only[go_sem,qd,qb,reduceCtorEq,encGValueValue,f1];apply hK
 rcases a0 with _|n2|s2|⟨e2,r2⟩
 · dsimp only at h
   try simp only[YR]
   cases h
 · dsimp only at h
   try simp only[YQ]
   cases h
 · dsimp only at h
   try simp only[YP]
   cases h
 dsimp only at h
 try simp only[ZI]
 refine rg tok [2] fun K hK=>?_
 simp only[go_sem,qd,qb,yr,yw,TypeDesc.isIface];apply hK
 cases h;exact rtA
theorem yn.ev (a0:GValueValue)(r:GValueNode)(h:yn a0=some r)(σ:Store):ACalls qg 146 [.agg (encGValueValue a0)] σ (fun r' σ'=>r'=.dp (encGValueNode r) 0∧σ'=σ):=
 (yn.ok a0 r h).c σ
def yX (a0:GValueNode):Option (List GRaw):=
 (y3 a0.frest).bind fun r1=>some r1
theorem yX.own (a0:GValueNode)(r:List GRaw)(h:yX a0=some r):ACalls qg 186 [.dp (encGValueNode a0) 0] [] (fun r' σ'=>r'=.os true 4 0 0 0 (qa r) false∧σ'=[.cells 0 (qc encGRaw r)]):=by
 refine ACalls.own0 (by simp only[push_cast]) ?_;refine vaf (rs:=[.tmp 2]) tok Tryz.func186 rfl Tryz.ntmps186 rfl Tryz.call186 (by simp) ?_;refine zk [(0,.dp (encGValueNode a0) 0)] ⟨rfl,trivial⟩ ?_;unfold yX at h;refine rgN [0] ?_
 refine rc [2] fun K hK=>?_
 obtain⟨r1,hr1,h⟩:=bind_some h;refine zj tok 4 ?_;simp only[go_sem,qd,qb,qe,reduceCtorEq,encGValueNode,Xe];refine clN rfl rfl rfl (@id (ACalls qg 227 [.ds true (qc encGRaw a0.frest) (qa a0.frest) false] [] (fun r' σ'=>r'=.os true 4 0 0 0 (qa r1) false∧σ'=[.cells 0 (qc encGRaw r1)])) ((y3.own a0.frest r1 hr1).ownAt0 (by simp only[push_cast]) (by simp only[push_cast]) _)) ?_;refine rnN 1 ?_;refine nkN hK ?_;apply zE;cases h;simp only[wg,zX,z7,yN,exists_eq_left',go_sem];refine⟨0,0,by simp,?_,?_⟩
 · first|rfl|(simp only[go_sem,qd,qf,qb,qe,qi,qm,reduceIte,reduceCtorEq,push_cast,if_true,qv,qk,qn,qj,qx,qo,qE,qz,qr,qq,qp,zg,encGRaw]<;>rfl)
 first|rfl|(simp only[go_sem,push_cast,qj,zg]<;>rfl)
theorem yX.ok (a0:GValueNode)(r:List GRaw)(h:yX a0=some r):ACalls qg 186 [.dp (encGValueNode a0) 0] [] (fun r' _=>r'=.ds true (qc encGRaw r) (qa r) false):=
 (yX.own a0 r h).ownData (zz E35.len r) (by simp only[push_cast])
theorem yX.ev (a0:GValueNode)(r:List GRaw)(h:yX a0=some r)(σ:Store):ACalls qg 186 [.dp (encGValueNode a0) 0] σ (fun r' σ'=>r'=.ds true (qc encGRaw r) (qa r) false∧σ'=σ):=
 (yX.ok a0 r h).c σ
def yp.l8 : List GValueEntry→Int→List Int→Option (List Int)
 |[],x4,l2=>some l2
 |y8::q8,x4,l2=>(Xm (qa l2+1) 8).bind fun _u14=>((yp.l8 q8) (x4+1) (l2++[y8.ftag]))
def yp (a0:GValueNode):Option (List Int):=
 (yp.l8 a0.fentries 0 ([]:List Int))
theorem yp.own (a0:GValueNode)(r:List Int)(h:yp a0=some r):ACalls qg 187 [.dp (encGValueNode a0) 0] [] (fun r' σ'=>r'=.os true 1 0 0 0 (qa r) false∧σ'=[.cells 0 (qc encI r)]):=by
 refine ACalls.own0 (by simp only[push_cast]) ?_;refine vaf (rs:=[.tmp 2]) tok Tryz.func187 rfl Tryz.ntmps187 rfl Tryz.call187 (by simp) ?_;refine zk [(0,.dp (encGValueNode a0) 0)] ⟨rfl,trivial⟩ ?_;unfold yp at h;refine rgN [0] ?_;refine rgN [0,3] ?_;refine YG 3 1 rfl ?_;refine yz (L:=[(0,.dp (encGValueNode a0) 0),(3,.os true 1 0 0 0 (qa ([]:List Int)) false)]) (τ:=[.cells 0 (qc encI ([]:List Int))]) .s ?_
 refine za fun Z1 hZ1=>?_
 refine rg tok [3,9,10,11] fun K hK=>?_
 simp only[go_sem,qd,qb,qe,reduceCtorEq,encGValueNode,Xe];apply hK
 apply ze
 refine yl 9 fun hb8=>?_
 replace hb8:qa a0.fentries≤9223372036854775807:=hb8.1;refine zN (fun m L τ=>∃ (p8 q8:List GValueEntry) (x4:Int) (l2:List Int) (v3:Nat),m=qa q8∧L=[(3,.os true 1 0 v3 0 (qa l2) false),(9,.ds true (qc encGValueEntry a0.fentries) (qa a0.fentries) false),(10,.int .i64 (qa a0.fentries:Int)),(11,.int .i64 x4)]∧τ=[.cells v3 (qc encI l2)]∧a0.fentries=p8++q8∧x4=(qa p8:Int)∧yp.l8 q8 x4 l2=some r) _ ⟨[],a0.fentries,0,([]:List Int),0,rfl,rfl,rfl,rfl,rfl,h⟩ .s ?_;rintro m L τ ⟨p8,q8,x4,l2,v3,rfl,rfl,rfl,hE8,hi8,h⟩
 rcases q8 with _|⟨y8,q8⟩
 · have hz8:=yJ hE8 hi8;simp only[yp.l8] at h
   refine rg tok [3,9,10,11,12] fun K hK=>?_
   simp only[go_sem,qd,qb,hz8];apply hK
   refine za fun Z9 hZ9=>?_
   refine zp rfl ?_;apply zI;apply hZ1;refine rgN [2] ?_;apply zE;cases h;simp only[wg,zX,z7,yN,exists_eq_left',go_sem];refine⟨0,v3,by simp,?_,?_⟩
   · first|rfl|(simp only[go_sem,qd,qf,qb,qe,qi,qm,reduceIte,reduceCtorEq,push_cast,if_true,qv,qk,qn,qj,qx,qo,qE,qz,qr,qq,qp,zg]<;>rfl)
   first|rfl|(simp only[go_sem,push_cast,qj,zg]<;>rfl)
 obtain⟨hz8,hw8,hx8,hE'8,hi'8⟩:=yk hE8 hi8 hb8;simp only[yp.l8] at h
 refine rg tok [3,9,10,11,12] fun K hK=>?_
 simp only[go_sem,qd,qb,hz8];apply hK
 refine za fun Z10 hZ10=>?_
 refine zq rfl ?_;apply zd;apply hZ10
 refine za fun Z11 hZ11=>?_
 apply ze;have f12:=E324.idxS hx8;have f13:=E324.loadS rfl rfl hx8
 refine rg tok [3,5,9,10,11] fun K hK=>?_
 simp only[go_sem,qd,qf,qb,qe,cellsGValueEntry,yI,f12,f13];apply hK
 obtain⟨_u14,hu14,h⟩:=bind_some h;have gu14:=yy hu14;have f15:=(zz E26.len l2)
 refine rgE tok [3,9,10,11] fun K hK=>?_
 simp only[go_sem,qd,qf,qb,qe,qi,zv,zQ,qO,qI,true_and,qT,ye,zO,yd,gu14,f15,yv,qR,qX,AV.one,qB,qL,qs,qt,qk,qN];apply hK
 apply hZ11
 refine rgE tok [3,9,10,11] fun K hK=>?_
 simp only[go_sem,qd,qb,hw8];apply hK
 exact⟨_,_,_,qw q8.length,⟨p8++[y8],q8,x4+1,l2++[y8.ftag],v3+1,rfl,rfl,rfl,hE'8,hi'8,h⟩,(.t [0] false)⟩
theorem yp.ok (a0:GValueNode)(r:List Int)(h:yp a0=some r):ACalls qg 187 [.dp (encGValueNode a0) 0] [] (fun r' _=>r'=.ds true (qc encI r) (qa r) false):=
 (yp.own a0 r h).ownData (zz E26.len r) (by simp only[push_cast])
theorem yp.ev (a0:GValueNode)(r:List Int)(h:yp a0=some r)(σ:Store):ACalls qg 187 [.dp (encGValueNode a0) 0] σ (fun r' σ'=>r'=.ds true (qc encI r) (qa r) false∧σ'=σ):=
 (yp.ok a0 r h).c σ
def wP (a0:List GValueValue):Option (List GValueValue):=(Xm (qa a0) 16).bind fun _=>some a0
theorem wP.own (a0 r:List GValueValue)(h:wP a0=some r):ACalls qg 228 [.ds true (qc encGValueValue a0) (qa a0) false] [] (fun r' σ'=>r'=.os true 1 0 0 0 (qa r) false∧σ'=[.cells 0 (qc encGValueValue r)]):=by
 obtain⟨_u,hu,h⟩:=bind_some h;have gu:=yy hu;cases h
 have f1:=fun nl tt σ=>ww E282.len a0 nl tt σ
 have f2:=zz E282.len a0;have f3:=Yg encGValueValue a0;refine vaY (rs:=[.tmp 2]) tok Tryz.func228 rfl Tryz.ntmps228 rfl Tryz.call228 (by simp) ?_;refine zk [(0,.ds true (qc encGValueValue a0) (qa a0) false)] ⟨rfl,trivial⟩ ?_;refine rgN [0] ?_
 refine za fun Z1 hZ1=>?_
 refine rc [0,4] fun K hK=>?_
 refine rnN 1 ?_
 refine ZA tok rfl rfl rfl rfl rfl rfl fun b hnil=>?_
 have hb:b=true→a0=[]:=fun hb=>by
  have:=hnil hb;simp only[yd,go_sem,reduceCtorEq] at this;exact qS this
 clear hnil
 refine nkN hK ?_;cases b
 · refine zp rfl ?_;apply zd;apply hZ1
   refine rg tok [2] fun K hK=>?_
   by_cases h0:qa a0=0
   · obtain rfl:=qS h0;simp only[go_sem,qd,qb,reduceCtorEq,zv,zQ,qI,uu,ye,zO,yd,z1,uc,qt,q9,qR];apply hK
     apply zE;simp only[wg,zX,z7,yN,exists_eq_left',go_sem];refine .inl ⟨0,true,by simp,?_,?_⟩
     · first|rfl|(simp only[go_sem,qd,qf,qb,qe,qi,qm,reduceIte,reduceCtorEq,wf,wO,if_true]<;>rfl)
     first|rfl|(simp only[go_sem,qd,qf,qb,qe,qi,qm,reduceIte,reduceCtorEq,Zk,Y2,wU,Zl,Zx,qj]<;>rfl)
   have h1:=eq_false h0;simp only[go_sem,qd,qb,reduceCtorEq,zv,zQ,qI,uu,ye,zO,yd,f1,f3,h1,gu,yv,qj,qL,q9];apply hK
   apply zE;simp only[wg,zX,z7,yN,exists_eq_left',go_sem,qe];refine .inl ⟨1,false,by simp,?_,?_⟩
   · first|rfl|(simp only[go_sem,qd,qf,qb,qe,qi,qm,reduceIte,reduceCtorEq,wf,wO,if_true]<;>rfl)
   first|rfl|(simp only[go_sem,Zk,wU,Zl,Zx,zg]<;>rfl)
 obtain rfl:=hb rfl;refine zq rfl ?_;refine rgN [2] ?_;apply zE;simp only[wg,zX,z7,yN,exists_eq_left',go_sem];refine .inr ?_
 first|rfl|(simp only[go_sem,qd,qf,qb,qe,qi,qm,reduceIte,reduceCtorEq,Zw,qj,qo,qE,qp,qz]<;>rfl)
end
section
set_option maxRecDepth 4000
set_option maxHeartbeats 1000000
open AM
def yD.l4 (a1:Int):List GValueEntry→Int→Option (List GValueValue)
 |[],x2=>some ([]:List GValueValue)
 |y4::q4,x2=>(if y4.ftag=a1 then (wP y4.fl).bind fun r12=>some r12 else ((yD.l4 a1 q4) (x2+1)))
def yD (a0:GValueNode)(a1:Int):Option (List GValueValue):=
 (yD.l4 a1 a0.fentries 0)
theorem yD.ok (a0:GValueNode)(a1:Int)(r:List GValueValue)(h:yD a0 a1=some r):ACalls qg 188 [.dp (encGValueNode a0) 0,.int .i64 a1] [] (fun r' _=>r'=.ds true (qc encGValueValue r) (qa r) false):=by
 refine zf (rs:=[.tmp 4]) tok Tryz.func188 rfl Tryz.ntmps188 rfl Tryz.call188 (by simp) ?_;refine zk [(0,.dp (encGValueNode a0) 0),(1,.int .i64 a1)] ⟨rfl,rfl,trivial⟩ ?_;unfold yD at h;refine rgN [0,1] ?_
 refine za fun Z1 hZ1=>?_
 refine rg tok [1,10,11,12] fun K hK=>?_
 simp only[go_sem,qd,qb,qe,reduceCtorEq,encGValueNode,Xe];apply hK
 apply ze
 refine yl 10 fun hb4=>?_
 replace hb4:qa a0.fentries≤9223372036854775807:=hb4.1;refine zN (fun m L τ=>∃ (p4 q4:List GValueEntry) (x2:Int),m=qa q4∧L=[(1,.int .i64 a1),(10,.ds true (qc encGValueEntry a0.fentries) (qa a0.fentries) false),(11,.int .i64 (qa a0.fentries:Int)),(12,.int .i64 x2)]∧τ=[]∧a0.fentries=p4++q4∧x2=(qa p4:Int)∧yD.l4 a1 q4 x2=some r) _ ⟨[],a0.fentries,0,rfl,rfl,rfl,rfl,rfl,h⟩ .s ?_;rintro m L τ ⟨p4,q4,x2,rfl,rfl,rfl,hE4,hi4,h⟩
 rcases q4 with _|⟨y4,q4⟩
 · have hz4:=yJ hE4 hi4;simp only[yD.l4] at h
   refine rg tok [1,10,11,12,13] fun K hK=>?_
   simp only[go_sem,qd,qb,hz4];apply hK
   refine za fun Z5 hZ5=>?_
   refine zp rfl ?_;apply zI;apply hZ1;refine rgN [4] ?_;cases h;exact rtA
 obtain⟨hz4,hw4,hx4,hE'4,hi'4⟩:=yk hE4 hi4 hb4;simp only[yD.l4] at h
 refine rg tok [1,10,11,12,13] fun K hK=>?_
 simp only[go_sem,qd,qb,hz4];apply hK
 refine za fun Z6 hZ6=>?_
 refine zq rfl ?_;apply zd;apply hZ6
 refine za fun Z7 hZ7=>?_
 apply ze;have f8:=E324.idxS hx4;have f9:=E324.loadS rfl rfl hx4
 refine rg tok [1,6,10,11,12] fun K hK=>?_
 simp only[go_sem,qd,qf,qb,qe,cellsGValueEntry,yI,f8,f9];apply hK
 refine rgN [1,6,10,11,12,19] ?_;refine zF rfl (fun hc10=>?_) (fun hc10=>?_)
 · rw[if_pos hc10] at h;have t11:=eq_true hc10
   refine rc [4] fun K hK=>?_
   obtain⟨r12,hr12,h⟩:=bind_some h;refine zj tok 2 ?_;simp only[go_sem,qd,qb,qe,t11];refine clN rfl rfl rfl (@id (ACalls qg 228 [.ds true (qc encGValueValue y4.fl) (qa y4.fl) false] [.cells 0 (cellsGValueEntry y4)] (fun r' σ'=>r'=.os true 1 1 0 0 (qa r12) false∧σ'=[.cells 0 (cellsGValueEntry y4),.cells 0 (qc encGValueValue r12)])) ((wP.own y4.fl r12 hr12).ownAt0 (by simp only[push_cast]) (by simp only[push_cast]) _)) ?_;refine rnN 1 ?_;refine nkN hK ?_;cases h;exact rtA
 rw[if_neg hc10] at h;have t13:=eq_false hc10;apply zd;apply hZ7
 refine rgE tok [1,10,11,12] fun K hK=>?_
 simp only[go_sem,qd,qb,hw4,t13];apply hK
 exact⟨_,_,_,qw q4.length,⟨p4++[y4],q4,x2+1,rfl,rfl,rfl,hE'4,hi'4,h⟩,(.t [] false)⟩
theorem yD.ev (a0:GValueNode)(a1:Int)(r:List GValueValue)(h:yD a0 a1=some r)(σ:Store):ACalls qg 188 [.dp (encGValueNode a0) 0,.int .i64 a1] σ (fun r' σ'=>r'=.ds true (qc encGValueValue r) (qa r) false∧σ'=σ):=
 (yD.ok a0 a1 r h).c σ
def xa (a0:GValueValue):Int×Bool:=
 (match a0 with|.nil=>(0,false)|.num n2=>(n2,true)|.str s2=>(0,false)|.node e2 r2=>(0,false))
theorem xa.ok (a0:GValueValue)(r:Int×Bool)(h:xa a0=r):ACalls qg 243 [.agg (encGValueValue a0)] [] (fun r' _=>r'=.tup [.int .i64 r.1,.bool r.2]):=by
 refine zf (rs:=[.tmp 2,.tmp 3]) tok Tryz.func243 rfl Tryz.ntmps243 rfl Tryz.call243 (by simp) ?_;refine zk [(0,.agg (encGValueValue a0))] ⟨rfl,trivial⟩ ?_;unfold xa at h;have f1:=wD a0;unfold AV.one at f1
 refine rg tok [1] fun K hK=>?_
 simp only[go_sem,qd,qb,reduceCtorEq,encGValueValue,f1];apply hK
 rcases a0 with _|n2|s2|⟨e2,r2⟩
 · dsimp only at h
   try simp only[YR]
   refine rg tok [4,5] fun K hK=>?_
   simp only[go_sem,qd,qb,qe,yr,yw,TypeDesc.isIface];apply hK
   refine rgN [2,3] ?_;cases h;exact rtA
 · dsimp only at h
   try simp only[YQ]
   refine rg tok [4,5] fun K hK=>?_
   simp only[go_sem,qd,qb,qe,yr,yw,TypeDesc.isIface];apply hK
   refine rgN [2,3] ?_;cases h;exact rtA
 · dsimp only at h
   try simp only[YP]
   refine rg tok [4,5] fun K hK=>?_
   simp only[go_sem,qd,qb,qe,yr,yw,TypeDesc.isIface];apply hK
   refine rgN [2,3] ?_;cases h;exact rtA
 dsimp only at h
 try simp only[ZI]
 refine rg tok [4,5] fun K hK=>?_
 simp only[go_sem,qd,qb,qe,yr,yw,TypeDesc.isIface];apply hK
 refine rgN [2,3] ?_;cases h;exact rtA
theorem xa.ev (a0:GValueValue)(r:Int×Bool)(h:xa a0=r)(σ:Store):ACalls qg 243 [.agg (encGValueValue a0)] σ (fun r' σ'=>r'=.tup [.int .i64 r.1,.bool r.2]∧σ'=σ):=
 (xa.ok a0 r h).c σ
def xB (a0:GValueValue):List UInt8×Bool:=
 (match a0 with|.nil=>([],false)|.num n2=>([],false)|.str s2=>(s2,true)|.node e2 r2=>([],false))
theorem xB.ok (a0:GValueValue)(r:List UInt8×Bool)(h:xB a0=r):ACalls qg 244 [.agg (encGValueValue a0)] [] (fun r' _=>r'=.tup [.str r.1,.bool r.2]):=by
 refine zf (rs:=[.tmp 2,.tmp 3]) tok Tryz.func244 rfl Tryz.ntmps244 rfl Tryz.call244 (by simp) ?_;refine zk [(0,.agg (encGValueValue a0))] ⟨rfl,trivial⟩ ?_;unfold xB at h;have f1:=wD a0;unfold AV.one at f1
 refine rg tok [1] fun K hK=>?_
 simp only[go_sem,qd,qb,reduceCtorEq,encGValueValue,f1];apply hK
 rcases a0 with _|n2|s2|⟨e2,r2⟩
 · dsimp only at h
   try simp only[YR]
   refine rg tok [4,5] fun K hK=>?_
   simp only[go_sem,qd,qb,qe,yr,yw,TypeDesc.isIface];apply hK
   refine rgN [2,3] ?_;cases h;exact rtA
 · dsimp only at h
   try simp only[YQ]
   refine rg tok [4,5] fun K hK=>?_
   simp only[go_sem,qd,qb,qe,yr,yw,TypeDesc.isIface];apply hK
   refine rgN [2,3] ?_;cases h;exact rtA
 · dsimp only at h
   try simp only[YP]
   refine rg tok [4,5] fun K hK=>?_
   simp only[go_sem,qd,qb,qe,yr,yw,TypeDesc.isIface];apply hK
   refine rgN [2,3] ?_;cases h;exact rtA
 dsimp only at h
 try simp only[ZI]
 refine rg tok [4,5] fun K hK=>?_
 simp only[go_sem,qd,qb,qe,yr,yw,TypeDesc.isIface];apply hK
 refine rgN [2,3] ?_;cases h;exact rtA
theorem xB.ev (a0:GValueValue)(r:List UInt8×Bool)(h:xB a0=r)(σ:Store):ACalls qg 244 [.agg (encGValueValue a0)] σ (fun r' σ'=>r'=.tup [.str r.1,.bool r.2]∧σ'=σ):=
 (xB.ok a0 r h).c σ
def w5 (a0:GValueValue):Option GValueValue:=
 bnd (xa a0) fun r3=>(if r3.2=true then some (GValueValue.num r3.1) else bnd (xB a0) fun r6=>(if r6.2=true then some (GValueValue.str r6.1) else (yn a0).bind fun r8=>some (GValueValue.node r8.fentries r8.frest)))
theorem w5.ok (a0:GValueValue)(r:GValueValue)(h:w5 a0=some r):ACalls qg 229 [.agg (encGValueValue a0)] [] (fun r' _=>r'=anyV r):=by
 refine zf (rs:=[.tmp 2]) tok Tryz.func229 rfl Tryz.ntmps229 rfl Tryz.call229 (by simp) ?_;refine zk [(0,.agg (encGValueValue a0))] ⟨rfl,trivial⟩ ?_;unfold w5 at h;have f1:=wD a0;unfold AV.one at f1
 refine rg tok [1] fun K hK=>?_
 simp only[go_sem,qd,qb,reduceCtorEq,encGValueValue,f1];apply hK
 refine za fun Z2 hZ2=>?_
 refine rc [1,3,4] fun K hK=>?_
 obtain⟨r3,hr3,h⟩:=zH h;refine rnN 1 ?_;refine clN rfl rfl rfl (xa.ev a0 r3 hr3 _) ?_;refine rnN 5 ?_;refine nkN hK ?_;refine rgN [1,3,12] ?_;refine zw (b:=r3.2) rfl (fun hc4=>?_) (fun hc4=>?_)
 · rw[if_pos hc4] at h;refine rgN [2] ?_;cases h;exact rtA
 rw[xU hc4] at h;apply zd;apply hZ2
 refine za fun Z5 hZ5=>?_
 refine rc [1,5,6] fun K hK=>?_
 obtain⟨r6,hr6,h⟩:=zH h;refine rnN 1 ?_;refine clN rfl rfl rfl (xB.ev a0 r6 hr6 _) ?_;refine rnN 5 ?_;refine nkN hK ?_;refine rgN [1,5,20] ?_;refine zw (b:=r6.2) rfl (fun hc7=>?_) (fun hc7=>?_)
 · rw[if_pos hc7] at h;refine rgN [2] ?_;cases h;exact rtA
 rw[xU hc7] at h;apply zd;apply hZ5
 refine rc [2] fun K hK=>?_
 obtain⟨r8,hr8,h⟩:=bind_some h;refine rnN 1 ?_;refine clN rfl rfl rfl (yn.ev a0 r8 hr8 _) ?_;refine rnN 2 ?_;refine nkN hK ?_;cases h;exact rtA
theorem w5.ev (a0:GValueValue)(r:GValueValue)(h:w5 a0=some r)(σ:Store):ACalls qg 229 [.agg (encGValueValue a0)] σ (fun r' σ'=>r'=anyV r∧σ'=σ):=
 (w5.ok a0 r h).c σ
def xO.l9 : Nat→List UInt8→Int→Option (List UInt8)
 |0,_,_=>none
 |k9+1,l3,x5=>(if 128≤x5 then (Xm (qa l3+1) 1).bind fun _u14=>((xO.l9 k9) (l3++[uv (qK (IntKind.u8.wrap ((ui (qF 8 (IntKind.u8.wrap x5) ||| qF 8 128):Nat):Int)))]) (Int.fdiv x5 (2^(min (qK 7) 64)))) else (Xm (qa l3+1) 1).bind fun _u18=>some (l3++[uv (qK (IntKind.u8.wrap x5))]))
def xO (a0:List UInt8)(a1:Int):Option (List UInt8):=
 (if 128≤a1 then (Xm (qa a0+1) 1).bind fun _u24=>(xO.l9 xo (a0++[uv (qK (IntKind.u8.wrap ((ui (qF 8 (IntKind.u8.wrap a1) ||| qF 8 128):Nat):Int)))]) (Int.fdiv a1 (2^(min (qK 7) 64)))) else (Xm (qa a0+1) 1).bind fun _u28=>some (a0++[uv (qK (IntKind.u8.wrap a1))]))
theorem xO.own (a0:List UInt8)(a1:Int)(r:List UInt8)(h:xO a0 a1=some r):ACalls qg 191 [.ds true (qc encB a0) (qa a0) false,.int .u64 a1] [] (fun r' σ'=>r'=.os true 1 0 0 0 (qa r) false∧σ'=[.cells 0 (qc encB r)]):=by
 refine ACalls.own0 (by simp only[push_cast]) ?_;refine vaf (rs:=[.tmp 4]) tok Tryz.func191 rfl Tryz.ntmps191 rfl Tryz.call191 (by simp) ?_;refine zk [(0,.ds true (qc encB a0) (qa a0) false),(1,.int .u64 a1)] ⟨rfl,rfl,trivial⟩ ?_;unfold xO at h;refine rgN [0,1] ?_;have f1:=E48.sl_tight a0 .i64 .i64
 refine rg tok [0,1] fun K hK=>?_
 simp only[go_sem,qd,qb,reduceCtorEq,f1];apply hK
 refine za fun Z2 hZ2=>?_
 apply ze;refine awp_loopS1 (fun m L τ=>∃ (k9:Nat) (l3:List UInt8) (x5:Int) (v4:Nat),m=0+k9∧L=[(0,.os true 1 0 v4 0 (qa l3) false),(1,.int .u64 x5)]∧τ=[.cells v4 (qc encB l3)]∧xO.l9 k9 l3 x5=some r) (xo+1) ?_ ?_
 · refine za fun Z20 hZ20=>?_
   refine rgN [0,1,12] ?_;refine zF rfl (fun hc21=>?_) (fun hc21=>?_)
   · rw[if_pos hc21] at h;have t22:=eq_true hc21;apply zd;apply hZ20;apply ze;have f23:=wm (T:=tab) (src:=287) (dst:=5) rfl rfl rfl;obtain⟨_u24,hu24,h⟩:=bind_some h;have gu24:=yy hu24;have f25:=app_tight E48.len a0 (m:=1) (by decide)
     refine rg tok [0,1] fun K hK=>?_
     simp only[go_sem,qd,qf,qb,qi,reduceCtorEq,zv,zQ,qO,qI,true_and,qT,ye,yd,t22,f23,gu24,f25,yv,qR,qX,AV.one,qB,qL,qs,qt,qk,qN];apply hK
     refine yz (L:=[(0,.os true 1 1 0 0 (qa (a0++[uv (qK (IntKind.u8.wrap ((ui (qF 8 (IntKind.u8.wrap a1) ||| qF 8 128):Nat):Int)))])) false),(1,.int .u64 a1)]) (τ:=[.cells 0 [.int .u8 (IntKind.u8.wrap ((ui (qF 8 (IntKind.u8.wrap a1) ||| qF 8 128):Nat):Int))],.cells 0 (qc encB (a0++[uv (qK (IntKind.u8.wrap ((ui (qF 8 (IntKind.u8.wrap a1) ||| qF 8 128):Nat):Int)))]))]) (.same (by first|exact⟨rfl,rfl,trivial⟩|rfl|(simp only[go_sem,reduceCtorEq,Fits,qG,qs,qt,qk,and_self]<;>rfl)) (by first|exact⟨rfl,rfl,trivial⟩|rfl|(simp only[go_sem,encB,qZ,qP,uc,q1,vaE]<;>rfl))) ?_
     refine rgE tok [0,1] fun K hK=>?_
     simp only[go_sem,qd,qb,reduceCtorEq,Yo,Int.reduceLT];apply hK
     exact⟨_,_,_,(Nat.lt_succ_of_le (Nat.le_of_eq (qk xo))),⟨xo,a0++[uv (qK (IntKind.u8.wrap ((ui (qF 8 (IntKind.u8.wrap a1) ||| qF 8 128):Nat):Int)))],Int.fdiv a1 (2^(min (qK 7) 64)),0,rfl,rfl,rfl,h⟩,(.t [1] false)⟩
   rw[if_neg hc21] at h;have t26:=eq_false hc21;apply zI;apply hZ2;have f27:=wm (T:=tab) (src:=287) (dst:=5) rfl rfl rfl;obtain⟨_u28,hu28,h⟩:=bind_some h;have gu28:=yy hu28;have f29:=app_tight E48.len a0 (m:=1) (by decide)
   refine rg tok [4] fun K hK=>?_
   simp only[go_sem,qd,qf,qb,qi,reduceCtorEq,zv,zQ,qO,qI,true_and,qT,ye,yd,t26,f27,gu28,f29,yv,qR,qX,AV.one,qB,qL,qs,qt,qk,qN];apply hK
   refine yz (L:=[(4,.os true 1 1 0 0 (qa (a0++[uv (qK (IntKind.u8.wrap a1))])) false)]) (τ:=[.cells 0 [.int .u8 (IntKind.u8.wrap a1)],.cells 0 (qc encB (a0++[uv (qK (IntKind.u8.wrap a1))]))]) (.same (by first|exact⟨rfl,trivial⟩|rfl|(simp only[go_sem,Fits,qG,qs,qt,qk,and_self]<;>rfl)) (by first|exact⟨rfl,trivial⟩|rfl|(simp only[go_sem,encB,qZ,qP,uc,q1,vaE]<;>rfl))) ?_;apply zE;cases h;simp only[wg,zX,z7,yN,exists_eq_left',go_sem,qe];refine⟨1,0,by simp,?_,?_⟩
   · first|rfl|(simp only[go_sem,qd,qf,qb,qe,qi,qm,reduceIte,reduceCtorEq,push_cast,if_true,qv,qk,qn,qj,qx,qo,qE,qz,qr,qq,qp,zg]<;>rfl)
   first|rfl|(simp only[go_sem,push_cast,qj,zg]<;>rfl)
 clear h
 rintro m L τ ⟨k9,l3,x5,v4,rfl,rfl,rfl,h⟩
 rcases k9 with _|k9
 · cases h
 simp only[xO.l9] at h
 refine za fun Z10 hZ10=>?_
 refine rgN [0,1,12] ?_;refine zF rfl (fun hc11=>?_) (fun hc11=>?_)
 · rw[if_pos hc11] at h;have t12:=eq_true hc11;apply zd;apply hZ10;apply ze;have f13:=wm (T:=tab) (src:=287) (dst:=5) rfl rfl rfl;obtain⟨_u14,hu14,h⟩:=bind_some h;have gu14:=yy hu14;have f15:=(zz E48.len l3)
   refine rg tok [0,1] fun K hK=>?_
   simp only[go_sem,qd,qf,qb,qi,reduceCtorEq,zv,zQ,qO,qI,true_and,qT,ye,zO,yd,t12,f13,gu14,f15,yv,qR,qX,AV.one,qB,qL,qs,qt,qk,qN];apply hK
   refine yz (L:=[(0,.os true 1 0 (v4+1) 0 (qa (l3++[uv (qK (IntKind.u8.wrap ((ui (qF 8 (IntKind.u8.wrap x5) ||| qF 8 128):Nat):Int)))])) false),(1,.int .u64 x5)]) (τ:=[.cells (v4+1) (qc encB (l3++[uv (qK (IntKind.u8.wrap ((ui (qF 8 (IntKind.u8.wrap x5) ||| qF 8 128):Nat):Int)))])),.cells 0 [.int .u8 (IntKind.u8.wrap ((ui (qF 8 (IntKind.u8.wrap x5) ||| qF 8 128):Nat):Int))]]) (.same (by first|exact⟨rfl,rfl,trivial⟩|rfl|(simp only[go_sem,reduceCtorEq,Fits,qG,qs,qt,qk,and_self]<;>rfl)) (by first|exact⟨rfl,rfl,trivial⟩|rfl|(simp only[go_sem,encB,qZ,qP,uc,q1,vaE]<;>rfl))) ?_
   refine rgE tok [0,1] fun K hK=>?_
   simp only[go_sem,qd,qb,reduceCtorEq,Yo,Int.reduceLT];apply hK
   exact⟨_,_,_,qw (0+k9),⟨k9,l3++[uv (qK (IntKind.u8.wrap ((ui (qF 8 (IntKind.u8.wrap x5) ||| qF 8 128):Nat):Int)))],Int.fdiv x5 (2^(min (qK 7) 64)),v4+1,rfl,rfl,rfl,h⟩,(.t [0] false)⟩
 rw[if_neg hc11] at h;have t16:=eq_false hc11;apply zI;apply hZ2;have f17:=wm (T:=tab) (src:=287) (dst:=5) rfl rfl rfl;obtain⟨_u18,hu18,h⟩:=bind_some h;have gu18:=yy hu18;have f19:=(zz E48.len l3)
 refine rg tok [4] fun K hK=>?_
 simp only[go_sem,qd,qf,qb,qi,reduceCtorEq,zv,zQ,qO,qI,true_and,qT,ye,zO,yd,t16,f17,gu18,f19,yv,qR,qX,AV.one,qB,qL,qs,qt,qk,qN];apply hK
 refine yz (L:=[(4,.os true 1 0 (v4+1) 0 (qa (l3++[uv (qK (IntKind.u8.wrap x5))])) false)]) (τ:=[.cells (v4+1) (qc encB (l3++[uv (qK (IntKind.u8.wrap x5))])),.cells 0 [.int .u8 (IntKind.u8.wrap x5)]]) (.same (by first|exact⟨rfl,trivial⟩|rfl|(simp only[go_sem,Fits,qG,qs,qt,qk,and_self]<;>rfl)) (by first|exact⟨rfl,trivial⟩|rfl|(simp only[go_sem,encB,qZ,qP,uc,q1,vaE]<;>rfl))) ?_;apply zE;cases h;simp only[wg,zX,z7,yN,exists_eq_left',go_sem,qe];refine⟨0,v4+1,by simp,?_,?_⟩
 · first|rfl|(simp only[go_sem,qd,qf,qb,qe,qi,qm,reduceIte,reduceCtorEq,push_cast,if_true,qv,qk,qn,qj,qx,qo,qE,qz,qr,qq,qp,zg]<;>rfl)
 first|rfl|(simp only[go_sem,push_cast,qj,zg]<;>rfl)
theorem xO.ok (a0:List UInt8)(a1:Int)(r:List UInt8)(h:xO a0 a1=some r):ACalls qg 191 [.ds true (qc encB a0) (qa a0) false,.int .u64 a1] [] (fun r' _=>r'=.ds true (qc encB r) (qa r) false):=
 (xO.own a0 a1 r h).ownData (zz E48.len r) (by simp only[push_cast])
theorem xO.ev (a0:List UInt8)(a1:Int)(r:List UInt8)(h:xO a0 a1=some r)(σ:Store):ACalls qg 191 [.ds true (qc encB a0) (qa a0) false,.int .u64 a1] σ (fun r' σ'=>r'=.ds true (qc encB r) (qa r) false∧σ'=σ):=
 (xO.ok a0 a1 r h).c σ
def Yd (a0:Int):Int:=
 IntKind.u64.wrap ((ui (qF 64 (IntKind.u64.wrap ((IntKind.u64.wrap a0)*2^(min (qK 1) 64))) ^^^ qF 64 (IntKind.u64.wrap (Int.fdiv a0 (2^(min (qK 63) 64))))):Nat):Int)
theorem Yd.ok (a0:Int)(r:Int)(h:Yd a0=r):ACalls qg 192 [.int .i64 a0] [] (fun r' _=>r'=.int .u64 r):=by
 refine zf (rs:=[.tmp 2]) tok Tryz.func192 rfl Tryz.ntmps192 rfl Tryz.call192 (by simp) ?_;refine zk [(0,.int .i64 a0)] ⟨rfl,trivial⟩ ?_;unfold Yd at h;refine rgN [0] ?_;have f1:=wm (T:=tab) (src:=3) (dst:=287) rfl rfl rfl;have f2:=wm (T:=tab) (src:=3) (dst:=287) rfl rfl rfl
 refine rg tok [2] fun K hK=>?_
 simp only[go_sem,qd,qb,reduceCtorEq,f1,Yo,Int.reduceLT];apply hK
 cases h;exact rtA
theorem Yd.ev (a0:Int)(r:Int)(h:Yd a0=r)(σ:Store):ACalls qg 192 [.int .i64 a0] σ (fun r' σ'=>r'=.int .u64 r∧σ'=σ):=
 (Yd.ok a0 r h).c σ
def Yc (a0:List UInt8)(a1:GRaw):Option (List UInt8×Bool):=
 bnd (wh a1) fun r2=>(if (!r2)=true then some (a0,false) else (xO a0 (IntKind.u64.wrap (IntKind.i64.wrap ((IntKind.i64.wrap (2*a1.fTag))+a1.fWire)))).bind fun r5=>(if a1.fWire=0 then bnd (Yd a1.fN) fun r9=>(xO r5 r9).bind fun r10=>some (r10,true) else (xO r5 (IntKind.u64.wrap (qa a1.fB:Int))).bind fun r13=>(Xm (qa r13+qa a1.fB) 1).bind fun _u14=>some (r13++a1.fB,true)))
theorem Yc.ok (a0:List UInt8)(a1:GRaw)(r:List UInt8×Bool)(h:Yc a0 a1=some r):ACalls qg 148 [.ds true (qc encB a0) (qa a0) false,.agg (encGRaw a1)] [] (fun r' _=>r'=.tup [.ds true (qc encB r.1) (qa r.1) false,.bool r.2]):=by
 refine zf (rs:=[.tmp 4,.tmp 5]) tok Tryz.func148 rfl Tryz.ntmps148 rfl Tryz.call148 (by simp) ?_;refine zk [(0,.ds true (qc encB a0) (qa a0) false),(1,.agg (encGRaw a1))] ⟨rfl,rfl,trivial⟩ ?_;unfold Yc at h
 refine rg tok [0,3] fun K hK=>?_
 simp only[go_sem,qd,qb,qe,reduceCtorEq,encGRaw];apply hK
 refine za fun Z1 hZ1=>?_
 refine rc [0,3,9] fun K hK=>?_
 obtain⟨r2,hr2,h⟩:=zH h;refine rnN 1 ?_;refine clN rfl rfl rfl (wh.ev a1 r2 hr2 _) ?_;refine rnN 1 ?_;refine nkN hK ?_;refine zw (b:=(!r2)) rfl (fun hc3=>?_) (fun hc3=>?_)
 · rw[if_pos hc3] at h;refine rgN [4,5] ?_;cases h;exact rtA
 rw[xU hc3] at h;apply zd;apply hZ1
 refine rc [3,6] fun K hK=>?_
 have f4:=wm (T:=tab) (src:=3) (dst:=287) rfl rfl rfl;obtain⟨r5,hr5,h⟩:=bind_some h;refine zj tok 8 ?_;simp only[go_sem,qd,qb,qe,reduceCtorEq,f4];refine clN rfl rfl rfl (xO.ev a0 (IntKind.u64.wrap (IntKind.i64.wrap ((IntKind.i64.wrap (2*a1.fTag))+a1.fWire))) r5 hr5 _) ?_;refine rnN 1 ?_;refine nkN hK ?_
 refine za fun Z6 hZ6=>?_
 refine rgN [3,6,22] ?_;refine zF rfl (fun hc7=>?_) (fun hc7=>?_)
 · rw[if_pos hc7] at h;have t8:=eq_true hc7
   refine rc [4,5] fun K hK=>?_
   obtain⟨r9,hr9,h⟩:=zH h;refine zj tok 3 ?_;simp only[go_sem,qd,qb,qe,t8];refine clN rfl rfl rfl (Yd.ev a1.fN r9 hr9 _) ?_;obtain⟨r10,hr10,h⟩:=bind_some h;refine clN rfl rfl rfl (xO.ev r5 r9 r10 hr10 _) ?_;refine rnN 2 ?_;refine nkN hK ?_;cases h;exact rtA
 rw[if_neg hc7] at h;have t11:=eq_false hc7;apply zd;apply hZ6;have f12:=wm (T:=tab) (src:=3) (dst:=287) rfl rfl rfl;obtain⟨r13,hr13,h⟩:=bind_some h;obtain⟨_u14,hu14,h⟩:=bind_some h;have gu14:=yy hu14;have f15:=(zz E48.len r13)
 refine rd [4,5] fun K hK=>?_
 refine DW.start (T:=tab) [.any,.any,.at [],.at [],.at [],.eff,.any,.own 1 [],.eff,.any,.any] [(1,[])] ?_;refine DW.runN tok 5 ?_;simp only[go_sem,qd,qb,qe,t11,f12,qs,qt,qk];refine DW.callS rfl rfl rfl (@id (ACalls qg 191 [.ds true (qc encB r5) (qa r5) false,.int .u64 (IntKind.u64.wrap (qa a1.fB:Int))] [.cells 0 [.int .i64 a1.fTag,.int .i64 a1.fWire,.int .i64 a1.fN,.str a1.fB]] (fun r' σ'=>r'=.os true 1 1 0 0 (qa r13) false∧σ'=[.cells 0 [.int .i64 a1.fTag,.int .i64 a1.fWire,.int .i64 a1.fN,.str a1.fB],.cells 0 (qc encB r13)])) ((xO.own r5 (IntKind.u64.wrap (qa a1.fB:Int)) r13 hr13).ownAt0 (by simp only[push_cast]) (by simp only[push_cast]) _)) (YH (by simp only[go_sem,qf])) ?_;refine DW.runN tok 5 ?_;simp only[go_sem,qd,qf,qb,qe,ye,zO,yd,true_and,gu14,f15,srcCells_s,Xy,Yg,qs,qt,qk];refine DW.fin tok (by decide +kernel) rfl ?_;simp only[zn,upd,qb,reduceIte,ym,y1];apply hK
 refine yz (L:=[(4,.os true 1 1 (0+1) 0 (qa (r13++a1.fB)) false),(5,.bool true)]) (τ:=[.cells 0 [.int .i64 a1.fTag,.int .i64 a1.fWire,.int .i64 a1.fN,.str a1.fB],.cells (0+1) (qc encB (r13++a1.fB))]) .s ?_;cases h;exact rtA
theorem Yc.ev (a0:List UInt8)(a1:GRaw)(r:List UInt8×Bool)(h:Yc a0 a1=some r)(σ:Store):ACalls qg 148 [.ds true (qc encB a0) (qa a0) false,.agg (encGRaw a1)] σ (fun r' σ'=>r'=.tup [.ds true (qc encB r.1) (qa r.1) false,.bool r.2]∧σ'=σ):=
 (Yc.ok a0 a1 r h).c σ
def yF.l11 : List GRaw→Int→List UInt8→Option (List UInt8×Int)
 |[],x8,x7=>some (x7,0)
 |y11::q11,x8,x7=>(Yc x7 y11).bind fun r17=>(if 4096<(qa r17.1:Int) then some (([]:List UInt8),4) else ((yF.l11 q11) (x8+1) r17.1))
def yF.l4 (a0:List GRaw):List GRaw→Int→Option (List UInt8×Int)
 |[],x2=>(yF.l11 a0 0 ([]:List UInt8))
 |y4::q4,x2=>bnd (wh y4) fun r25=>(if (!r25)=true then some (([]:List UInt8),1) else ((yF.l4 a0 q4) (x2+1)))
def yF (a0:List GRaw):Option (List UInt8×Int):=
 (yF.l4 a0 a0 0)
theorem yF.ok (a0:List GRaw)(r:List UInt8×Int)(h:yF a0=some r):ACalls qg 96 [.ds true (qc encGRaw a0) (qa a0) false] [] (fun r' _=>r'=.tup [.ds true (qc encB r.1) (qa r.1) false,.int .i64 r.2]):=by
 refine zf (rs:=[.tmp 2,.tmp 3]) tok Tryz.func96 rfl Tryz.ntmps96 rfl Tryz.call96 (by simp) ?_;refine zk [(0,.ds true (qc encGRaw a0) (qa a0) false)] ⟨rfl,trivial⟩ ?_;unfold yF at h;refine rgN [0] ?_
 refine za fun Z1 hZ1=>?_
 refine rgN [0,9,10,11] ?_;apply ze
 refine yl 0 fun hb4=>?_
 replace hb4:qa a0≤9223372036854775807:=hb4.1;refine zN (fun m L τ=>∃ (p4 q4:List GRaw) (x2:Int),m=qa q4∧L=[(0,.ds true (qc encGRaw a0) (qa a0) false),(9,.ds true (qc encGRaw a0) (qa a0) false),(10,.int .i64 (qa a0:Int)),(11,.int .i64 x2)]∧τ=[]∧a0=p4++q4∧x2=(qa p4:Int)∧yF.l4 a0 q4 x2=some r) _ ⟨[],a0,0,rfl,rfl,rfl,rfl,rfl,h⟩ .s ?_;rintro m L τ ⟨p4,q4,x2,rfl,rfl,rfl,hE4,hi4,h⟩
 rcases q4 with _|⟨y4,q4⟩
 · have hz4:=yJ hE4 hi4;simp only[yF.l4] at h
   refine rg tok [0,9,10,11,12] fun K hK=>?_
   simp only[go_sem,qd,qb,reduceCtorEq,hz4];apply hK
   refine za fun Z5 hZ5=>?_
   refine zp rfl ?_;apply zI;apply hZ1;refine rgN [0,6] ?_
   refine za fun Z6 hZ6=>?_
   refine rgN [6,19,20,21] ?_;apply ze
   refine yl 19 fun hb11=>?_
   replace hb11:qa a0≤9223372036854775807:=hb11.1;refine zN (fun m L τ=>∃ (p11 q11:List GRaw) (x8:Int) (x7:List UInt8),m=qa q11∧L=[(6,.ds true (qc encB x7) (qa x7) false),(19,.ds true (qc encGRaw a0) (qa a0) false),(20,.int .i64 (qa a0:Int)),(21,.int .i64 x8)]∧τ=[]∧a0=p11++q11∧x8=(qa p11:Int)∧yF.l11 q11 x8 x7=some r) _ ⟨[],a0,0,([]:List UInt8),rfl,rfl,rfl,rfl,rfl,h⟩ (.t [] true) ?_;rintro m L τ ⟨p11,q11,x8,x7,rfl,rfl,rfl,hE11,hi11,h⟩
   rcases q11 with _|⟨y11,q11⟩
   · have hz11:=yJ hE11 hi11;simp only[yF.l11] at h
     refine rg tok [6,19,20,21,22] fun K hK=>?_
     simp only[go_sem,qd,qb,hz11];apply hK
     refine za fun Z12 hZ12=>?_
     refine zp rfl ?_;apply zI;apply hZ6;refine rgN [2,3] ?_;cases h;exact rtA
   obtain⟨hz11,hw11,hx11,hE'11,hi'11⟩:=yk hE11 hi11 hb11;simp only[yF.l11] at h
   refine rg tok [6,19,20,21,22] fun K hK=>?_
   simp only[go_sem,qd,qb,hz11];apply hK
   refine za fun Z13 hZ13=>?_
   refine zq rfl ?_;apply zd;apply hZ13
   refine za fun Z14 hZ14=>?_
   apply ze;have f15:=E35.idxS hx11;have f16:=E35.loadS rfl rfl hx11
   refine rg tok [6,8,19,20,21] fun K hK=>?_
   simp only[go_sem,qd,qf,qb,qe,encGRaw,f15,f16];apply hK
   refine rc [6,19,20,21] fun K hK=>?_
   obtain⟨r17,hr17,h⟩:=bind_some h;refine rnN 2 ?_;refine clN rfl rfl rfl (Yc.ev x7 y11 r17 hr17 _) ?_;refine rnN 4 ?_;refine nkN hK ?_;refine rgN [6,19,20,21,33] ?_;refine zF rfl (fun hc18=>?_) (fun hc18=>?_)
   · rw[if_pos hc18] at h;have t19:=eq_true hc18
     refine rg tok [2,3] fun K hK=>?_
     simp only[go_sem,qd,qb,t19];apply hK
     cases h;exact rtA
   rw[if_neg hc18] at h;have t20:=eq_false hc18;apply zd;apply hZ14
   refine rgE tok [6,19,20,21] fun K hK=>?_
   simp only[go_sem,qd,qb,hw11,t20];apply hK
   exact⟨_,_,_,qw q11.length,⟨p11++[y11],q11,x8+1,r17.1,rfl,rfl,rfl,hE'11,hi'11,h⟩,(.t [] false)⟩
 obtain⟨hz4,hw4,hx4,hE'4,hi'4⟩:=yk hE4 hi4 hb4;simp only[yF.l4] at h
 refine rg tok [0,9,10,11,12] fun K hK=>?_
 simp only[go_sem,qd,qb,reduceCtorEq,hz4];apply hK
 refine za fun Z21 hZ21=>?_
 refine zq rfl ?_;apply zd;apply hZ21
 refine za fun Z22 hZ22=>?_
 apply ze;have f23:=E35.idxS hx4;have f24:=E35.loadS rfl rfl hx4
 refine rg tok [0,5,9,10,11] fun K hK=>?_
 simp only[go_sem,qd,qf,qb,qe,reduceCtorEq,encGRaw,f23,f24];apply hK
 refine rc [0,9,10,11,17] fun K hK=>?_
 obtain⟨r25,hr25,h⟩:=zH h;refine rnN 1 ?_;refine clN rfl rfl rfl (wh.ev y4 r25 hr25 _) ?_;refine rnN 1 ?_;refine nkN hK ?_;refine zw (b:=(!r25)) rfl (fun hc26=>?_) (fun hc26=>?_)
 · rw[if_pos hc26] at h;refine rgN [2,3] ?_;cases h;exact rtA
 rw[xU hc26] at h;apply zd;apply hZ22
 refine rgE tok [0,9,10,11] fun K hK=>?_
 simp only[go_sem,qd,qb,reduceCtorEq,hw4];apply hK
 exact⟨_,_,_,qw q4.length,⟨p4++[y4],q4,x2+1,rfl,rfl,rfl,hE'4,hi'4,h⟩,(.t [] false)⟩
theorem yF.ev (a0:List GRaw)(r:List UInt8×Int)(h:yF a0=some r)(σ:Store):ACalls qg 96 [.ds true (qc encGRaw a0) (qa a0) false] σ (fun r' σ'=>r'=.tup [.ds true (qc encB r.1) (qa r.1) false,.int .i64 r.2]∧σ'=σ):=
 (yF.ok a0 r h).c σ
def xq.body (yH:GValueNode→Option (List UInt8×Int))(z2:Int→GValueValue→Option (GRaw×Int))(yU:GValueNode→Option (List GRaw×Int))(a0:GValueNode):Option (List UInt8×Int):=
 (yU a0).bind fun r1=>(if r1.2=0 then (yF r1.1).bind fun r6=>some (r6.1,r6.2) else some (([]:List UInt8),r1.2))
theorem xq.step (yH:GValueNode→Option (List UInt8×Int))(z2:Int→GValueValue→Option (GRaw×Int))(yU:GValueNode→Option (List GRaw×Int))(wZ:∀ (a0:GValueNode) (r:List UInt8×Int),yH a0=some r→ACalls qg 230 [.dp (encGValueNode a0) 0] [] (fun r' _=>r'=.tup [.ds true (qc encB r.1) (qa r.1) false,.int .i64 r.2]))(Zs:∀ (a0:Int) (a1:GValueValue) (r:GRaw×Int),z2 a0 a1=some r→ACalls qg 189 [.int .i64 a0,.agg (encGValueValue a1)] [] (fun r' _=>r'=.tup [.agg (encGRaw r.1),.int .i64 r.2]))(Zg:∀ (a0:GValueNode) (r:List GRaw×Int),yU a0=some r→ACalls qg 145 [.dp (encGValueNode a0) 0] [] (fun r' _=>r'=.tup [.ds true (qc encGRaw r.1) (qa r.1) false,.int .i64 r.2]))(a0:GValueNode)(r:List UInt8×Int)(h:xq.body yH z2 yU a0=some r):ACalls qg 230 [.dp (encGValueNode a0) 0] [] (fun r' _=>r'=.tup [.ds true (qc encB r.1) (qa r.1) false,.int .i64 r.2]):=by
 have ev_encode_bytes:=fun a0 r h σ=>(wZ a0 r h).c σ
 have ev_encode_raw:=fun a0 a1 r h σ=>(Zs a0 a1 r h).c σ
 have ev_encode_raws:=fun a0 r h σ=>(Zg a0 r h).c σ
 refine zf (rs:=[.tmp 2,.tmp 3]) tok Tryz.func230 rfl Tryz.ntmps230 rfl Tryz.call230 (by simp) ?_;refine zk [(0,.dp (encGValueNode a0) 0)] ⟨rfl,trivial⟩ ?_;unfold xq.body at h;refine rgN [0] ?_
 refine rc [4,5] fun K hK=>?_
 obtain⟨r1,hr1,h⟩:=bind_some h;refine rnN 1 ?_;refine clN rfl rfl rfl (ev_encode_raws a0 r1 hr1 _) ?_;refine rnN 5 ?_;refine nkN hK ?_
 refine za fun Z2 hZ2=>?_
 refine rgN [4,5,12] ?_;refine zF rfl (fun hc3=>?_) (fun hc3=>?_)
 · rw[if_neg hc3] at h;have t4:=eq_false hc3
   refine rg tok [2,3] fun K hK=>?_
   simp only[go_sem,qd,qb,t4];apply hK
   cases h;exact rtA
 rw[if_pos hc3] at h;have t5:=eq_true hc3;apply zd;apply hZ2
 refine rc [2,3] fun K hK=>?_
 obtain⟨r6,hr6,h⟩:=bind_some h;refine zj tok 1 ?_;simp only[go_sem,qd,qb,t5];refine clN rfl rfl rfl (yF.ev r1.1 r6 hr6 _) ?_;refine rnN 4 ?_;refine nkN hK ?_;cases h;exact rtA
def xu.j3 (m1_2:GRaw):Option (GRaw×Int):=
 (if 4096<(qa m1_2.fB:Int) then some ((⟨0,0,0,[]⟩:GRaw),4) else some (m1_2,0))
def xu.body (yH:GValueNode→Option (List UInt8×Int))(z2:Int→GValueValue→Option (GRaw×Int))(yU:GValueNode→Option (List GRaw×Int))(a0:Int)(a1:GValueValue):Option (GRaw×Int):=
 (w5 a1).bind fun r8=>(match r8 with|.nil=>(xu.j3 (⟨a0,1,0,[]⟩:GRaw))|.num n9=>some ((⟨a0,0,n9,[]⟩:GRaw),0)|.str s9=>(xu.j3 (⟨a0,1,0,s9⟩:GRaw))|.node e9 r9=>(yH (⟨e9,r9⟩:GValueNode)).bind fun r10=>(if r10.2=0 then (xu.j3 (⟨a0,1,0,r10.1⟩:GRaw)) else some ((⟨0,0,0,[]⟩:GRaw),r10.2)))
theorem xu.step (yH:GValueNode→Option (List UInt8×Int))(z2:Int→GValueValue→Option (GRaw×Int))(yU:GValueNode→Option (List GRaw×Int))(wZ:∀ (a0:GValueNode) (r:List UInt8×Int),yH a0=some r→ACalls qg 230 [.dp (encGValueNode a0) 0] [] (fun r' _=>r'=.tup [.ds true (qc encB r.1) (qa r.1) false,.int .i64 r.2]))(Zs:∀ (a0:Int) (a1:GValueValue) (r:GRaw×Int),z2 a0 a1=some r→ACalls qg 189 [.int .i64 a0,.agg (encGValueValue a1)] [] (fun r' _=>r'=.tup [.agg (encGRaw r.1),.int .i64 r.2]))(Zg:∀ (a0:GValueNode) (r:List GRaw×Int),yU a0=some r→ACalls qg 145 [.dp (encGValueNode a0) 0] [] (fun r' _=>r'=.tup [.ds true (qc encGRaw r.1) (qa r.1) false,.int .i64 r.2]))(a0:Int)(a1:GValueValue)(r:GRaw×Int)(h:xu.body yH z2 yU a0 a1=some r):ACalls qg 189 [.int .i64 a0,.agg (encGValueValue a1)] [] (fun r' _=>r'=.tup [.agg (encGRaw r.1),.int .i64 r.2]):=by
 have ev_encode_bytes:=fun a0 r h σ=>(wZ a0 r h).c σ
 have ev_encode_raw:=fun a0 a1 r h σ=>(Zs a0 a1 r h).c σ
 have ev_encode_raws:=fun a0 r h σ=>(Zg a0 r h).c σ
 refine zf (rs:=[.cell 4 139,.tmp 5]) tok Tryz.func189 rfl Tryz.ntmps189 rfl Tryz.call189 (by simp) ?_;refine zk [(0,.int .i64 a0),(1,.agg (encGValueValue a1))] ⟨rfl,rfl,trivial⟩ ?_;unfold xu.body at h;have f1:=wD a1;unfold AV.one at f1
 refine rg tok [0,3,4] fun K hK=>?_
 simp only[go_sem,qd,qb,reduceCtorEq,encGValueValue,f1];apply hK
 refine rgN [0,3,4,6] ?_;refine yR (fun L τ=>∃ (m1_2:GRaw),L=[(4,.op 0 0 0),(6,.op 1 0 0)]∧τ=[.cells 0 [.int .i64 0,.int .i64 0,.int .i64 0,.str []],.cells 0 [.int .i64 m1_2.fTag,.int .i64 m1_2.fWire,.int .i64 m1_2.fN,.str m1_2.fB]]∧xu.j3 m1_2=some r) ?_ ?_
 · refine rc [0,4,6,15] fun K hK=>?_
   obtain⟨r8,hr8,h⟩:=bind_some h;refine rnN 1 ?_;refine clN rfl rfl rfl (w5.ev a1 r8 hr8 _) ?_;refine nkN hK ?_;apply ze
   rcases r8 with _|n9|s9|⟨e9,r9⟩
   · dsimp only at h
     try simp only[vaA]
     refine rg tok [0,4,6,15,17,18] fun K hK=>?_
     simp only[go_sem,qd,qb,qe,reduceCtorEq,yr,yw,TypeDesc.isIface];apply hK
     refine zp rfl ?_
     refine rg tok [4,6,15,23,24] fun K hK=>?_
     simp only[go_sem,qd,qb,qe,reduceCtorEq,yr,yw,TypeDesc.isIface];apply hK
     refine zp rfl ?_
     refine rg tok [4,6,28,29] fun K hK=>?_
     simp only[go_sem,qd,qb,qe,yr,yw,TypeDesc.isIface];apply hK
     refine zp rfl ?_;apply zd;exact⟨_,_,⟨(⟨a0,1,0,[]⟩:GRaw),rfl,rfl,h⟩,(.t [1,2] false)⟩
   · dsimp only at h
     try simp only[vaz]
     refine rg tok [0,4,6,15,17,18] fun K hK=>?_
     simp only[go_sem,qd,qb,qe,reduceCtorEq,yr,yw,TypeDesc.isIface];apply hK
     refine zq rfl ?_;refine rgN [0,4,7] ?_;refine rgN [4,5] ?_;cases h;exact rtA
   · dsimp only at h
     try simp only[vay]
     refine rg tok [0,4,6,15,17,18] fun K hK=>?_
     simp only[go_sem,qd,qb,qe,reduceCtorEq,yr,yw,TypeDesc.isIface];apply hK
     refine zp rfl ?_
     refine rg tok [4,6,15,23,24] fun K hK=>?_
     simp only[go_sem,qd,qb,qe,reduceCtorEq,yr,yw,TypeDesc.isIface];apply hK
     refine zq rfl ?_;refine rgN [4,6,8] ?_
     refine rgE tok [4,6] fun K hK=>?_
     simp only[go_sem,qd,qf,qb,qe];apply hK
     exact⟨_,_,⟨(⟨a0,1,0,s9⟩:GRaw),rfl,rfl,h⟩,(.t [1,2] false)⟩
   dsimp only at h
   try simp only[XU]
   refine rg tok [0,4,6,15,17,18] fun K hK=>?_
   simp only[go_sem,qd,qb,qe,reduceCtorEq,yr,yw,TypeDesc.isIface];apply hK
   refine zp rfl ?_
   refine rg tok [4,6,15,23,24] fun K hK=>?_
   simp only[go_sem,qd,qb,qe,reduceCtorEq,yr,yw,TypeDesc.isIface];apply hK
   refine zp rfl ?_
   refine rg tok [4,6,28,29] fun K hK=>?_
   simp only[go_sem,qd,qb,qe,yr,yw,TypeDesc.isIface];apply hK
   refine zq rfl ?_;refine rgN [4,6,9] ?_
   refine rc [4,6,10,11] fun K hK=>?_
   obtain⟨r10,hr10,h⟩:=bind_some h;refine rnN 1 ?_;refine clN rfl rfl rfl (ev_encode_bytes (⟨e9,r9⟩:GValueNode) r10 hr10 _) ?_;refine rnN 5 ?_;refine nkN hK ?_
   refine za fun Z11 hZ11=>?_
   refine rgN [4,6,10,11,36] ?_;refine zF rfl (fun hc12=>?_) (fun hc12=>?_)
   · rw[if_neg hc12] at h;have t13:=eq_false hc12
     refine rg tok [4,5] fun K hK=>?_
     simp only[go_sem,qd,qf,qb,qe,t13];apply hK
     cases h;exact rtA
   rw[if_pos hc12] at h;have t14:=eq_true hc12;apply zd;apply hZ11;have f15:=conv_b2s (T:=tab) (src:=48) (dst:=9) rfl rfl rfl rfl rfl rfl r10.1
   refine rgE tok [4,6] fun K hK=>?_
   simp only[go_sem,qd,qf,qb,qe,t14,f15];apply hK
   exact⟨_,_,⟨(⟨a0,1,0,r10.1⟩:GRaw),rfl,rfl,h⟩,(.t [1,2] false)⟩
 rintro _ _ ⟨m1_2,rfl,rfl,h⟩;unfold xu.j3 at h
 refine za fun Z4 hZ4=>?_
 refine rgN [4,6,45] ?_;refine zF rfl (fun hc5=>?_) (fun hc5=>?_)
 · rw[if_pos hc5] at h;have t6:=eq_true hc5
   refine rg tok [4,5] fun K hK=>?_
   simp only[go_sem,qd,qf,qb,qe,t6];apply hK
   cases h;exact rtA
 rw[if_neg hc5] at h;have t7:=eq_false hc5;apply zd;apply hZ4
 refine rg tok [4,5] fun K hK=>?_
 simp only[go_sem,qd,qf,qb,qe,t7];apply hK
 cases h;exact rtA
def yi.l24 (z2:Int→GValueValue→Option (GRaw×Int))(x6:Int)(rec10:Int→List GRaw→Option (List GRaw×Int))(y10:Int):List GValueValue→Int→List GRaw→Option (List GRaw×Int)
 |[],x20,l18=>(rec10 (x6+1) l18)
 |y24::q24,x20,l18=>(z2 y10 y24).bind fun r31=>(if r31.2=0 then (Xm (qa l18+1) 40).bind fun _u36=>((yi.l24 z2 x6 rec10 y10 q24) (x20+1) (l18++[r31.1])) else some (([]:List GRaw),r31.2))
end
section
set_option maxRecDepth 4000
set_option maxHeartbeats 1000000
open AM
def yi.l10 (z2:Int→GValueValue→Option (GRaw×Int))(a0:GValueNode):List Int→Int→List GRaw→Option (List GRaw×Int)
 |[],x6,l4=>(z8 l4).bind fun r12=>some (r12,0)
 |y10::q10,x6,l4=>(yD a0 y10).bind fun r17=>(yi.l24 z2 x6 (yi.l10 z2 a0 q10) y10 r17 0 l4)
def yi.body (yH:GValueNode→Option (List UInt8×Int))(z2:Int→GValueValue→Option (GRaw×Int))(yU:GValueNode→Option (List GRaw×Int))(a0:GValueNode):Option (List GRaw×Int):=
 (yX a0).bind fun r1=>(yp a0).bind fun r3=>(yi.l10 z2 a0 r3 0 r1)
theorem yi.step (yH:GValueNode→Option (List UInt8×Int))(z2:Int→GValueValue→Option (GRaw×Int))(yU:GValueNode→Option (List GRaw×Int))(wZ:∀ (a0:GValueNode) (r:List UInt8×Int),yH a0=some r→ACalls qg 230 [.dp (encGValueNode a0) 0] [] (fun r' _=>r'=.tup [.ds true (qc encB r.1) (qa r.1) false,.int .i64 r.2]))(Zs:∀ (a0:Int) (a1:GValueValue) (r:GRaw×Int),z2 a0 a1=some r→ACalls qg 189 [.int .i64 a0,.agg (encGValueValue a1)] [] (fun r' _=>r'=.tup [.agg (encGRaw r.1),.int .i64 r.2]))(Zg:∀ (a0:GValueNode) (r:List GRaw×Int),yU a0=some r→ACalls qg 145 [.dp (encGValueNode a0) 0] [] (fun r' _=>r'=.tup [.ds true (qc encGRaw r.1) (qa r.1) false,.int .i64 r.2]))(a0:GValueNode)(r:List GRaw×Int)(h:yi.body yH z2 yU a0=some r):ACalls qg 145 [.dp (encGValueNode a0) 0] [] (fun r' _=>r'=.tup [.ds true (qc encGRaw r.1) (qa r.1) false,.int .i64 r.2]):=by
 have ev_encode_bytes:=fun a0 r h σ=>(wZ a0 r h).c σ
 have ev_encode_raw:=fun a0 a1 r h σ=>(Zs a0 a1 r h).c σ
 have ev_encode_raws:=fun a0 r h σ=>(Zg a0 r h).c σ
 refine zf (rs:=[.tmp 2,.tmp 3]) tok Tryz.func145 rfl Tryz.ntmps145 rfl Tryz.call145 (by simp) ?_;refine zk [(0,.dp (encGValueNode a0) 0)] ⟨rfl,trivial⟩ ?_;unfold yi.body at h;refine rgN [0] ?_
 refine rc [0,4] fun K hK=>?_
 obtain⟨r1,hr1,h⟩:=bind_some h;refine rnN 1 ?_;refine clN rfl rfl rfl (@id (ACalls qg 186 [.dp (encGValueNode a0) 0] [] (fun r' σ'=>r'=.os true 4 0 0 0 (qa r1) false∧σ'=[.cells 0 (qc encGRaw r1)])) ((yX.own a0 r1 hr1).ownAt0 (by simp only[push_cast]) (by simp only[push_cast]) _)) ?_;refine rnN 1 ?_;refine nkN hK ?_
 refine za fun Z2 hZ2=>?_
 refine rc [0,4,14,15,16] fun K hK=>?_
 obtain⟨r3,hr3,h⟩:=bind_some h;refine rnN 1 ?_;refine clN rfl rfl rfl (yp.ev a0 r3 hr3 _) ?_;refine rnN 2 ?_;refine nkN hK ?_;apply ze
 refine yl 14 fun hb10=>?_
 replace hb10:qa r3≤9223372036854775807:=hb10.1;refine zN (fun m L τ=>∃ (p10 q10:List Int) (x6:Int) (l4:List GRaw) (v5:Nat),m=qa q10∧L=[(0,.dp (encGValueNode a0) 0),(4,.os true 4 0 v5 0 (qa l4) false),(14,.ds true (qc encI r3) (qa r3) false),(15,.int .i64 (qa r3:Int)),(16,.int .i64 x6)]∧τ=[.cells v5 (qc encGRaw l4)]∧r3=p10++q10∧x6=(qa p10:Int)∧yi.l10 z2 a0 q10 x6 l4=some r) _ ⟨[],r3,0,r1,0,rfl,rfl,rfl,rfl,rfl,h⟩ .s ?_;rintro m L τ ⟨p10,q10,x6,l4,v5,rfl,rfl,rfl,hE10,hi10,h⟩
 rcases q10 with _|⟨y10,q10⟩
 · have hz10:=yJ hE10 hi10;simp only[yi.l10] at h
   refine rg tok [0,4,14,15,16,17] fun K hK=>?_
   simp only[go_sem,qd,qb,reduceCtorEq,hz10];apply hK
   refine za fun Z11 hZ11=>?_
   refine zp rfl ?_;apply zI;apply hZ2
   refine rc [2,3] fun K hK=>?_
   obtain⟨r12,hr12,h⟩:=bind_some h;refine rnN 1 ?_;refine Xb (L:=[(43,.ds true (qc encGRaw l4) (qa l4) false)]) (τ:=[]) (.t [] false) ?_;refine clN rfl rfl rfl (z8.ev l4 r12 hr12 _) ?_;refine rnN 2 ?_;refine nkN hK ?_;cases h;exact rtA
 obtain⟨hz10,hw10,hx10,hE'10,hi'10⟩:=yk hE10 hi10 hb10;simp only[yi.l10] at h
 refine rg tok [0,4,14,15,16,17] fun K hK=>?_
 simp only[go_sem,qd,qb,reduceCtorEq,hz10];apply hK
 refine za fun Z13 hZ13=>?_
 refine zq rfl ?_;apply zd;apply hZ13
 refine za fun Z14 hZ14=>?_
 apply ze;have f15:=E26.idxS hx10;have f16:=E26.fldS0 (f:=3) rfl rfl hx10
 refine rg tok [0,4,6,14,15,16] fun K hK=>?_
 simp only[go_sem,qd,qb,reduceCtorEq,encI,f15,f16];apply hK
 refine rc [0,4,6,14,15,16,22,23,24] fun K hK=>?_
 obtain⟨r17,hr17,h⟩:=bind_some h;refine rnN 2 ?_;refine clN rfl rfl rfl (yD.ev a0 y10 r17 hr17 _) ?_;refine rnN 2 ?_;refine nkN hK ?_;apply ze
 refine yl 22 fun hb24=>?_
 replace hb24:qa r17≤9223372036854775807:=hb24.1;refine zN (fun m L τ=>∃ (p24 q24:List GValueValue) (x20:Int) (l18:List GRaw) (v19:Nat),m=qa q24∧L=[(0,.dp (encGValueNode a0) 0),(4,.os true 4 0 v19 0 (qa l18) false),(6,.int .i64 y10),(14,.ds true (qc encI r3) (qa r3) false),(15,.int .i64 (qa r3:Int)),(16,.int .i64 x6),(22,.ds true (qc encGValueValue r17) (qa r17) false),(23,.int .i64 (qa r17:Int)),(24,.int .i64 x20)]∧τ=[.cells v19 (qc encGRaw l18)]∧r17=p24++q24∧x20=(qa p24:Int)∧yi.l24 z2 x6 (yi.l10 z2 a0 q10) y10 q24 x20 l18=some r) _ ⟨[],r17,0,l4,v5,rfl,rfl,rfl,rfl,rfl,h⟩ .s ?_;rintro m L τ ⟨p24,q24,x20,l18,v19,rfl,rfl,rfl,hE24,hi24,h⟩
 rcases q24 with _|⟨y24,q24⟩
 · have hz24:=yJ hE24 hi24;simp only[yi.l24] at h
   refine rg tok [0,4,6,14,15,16,22,23,24,25] fun K hK=>?_
   simp only[go_sem,qd,qb,reduceCtorEq,hz24];apply hK
   refine za fun Z25 hZ25=>?_
   refine zp rfl ?_;apply zI;apply hZ14
   refine rgE tok [0,4,14,15,16] fun K hK=>?_
   simp only[go_sem,qd,qb,reduceCtorEq,hw10];apply hK
   exact⟨_,_,_,qw q10.length,⟨p10++[y10],q10,x6+1,l18,v19,rfl,rfl,rfl,hE'10,hi'10,h⟩,.s⟩
 obtain⟨hz24,hw24,hx24,hE'24,hi'24⟩:=yk hE24 hi24 hb24;simp only[yi.l24] at h
 refine rg tok [0,4,6,14,15,16,22,23,24,25] fun K hK=>?_
 simp only[go_sem,qd,qb,reduceCtorEq,hz24];apply hK
 refine za fun Z26 hZ26=>?_
 refine zq rfl ?_;apply zd;apply hZ26
 refine za fun Z27 hZ27=>?_
 apply ze;have f28:=E282.idxS hx24;have f29:=E282.loadS rfl rfl hx24;have f30:=wD y24;unfold AV.one at f30
 refine rg tok [0,4,6,8,14,15,16,22,23,24] fun K hK=>?_
 simp only[go_sem,qd,qf,qb,reduceCtorEq,encGValueValue,f28,f29,f30];apply hK
 refine rc [0,4,6,9,10,14,15,16,22,23,24] fun K hK=>?_
 obtain⟨r31,hr31,h⟩:=bind_some h;refine rnN 2 ?_;refine clN rfl rfl rfl (ev_encode_raw y10 y24 r31 hr31 _) ?_;refine zj tok 6 ?_;simp only[go_sem,qd,qf,qb,qe,reduceCtorEq,encGRaw];refine nkN hK ?_
 refine za fun Z32 hZ32=>?_
 refine rgN [0,4,6,9,10,14,15,16,22,23,24,35] ?_;refine zF rfl (fun hc33=>?_) (fun hc33=>?_)
 · rw[if_neg hc33] at h;have t34:=eq_false hc33
   refine rg tok [2,3] fun K hK=>?_
   simp only[go_sem,qd,qb,reduceCtorEq,t34];apply hK
   cases h;exact rtA
 rw[if_pos hc33] at h;have t35:=eq_true hc33;apply zd;apply hZ32;obtain⟨_u36,hu36,h⟩:=bind_some h;have gu36:=yy hu36;have f37:=(zz E35.len l18)
 refine rgE tok [0,4,6,14,15,16,22,23,24] fun K hK=>?_
 simp only[go_sem,qd,qf,qb,qe,qi,reduceCtorEq,zv,zQ,qO,qI,true_and,qT,ye,zO,yd,t35,gu36,f37,yv,qR,qX,AV.one,qB,qL,qs,qt,qk,qN];apply hK
 apply hZ27
 refine rgE tok [0,4,6,14,15,16,22,23,24] fun K hK=>?_
 simp only[go_sem,qd,qb,reduceCtorEq,hw24];apply hK
 exact⟨_,_,_,qw q24.length,⟨p24++[y24],q24,x20+1,l18++[r31.1],v19+1,rfl,rfl,rfl,hE'24,hi'24,h⟩,(.t [0] false)⟩
mutual
def xq : Nat→GValueNode→Option (List UInt8×Int)
 |0,_=>none
 |k+1,a0=>xq.body (xq k) (xu k) (yi k) a0
def xu : Nat→Int→GValueValue→Option (GRaw×Int)
 |0,_,_=>none
 |k+1,a0,a1=>xu.body (xq k) (xu k) (yi k) a0 a1
def yi : Nat→GValueNode→Option (List GRaw×Int)
 |0,_=>none
 |k+1,a0=>yi.body (xq k) (xu k) (yi k) a0
end
theorem xq.all (k:Nat):(∀ (a0:GValueNode) (r:List UInt8×Int),xq k a0=some r→ACalls qg 230 [.dp (encGValueNode a0) 0] [] (fun r' _=>r'=.tup [.ds true (qc encB r.1) (qa r.1) false,.int .i64 r.2]))∧(∀ (a0:Int) (a1:GValueValue) (r:GRaw×Int),xu k a0 a1=some r→ACalls qg 189 [.int .i64 a0,.agg (encGValueValue a1)] [] (fun r' _=>r'=.tup [.agg (encGRaw r.1),.int .i64 r.2]))∧(∀ (a0:GValueNode) (r:List GRaw×Int),yi k a0=some r→ACalls qg 145 [.dp (encGValueNode a0) 0] [] (fun r' _=>r'=.tup [.ds true (qc encGRaw r.1) (qa r.1) false,.int .i64 r.2])):=by
 induction k with
 |zero=>exact⟨(fun a0 r h=>by simp only[xq] at h; cases h),(fun a0 a1 r h=>by simp only[xu] at h; cases h),(fun a0 r h=>by simp only[yi] at h; cases h)⟩
 |succ k ih=>exact⟨(fun a0 r h=>xq.step _ _ _ ih.1 ih.2.1 ih.2.2 a0 r (by simpa only [xq] using h)),(fun a0 a1 r h=>xu.step _ _ _ ih.1 ih.2.1 ih.2.2 a0 a1 r (by simpa only [xu] using h)),(fun a0 r h=>yi.step _ _ _ ih.1 ih.2.1 ih.2.2 a0 r (by simpa only [yi] using h))⟩
theorem yi.ev (k:Nat)(a0:GValueNode)(r:List GRaw×Int)(h:yi k a0=some r)(σ:Store):ACalls qg 145 [.dp (encGValueNode a0) 0] σ (fun r' σ'=>r'=.tup [.ds true (qc encGRaw r.1) (qa r.1) false,.int .i64 r.2]∧σ'=σ):=
 ((xq.all k).2.2 a0 r h).c σ
def w6 (a0:GTree):Option (List GRaw×Int):=
 (ZE a0).bind fun r1=>(if ((!r1.2)||(!(decide (a0.fKind=3))))=true then some (([]:List GRaw),1) else (yn r1.1).bind fun r5=>(yi xo r5).bind fun r6=>some (r6.1,r6.2))
theorem w6.ok (a0:GTree)(r:List GRaw×Int)(h:w6 a0=some r):ACalls qg 95 [.agg (cellsGTree a0)] [] (fun r' _=>r'=.tup [.ds true (qc encGRaw r.1) (qa r.1) false,.int .i64 r.2]):=by
 refine zf (rs:=[.tmp 2,.tmp 3]) tok Tryz.func95 rfl Tryz.ntmps95 rfl Tryz.call95 (by simp) ?_;refine zk [(0,.agg (cellsGTree a0))] ⟨rfl,trivial⟩ ?_;unfold w6 at h
 refine rg tok [1] fun K hK=>?_
 simp only[go_sem,qd,qb,qe,reduceCtorEq,cellsGTree];apply hK
 refine rc [1,4,5] fun K hK=>?_
 obtain⟨r1,hr1,h⟩:=bind_some h;refine rnN 1 ?_;refine clN rfl rfl rfl (ZE.ev a0 r1 hr1 _) ?_;have f2:=wD r1.1;unfold AV.one at f2;refine zj tok 6 ?_;simp only[go_sem,qd,qf,qb,qe,encGValueValue,f2];refine nkN hK ?_
 refine za fun Z3 hZ3=>?_
 refine rc [4,17] fun K hK=>?_
 refine rnN 3 ?_;refine zo 4 (fun L τ=>L=[(4,.op 1 0 0),(17,.bool ((!r1.2)||(!(decide (a0.fKind=3)))))]∧τ=[.cells 0 (cellsGTree a0),.cells 0 [ifcV r1.1]]) ?_ ?_
 · refine zP (b:=(!r1.2)) 13 rfl (fun hg13=>?_) (fun hg13=>?_)
   · refine rnN 4 ?_;refine zb ⟨rfl,_,_,⟨rfl,rfl⟩,.b hg13⟩
   refine rnN 4 ?_;refine zb ⟨rfl,_,_,⟨rfl,rfl⟩,.b hg13⟩
 rintro _ _ ⟨rfl,rfl⟩;refine nkN hK ?_;refine zw (b:=((!r1.2)||(!(decide (a0.fKind=3))))) rfl (fun hc4=>?_) (fun hc4=>?_)
 · rw[if_pos hc4] at h;refine rgN [2,3] ?_;cases h;exact rtA
 rw[xU hc4] at h;apply zd;apply hZ3
 refine rc [2,3] fun K hK=>?_
 obtain⟨r5,hr5,h⟩:=bind_some h;refine rnN 1 ?_;refine clN rfl rfl rfl (yn.ev r1.1 r5 hr5 _) ?_;obtain⟨r6,hr6,h⟩:=bind_some h;refine clN rfl rfl rfl (yi.ev xo r5 r6 hr6 _) ?_;refine rnN 4 ?_;refine nkN hK ?_;cases h;exact rtA
theorem w6.ev (a0:GTree)(r:List GRaw×Int)(h:w6 a0=some r)(σ:Store):ACalls qg 95 [.agg (cellsGTree a0)] σ (fun r' σ'=>r'=.tup [.ds true (qc encGRaw r.1) (qa r.1) false,.int .i64 r.2]∧σ'=σ):=
 (w6.ok a0 r h).c σ
def wj (a0:GTree):Option (List UInt8×Int):=
 (w6 a0).bind fun r1=>(if r1.2=0 then (yF r1.1).bind fun r6=>some (r6.1,r6.2) else some (([]:List UInt8),r1.2))
theorem wj.ok (a0:GTree)(r:List UInt8×Int)(h:wj a0=some r):ACalls qg 62 [.agg (cellsGTree a0)] [] (fun r' _=>r'=.tup [.ds true (qc encB r.1) (qa r.1) false,.int .i64 r.2]):=by
 refine zf (rs:=[.tmp 2,.tmp 3]) tok Tryz.func62 rfl Tryz.ntmps62 rfl Tryz.call62 (by simp) ?_;refine zk [(0,.agg (cellsGTree a0))] ⟨rfl,trivial⟩ ?_;unfold wj at h
 refine rg tok [1] fun K hK=>?_
 simp only[go_sem,qd,qb,qe,reduceCtorEq,cellsGTree];apply hK
 refine rc [4,5] fun K hK=>?_
 obtain⟨r1,hr1,h⟩:=bind_some h;refine rnN 1 ?_;refine clN rfl rfl rfl (w6.ev a0 r1 hr1 _) ?_;refine rnN 5 ?_;refine nkN hK ?_
 refine za fun Z2 hZ2=>?_
 refine rgN [4,5,12] ?_;refine zF rfl (fun hc3=>?_) (fun hc3=>?_)
 · rw[if_neg hc3] at h;have t4:=eq_false hc3
   refine rg tok [2,3] fun K hK=>?_
   simp only[go_sem,qd,qb,t4];apply hK
   cases h;exact rtA
 rw[if_pos hc3] at h;have t5:=eq_true hc3;apply zd;apply hZ2
 refine rc [2,3] fun K hK=>?_
 obtain⟨r6,hr6,h⟩:=bind_some h;refine zj tok 1 ?_;simp only[go_sem,qd,qb,t5];refine clN rfl rfl rfl (yF.ev r1.1 r6 hr6 _) ?_;refine rnN 4 ?_;refine nkN hK ?_;cases h;exact rtA
theorem wj.ev (a0:GTree)(r:List UInt8×Int)(h:wj a0=some r)(σ:Store):ACalls qg 62 [.agg (cellsGTree a0)] σ (fun r' σ'=>r'=.tup [.ds true (qc encB r.1) (qa r.1) false,.int .i64 r.2]∧σ'=σ):=
 (wj.ok a0 r h).c σ
def yW.j6 (a0:xh)(l2:List GAdaptPair)(v3:Nat)(l4:List (GAdaptPair×Int))(x5:Int):Option (Int×xh):=
 some (x5,(⟨a0.ffrom,a0.fto,l2,v3,l4⟩:xh))
def yW (a0:xh)(a1:GAdaptPair):Option (Int×xh):=
 (if (!((Ya a0.fplace a1).isSome))=true then (Xm (qa a0.fl+1) 32).bind fun _u9=>(yW.j6 a0 (a0.fl++[a1]) (a0.vl+1) (setM a0.fplace a1 (qa a0.fl:Int)) (qa a0.fl:Int)) else (yW.j6 a0 a0.fl a0.vl a0.fplace ((Ya a0.fplace a1).getD 0)))
theorem yW.ok (a0:xh)(a1:GAdaptPair)(r:Int×xh)(h:yW a0 a1=some r):ACalls qg 150 [.op 0 0 0,.agg (encGAdaptPair a1)] [.cells 0 [.str a0.ffrom.fName,.ds true (qc encGMessage a0.ffrom.fMessages) (qa a0.ffrom.fMessages) false,.ds true (qc encGEnumeration a0.ffrom.fEnums) (qa a0.ffrom.fEnums) false,.ds true (qc encGMethod a0.ffrom.fMethods) (qa a0.ffrom.fMethods) false,.str a0.fto.fName,.ds true (qc encGMessage a0.fto.fMessages) (qa a0.fto.fMessages) false,.ds true (qc encGEnumeration a0.fto.fEnums) (qa a0.fto.fEnums) false,.ds true (qc encGMethod a0.fto.fMethods) (qa a0.fto.fMethods) false,.os true 2 1 (a0.vl) 0 (qa a0.fl) false,.mp 2],.cells (a0.vl) (qc encGAdaptPair a0.fl),.map (zR kvGAdaptPair (AV.int .i64) a0.fplace)] (fun r' σ'=>r'=.int .i64 r.1∧σ'=[.cells 0 [.str r.2.ffrom.fName,.ds true (qc encGMessage r.2.ffrom.fMessages) (qa r.2.ffrom.fMessages) false,.ds true (qc encGEnumeration r.2.ffrom.fEnums) (qa r.2.ffrom.fEnums) false,.ds true (qc encGMethod r.2.ffrom.fMethods) (qa r.2.ffrom.fMethods) false,.str r.2.fto.fName,.ds true (qc encGMessage r.2.fto.fMessages) (qa r.2.fto.fMessages) false,.ds true (qc encGEnumeration r.2.fto.fEnums) (qa r.2.fto.fEnums) false,.ds true (qc encGMethod r.2.fto.fMethods) (qa r.2.fto.fMethods) false,.os true 2 1 (r.2.vl) 0 (qa r.2.fl) false,.mp 2],.cells (r.2.vl) (qc encGAdaptPair r.2.fl),.map (zR kvGAdaptPair (AV.int .i64) r.2.fplace)]):=by
 refine we [0,1,2] (rs:=[.tmp 4]) tok Tryz.func150 rfl Tryz.ntmps150 rfl Tryz.call150 (by simp) rfl ?_;refine zk [(0,.op 0 0 0),(1,.agg (encGAdaptPair a1))] ⟨rfl,rfl,trivial⟩ ?_;unfold yW at h
 refine rg tok [0,3] fun K hK=>?_
 simp only[go_sem,qd,qb,qe,reduceCtorEq,encGAdaptPair];apply hK
 have f1:=fun (o0:AObj) (o1:AObj) (x:Store)=>YM (T:=tab) (t:=239) (ek:=kvGAdaptPair) (ev:=(AV.int .i64)) (z:=0) KA245 rfl rfl rfl rfl a0.fplace a1 true (o0::o1::.map (zR kvGAdaptPair (AV.int .i64) a0.fplace)::x) 2 rfl
 simp only[kvGAdaptPair,encGAdaptPair] at f1
 refine rd [0,3,5,6] fun K hK=>?_
 refine DW.start (T:=tab) [.any,.any,.any,.at [],.at [],.at [],.any,.any,.any,.any,.any] [] ?_;refine DW.runN tok 8 ?_;simp only[go_sem,qd,qf,qb,qe,reduceCtorEq,Yu,if_false,if_true,f1];refine DW.runN tok 3 ?_;simp only[go_sem,qd,qb,qe,reduceCtorEq];refine DW.fin tok (by decide +kernel) rfl ?_;simp only[zn,upd,qb,reduceIte,ym,y1];apply hK
 refine yR (fun L τ=>∃ (l2:List GAdaptPair) (v3:Nat) (l4:List (GAdaptPair×Int)) (x5:Int),L=[(5,.int .i64 x5)]∧τ=[.cells 0 [.str a0.ffrom.fName,.ds true (qc encGMessage a0.ffrom.fMessages) (qa a0.ffrom.fMessages) false,.ds true (qc encGEnumeration a0.ffrom.fEnums) (qa a0.ffrom.fEnums) false,.ds true (qc encGMethod a0.ffrom.fMethods) (qa a0.ffrom.fMethods) false,.str a0.fto.fName,.ds true (qc encGMessage a0.fto.fMessages) (qa a0.fto.fMessages) false,.ds true (qc encGEnumeration a0.fto.fEnums) (qa a0.fto.fEnums) false,.ds true (qc encGMethod a0.fto.fMethods) (qa a0.fto.fMethods) false,.os true 2 1 v3 0 (qa l2) false,.mp 2],.cells v3 (qc encGAdaptPair l2),.map (zR kvGAdaptPair (AV.int .i64) l4)]∧yW.j6 a0 l2 v3 l4 x5=some r) ?_ ?_
 · refine rgN [0,3,5,17] ?_;refine zw (b:=(!((Ya a0.fplace a1).isSome))) rfl (fun hc7=>?_) (fun hc7=>?_)
   · rw[if_pos hc7] at h;refine rgN [0,3,5] ?_
     have f8:=fun (o0:AObj) (o1:AObj) (x:Store)=>XA (T:=tab) (t:=239) (ek:=kvGAdaptPair) (ev:=(AV.int .i64)) KA245 rfl rfl a0.fplace a1 (qa a0.fl:Int) (o0::o1::.map (zR kvGAdaptPair (AV.int .i64) a0.fplace)::x) 2 rfl
     simp only[kvGAdaptPair,encGAdaptPair] at f8
     refine rd [0,3,5] fun K hK=>?_
     refine DW.start (T:=tab) [.any,.any,.any,.at [],.at [],.any,.eff] [] ?_;refine DW.runN tok 7 ?_;simp only[go_sem,qd,qf,qb,qe,reduceCtorEq,f8];refine DW.fin tok (by decide +kernel) rfl ?_;simp only[zn,upd,qb,reduceIte,ym,y1];apply hK
     obtain⟨_u9,hu9,h⟩:=bind_some h;have gu9:=yy hu9;have f10:=(zz E240.len a0.fl)
     refine rdE [5] fun K hK=>?_
     refine DW.start (T:=tab) [.any,.any,.any,.any,.own 1 [],.at [],.eff,.eff,.any,.any,.eff] [(1,[])] ?_;refine DW.runN tok 8 ?_;simp only[go_sem,qd,qf,qb,qe,qi,reduceCtorEq,zv,zQ,qO,qI,true_and,qT,ye,zO,yd,gu9,f10,yv,qR,qX,AV.one,qB,qL,qs,qt,qk,qN];refine DW.runN tok 3 ?_;simp only[go_sem,qd,qf,qb,qe,reduceCtorEq,qs,qt,qk];refine DW.fin tok (by decide +kernel) rfl ?_;simp only[zn,upd,qb,reduceIte,ym,y1];apply hK
     exact⟨_,_,⟨a0.fl++[a1],a0.vl+1,setM a0.fplace a1 (qa a0.fl:Int),(qa a0.fl:Int),rfl,rfl,h⟩,(.t [0,1,2] false)⟩
   rw[xU hc7] at h;apply zd;exact⟨_,_,⟨a0.fl,a0.vl,a0.fplace,(Ya a0.fplace a1).getD 0,rfl,rfl,h⟩,(.t [0,1,2] false)⟩
 rintro _ _ ⟨l2,v3,l4,x5,rfl,rfl,h⟩;unfold yW.j6 at h;refine rgN [4] ?_;apply zE;cases h;simp only[wg,zX,z7,yN,exists_eq_left',go_sem,qe];refine⟨by decide,by simp,?_,?_⟩
 · first|rfl|(simp only[go_sem,qd,qf,qb,qe,qi,qm,reduceIte,reduceCtorEq,push_cast,if_true,qv,qk,qn,qj,qx,qo,qE,qz,qr,qq,qp,zg,encGAdaptPair,encGSchema]<;>rfl)
 first|rfl|(simp only[go_sem,qb,qe,reduceCtorEq,push_cast,if_true,qk,qn,qj,qo,qr,qq,zg]<;>rfl)
def yV.j9 (m0__03:GSchema)(m0__14:GSchema)(l5:List GAdaptPair)(v6:Nat)(l7:List (GAdaptPair×Int))(m4_8:GStep):Option (GStep×Bool×xh):=
 some (m4_8,true,(⟨m0__03,m0__14,l5,v6,l7⟩:xh))
def yV (a0:xh)(a1:GMessage)(a2:GMessage)(a3:Int):Option (GStep×Bool×xh):=
 bnd (yG a1 a3) fun r1=>bnd (yG a2 a3) fun r2=>(if (((!r1.2)||(!r2.2))||(!(decide (r1.1.fLabel=r2.1.fLabel))))=true then some ((⟨0,0,0⟩:GStep),false,a0) else (if ((decide (r1.1.fType.fKind=7))&&(decide (r2.1.fType.fKind=7)))=true then (yW a0 (⟨r1.1.fType.fName,r2.1.fType.fName⟩:GAdaptPair)).bind fun r14=>(if r1.1.fLabel=1 then (yV.j9 r14.2.ffrom r14.2.fto r14.2.fl r14.2.vl r14.2.fplace (⟨4,a3,r14.1⟩:GStep)) else (yV.j9 r14.2.ffrom r14.2.fto r14.2.fl r14.2.vl r14.2.fplace (⟨3,a3,r14.1⟩:GStep))) else (if ((decide (r1.1.fType.fKind=2))&&(decide (r2.1.fType.fKind=1)))=true then (yV.j9 a0.ffrom a0.fto a0.fl a0.vl a0.fplace (⟨2,a3,0⟩:GStep)) else (if ((!(decide (r1.1.fType.fKind=r2.1.fType.fKind)))&&((!(decide (r1.1.fType.fKind=1)))||(!(decide (r2.1.fType.fKind=2)))))=true then some ((⟨0,0,0⟩:GStep),false,a0) else (yV.j9 a0.ffrom a0.fto a0.fl a0.vl a0.fplace (⟨1,a3,0⟩:GStep))))))
theorem yV.ok (a0:xh)(a1:GMessage)(a2:GMessage)(a3:Int)(r:GStep×Bool×xh)(h:yV a0 a1 a2 a3=some r):ACalls qg 151 [.op 0 0 0,.agg (encGMessage a1),.agg (encGMessage a2),.int .i64 a3] [.cells 0 [.str a0.ffrom.fName,.ds true (qc encGMessage a0.ffrom.fMessages) (qa a0.ffrom.fMessages) false,.ds true (qc encGEnumeration a0.ffrom.fEnums) (qa a0.ffrom.fEnums) false,.ds true (qc encGMethod a0.ffrom.fMethods) (qa a0.ffrom.fMethods) false,.str a0.fto.fName,.ds true (qc encGMessage a0.fto.fMessages) (qa a0.fto.fMessages) false,.ds true (qc encGEnumeration a0.fto.fEnums) (qa a0.fto.fEnums) false,.ds true (qc encGMethod a0.fto.fMethods) (qa a0.fto.fMethods) false,.os true 2 1 (a0.vl) 0 (qa a0.fl) false,.mp 2],.cells (a0.vl) (qc encGAdaptPair a0.fl),.map (zR kvGAdaptPair (AV.int .i64) a0.fplace)] (fun r' σ'=>r'=.tup [.agg (encGStep r.1),.bool r.2.1]∧σ'=[.cells 0 [.str r.2.2.ffrom.fName,.ds true (qc encGMessage r.2.2.ffrom.fMessages) (qa r.2.2.ffrom.fMessages) false,.ds true (qc encGEnumeration r.2.2.ffrom.fEnums) (qa r.2.2.ffrom.fEnums) false,.ds true (qc encGMethod r.2.2.ffrom.fMethods) (qa r.2.2.ffrom.fMethods) false,.str r.2.2.fto.fName,.ds true (qc encGMessage r.2.2.fto.fMessages) (qa r.2.2.fto.fMessages) false,.ds true (qc encGEnumeration r.2.2.fto.fEnums) (qa r.2.2.fto.fEnums) false,.ds true (qc encGMethod r.2.2.fto.fMethods) (qa r.2.2.fto.fMethods) false,.os true 2 1 (r.2.2.vl) 0 (qa r.2.2.fl) false,.mp 2],.cells (r.2.2.vl) (qc encGAdaptPair r.2.2.fl),.map (zR kvGAdaptPair (AV.int .i64) r.2.2.fplace)]):=by
 refine we [0,1,2] (rs:=[.cell 8 248,.tmp 9]) tok Tryz.func151 rfl Tryz.ntmps151 rfl Tryz.call151 (by simp) rfl ?_;refine zk [(0,.op 0 0 0),(1,.agg (encGMessage a1)),(2,.agg (encGMessage a2)),(3,.int .i64 a3)] ⟨rfl,rfl,rfl,rfl,trivial⟩ ?_;unfold yV at h
 refine rg tok [0,3,5,6,8] fun K hK=>?_
 simp only[go_sem,qd,qb,qe,reduceCtorEq,encGMessage];apply hK
 refine rc [0,3,6,8,10,11] fun K hK=>?_
 obtain⟨r1,hr1,h⟩:=zH h;refine rnN 2 ?_;refine clN rfl rfl rfl (yG.ev a1 a3 r1 hr1 _) ?_;refine zj tok 6 ?_;simp only[go_sem,qd,qf,qb,qe,reduceCtorEq,encGField];refine nkN hK ?_
 refine rc [0,3,8,10,11,12,13] fun K hK=>?_
 obtain⟨r2,hr2,h⟩:=zH h;refine rnN 2 ?_;refine clN rfl rfl rfl (yG.ev a2 a3 r2 hr2 _) ?_;refine zj tok 6 ?_;simp only[go_sem,qd,qf,qb,qe,reduceCtorEq,encGField];refine nkN hK ?_;refine rgN [0,8,10,11,12,13,14] ?_;refine yR (fun L τ=>∃ (m0__03:GSchema) (m0__14:GSchema) (l5:List GAdaptPair) (v6:Nat) (l7:List (GAdaptPair×Int)) (m4_8:GStep),L=[(8,.op 3 0 0),(14,.op 4 0 0)]∧τ=[.cells 0 [.str m0__03.fName,.ds true (qc encGMessage m0__03.fMessages) (qa m0__03.fMessages) false,.ds true (qc encGEnumeration m0__03.fEnums) (qa m0__03.fEnums) false,.ds true (qc encGMethod m0__03.fMethods) (qa m0__03.fMethods) false,.str m0__14.fName,.ds true (qc encGMessage m0__14.fMessages) (qa m0__14.fMessages) false,.ds true (qc encGEnumeration m0__14.fEnums) (qa m0__14.fEnums) false,.ds true (qc encGMethod m0__14.fMethods) (qa m0__14.fMethods) false,.os true 2 1 v6 0 (qa l5) false,.mp 2],.cells v6 (qc encGAdaptPair l5),.map (zR kvGAdaptPair (AV.int .i64) l7),.cells 0 [.int .i64 0,.int .i64 0,.int .i64 0],.cells 0 [.int .i64 m4_8.fOp,.int .i64 m4_8.fTag,.int .i64 m4_8.fSub]]∧yV.j9 m0__03 m0__14 l5 v6 l7 m4_8=some r) ?_ ?_
 · refine rd [0,8,10,11,12,13,14,15,16] fun K hK=>?_
   refine DW.start (T:=tab) [.any,.any,.at [],.any,.any,.at [],.any,.any] [] ?_;refine DW.runN tok 8 ?_;simp only[go_sem,qd,qb,qe,reduceCtorEq];refine DW.fin tok (by decide +kernel) rfl ?_;simp only[zn,upd,qb,reduceIte,ym,y1];apply hK
   apply ze
   refine rc [0,8,10,12,14,15,16,37] fun K hK=>?_
   refine rnN 3 ?_;refine zo 3 (fun L τ=>L=[(0,.op 0 0 0),(8,.op 5 0 0),(10,.op 6 0 0),(12,.op 7 0 0),(14,.op 8 0 0),(15,.int .i64 r1.1.fType.fKind),(16,.int .i64 r2.1.fType.fKind),(43,.bool ((!r1.2)||(!r2.2)))]∧τ=[.cells 0 [.str a0.ffrom.fName,.ds true (qc encGMessage a0.ffrom.fMessages) (qa a0.ffrom.fMessages) false,.ds true (qc encGEnumeration a0.ffrom.fEnums) (qa a0.ffrom.fEnums) false,.ds true (qc encGMethod a0.ffrom.fMethods) (qa a0.ffrom.fMethods) false,.str a0.fto.fName,.ds true (qc encGMessage a0.fto.fMessages) (qa a0.fto.fMessages) false,.ds true (qc encGEnumeration a0.fto.fEnums) (qa a0.fto.fEnums) false,.ds true (qc encGMethod a0.fto.fMethods) (qa a0.fto.fMethods) false,.os true 2 1 (a0.vl) 0 (qa a0.fl) false,.mp 2],.cells (a0.vl) (qc encGAdaptPair a0.fl),.map (zR kvGAdaptPair (AV.int .i64) a0.fplace),.cells 0 (encGMessage a1),.cells 0 (encGMessage a2),.cells 0 [.int .i64 0,.int .i64 0,.int .i64 0],.cells 0 (encGField r1.1),.cells 0 (encGField r2.1),.cells 0 [.int .i64 1,.int .i64 a3,.int .i64 0]]) ?_ ?_
   · refine zP (b:=(!r1.2)) 40 rfl (fun hg40=>?_) (fun hg40=>?_)
     · refine rnN 3 ?_;refine zb ⟨rfl,_,_,⟨rfl,rfl⟩,.b hg40⟩
     refine rnN 3 ?_;refine zb ⟨rfl,_,_,⟨rfl,rfl⟩,.b hg40⟩
   rintro _ _ ⟨rfl,rfl⟩;refine rnN 1 ?_;refine zo 6 (fun L τ=>L=[(0,.op 0 0 0),(8,.op 5 0 0),(10,.op 6 0 0),(12,.op 7 0 0),(14,.op 8 0 0),(15,.int .i64 r1.1.fType.fKind),(16,.int .i64 r2.1.fType.fKind),(50,.bool (((!r1.2)||(!r2.2))||(!(decide (r1.1.fLabel=r2.1.fLabel)))))]∧τ=[.cells 0 [.str a0.ffrom.fName,.ds true (qc encGMessage a0.ffrom.fMessages) (qa a0.ffrom.fMessages) false,.ds true (qc encGEnumeration a0.ffrom.fEnums) (qa a0.ffrom.fEnums) false,.ds true (qc encGMethod a0.ffrom.fMethods) (qa a0.ffrom.fMethods) false,.str a0.fto.fName,.ds true (qc encGMessage a0.fto.fMessages) (qa a0.fto.fMessages) false,.ds true (qc encGEnumeration a0.fto.fEnums) (qa a0.fto.fEnums) false,.ds true (qc encGMethod a0.fto.fMethods) (qa a0.fto.fMethods) false,.os true 2 1 (a0.vl) 0 (qa a0.fl) false,.mp 2],.cells (a0.vl) (qc encGAdaptPair a0.fl),.map (zR kvGAdaptPair (AV.int .i64) a0.fplace),.cells 0 (encGMessage a1),.cells 0 (encGMessage a2),.cells 0 [.int .i64 0,.int .i64 0,.int .i64 0],.cells 0 (encGField r1.1),.cells 0 (encGField r2.1),.cells 0 [.int .i64 1,.int .i64 a3,.int .i64 0]]) ?_ ?_
   · refine zP (b:=((!r1.2)||(!r2.2))) 44 rfl (fun hg44=>?_) (fun hg44=>?_)
     · refine rnN 6 ?_;refine zb ⟨rfl,_,_,⟨rfl,rfl⟩,.b hg44⟩
     refine rnN 6 ?_;refine zb ⟨rfl,_,_,⟨rfl,rfl⟩,.b hg44⟩
   rintro _ _ ⟨rfl,rfl⟩;refine rnN 1 ?_;refine nkN hK ?_;refine zw (b:=(((!r1.2)||(!r2.2))||(!(decide (r1.1.fLabel=r2.1.fLabel))))) rfl (fun hc10=>?_) (fun hc10=>?_)
   · rw[if_pos hc10] at h;refine rgN [8,9] ?_;apply zE;cases h;simp only[wg,zX,z7,yN,exists_eq_left',go_sem,qf,qb,qe,encGStep];refine⟨by decide,by simp,?_,?_⟩
     · first|rfl|(simp only[go_sem,qd,qf,qb,qe,qi,qm,reduceIte,reduceCtorEq,push_cast,if_true,qv,qk,qn,qj,qx,qo,qE,qz,qr,qq,qp,zg,encGAdaptPair,encGSchema,encGStep]<;>rfl)
     first|rfl|(simp only[go_sem,qb,qe,reduceCtorEq,push_cast,if_true,qk,qn,qj,qo,qr,qq,zg]<;>rfl)
   rw[xU hc10] at h
   refine rc [0,8,10,12,14,15,16,52] fun K hK=>?_
   refine rnN 3 ?_;refine zo 3 (fun L τ=>L=[(0,.op 0 0 0),(8,.op 5 0 0),(10,.op 6 0 0),(12,.op 7 0 0),(14,.op 8 0 0),(15,.int .i64 r1.1.fType.fKind),(16,.int .i64 r2.1.fType.fKind),(58,.bool ((decide (r1.1.fType.fKind=7))&&(decide (r2.1.fType.fKind=7))))]∧τ=[.cells 0 [.str a0.ffrom.fName,.ds true (qc encGMessage a0.ffrom.fMessages) (qa a0.ffrom.fMessages) false,.ds true (qc encGEnumeration a0.ffrom.fEnums) (qa a0.ffrom.fEnums) false,.ds true (qc encGMethod a0.ffrom.fMethods) (qa a0.ffrom.fMethods) false,.str a0.fto.fName,.ds true (qc encGMessage a0.fto.fMessages) (qa a0.fto.fMessages) false,.ds true (qc encGEnumeration a0.fto.fEnums) (qa a0.fto.fEnums) false,.ds true (qc encGMethod a0.fto.fMethods) (qa a0.fto.fMethods) false,.os true 2 1 (a0.vl) 0 (qa a0.fl) false,.mp 2],.cells (a0.vl) (qc encGAdaptPair a0.fl),.map (zR kvGAdaptPair (AV.int .i64) a0.fplace),.cells 0 (encGMessage a1),.cells 0 (encGMessage a2),.cells 0 [.int .i64 0,.int .i64 0,.int .i64 0],.cells 0 (encGField r1.1),.cells 0 (encGField r2.1),.cells 0 [.int .i64 1,.int .i64 a3,.int .i64 0]]) ?_ ?_
   · refine xj 55 rfl (fun hg55=>?_) (fun hg55=>?_)
     · have t11:=eq_true hg55;refine rnN 3 ?_;refine zb ⟨rfl,_,_,⟨rfl,rfl⟩,.p t11⟩
     have t12:=eq_false hg55;refine rnN 3 ?_;refine zb ⟨rfl,_,_,⟨rfl,rfl⟩,.p t12⟩
   rintro _ _ ⟨rfl,rfl⟩;refine rnN 1 ?_;refine nkN hK ?_;refine zw (b:=((decide (r1.1.fType.fKind=7))&&(decide (r2.1.fType.fKind=7)))) rfl (fun hc13=>?_) (fun hc13=>?_)
   · rw[if_pos hc13] at h
     refine rc [8,10,14] fun K hK=>?_
     obtain⟨r14,hr14,h⟩:=bind_some h;refine rnN 8 ?_;refine clN rfl rfl rfl (@id (ACalls qg 150 [.op 0 0 0,.agg [.str r1.1.fType.fName,.str r2.1.fType.fName]] [.cells 0 [.str a0.ffrom.fName,.ds true (qc encGMessage a0.ffrom.fMessages) (qa a0.ffrom.fMessages) false,.ds true (qc encGEnumeration a0.ffrom.fEnums) (qa a0.ffrom.fEnums) false,.ds true (qc encGMethod a0.ffrom.fMethods) (qa a0.ffrom.fMethods) false,.str a0.fto.fName,.ds true (qc encGMessage a0.fto.fMessages) (qa a0.fto.fMessages) false,.ds true (qc encGEnumeration a0.fto.fEnums) (qa a0.fto.fEnums) false,.ds true (qc encGMethod a0.fto.fMethods) (qa a0.fto.fMethods) false,.os true 2 1 (a0.vl) 0 (qa a0.fl) false,.mp 2],.cells (a0.vl) (qc encGAdaptPair a0.fl),.map (zR kvGAdaptPair (AV.int .i64) a0.fplace),.cells 0 (encGMessage a1),.cells 0 (encGMessage a2),.cells 0 [.int .i64 0,.int .i64 0,.int .i64 0],.cells 0 (encGField r1.1),.cells 0 (encGField r2.1),.cells 0 [.int .i64 1,.int .i64 a3,.int .i64 0]] (fun r' σ'=>r'=.int .i64 r14.1∧σ'=[.cells 0 [.str r14.2.ffrom.fName,.ds true (qc encGMessage r14.2.ffrom.fMessages) (qa r14.2.ffrom.fMessages) false,.ds true (qc encGEnumeration r14.2.ffrom.fEnums) (qa r14.2.ffrom.fEnums) false,.ds true (qc encGMethod r14.2.ffrom.fMethods) (qa r14.2.ffrom.fMethods) false,.str r14.2.fto.fName,.ds true (qc encGMessage r14.2.fto.fMessages) (qa r14.2.fto.fMessages) false,.ds true (qc encGEnumeration r14.2.fto.fEnums) (qa r14.2.fto.fEnums) false,.ds true (qc encGMethod r14.2.fto.fMethods) (qa r14.2.fto.fMethods) false,.os true 2 1 (r14.2.vl) 0 (qa r14.2.fl) false,.mp 2],.cells (r14.2.vl) (qc encGAdaptPair r14.2.fl),.map (zR kvGAdaptPair (AV.int .i64) r14.2.fplace),.cells 0 (encGMessage a1),.cells 0 (encGMessage a2),.cells 0 [.int .i64 0,.int .i64 0,.int .i64 0],.cells 0 (encGField r1.1),.cells 0 (encGField r2.1),.cells 0 [.int .i64 1,.int .i64 a3,.int .i64 0]])) ((yW.ok a0 (⟨r1.1.fType.fName,r2.1.fType.fName⟩:GAdaptPair) r14 hr14).ix [0,1,2])) ?_;refine zj tok 4 ?_;simp only[go_sem,qd,qf,qb,qe,reduceCtorEq,encGStep];refine nkN hK ?_;refine rgN [8,14,72] ?_;refine zF rfl (fun hc15=>?_) (fun hc15=>?_)
     · rw[if_pos hc15] at h;have t16:=eq_true hc15
       refine rgE tok [8,14] fun K hK=>?_
       simp only[go_sem,qd,qf,qb,qe,t16];apply hK
       exact⟨_,_,⟨r14.2.ffrom,r14.2.fto,r14.2.fl,r14.2.vl,r14.2.fplace,(⟨4,a3,r14.1⟩:GStep),rfl,rfl,h⟩,(.t [0,1,2,5,8] false)⟩
     rw[if_neg hc15] at h;have t17:=eq_false hc15;apply zd;exact⟨_,_,⟨r14.2.ffrom,r14.2.fto,r14.2.fl,r14.2.vl,r14.2.fplace,(⟨3,a3,r14.1⟩:GStep),rfl,rfl,h⟩,(.t [0,1,2,5,8] false)⟩
   rw[xU hc13] at h
   refine rc [8,14,15,16,74] fun K hK=>?_
   refine rnN 3 ?_;refine zo 3 (fun L τ=>L=[(8,.op 5 0 0),(14,.op 8 0 0),(15,.int .i64 r1.1.fType.fKind),(16,.int .i64 r2.1.fType.fKind),(80,.bool ((decide (r1.1.fType.fKind=2))&&(decide (r2.1.fType.fKind=1))))]∧τ=[.cells 0 [.str a0.ffrom.fName,.ds true (qc encGMessage a0.ffrom.fMessages) (qa a0.ffrom.fMessages) false,.ds true (qc encGEnumeration a0.ffrom.fEnums) (qa a0.ffrom.fEnums) false,.ds true (qc encGMethod a0.ffrom.fMethods) (qa a0.ffrom.fMethods) false,.str a0.fto.fName,.ds true (qc encGMessage a0.fto.fMessages) (qa a0.fto.fMessages) false,.ds true (qc encGEnumeration a0.fto.fEnums) (qa a0.fto.fEnums) false,.ds true (qc encGMethod a0.fto.fMethods) (qa a0.fto.fMethods) false,.os true 2 1 (a0.vl) 0 (qa a0.fl) false,.mp 2],.cells (a0.vl) (qc encGAdaptPair a0.fl),.map (zR kvGAdaptPair (AV.int .i64) a0.fplace),.cells 0 (encGMessage a1),.cells 0 (encGMessage a2),.cells 0 [.int .i64 0,.int .i64 0,.int .i64 0],.cells 0 (encGField r1.1),.cells 0 (encGField r2.1),.cells 0 [.int .i64 1,.int .i64 a3,.int .i64 0]]) ?_ ?_
   · refine xj 77 rfl (fun hg77=>?_) (fun hg77=>?_)
     · have t18:=eq_true hg77;refine rnN 3 ?_;refine zb ⟨rfl,_,_,⟨rfl,rfl⟩,.p t18⟩
     have t19:=eq_false hg77;refine rnN 3 ?_;refine zb ⟨rfl,_,_,⟨rfl,rfl⟩,.p t19⟩
   rintro _ _ ⟨rfl,rfl⟩;refine rnN 1 ?_;refine nkN hK ?_;refine zw (b:=((decide (r1.1.fType.fKind=2))&&(decide (r2.1.fType.fKind=1)))) rfl (fun hc20=>?_) (fun hc20=>?_)
   · rw[if_pos hc20] at h
     refine rgE tok [8,14] fun K hK=>?_
     simp only[go_sem,qd,qf,qb,qe];apply hK
     exact⟨_,_,⟨a0.ffrom,a0.fto,a0.fl,a0.vl,a0.fplace,(⟨2,a3,0⟩:GStep),rfl,rfl,h⟩,(.t [0,1,2,5,8] false)⟩
   rw[xU hc20] at h
   refine rc [8,14,82] fun K hK=>?_
   refine rnN 4 ?_;refine zo 7 (fun L τ=>L=[(8,.op 5 0 0),(14,.op 8 0 0),(93,.bool ((!(decide (r1.1.fType.fKind=r2.1.fType.fKind)))&&((!(decide (r1.1.fType.fKind=1)))||(!(decide (r2.1.fType.fKind=2))))))]∧τ=[.cells 0 [.str a0.ffrom.fName,.ds true (qc encGMessage a0.ffrom.fMessages) (qa a0.ffrom.fMessages) false,.ds true (qc encGEnumeration a0.ffrom.fEnums) (qa a0.ffrom.fEnums) false,.ds true (qc encGMethod a0.ffrom.fMethods) (qa a0.ffrom.fMethods) false,.str a0.fto.fName,.ds true (qc encGMessage a0.fto.fMessages) (qa a0.fto.fMessages) false,.ds true (qc encGEnumeration a0.fto.fEnums) (qa a0.fto.fEnums) false,.ds true (qc encGMethod a0.fto.fMethods) (qa a0.fto.fMethods) false,.os true 2 1 (a0.vl) 0 (qa a0.fl) false,.mp 2],.cells (a0.vl) (qc encGAdaptPair a0.fl),.map (zR kvGAdaptPair (AV.int .i64) a0.fplace),.cells 0 (encGMessage a1),.cells 0 (encGMessage a2),.cells 0 [.int .i64 0,.int .i64 0,.int .i64 0],.cells 0 (encGField r1.1),.cells 0 (encGField r2.1),.cells 0 [.int .i64 1,.int .i64 a3,.int .i64 0]]) ?_ ?_
   · refine xj 86 rfl (fun hg86=>?_) (fun hg86=>?_)
     · have t21:=eq_false hg86;refine rnN 3 ?_;refine zo 3 (fun L τ=>L=[(8,.op 5 0 0),(14,.op 8 0 0),(86,.bool true),(92,.bool ((!(decide (r1.1.fType.fKind=1)))||(!(decide (r2.1.fType.fKind=2)))))]∧τ=[.cells 0 [.str a0.ffrom.fName,.ds true (qc encGMessage a0.ffrom.fMessages) (qa a0.ffrom.fMessages) false,.ds true (qc encGEnumeration a0.ffrom.fEnums) (qa a0.ffrom.fEnums) false,.ds true (qc encGMethod a0.ffrom.fMethods) (qa a0.ffrom.fMethods) false,.str a0.fto.fName,.ds true (qc encGMessage a0.fto.fMessages) (qa a0.fto.fMessages) false,.ds true (qc encGEnumeration a0.fto.fEnums) (qa a0.fto.fEnums) false,.ds true (qc encGMethod a0.fto.fMethods) (qa a0.fto.fMethods) false,.os true 2 1 (a0.vl) 0 (qa a0.fl) false,.mp 2],.cells (a0.vl) (qc encGAdaptPair a0.fl),.map (zR kvGAdaptPair (AV.int .i64) a0.fplace),.cells 0 (encGMessage a1),.cells 0 (encGMessage a2),.cells 0 [.int .i64 0,.int .i64 0,.int .i64 0],.cells 0 (encGField r1.1),.cells 0 (encGField r2.1),.cells 0 [.int .i64 1,.int .i64 a3,.int .i64 0]]) ?_ ?_
       · refine xj 89 rfl (fun hg89=>?_) (fun hg89=>?_)
         · have t22:=eq_false hg89;refine rnN 3 ?_;refine zb ⟨rfl,_,_,⟨rfl,rfl⟩,.p t22⟩
         have t23:=eq_true hg89;refine rnN 3 ?_;refine zb ⟨rfl,_,_,⟨rfl,rfl⟩,.p t23⟩
       rintro _ _ ⟨rfl,rfl⟩;refine rnN 1 ?_;refine zb ⟨rfl,_,_,⟨rfl,rfl⟩,.p t21⟩
     have t24:=eq_true hg86;refine rnN 7 ?_;refine zb ⟨rfl,_,_,⟨rfl,rfl⟩,.p t24⟩
   rintro _ _ ⟨rfl,rfl⟩;refine rnN 1 ?_;refine nkN hK ?_;refine zw (b:=((!(decide (r1.1.fType.fKind=r2.1.fType.fKind)))&&((!(decide (r1.1.fType.fKind=1)))||(!(decide (r2.1.fType.fKind=2)))))) rfl (fun hc25=>?_) (fun hc25=>?_)
   · rw[if_pos hc25] at h;refine rgN [8,9] ?_;apply zE;cases h;simp only[wg,zX,z7,yN,exists_eq_left',go_sem,qf,qb,qe,encGStep];refine⟨by decide,by simp,?_,?_⟩
     · first|rfl|(simp only[go_sem,qd,qf,qb,qe,qi,qm,reduceIte,reduceCtorEq,push_cast,if_true,qv,qk,qn,qj,qx,qo,qE,qz,qr,qq,qp,zg,encGAdaptPair,encGSchema,encGStep]<;>rfl)
     first|rfl|(simp only[go_sem,qb,qe,reduceCtorEq,push_cast,if_true,qk,qn,qj,qo,qr,qq,zg]<;>rfl)
   rw[xU hc25] at h;apply zd;exact⟨_,_,⟨a0.ffrom,a0.fto,a0.fl,a0.vl,a0.fplace,(⟨1,a3,0⟩:GStep),rfl,rfl,h⟩,(.t [0,1,2,5,8] false)⟩
 rintro _ _ ⟨m0__03,m0__14,l5,v6,l7,m4_8,rfl,rfl,h⟩;unfold yV.j9 at h;refine rgN [8,9] ?_;apply zE;cases h;simp only[wg,zX,z7,yN,exists_eq_left',go_sem,qf,qb,qe,encGStep];refine⟨by decide,by simp,?_,?_⟩
 · first|rfl|(simp only[go_sem,qd,qf,qb,qe,qi,qm,reduceIte,reduceCtorEq,push_cast,if_true,qv,qk,qn,qj,qx,qo,qE,qz,qr,qq,qp,zg,encGAdaptPair,encGSchema,encGStep]<;>rfl)
 first|rfl|(simp only[go_sem,qb,qe,reduceCtorEq,push_cast,if_true,qk,qn,qj,qo,qr,qq,zg]<;>rfl)
end
section
set_option maxRecDepth 4000
set_option maxHeartbeats 1000000
open AM
def yx.j70 (x50:Int)(rec59:List (GAdaptPair×Int)→GSchema→GSchema→List GAdaptPair→Nat→List GStep→Int→Option (GAdaptProgram×Int))(l63:List (GAdaptPair×Int))(m4__064:GSchema)(m4__165:GSchema)(l66:List GAdaptPair)(v67:Nat)(l68:List GStep):Option (GAdaptProgram×Int):=
 (rec59 l63 m4__064 m4__165 l66 v67 l68 (IntKind.i64.wrap (x50+1)))
def yx.l59 (l19:List (List GStep))(x21:Int)(rec30:List (GAdaptPair×Int)→GSchema→GSchema→List GAdaptPair→Nat→List (List GStep)→Int→Option (GAdaptProgram×Int))(r38:GMessage×Bool)(r41:GMessage×Bool):Nat→List (GAdaptPair×Int)→GSchema→GSchema→List GAdaptPair→Nat→List GStep→Int→Option (GAdaptProgram×Int)
 |0,_,_,_,_,_,_,_=>none
 |k59+1,l43,m4__044,m4__145,l46,v47,l48,x50=>(if x50≤500 then (yV (⟨m4__044,m4__145,l46,v47,l43⟩:xh) r38.1 r41.1 x50).bind fun r71=>(if r71.2.1=true then (Xm (qa l48+1) 24).bind fun _u73=>(yx.j70 x50 (yx.l59 l19 x21 rec30 r38 r41 k59) r71.2.2.fplace r71.2.2.ffrom r71.2.2.fto r71.2.2.fl r71.2.2.vl (l48++[r71.1])) else (yx.j70 x50 (yx.l59 l19 x21 rec30 r38 r41 k59) r71.2.2.fplace r71.2.2.ffrom r71.2.2.fto r71.2.2.fl r71.2.2.vl l48)) else (Xm (qa l19+1) 24).bind fun _u76=>(rec30 l43 m4__044 m4__145 l46 v47 (l19++[l48]) (IntKind.i64.wrap (x21+1))))
def yx.l30 (a0:GSchema)(a1:GSchema):Nat→List (GAdaptPair×Int)→GSchema→GSchema→List GAdaptPair→Nat→List (List GStep)→Int→Option (GAdaptProgram×Int)
 |0,_,_,_,_,_,_,_=>none
 |k30+1,l14,m4__015,m4__116,l17,v18,l19,x21=>(if x21<(qa l17:Int) then (YS l17 x21).bind fun y35=>bnd (zK a0 y35.ffrom) fun r38=>bnd (zK a1 y35.fto) fun r41=>(yx.l59 l19 x21 (yx.l30 a0 a1 k30) r38 r41 xo l14 m4__015 m4__116 l17 v18 ([]:List GStep) 1) else some ((⟨l19⟩:GAdaptProgram),0))
def yx (a0:GSchema)(a1:GSchema)(a2:List UInt8)(a3:List UInt8):Option (GAdaptProgram×Int):=
 (zS a0).bind fun r2=>(if r2=0 then (zS a1).bind fun r3=>some (!(decide (r3=0))) else some true).bind fun c3=>(if c3=true then some ((⟨([]:List (List GStep))⟩:GAdaptProgram),1) else bnd (zK a0 a2) fun r8=>bnd (zK a1 a3) fun r9=>(if ((!r8.2)||(!r9.2))=true then some ((⟨([]:List (List GStep))⟩:GAdaptProgram),14) else (yW (⟨a0,a1,([]:List GAdaptPair),0,([]:List (GAdaptPair×Int))⟩:xh) (⟨a2,a3⟩:GAdaptPair)).bind fun r12=>(yx.l30 a0 a1 xo r12.2.fplace r12.2.ffrom r12.2.fto r12.2.fl r12.2.vl ([]:List (List GStep)) 0)))
theorem yx.ok (a0:GSchema)(a1:GSchema)(a2:List UInt8)(a3:List UInt8)(r:GAdaptProgram×Int)(h:yx a0 a1 a2 a3=some r):ACalls qg 99 [.agg (encGSchema a0),.agg (encGSchema a1),.str a2,.str a3] [] (fun r' _=>r'=.tup [.agg (encGAdaptProgram r.1),.int .i64 r.2]):=by
 refine zf (rs:=[.cell 8 178,.tmp 9]) tok Tryz.func99 rfl Tryz.ntmps99 rfl Tryz.call99 (by simp) ?_;refine zk [(0,.agg (encGSchema a0)),(1,.agg (encGSchema a1)),(2,.str a2),(3,.str a3)] ⟨rfl,rfl,rfl,rfl,trivial⟩ ?_;unfold yx at h
 refine rg tok [2,3,4,5,8] fun K hK=>?_
 simp only[go_sem,qd,qb,qe,reduceCtorEq,encGSchema];apply hK
 refine za fun Z1 hZ1=>?_
 refine rc [2,3,4,5,8,32] fun K hK=>?_
 obtain⟨r2,hr2,h⟩:=bind_some h;refine rnN 1 ?_;refine clN rfl rfl rfl (zS.ev a0 r2 hr2 _) ?_;refine rnN 2 ?_;obtain⟨c3,hc3,h⟩:=bind_some h;refine zo 4 (fun L τ=>L=[(2,.str a2),(3,.str a3),(4,.op 0 0 0),(5,.op 1 0 0),(8,.op 2 0 0),(32,.bool c3)]∧τ=[.cells 0 (encGSchema a0),.cells 0 (encGSchema a1),.cells 0 [.ds true [] 0 true]]) ?_ ?_
 · refine xj 28 rfl (fun hg28=>?_) (fun hg28=>?_)
   · have t4:=eq_false hg28;rw[if_neg hg28] at hc3;refine rnN 4 ?_;cases hc3;refine zb ⟨rfl,_,_,⟨rfl,rfl⟩,.p t4⟩
   have t5:=eq_true hg28;rw[if_pos hg28] at hc3;obtain⟨r6,hr6,hc3⟩:=bind_some hc3;refine rnN 1 ?_;refine clN rfl rfl rfl (zS.ev a1 r6 hr6 _) ?_;refine rnN 2 ?_;cases hc3;refine zb ⟨rfl,_,_,⟨rfl,rfl⟩,.p t5⟩
 rintro _ _ ⟨rfl,rfl⟩;refine nkN hK ?_;refine zw (b:=c3) rfl (fun hc7=>?_) (fun hc7=>?_)
 · rw[if_pos hc7] at h;refine rgN [8,9] ?_;cases h;exact rtA
 rw[xU hc7] at h;apply zd;apply hZ1
 refine rc [2,3,4,5,8,11] fun K hK=>?_
 obtain⟨r8,hr8,h⟩:=zH h;refine rnN 2 ?_;refine clN rfl rfl rfl (zK.ev a0 a2 r8 hr8 _) ?_;refine zj tok 6 ?_;simp only[go_sem,qd,qf,qb,qe,encGMessage];refine nkN hK ?_
 refine rc [2,3,4,5,8,11,13] fun K hK=>?_
 obtain⟨r9,hr9,h⟩:=zH h;refine rnN 2 ?_;refine clN rfl rfl rfl (zK.ev a1 a3 r9 hr9 _) ?_;refine zj tok 6 ?_;simp only[go_sem,qd,qf,qb,qe,encGMessage];refine nkN hK ?_
 refine za fun Z10 hZ10=>?_
 refine rc [2,3,4,5,8,51] fun K hK=>?_
 refine rnN 3 ?_;refine zo 3 (fun L τ=>L=[(2,.str a2),(3,.str a3),(4,.op 0 0 0),(5,.op 1 0 0),(8,.op 2 0 0),(51,.bool ((!r8.2)||(!r9.2)))]∧τ=[.cells 0 (encGSchema a0),.cells 0 (encGSchema a1),.cells 0 [.ds true [] 0 true],.cells 0 (encGMessage r8.1),.cells 0 (encGMessage r9.1)]) ?_ ?_
 · refine zP (b:=(!r8.2)) 48 rfl (fun hg48=>?_) (fun hg48=>?_)
   · refine rnN 3 ?_;refine zb ⟨rfl,_,_,⟨rfl,rfl⟩,.b hg48⟩
   refine rnN 3 ?_;refine zb ⟨rfl,_,_,⟨rfl,rfl⟩,.b hg48⟩
 rintro _ _ ⟨rfl,rfl⟩;refine nkN hK ?_;refine zw (b:=((!r8.2)||(!r9.2))) rfl (fun hc11=>?_) (fun hc11=>?_)
 · rw[if_pos hc11] at h;refine rgN [8,9] ?_;cases h;exact rtA
 rw[xU hc11] at h;apply zd;apply hZ10;refine rgN [2,3,4,5,8,14] ?_;refine ZD 5 rfl (τ:=[.cells 0 (encGSchema a0),.cells 0 (encGSchema a1),.cells 0 [.ds true [] 0 true],.cells 0 (encGMessage r8.1),.cells 0 (encGMessage r9.1),.map (zR kvGAdaptPair (AV.int .i64) []),.cells 0 [.str a0.fName,.ds true (qc encGMessage a0.fMessages) (qa a0.fMessages) false,.ds true (qc encGEnumeration a0.fEnums) (qa a0.fEnums) false,.ds true (qc encGMethod a0.fMethods) (qa a0.fMethods) false,.str a1.fName,.ds true (qc encGMessage a1.fMessages) (qa a1.fMessages) false,.ds true (qc encGEnumeration a1.fEnums) (qa a1.fEnums) false,.ds true (qc encGMethod a1.fMethods) (qa a1.fMethods) false,.ds true [] 0 true,.mp 5]]) rfl ?_;refine wd 6 8 2 rfl (by simp) rfl (L:=[(2,.str a2),(3,.str a3),(4,.op 0 0 0),(5,.op 1 0 0),(8,.op 2 0 0),(14,.op 6 0 0)]) (τ:=[.cells 0 (encGSchema a0),.cells 0 (encGSchema a1),.cells 0 [.ds true [] 0 true],.cells 0 (encGMessage r8.1),.cells 0 (encGMessage r9.1),.map (zR kvGAdaptPair (AV.int .i64) []),.cells 0 [.str a0.fName,.ds true (qc encGMessage a0.fMessages) (qa a0.fMessages) false,.ds true (qc encGEnumeration a0.fEnums) (qa a0.fEnums) false,.ds true (qc encGMethod a0.fMethods) (qa a0.fMethods) false,.str a1.fName,.ds true (qc encGMessage a1.fMessages) (qa a1.fMessages) false,.ds true (qc encGEnumeration a1.fEnums) (qa a1.fEnums) false,.ds true (qc encGMethod a1.fMethods) (qa a1.fMethods) false,.os true 2 7 0 0 (qa ([]:List GAdaptPair)) false,.mp 5],.cells 0 (qc encGAdaptPair ([]:List GAdaptPair))]) .s ?_;refine yz (L:=[(2,.str a2),(3,.str a3),(4,.op 0 0 0),(5,.op 1 0 0),(8,.op 2 0 0),(14,.op 6 0 0)]) (τ:=[.cells 0 (encGSchema a0),.cells 0 (encGSchema a1),.cells 0 [.ds true [] 0 true],.cells 0 (encGMessage r8.1),.cells 0 (encGMessage r9.1),.map (zR kvGAdaptPair (AV.int .i64) []),.cells 0 [.str a0.fName,.ds true (qc encGMessage a0.fMessages) (qa a0.fMessages) false,.ds true (qc encGEnumeration a0.fEnums) (qa a0.fEnums) false,.ds true (qc encGMethod a0.fMethods) (qa a0.fMethods) false,.str a1.fName,.ds true (qc encGMessage a1.fMessages) (qa a1.fMessages) false,.ds true (qc encGEnumeration a1.fEnums) (qa a1.fEnums) false,.ds true (qc encGMethod a1.fMethods) (qa a1.fMethods) false,.os true 2 7 0 0 (qa ([]:List GAdaptPair)) false,.mp 5],.cells 0 (qc encGAdaptPair ([]:List GAdaptPair))]) .s ?_
 refine rc [4,5,8,14] fun K hK=>?_
 obtain⟨r12,hr12,h⟩:=bind_some h;refine rnN 4 ?_;refine clN rfl rfl rfl (@id (ACalls qg 150 [.op 6 0 0,.agg [.str a2,.str a3]] [.cells 0 (encGSchema a0),.cells 0 (encGSchema a1),.cells 0 [.ds true [] 0 true],.cells 0 (encGMessage r8.1),.cells 0 (encGMessage r9.1),.map (zR kvGAdaptPair (AV.int .i64) []),.cells 0 [.str a0.fName,.ds true (qc encGMessage a0.fMessages) (qa a0.fMessages) false,.ds true (qc encGEnumeration a0.fEnums) (qa a0.fEnums) false,.ds true (qc encGMethod a0.fMethods) (qa a0.fMethods) false,.str a1.fName,.ds true (qc encGMessage a1.fMessages) (qa a1.fMessages) false,.ds true (qc encGEnumeration a1.fEnums) (qa a1.fEnums) false,.ds true (qc encGMethod a1.fMethods) (qa a1.fMethods) false,.os true 2 7 0 0 (qa ([]:List GAdaptPair)) false,.mp 5],.cells 0 (qc encGAdaptPair ([]:List GAdaptPair))] (fun r' σ'=>r'=.int .i64 r12.1∧σ'=[.cells 0 (encGSchema a0),.cells 0 (encGSchema a1),.cells 0 [.ds true [] 0 true],.cells 0 (encGMessage r8.1),.cells 0 (encGMessage r9.1),.map (zR kvGAdaptPair (AV.int .i64) r12.2.fplace),.cells 0 [.str r12.2.ffrom.fName,.ds true (qc encGMessage r12.2.ffrom.fMessages) (qa r12.2.ffrom.fMessages) false,.ds true (qc encGEnumeration r12.2.ffrom.fEnums) (qa r12.2.ffrom.fEnums) false,.ds true (qc encGMethod r12.2.ffrom.fMethods) (qa r12.2.ffrom.fMethods) false,.str r12.2.fto.fName,.ds true (qc encGMessage r12.2.fto.fMessages) (qa r12.2.fto.fMessages) false,.ds true (qc encGEnumeration r12.2.fto.fEnums) (qa r12.2.fto.fEnums) false,.ds true (qc encGMethod r12.2.fto.fMethods) (qa r12.2.fto.fMethods) false,.os true 2 7 (r12.2.vl) 0 (qa r12.2.fl) false,.mp 5],.cells (r12.2.vl) (qc encGAdaptPair r12.2.fl)])) ((yW.ok (⟨a0,a1,([]:List GAdaptPair),0,([]:List (GAdaptPair×Int))⟩:xh) (⟨a2,a3⟩:GAdaptPair) r12 hr12).ix [6,7,5])) ?_;refine nkN hK ?_;refine rgN [4,5,8,14,15] ?_;refine wd 8 0 1 rfl (by simp) rfl (L:=[(4,.op 0 0 0),(5,.op 1 0 0),(8,.op 2 0 0),(14,.op 6 0 0),(15,.op 8 0 0)]) (τ:=[.cells 0 (encGSchema a0),.cells 0 (encGSchema a1),.cells 0 [.ds true [] 0 true],.cells 0 (encGMessage r8.1),.cells 0 (encGMessage r9.1),.map (zR kvGAdaptPair (AV.int .i64) r12.2.fplace),.cells 0 [.str r12.2.ffrom.fName,.ds true (qc encGMessage r12.2.ffrom.fMessages) (qa r12.2.ffrom.fMessages) false,.ds true (qc encGEnumeration r12.2.ffrom.fEnums) (qa r12.2.ffrom.fEnums) false,.ds true (qc encGMethod r12.2.ffrom.fMethods) (qa r12.2.ffrom.fMethods) false,.str r12.2.fto.fName,.ds true (qc encGMessage r12.2.fto.fMessages) (qa r12.2.fto.fMessages) false,.ds true (qc encGEnumeration r12.2.fto.fEnums) (qa r12.2.fto.fEnums) false,.ds true (qc encGMethod r12.2.fto.fMethods) (qa r12.2.fto.fMethods) false,.os true 2 7 (r12.2.vl) 0 (qa r12.2.fl) false,.mp 5],.cells (r12.2.vl) (qc encGAdaptPair r12.2.fl),.cells 0 [.os true 1 9 0 0 (qa ([]:List (List GStep))) false],.cells 0 (qc (ZW encGStep) ([]:List (List GStep)))]) .s ?_
 refine za fun Z13 hZ13=>?_
 refine rgN [4,5,8,14,15,16] ?_;apply ze;refine zN (fun m L τ=>∃ (k30:Nat) (l14:List (GAdaptPair×Int)) (m4__015:GSchema) (m4__116:GSchema) (l17:List GAdaptPair) (v18:Nat) (l19:List (List GStep)) (x21:Int) (v20:Nat),m=0+k30∧L=[(4,.op 0 0 0),(5,.op 1 0 0),(8,.op 2 0 0),(14,.op 4 0 0),(15,.op 6 0 0),(16,.int .i64 x21)]∧τ=[.cells 0 (encGSchema a0),.cells 0 (encGSchema a1),.cells 0 [.ds true [] 0 true],.map (zR kvGAdaptPair (AV.int .i64) l14),.cells 0 [.str m4__015.fName,.ds true (qc encGMessage m4__015.fMessages) (qa m4__015.fMessages) false,.ds true (qc encGEnumeration m4__015.fEnums) (qa m4__015.fEnums) false,.ds true (qc encGMethod m4__015.fMethods) (qa m4__015.fMethods) false,.str m4__116.fName,.ds true (qc encGMessage m4__116.fMessages) (qa m4__116.fMessages) false,.ds true (qc encGEnumeration m4__116.fEnums) (qa m4__116.fEnums) false,.ds true (qc encGMethod m4__116.fMethods) (qa m4__116.fMethods) false,.os true 2 5 v18 0 (qa l17) false,.mp 3],.cells v18 (qc encGAdaptPair l17),.cells 0 [.os true 1 7 v20 0 (qa l19) false],.cells v20 (qc (ZW encGStep) l19)]∧yx.l30 a0 a1 k30 l14 m4__015 m4__116 l17 v18 l19 x21=some r) _ ⟨xo,r12.2.fplace,r12.2.ffrom,r12.2.fto,r12.2.fl,r12.2.vl,([]:List (List GStep)),0,0,rfl,rfl,rfl,h⟩ (.t [0,1,2,5,6,7,8,9] false) ?_;rintro m L τ ⟨k30,l14,m4__015,m4__116,l17,v18,l19,x21,v20,rfl,rfl,rfl,h⟩
 rcases k30 with _|k30
 · cases h
 simp only[yx.l30] at h
 refine za fun Z31 hZ31=>?_
 refine rgN [4,5,8,14,15,16,69] ?_;refine zF rfl (fun hc32=>?_) (fun hc32=>?_)
 · rw[if_pos hc32] at h;have t33:=eq_true hc32;apply zd;apply hZ31
   refine za fun Z34 hZ34=>?_
   apply ze;obtain⟨y35,hy35,h⟩:=bind_some h;have f36:=E240.idxO hy35;have f37:=E240.rdfO0 hy35;obtain⟨r38,hr38,h⟩:=zH h
   refine rd [4,5,8,14,15,16,17] fun K hK=>?_
   refine DW.start (T:=tab) [.at [],.any,.any,.any,.at [],.any,.any,.any,.at [],.eff,.any,.any,.any,.flt,.eff,.any] [] ?_;refine DW.runN tok 8 ?_;simp only[go_sem,qd,qf,qb,qe,t33,f36];refine DW.runN tok 1 ?_;simp only[go_sem,qd,qb,encGAdaptPair,f37];refine DW.call rfl rfl rfl (zK.ev a0 y35.ffrom r38 hr38 _) ?_;refine DW.runN tok 6 ?_;simp only[go_sem,qd,qf,qb,qe,encGMessage];refine DW.fin tok (by decide +kernel) rfl ?_;simp only[zn,upd,qb,reduceIte,ym,y1];apply hK
   have f39:=E240.idxO hy35;have f40:=E240.rdfO hy35 (o:=1) (by decide);obtain⟨r41,hr41,h⟩:=zH h
   refine rd [4,5,8,14,15,16,17,19] fun K hK=>?_
   refine DW.start (T:=tab) [.at [],.any,.any,.any,.at [],.any,.any,.any,.at [],.eff,.any,.any,.any,.flt,.eff,.any] [] ?_;refine DW.runN tok 8 ?_;simp only[go_sem,qd,qf,qb,qe,f39];refine DW.runN tok 1 ?_;simp only[go_sem,qd,qb,encGAdaptPair,f40];refine DW.call rfl rfl rfl (zK.ev a1 y35.fto r41 hr41 _) ?_;refine DW.runN tok 6 ?_;simp only[go_sem,qd,qf,qb,qe,encGMessage];refine DW.fin tok (by decide +kernel) rfl ?_;simp only[zn,upd,qb,reduceIte,ym,y1];apply hK
   refine rgN [4,5,8,14,15,16,17,19,21] ?_;refine YG 21 3 rfl ?_;refine yz (L:=[(4,.op 0 0 0),(5,.op 1 0 0),(8,.op 2 0 0),(14,.op 4 0 0),(15,.op 6 0 0),(16,.int .i64 x21),(17,.op 8 0 0),(19,.op 9 0 0),(21,.os true 3 10 0 0 (qa ([]:List GStep)) false)]) (τ:=[.cells 0 (encGSchema a0),.cells 0 (encGSchema a1),.cells 0 [.ds true [] 0 true],.map (zR kvGAdaptPair (AV.int .i64) l14),.cells 0 [.str m4__015.fName,.ds true (qc encGMessage m4__015.fMessages) (qa m4__015.fMessages) false,.ds true (qc encGEnumeration m4__015.fEnums) (qa m4__015.fEnums) false,.ds true (qc encGMethod m4__015.fMethods) (qa m4__015.fMethods) false,.str m4__116.fName,.ds true (qc encGMessage m4__116.fMessages) (qa m4__116.fMessages) false,.ds true (qc encGEnumeration m4__116.fEnums) (qa m4__116.fEnums) false,.ds true (qc encGMethod m4__116.fMethods) (qa m4__116.fMethods) false,.os true 2 5 v18 0 (qa l17) false,.mp 3],.cells v18 (qc encGAdaptPair l17),.cells 0 [.os true 1 7 v20 0 (qa l19) false],.cells v20 (qc (ZW encGStep) l19),.cells 0 (encGMessage r38.1),.cells 0 (encGMessage r41.1),.cells 0 (qc encGStep ([]:List GStep))]) .s ?_
   refine za fun Z42 hZ42=>?_
   refine rgN [4,5,8,14,15,16,17,19,21,22] ?_;apply ze;refine zN (fun m L τ=>∃ (k59:Nat) (l43:List (GAdaptPair×Int)) (m4__044:GSchema) (m4__145:GSchema) (l46:List GAdaptPair) (v47:Nat) (l48:List GStep) (x50:Int) (v49:Nat),m=0+k59∧L=[(4,.op 0 0 0),(5,.op 1 0 0),(8,.op 2 0 0),(14,.op 4 0 0),(15,.op 6 0 0),(16,.int .i64 x21),(17,.op 8 0 0),(19,.op 9 0 0),(21,.os true 3 10 v49 0 (qa l48) false),(22,.int .i64 x50)]∧τ=[.cells 0 (encGSchema a0),.cells 0 (encGSchema a1),.cells 0 [.ds true [] 0 true],.map (zR kvGAdaptPair (AV.int .i64) l43),.cells 0 [.str m4__044.fName,.ds true (qc encGMessage m4__044.fMessages) (qa m4__044.fMessages) false,.ds true (qc encGEnumeration m4__044.fEnums) (qa m4__044.fEnums) false,.ds true (qc encGMethod m4__044.fMethods) (qa m4__044.fMethods) false,.str m4__145.fName,.ds true (qc encGMessage m4__145.fMessages) (qa m4__145.fMessages) false,.ds true (qc encGEnumeration m4__145.fEnums) (qa m4__145.fEnums) false,.ds true (qc encGMethod m4__145.fMethods) (qa m4__145.fMethods) false,.os true 2 5 v47 0 (qa l46) false,.mp 3],.cells v47 (qc encGAdaptPair l46),.cells 0 [.os true 1 7 v20 0 (qa l19) false],.cells v20 (qc (ZW encGStep) l19),.cells 0 (encGMessage r38.1),.cells 0 (encGMessage r41.1),.cells v49 (qc encGStep l48)]∧yx.l59 l19 x21 (yx.l30 a0 a1 k30) r38 r41 k59 l43 m4__044 m4__145 l46 v47 l48 x50=some r) _ ⟨xo,l14,m4__015,m4__116,l17,v18,([]:List GStep),1,0,rfl,rfl,rfl,h⟩ .s ?_;rintro m L τ ⟨k59,l43,m4__044,m4__145,l46,v47,l48,x50,v49,rfl,rfl,rfl,h⟩
   rcases k59 with _|k59
   · cases h
   simp only[yx.l59] at h
   refine za fun Z60 hZ60=>?_
   refine rgN [4,5,8,14,15,16,17,19,21,22,99] ?_;refine zF rfl (fun hc61=>?_) (fun hc61=>?_)
   · rw[if_pos hc61] at h;have t62:=eq_true hc61;apply zd;apply hZ60;refine yR (fun L τ=>∃ (l63:List (GAdaptPair×Int)) (m4__064:GSchema) (m4__165:GSchema) (l66:List GAdaptPair) (v67:Nat) (l68:List GStep) (v69:Nat),L=[(4,.op 0 0 0),(5,.op 1 0 0),(8,.op 2 0 0),(14,.op 4 0 0),(15,.op 6 0 0),(16,.int .i64 x21),(17,.op 8 0 0),(19,.op 9 0 0),(21,.os true 3 10 v69 0 (qa l68) false),(22,.int .i64 x50)]∧τ=[.cells 0 (encGSchema a0),.cells 0 (encGSchema a1),.cells 0 [.ds true [] 0 true],.map (zR kvGAdaptPair (AV.int .i64) l63),.cells 0 [.str m4__064.fName,.ds true (qc encGMessage m4__064.fMessages) (qa m4__064.fMessages) false,.ds true (qc encGEnumeration m4__064.fEnums) (qa m4__064.fEnums) false,.ds true (qc encGMethod m4__064.fMethods) (qa m4__064.fMethods) false,.str m4__165.fName,.ds true (qc encGMessage m4__165.fMessages) (qa m4__165.fMessages) false,.ds true (qc encGEnumeration m4__165.fEnums) (qa m4__165.fEnums) false,.ds true (qc encGMethod m4__165.fMethods) (qa m4__165.fMethods) false,.os true 2 5 v67 0 (qa l66) false,.mp 3],.cells v67 (qc encGAdaptPair l66),.cells 0 [.os true 1 7 v20 0 (qa l19) false],.cells v20 (qc (ZW encGStep) l19),.cells 0 (encGMessage r38.1),.cells 0 (encGMessage r41.1),.cells v69 (qc encGStep l68)]∧yx.j70 x50 (yx.l59 l19 x21 (yx.l30 a0 a1 k30) r38 r41 k59) l63 m4__064 m4__165 l66 v67 l68=some r) ?_ ?_
     · apply ze
       refine rc [4,5,8,14,15,16,17,19,21,22,23,24] fun K hK=>?_
       obtain⟨r71,hr71,h⟩:=bind_some h;refine zj tok 4 ?_;simp only[go_sem,qd,qf,qb,qe,t62];refine clN rfl rfl rfl (@id (ACalls qg 151 [.op 4 0 0,.agg (encGMessage r38.1),.agg (encGMessage r41.1),.int .i64 x50] [.cells 0 (encGSchema a0),.cells 0 (encGSchema a1),.cells 0 [.ds true [] 0 true],.map (zR kvGAdaptPair (AV.int .i64) l43),.cells 0 [.str m4__044.fName,.ds true (qc encGMessage m4__044.fMessages) (qa m4__044.fMessages) false,.ds true (qc encGEnumeration m4__044.fEnums) (qa m4__044.fEnums) false,.ds true (qc encGMethod m4__044.fMethods) (qa m4__044.fMethods) false,.str m4__145.fName,.ds true (qc encGMessage m4__145.fMessages) (qa m4__145.fMessages) false,.ds true (qc encGEnumeration m4__145.fEnums) (qa m4__145.fEnums) false,.ds true (qc encGMethod m4__145.fMethods) (qa m4__145.fMethods) false,.os true 2 5 v47 0 (qa l46) false,.mp 3],.cells v47 (qc encGAdaptPair l46),.cells 0 [.os true 1 7 v20 0 (qa l19) false],.cells v20 (qc (ZW encGStep) l19),.cells 0 (encGMessage r38.1),.cells 0 (encGMessage r41.1),.cells v49 (qc encGStep l48)] (fun r' σ'=>r'=.tup [.agg (encGStep r71.1),.bool r71.2.1]∧σ'=[.cells 0 (encGSchema a0),.cells 0 (encGSchema a1),.cells 0 [.ds true [] 0 true],.map (zR kvGAdaptPair (AV.int .i64) r71.2.2.fplace),.cells 0 [.str r71.2.2.ffrom.fName,.ds true (qc encGMessage r71.2.2.ffrom.fMessages) (qa r71.2.2.ffrom.fMessages) false,.ds true (qc encGEnumeration r71.2.2.ffrom.fEnums) (qa r71.2.2.ffrom.fEnums) false,.ds true (qc encGMethod r71.2.2.ffrom.fMethods) (qa r71.2.2.ffrom.fMethods) false,.str r71.2.2.fto.fName,.ds true (qc encGMessage r71.2.2.fto.fMessages) (qa r71.2.2.fto.fMessages) false,.ds true (qc encGEnumeration r71.2.2.fto.fEnums) (qa r71.2.2.fto.fEnums) false,.ds true (qc encGMethod r71.2.2.fto.fMethods) (qa r71.2.2.fto.fMethods) false,.os true 2 5 (r71.2.2.vl) 0 (qa r71.2.2.fl) false,.mp 3],.cells (r71.2.2.vl) (qc encGAdaptPair r71.2.2.fl),.cells 0 [.os true 1 7 v20 0 (qa l19) false],.cells v20 (qc (ZW encGStep) l19),.cells 0 (encGMessage r38.1),.cells 0 (encGMessage r41.1),.cells v49 (qc encGStep l48)])) ((yV.ok (⟨m4__044,m4__145,l46,v47,l43⟩:xh) r38.1 r41.1 x50 r71 hr71).ix [4,5,3])) ?_;refine zj tok 6 ?_;simp only[go_sem,qd,qf,qb,qe,encGStep];refine nkN hK ?_;refine rgN [4,5,8,14,15,16,17,19,21,22,23,110] ?_;refine zw (b:=r71.2.1) rfl (fun hc72=>?_) (fun hc72=>?_)
       · rw[if_pos hc72] at h;obtain⟨_u73,hu73,h⟩:=bind_some h;have gu73:=yy hu73;have f74:=(zz E246.len l48)
         refine rgE tok [4,5,8,14,15,16,17,19,21,22] fun K hK=>?_
         simp only[go_sem,qd,qf,qb,qe,qi,zv,zQ,qO,qI,true_and,qT,ye,zO,yd,gu73,f74,yv,qR,qX,AV.one,qB,qL,qs,qt,qk,qN];apply hK
         exact⟨_,_,⟨r71.2.2.fplace,r71.2.2.ffrom,r71.2.2.fto,r71.2.2.fl,r71.2.2.vl,l48++[r71.1],v49+1,rfl,rfl,h⟩,(.t [0,1,2,3,4,5,6,7,8,9,10] false)⟩
       rw[xU hc72] at h;apply zd;exact⟨_,_,⟨r71.2.2.fplace,r71.2.2.ffrom,r71.2.2.fto,r71.2.2.fl,r71.2.2.vl,l48,v49,rfl,rfl,h⟩,(.t [0,1,2,3,4,5,6,7,8,9,10] false)⟩
     rintro _ _ ⟨l63,m4__064,m4__165,l66,v67,l68,v69,rfl,rfl,h⟩;unfold yx.j70 at h
     refine rgE tok [4,5,8,14,15,16,17,19,21,22] fun K hK=>?_
     simp only[go_sem,qd,qb];apply hK
     exact⟨_,_,_,qw (0+k59),⟨k59,l63,m4__064,m4__165,l66,v67,l68,IntKind.i64.wrap (x50+1),v69,rfl,rfl,rfl,h⟩,.s⟩
   rw[if_neg hc61] at h;have t75:=eq_false hc61;apply zI;apply hZ42;obtain⟨_u76,hu76,h⟩:=bind_some h;have gu76:=yy hu76;have f77:=(zz E176.len l19)
   refine rgE tok [4,5,8,14,15,16] fun K hK=>?_
   simp only[go_sem,qd,qf,qb,qe,qi,zv,zQ,qO,qI,true_and,qT,ye,zO,yd,t75,gu76,f77,yv,qR,qX,AV.one,qB,qL,qs,qt,qk,qN];apply hK
   apply hZ34
   refine rgE tok [4,5,8,14,15,16] fun K hK=>?_
   simp only[go_sem,qd,qb];apply hK
   exact⟨_,_,_,qw (0+k30),⟨k30,l43,m4__044,m4__145,l46,v47,l19++[l48],IntKind.i64.wrap (x21+1),v20+1,rfl,rfl,rfl,h⟩,(.t [0,1,2,3,4,5,6,7] false)⟩
 rw[if_neg hc32] at h;have t78:=eq_false hc32;apply zI;apply hZ13
 refine rg tok [8,9] fun K hK=>?_
 simp only[go_sem,qd,qf,qb,t78];apply hK
 cases h;exact rtA
theorem yx.ev (a0:GSchema)(a1:GSchema)(a2:List UInt8)(a3:List UInt8)(r:GAdaptProgram×Int)(h:yx a0 a1 a2 a3=some r)(σ:Store):ACalls qg 99 [.agg (encGSchema a0),.agg (encGSchema a1),.str a2,.str a3] σ (fun r' σ'=>r'=.tup [.agg (encGAdaptProgram r.1),.int .i64 r.2]∧σ'=σ):=
 (yx.ok a0 a1 a2 a3 r h).c σ
def xv.j6 (a0:GStep)(a1:Int)(x5:Bool):Bool:=
 (if x5=true then ((decide (0≤a0.fSub))&&(decide (a0.fSub<a1))) else false)
def xv.j3 (a0:GStep)(a1:Int)(x2:Bool):Bool:=
 (if x2=true then decide (a0.fSub=0) else (if a0.fOp=3 then (xv.j6 a0 a1 (decide (a0.fOp=3))) else (xv.j6 a0 a1 (decide (a0.fOp=4)))))
def xv (a0:GStep)(a1:Int):Bool:=
 (if a0.fOp=1 then (xv.j3 a0 a1 (decide (a0.fOp=1))) else (xv.j3 a0 a1 (decide (a0.fOp=2))))
theorem xv.ok (a0:GStep)(a1:Int)(r:Bool)(h:xv a0 a1=r):ACalls qg 236 [.agg (encGStep a0),.int .i64 a1] [] (fun r' _=>r'=.bool r):=by
 refine zf (rs:=[.tmp 4]) tok Tryz.func236 rfl Tryz.ntmps236 rfl Tryz.call236 (by simp) ?_;refine zk [(0,.agg (encGStep a0)),(1,.int .i64 a1)] ⟨rfl,rfl,trivial⟩ ?_;unfold xv at h
 refine rg tok [1,2] fun K hK=>?_
 simp only[go_sem,qd,qb,qe,reduceCtorEq,encGStep];apply hK
 refine za fun Z1 hZ1=>?_
 refine rgN [1,2,6] ?_;apply ze;refine yR (fun L τ=>∃ (x2:Bool),L=[(1,.int .i64 a1),(2,.op 0 0 0),(6,.int .i64 a0.fOp),(7,.bool x2)]∧τ=[.cells 0 [.int .i64 a0.fOp,.int .i64 a0.fTag,.int .i64 a0.fSub]]∧xv.j3 a0 a1 x2=r) ?_ ?_
 · refine rgN [1,2,6,7] ?_;refine zF rfl (fun hc13=>?_) (fun hc13=>?_)
   · rw[if_pos hc13] at h;have t14:=eq_true hc13;apply zd;exact⟨_,_,⟨decide (a0.fOp=1),rfl,rfl,h⟩,.s⟩
   rw[if_neg hc13] at h;have t15:=eq_false hc13
   refine rgE tok [1,2,6,7] fun K hK=>?_
   simp only[go_sem,qd,qb,t15];apply hK
   exact⟨_,_,⟨decide (a0.fOp=2),rfl,rfl,h⟩,.s⟩
 rintro _ _ ⟨x2,rfl,rfl,h⟩;unfold xv.j3 at h;refine zw (b:=x2) rfl (fun hc4=>?_) (fun hc4=>?_)
 · rw[if_pos hc4] at h;refine rgN [4] ?_;cases h;exact rtA
 rw[xU hc4] at h;refine yR (fun L τ=>∃ (x5:Bool),L=[(1,.int .i64 a1),(2,.op 0 0 0),(13,.bool x5)]∧τ=[.cells 0 [.int .i64 a0.fOp,.int .i64 a0.fTag,.int .i64 a0.fSub]]∧xv.j6 a0 a1 x5=r) ?_ ?_
 · refine rgN [1,2,6,13] ?_;refine zF rfl (fun hc10=>?_) (fun hc10=>?_)
   · rw[if_pos hc10] at h;have t11:=eq_true hc10;apply zd;exact⟨_,_,⟨decide (a0.fOp=3),rfl,rfl,h⟩,.s⟩
   rw[if_neg hc10] at h;have t12:=eq_false hc10
   refine rgE tok [1,2,13] fun K hK=>?_
   simp only[go_sem,qd,qb,t12];apply hK
   exact⟨_,_,⟨decide (a0.fOp=4),rfl,rfl,h⟩,.s⟩
 rintro _ _ ⟨x5,rfl,rfl,h⟩;unfold xv.j6 at h;refine zw (b:=x5) rfl (fun hc7=>?_) (fun hc7=>?_)
 · rw[if_pos hc7] at h
   refine rc [4] fun K hK=>?_
   refine rnN 4 ?_;refine zo 5 (fun L τ=>L=[(24,.bool ((decide (0≤a0.fSub))&&(decide (a0.fSub<a1))))]∧τ=[.cells 0 [.int .i64 a0.fOp,.int .i64 a0.fTag,.int .i64 a0.fSub]]) ?_ ?_
   · refine xj 19 rfl (fun hg19=>?_) (fun hg19=>?_)
     · have t8:=eq_true hg19;refine rnN 5 ?_;refine zb ⟨rfl,_,_,⟨rfl,rfl⟩,.p t8⟩
     have t9:=eq_false hg19;refine rnN 5 ?_;refine zb ⟨rfl,_,_,⟨rfl,rfl⟩,.p t9⟩
   rintro _ _ ⟨rfl,rfl⟩;refine rnN 1 ?_;refine nkN hK ?_;cases h;exact rtA
 rw[xU hc7] at h;apply zd;apply hZ1;refine rgN [4] ?_;cases h;exact rtA
theorem xv.ev (a0:GStep)(a1:Int)(r:Bool)(h:xv a0 a1=r)(σ:Store):ACalls qg 236 [.agg (encGStep a0),.int .i64 a1] σ (fun r' σ'=>r'=.bool r∧σ'=σ):=
 (xv.ok a0 a1 r h).c σ
def yQ.l18 (a0:GAdaptProgram)(x6:Int)(rec8:Int→Bool):List GStep→Int→Int→Bool
 |[],x15,x14=>(rec8 (x6+1))
 |y18::q18,x15,x14=>bnd (if ((decide (y18.fTag≤x14))||(decide (500<y18.fTag)))=true then true else bnd (xv y18 (qa a0.fParts:Int)) fun r27 => !r27) fun c27=>(if c27=true then false else ((yQ.l18 a0 x6 rec8 q18) (x15+1) y18.fTag))
def yQ.l8 (a0:GAdaptProgram):List (List GStep)→Int→Bool
 |[],x6=>true
 |y8::q8,x6=>(yQ.l18 a0 x6 (yQ.l8 a0 q8) y8 0 0)
def yQ (a0:GAdaptProgram):Bool:=
 (if ((decide ((qa a0.fParts:Int)<1))||(decide (100<(qa a0.fParts:Int))))=true then false else (yQ.l8 a0 a0.fParts 0))
theorem yQ.ok (a0:GAdaptProgram)(r:Bool)(h:yQ a0=r):ACalls qg 198 [.agg (encGAdaptProgram a0)] [] (fun r' _=>r'=.bool r):=by
 refine zf (rs:=[.tmp 2]) tok Tryz.func198 rfl Tryz.ntmps198 rfl Tryz.call198 (by simp) ?_;refine zk [(0,.agg (encGAdaptProgram a0))] ⟨rfl,trivial⟩ ?_;unfold yQ at h
 refine rg tok [1] fun K hK=>?_
 simp only[go_sem,qd,qb,reduceCtorEq,encGAdaptProgram];apply hK
 refine za fun Z1 hZ1=>?_
 refine rc [1,17] fun K hK=>?_
 refine rnN 5 ?_;refine zo 5 (fun L τ=>L=[(1,.op 0 0 0),(17,.bool ((decide ((qa a0.fParts:Int)<1))||(decide (100<(qa a0.fParts:Int)))))]∧τ=[.cells 0 (encGAdaptProgram a0)]) ?_ ?_
 · refine xj 12 rfl (fun hg12=>?_) (fun hg12=>?_)
   · have t2:=eq_true hg12;refine rnN 5 ?_;refine zb ⟨rfl,_,_,⟨rfl,rfl⟩,.p t2⟩
   have t3:=eq_false hg12;refine rnN 5 ?_;refine zb ⟨rfl,_,_,⟨rfl,rfl⟩,.p t3⟩
 rintro _ _ ⟨rfl,rfl⟩;refine nkN hK ?_;refine zw (b:=((decide ((qa a0.fParts:Int)<1))||(decide (100<(qa a0.fParts:Int))))) rfl (fun hc4=>?_) (fun hc4=>?_)
 · rw[if_pos hc4] at h;refine rgN [2] ?_;cases h;exact rtA
 rw[xU hc4] at h;apply zd;apply hZ1
 refine za fun Z5 hZ5=>?_
 refine rgN [1,19,20,21] ?_;apply ze
 refine yl 19 fun hb8=>?_
 replace hb8:qa a0.fParts≤9223372036854775807:=hb8.1;refine zN (fun m L τ=>∃ (p8 q8:List (List GStep)) (x6:Int),m=qa q8∧L=[(1,.op 0 0 0),(19,.ds true (qc (ZW encGStep) a0.fParts) (qa a0.fParts) false),(20,.int .i64 (qa a0.fParts:Int)),(21,.int .i64 x6)]∧τ=[.cells 0 (encGAdaptProgram a0)]∧a0.fParts=p8++q8∧x6=(qa p8:Int)∧yQ.l8 a0 q8 x6=r) _ ⟨[],a0.fParts,0,rfl,rfl,rfl,rfl,rfl,h⟩ .s ?_;rintro m L τ ⟨p8,q8,x6,rfl,rfl,rfl,hE8,hi8,h⟩
 rcases q8 with _|⟨y8,q8⟩
 · have hz8:=yJ hE8 hi8;simp only[yQ.l8] at h
   refine rg tok [1,19,20,21,22] fun K hK=>?_
   simp only[go_sem,qd,qb,hz8];apply hK
   refine za fun Z9 hZ9=>?_
   refine zp rfl ?_;apply zI;apply hZ5;refine rgN [2] ?_;cases h;exact rtA
 obtain⟨hz8,hw8,hx8,hE'8,hi'8⟩:=yk hE8 hi8 hb8;simp only[yQ.l8] at h
 refine rg tok [1,19,20,21,22] fun K hK=>?_
 simp only[go_sem,qd,qb,hz8];apply hK
 refine za fun Z10 hZ10=>?_
 refine zq rfl ?_;apply zd;apply hZ10
 refine za fun Z11 hZ11=>?_
 apply ze;have f12:=E176.idxS hx8;have f13:=E176.fldS0 (f:=246) rfl rfl hx8
 refine rg tok [1,4,19,20,21] fun K hK=>?_
 simp only[go_sem,qd,qb,ZW,f12,f13];apply hK
 refine rgN [1,4,5,19,20,21] ?_;refine rgN [1,5,19,20,21,25,26,27] ?_;apply ze
 refine yl 25 fun hb18=>?_
 replace hb18:qa y8≤9223372036854775807:=hb18.1;refine zN (fun m L τ=>∃ (p18 q18:List GStep) (x15:Int) (x14:Int),m=qa q18∧L=[(1,.op 0 0 0),(5,.int .i64 x14),(19,.ds true (qc (ZW encGStep) a0.fParts) (qa a0.fParts) false),(20,.int .i64 (qa a0.fParts:Int)),(21,.int .i64 x6),(25,.ds true (qc encGStep y8) (qa y8) false),(26,.int .i64 (qa y8:Int)),(27,.int .i64 x15)]∧τ=[.cells 0 (encGAdaptProgram a0)]∧y8=p18++q18∧x15=(qa p18:Int)∧yQ.l18 a0 x6 (yQ.l8 a0 q8) q18 x15 x14=r) _ ⟨[],y8,0,0,rfl,rfl,rfl,rfl,rfl,h⟩ .s ?_;rintro m L τ ⟨p18,q18,x15,x14,rfl,rfl,rfl,hE18,hi18,h⟩
 rcases q18 with _|⟨y18,q18⟩
 · have hz18:=yJ hE18 hi18;simp only[yQ.l18] at h
   refine rg tok [1,5,19,20,21,25,26,27,28] fun K hK=>?_
   simp only[go_sem,qd,qb,hz18];apply hK
   refine za fun Z19 hZ19=>?_
   refine zp rfl ?_;apply zI;apply hZ11
   refine rgE tok [1,19,20,21] fun K hK=>?_
   simp only[go_sem,qd,qb,hw8];apply hK
   exact⟨_,_,_,qw q8.length,⟨p8++[y8],q8,x6+1,rfl,rfl,rfl,hE'8,hi'8,h⟩,.s⟩
 obtain⟨hz18,hw18,hx18,hE'18,hi'18⟩:=yk hE18 hi18 hb18;simp only[yQ.l18] at h
 refine rg tok [1,5,19,20,21,25,26,27,28] fun K hK=>?_
 simp only[go_sem,qd,qb,hz18];apply hK
 refine za fun Z20 hZ20=>?_
 refine zq rfl ?_;apply zd;apply hZ20
 refine za fun Z21 hZ21=>?_
 apply ze;have f22:=E246.idxS hx18;have f23:=E246.loadS rfl rfl hx18
 refine rg tok [1,5,7,19,20,21,25,26,27] fun K hK=>?_
 simp only[go_sem,qd,qf,qb,qe,encGStep,f22,f23];apply hK
 refine za fun Z24 hZ24=>?_
 refine rc [1,7,19,20,21,25,26,27,47] fun K hK=>?_
 refine rnN 5 ?_;refine zo 4 (fun L τ=>L=[(1,.op 0 0 0),(7,.op 1 0 0),(19,.ds true (qc (ZW encGStep) a0.fParts) (qa a0.fParts) false),(20,.int .i64 (qa a0.fParts:Int)),(21,.int .i64 x6),(25,.ds true (qc encGStep y8) (qa y8) false),(26,.int .i64 (qa y8:Int)),(27,.int .i64 x15),(39,.bool ((decide (y18.fTag≤x14))||(decide (500<y18.fTag))))]∧τ=[.cells 0 (encGAdaptProgram a0),.cells 0 [.int .i64 y18.fOp,.int .i64 y18.fTag,.int .i64 y18.fSub]]) ?_ ?_
 · refine xj 35 rfl (fun hg35=>?_) (fun hg35=>?_)
   · have t25:=eq_true hg35;refine rnN 4 ?_;refine zb ⟨rfl,_,_,⟨rfl,rfl⟩,.p t25⟩
   have t26:=eq_false hg35;refine rnN 4 ?_;refine zb ⟨rfl,_,_,⟨rfl,rfl⟩,.p t26⟩
 rintro _ _ ⟨rfl,rfl⟩;refine rnN 1 ?_;obtain⟨c27,hc27,h⟩:=zH h;refine zo 7 (fun L τ=>L=[(1,.op 0 0 0),(7,.op 1 0 0),(19,.ds true (qc (ZW encGStep) a0.fParts) (qa a0.fParts) false),(20,.int .i64 (qa a0.fParts:Int)),(21,.int .i64 x6),(25,.ds true (qc encGStep y8) (qa y8) false),(26,.int .i64 (qa y8:Int)),(27,.int .i64 x15),(47,.bool c27)]∧τ=[.cells 0 (encGAdaptProgram a0),.cells 0 [.int .i64 y18.fOp,.int .i64 y18.fTag,.int .i64 y18.fSub]]) ?_ ?_
 · refine zP (b:=((decide (y18.fTag≤x14))||(decide (500<y18.fTag)))) 40 rfl (fun hg40=>?_) (fun hg40=>?_)
   · rw[if_pos hg40] at hc27;refine rnN 7 ?_;subst hc27;refine zb ⟨rfl,_,_,⟨rfl,rfl⟩,.b hg40⟩
   rw[xU hg40] at hc27;obtain⟨r28,hr28,hc27⟩:=zH hc27;refine rnN 4 ?_;refine clN rfl rfl rfl (xv.ev y18 (qa a0.fParts:Int) r28 hr28 _) ?_;refine rnN 2 ?_;subst hc27;refine zb ⟨rfl,_,_,⟨rfl,rfl⟩,.b hg40⟩
 rintro _ _ ⟨rfl,rfl⟩;refine nkN hK ?_;refine zw (b:=c27) rfl (fun hc29=>?_) (fun hc29=>?_)
 · rw[if_pos hc29] at h;refine rgN [2] ?_;cases h;exact rtA
 rw[xU hc29] at h;apply zd;apply hZ24
 refine rgE tok [1,5,19,20,21,25,26,27] fun K hK=>?_
 simp only[go_sem,qd,qb,qe];apply hK
 apply hZ21
 refine rgE tok [1,5,19,20,21,25,26,27] fun K hK=>?_
 simp only[go_sem,qd,qb,hw18];apply hK
 exact⟨_,_,_,qw q18.length,⟨p18++[y18],q18,x15+1,y18.fTag,rfl,rfl,rfl,hE'18,hi'18,h⟩,(.t [0] false)⟩
theorem yQ.ev (a0:GAdaptProgram)(r:Bool)(h:yQ a0=r)(σ:Store):ACalls qg 198 [.agg (encGAdaptProgram a0)] σ (fun r' σ'=>r'=.bool r∧σ'=σ):=
 (yQ.ok a0 r h).c σ
def zr.j8 (r2:Int)(m1__13:Int)(m1__24:List UInt8)(m1__45:List GRaw)(l6:List GEntry):Option GTree:=
 some (⟨r2,m1__13,m1__24,l6,m1__45⟩:GTree)
def zr.l30 (yb:GValueValue→Option GTree)(x13:Int)(l11:List GEntry)(rec17:Int→List GEntry→Option GTree)(y17:GValueEntry):List GValueValue→Int→List GTree→Option GTree
 |[],x26,l24=>(Xm (qa l11+1) 32).bind fun _u32=>(rec17 (x13+1) (l11++[(⟨y17.ftag,l24⟩:GEntry)]))
 |y30::q30,x26,l24=>(yb y30).bind fun r39=>(Xm (qa l24+1) 80).bind fun _u40=>((zr.l30 yb x13 l11 rec17 y17 q30) (x26+1) (l24++[r39]))
def zr.l17 (yb:GValueValue→Option GTree)(r2:Int)(r10:List GRaw):List GValueEntry→Int→List GEntry→Option GTree
 |[],x13,l11=>(zr.j8 r2 0 [] r10 l11)
 |y17::q17,x13,l11=>(zr.l30 yb x13 l11 (zr.l17 yb r2 r10 q17) y17 y17.fl 0 ([]:List GTree))
def zr.body (yb:GValueValue→Option GTree)(a0:GValueValue):Option GTree:=
 bnd (xG a0) fun r2=>(match a0 with|.nil=>(zr.j8 r2 0 [] ([]:List GRaw) ([]:List GEntry))|.num n9=>(zr.j8 r2 n9 [] ([]:List GRaw) ([]:List GEntry))|.str s9=>(zr.j8 r2 0 s9 ([]:List GRaw) ([]:List GEntry))|.node e9 r9=>(yX (⟨e9,r9⟩:GValueNode)).bind fun r10=>(zr.l17 yb r2 r10 e9 0 ([]:List GEntry)))
theorem zr.step (yb:GValueValue→Option GTree)(Xu:∀ (a0:GValueValue) (r:GTree),yb a0=some r→ACalls qg 249 [.agg (encGValueValue a0)] [] (fun r' _=>r'=.agg (cellsGTree r)))(a0:GValueValue)(r:GTree)(h:zr.body yb a0=some r):ACalls qg 249 [.agg (encGValueValue a0)] [] (fun r' _=>r'=.agg (cellsGTree r)):=by
 have ev_value_Value_Tree:=fun a0 r h σ=>(Xu a0 r h).c σ
 refine zf (rs:=[.cell 2 37]) tok Tryz.func249 rfl Tryz.ntmps249 rfl Tryz.call249 (by simp) ?_;refine zk [(0,.agg (encGValueValue a0))] ⟨rfl,trivial⟩ ?_;unfold zr.body at h;have f1:=wD a0;unfold AV.one at f1
 refine rg tok [1,2] fun K hK=>?_
 simp only[go_sem,qd,qb,reduceCtorEq,encGValueValue,f1];apply hK
 refine rc [1,2,3] fun K hK=>?_
 obtain⟨r2,hr2,h⟩:=zH h;refine rnN 1 ?_;refine clN rfl rfl rfl (xG.ev a0 r2 hr2 _) ?_;refine zj tok 3 ?_;simp only[go_sem,qd,qf,qb,qe,cellsGTree];refine nkN hK ?_;refine wd 2 3 2 rfl (by simp) rfl (L:=[(1,.op 0 0 0),(2,.op 1 0 0),(3,.op 2 0 0)]) (τ:=[.cells 0 [ifcV a0],.cells 0 [.int .i64 0,.int .i64 0,.str [],.ds true [] 0 true,.ds true [] 0 true],.cells 0 [.int .i64 r2,.int .i64 0,.str [],.os true 2 3 0 0 (qa ([]:List GEntry)) false,.ds true [] 0 true],.cells 0 (qc encGEntry ([]:List GEntry))]) .s ?_;refine yR (fun L τ=>∃ (m1__13:Int) (m1__24:List UInt8) (m1__45:List GRaw) (l6:List GEntry) (v7:Nat),L=[(2,.op 0 0 0),(3,.op 1 0 0)]∧τ=[.cells 0 [.int .i64 0,.int .i64 0,.str [],.ds true (qc encGEntry ([]:List GEntry)) (qa ([]:List GEntry)) false,.ds true (qc encGRaw ([]:List GRaw)) (qa ([]:List GRaw)) false],.cells 0 [.int .i64 r2,.int .i64 m1__13,.str m1__24,.os true 2 2 v7 0 (qa l6) false,.ds true (qc encGRaw m1__45) (qa m1__45) false],.cells v7 (qc encGEntry l6)]∧zr.j8 r2 m1__13 m1__24 m1__45 l6=some r) ?_ ?_
 · refine rgN [2,3,16] ?_;apply ze
   rcases a0 with _|n9|s9|⟨e9,r9⟩
   · dsimp only at h
     try simp only[YR]
     refine rg tok [2,3,16,18,19] fun K hK=>?_
     simp only[go_sem,qd,qb,qe,yr,yw,TypeDesc.isIface];apply hK
     refine zp rfl ?_
     refine rg tok [2,3,16,23,24] fun K hK=>?_
     simp only[go_sem,qd,qb,qe,yr,yw,TypeDesc.isIface];apply hK
     refine zp rfl ?_
     refine rg tok [2,3,28,29] fun K hK=>?_
     simp only[go_sem,qd,qb,qe,yr,yw,TypeDesc.isIface];apply hK
     refine zp rfl ?_;apply zd;exact⟨_,_,⟨0,[],([]:List GRaw),([]:List GEntry),0,rfl,rfl,h⟩,(.t [1,2,3] true)⟩
   · dsimp only at h
     try simp only[YQ]
     refine rg tok [2,3,16,18,19] fun K hK=>?_
     simp only[go_sem,qd,qb,qe,yr,yw,TypeDesc.isIface];apply hK
     refine zq rfl ?_;refine rgN [2,3,4] ?_
     refine rgE tok [2,3] fun K hK=>?_
     simp only[go_sem,qd,qf,qb,qe];apply hK
     exact⟨_,_,⟨n9,[],([]:List GRaw),([]:List GEntry),0,rfl,rfl,h⟩,(.t [1,2,3] true)⟩
   · dsimp only at h
     try simp only[YP]
     refine rg tok [2,3,16,18,19] fun K hK=>?_
     simp only[go_sem,qd,qb,qe,yr,yw,TypeDesc.isIface];apply hK
     refine zp rfl ?_
     refine rg tok [2,3,16,23,24] fun K hK=>?_
     simp only[go_sem,qd,qb,qe,yr,yw,TypeDesc.isIface];apply hK
     refine zq rfl ?_;refine rgN [2,3,5] ?_
     refine rgE tok [2,3] fun K hK=>?_
     simp only[go_sem,qd,qf,qb,qe];apply hK
     exact⟨_,_,⟨0,s9,([]:List GRaw),([]:List GEntry),0,rfl,rfl,h⟩,(.t [1,2,3] true)⟩
   dsimp only at h
   try simp only[ZI]
   refine rg tok [2,3,16,18,19] fun K hK=>?_
   simp only[go_sem,qd,qb,qe,yr,yw,TypeDesc.isIface];apply hK
   refine zp rfl ?_
   refine rg tok [2,3,16,23,24] fun K hK=>?_
   simp only[go_sem,qd,qb,qe,yr,yw,TypeDesc.isIface];apply hK
   refine zp rfl ?_
   refine rg tok [2,3,28,29] fun K hK=>?_
   simp only[go_sem,qd,qb,qe,yr,yw,TypeDesc.isIface];apply hK
   refine zq rfl ?_;refine rgN [2,3,6] ?_
   refine rc [2,3,6] fun K hK=>?_
   obtain⟨r10,hr10,h⟩:=bind_some h;refine rnN 1 ?_;refine clN rfl rfl rfl (yX.ev (⟨e9,r9⟩:GValueNode) r10 hr10 _) ?_;refine zj tok 2 ?_;simp only[go_sem,qd,qf,qb,qe,cellsGTree];refine nkN hK ?_
   refine rg tok [2,3,36,37,38] fun K hK=>?_
   simp only[go_sem,qd,qb,qe,Xe];apply hK
   apply ze
   refine yl 36 fun hb17=>?_
   replace hb17:qa e9≤9223372036854775807:=hb17.1;refine zN (fun m L τ=>∃ (p17 q17:List GValueEntry) (x13:Int) (l11:List GEntry) (v12:Nat),m=qa q17∧L=[(2,.op 0 0 0),(3,.op 1 0 0),(36,.ds true (qc encGValueEntry e9) (qa e9) false),(37,.int .i64 (qa e9:Int)),(38,.int .i64 x13)]∧τ=[.cells 0 [.int .i64 0,.int .i64 0,.str [],.ds true [] 0 true,.ds true [] 0 true],.cells 0 [.int .i64 r2,.int .i64 0,.str [],.os true 2 2 v12 0 (qa l11) false,.ds true (qc encGRaw r10) (qa r10) false],.cells v12 (qc encGEntry l11)]∧e9=p17++q17∧x13=(qa p17:Int)∧zr.l17 yb r2 r10 q17 x13 l11=some r) _ ⟨[],e9,0,([]:List GEntry),0,rfl,rfl,rfl,rfl,rfl,h⟩ (.t [1,2,3] false) ?_;rintro m L τ ⟨p17,q17,x13,l11,v12,rfl,rfl,rfl,hE17,hi17,h⟩
   rcases q17 with _|⟨y17,q17⟩
   · have hz17:=yJ hE17 hi17;simp only[zr.l17] at h
     refine rg tok [2,3,36,37,38,39] fun K hK=>?_
     simp only[go_sem,qd,qb,hz17];apply hK
     refine za fun Z18 hZ18=>?_
     refine zp rfl ?_;apply zI;exact⟨_,_,⟨0,[],r10,l11,v12,rfl,rfl,h⟩,(.t [0,1,2] true)⟩
   obtain⟨hz17,hw17,hx17,hE'17,hi'17⟩:=yk hE17 hi17 hb17;simp only[zr.l17] at h
   refine rg tok [2,3,36,37,38,39] fun K hK=>?_
   simp only[go_sem,qd,qb,hz17];apply hK
   refine za fun Z19 hZ19=>?_
   refine zq rfl ?_;apply zd;apply hZ19
   refine za fun Z20 hZ20=>?_
   apply ze;have f21:=E324.idxS hx17;have f22:=E324.loadS rfl rfl hx17
   refine rg tok [2,3,8,36,37,38] fun K hK=>?_
   simp only[go_sem,qd,qf,qb,qe,cellsGValueEntry,yI,f21,f22];apply hK
   refine rgN [2,3,8,9,36,37,38] ?_;refine wd 4 1 5 rfl (by simp) rfl (L:=[(2,.op 0 0 0),(3,.op 1 0 0),(8,.op 3 0 0),(9,.op 4 0 0),(36,.ds true (qc encGValueEntry e9) (qa e9) false),(37,.int .i64 (qa e9:Int)),(38,.int .i64 x13)]) (τ:=[.cells 0 [.int .i64 0,.int .i64 0,.str [],.ds true [] 0 true,.ds true [] 0 true],.cells 0 [.int .i64 r2,.int .i64 0,.str [],.os true 2 2 v12 0 (qa l11) false,.ds true (qc encGRaw r10) (qa r10) false],.cells v12 (qc encGEntry l11),.cells 0 (cellsGValueEntry y17),.cells 0 [.int .i64 y17.ftag,.os true 5 5 0 0 (qa ([]:List GTree)) false],.cells 0 (qc encGTree ([]:List GTree))]) .s ?_
   refine za fun Z23 hZ23=>?_
   refine rgN [2,3,9,36,37,38,46,47,48] ?_;apply ze
   refine yl 46 fun hb30=>?_
   replace hb30:qa y17.fl≤9223372036854775807:=hb30.1;refine zN (fun m L τ=>∃ (p30 q30:List GValueValue) (x26:Int) (l24:List GTree) (v25:Nat),m=qa q30∧L=[(2,.op 0 0 0),(3,.op 1 0 0),(9,.op 3 0 0),(36,.ds true (qc encGValueEntry e9) (qa e9) false),(37,.int .i64 (qa e9:Int)),(38,.int .i64 x13),(46,.ds true (qc encGValueValue y17.fl) (qa y17.fl) false),(47,.int .i64 (qa y17.fl:Int)),(48,.int .i64 x26)]∧τ=[.cells 0 [.int .i64 0,.int .i64 0,.str [],.ds true [] 0 true,.ds true [] 0 true],.cells 0 [.int .i64 r2,.int .i64 0,.str [],.os true 2 2 v12 0 (qa l11) false,.ds true (qc encGRaw r10) (qa r10) false],.cells v12 (qc encGEntry l11),.cells 0 [.int .i64 y17.ftag,.os true 5 4 v25 0 (qa l24) false],.cells v25 (qc encGTree l24)]∧y17.fl=p30++q30∧x26=(qa p30:Int)∧zr.l30 yb x13 l11 (zr.l17 yb r2 r10 q17) y17 q30 x26 l24=some r) _ ⟨[],y17.fl,0,([]:List GTree),0,rfl,rfl,rfl,rfl,rfl,h⟩ (.t [0,1,2,4,5] false) ?_;rintro m L τ ⟨p30,q30,x26,l24,v25,rfl,rfl,rfl,hE30,hi30,h⟩
   rcases q30 with _|⟨y30,q30⟩
   · have hz30:=yJ hE30 hi30;simp only[zr.l30] at h
     refine rg tok [2,3,9,36,37,38,46,47,48,49] fun K hK=>?_
     simp only[go_sem,qd,qb,hz30];apply hK
     refine za fun Z31 hZ31=>?_
     refine zp rfl ?_;apply zI;apply hZ23;obtain⟨_u32,hu32,h⟩:=bind_some h;have gu32:=yy hu32;have f33:=(zz E34.len l11)
     refine rgE tok [2,3,36,37,38] fun K hK=>?_
     simp only[go_sem,qd,qf,qb,qe,qi,zv,zQ,qO,qI,true_and,qT,ye,zO,yd,gu32,f33,yv,qR,qX,AV.one,qB,qL,qs,qt,qk,qN];apply hK
     apply hZ20
     refine rgE tok [2,3,36,37,38] fun K hK=>?_
     simp only[go_sem,qd,qb,hw17];apply hK
     exact⟨_,_,_,qw q17.length,⟨p17++[y17],q17,x13+1,l11++[(⟨y17.ftag,l24⟩:GEntry)],v12+1,rfl,rfl,rfl,hE'17,hi'17,h⟩,(.t [0,1,2] false)⟩
   obtain⟨hz30,hw30,hx30,hE'30,hi'30⟩:=yk hE30 hi30 hb30;simp only[zr.l30] at h
   refine rg tok [2,3,9,36,37,38,46,47,48,49] fun K hK=>?_
   simp only[go_sem,qd,qb,hz30];apply hK
   refine za fun Z34 hZ34=>?_
   refine zq rfl ?_;apply zd;apply hZ34
   refine za fun Z35 hZ35=>?_
   apply ze;have f36:=E282.idxS hx30;have f37:=E282.loadS rfl rfl hx30;have f38:=wD y30;unfold AV.one at f38
   refine rg tok [2,3,9,11,36,37,38,46,47,48] fun K hK=>?_
   simp only[go_sem,qd,qf,qb,qe,encGValueValue,f36,f37,f38];apply hK
   obtain⟨r39,hr39,h⟩:=bind_some h;obtain⟨_u40,hu40,h⟩:=bind_some h;have gu40:=yy hu40;have f41:=(zz E38.len l24)
   refine rdE [2,3,9,36,37,38,46,47,48] fun K hK=>?_
   refine DW.start (T:=tab) [.any,.own 2 [],.at [],.eff,.eff,.eff,.any,.eff] [(2,[])] ?_;refine DW.runN tok 3 ?_;simp only[go_sem,qd,qf,qb,qe,cellsGTree,uc,qs,qt,qk];refine DW.call rfl rfl rfl (ev_value_Value_Tree y30 r39 hr39 _) ?_;refine DW.runN tok 4 ?_;simp only[go_sem,qd,qf,qb,qe,qi,zv,zQ,qO,qI,true_and,qT,ye,zO,yd,cellsGTree,gu40,f41,yv,qR,qX,AV.one,qB,qL,qs,qt,qk,qN];refine DW.fin tok (by decide +kernel) rfl ?_;simp only[zn,upd,qb,reduceIte,ym,y1];apply hK
   apply hZ35
   refine rgE tok [2,3,9,36,37,38,46,47,48] fun K hK=>?_
   simp only[go_sem,qd,qb,hw30];apply hK
   exact⟨_,_,_,qw q30.length,⟨p30++[y30],q30,x26+1,l24++[r39],v25+1,rfl,rfl,rfl,hE'30,hi'30,h⟩,(.t [0,1,2,3,4] false)⟩
 rintro _ _ ⟨m1__13,m1__24,m1__45,l6,v7,rfl,rfl,h⟩;unfold zr.j8 at h;refine rgN [2] ?_;cases h;exact rtA
end
section
set_option maxRecDepth 4000
set_option maxHeartbeats 1000000
open AM
def zr : Nat→GValueValue→Option GTree
 |0,_=>none
 |k+1,a0=>zr.body (zr k) a0
theorem zr.all (k:Nat):(∀ (a0:GValueValue) (r:GTree),zr k a0=some r→ACalls qg 249 [.agg (encGValueValue a0)] [] (fun r' _=>r'=.agg (cellsGTree r))):=by
 induction k with
 |zero=>exact (fun a0 r h=>by simp only[zr] at h; cases h)
 |succ k ih=>exact (fun a0 r h=>zr.step _ ih a0 r (by simpa only [zr] using h))
theorem zr.ev (k:Nat)(a0:GValueValue)(r:GTree)(h:zr k a0=some r)(σ:Store):ACalls qg 249 [.agg (encGValueValue a0)] σ (fun r' σ'=>r'=.agg (cellsGTree r)∧σ'=σ):=
 ((zr.all k) a0 r h).c σ
def xF.j5  : GValueValue:=
 GValueValue.nil
def xF (a0:GValueValue):GValueValue:=
 bnd (xa a0) fun r3=>(if r3.2=true then (GValueValue.num r3.1) else (match a0 with|.nil=>xF.j5|.num n6=>xF.j5|.str s6=>xF.j5|.node e6 r6=>(GValueValue.node e6 r6)))
theorem xF.ok (a0:GValueValue)(r:GValueValue)(h:xF a0=r):ACalls qg 250 [.agg (encGValueValue a0)] [] (fun r' _=>r'=anyV r):=by
 refine zf (rs:=[.tmp 2]) tok Tryz.func250 rfl Tryz.ntmps250 rfl Tryz.call250 (by simp) ?_;refine zk [(0,.agg (encGValueValue a0))] ⟨rfl,trivial⟩ ?_;unfold xF at h;have f1:=wD a0;unfold AV.one at f1
 refine rg tok [1] fun K hK=>?_
 simp only[go_sem,qd,qb,reduceCtorEq,encGValueValue,f1];apply hK
 refine za fun Z2 hZ2=>?_
 refine rc [1,3,4] fun K hK=>?_
 obtain⟨r3,hr3,h⟩:=zH h;refine rnN 1 ?_;refine clN rfl rfl rfl (xa.ev a0 r3 hr3 _) ?_;refine rnN 5 ?_;refine nkN hK ?_;refine rgN [1,3,12] ?_;refine zw (b:=r3.2) rfl (fun hc4=>?_) (fun hc4=>?_)
 · rw[if_pos hc4] at h;refine rgN [2] ?_;cases h;exact rtA
 rw[xU hc4] at h;apply zd;apply hZ2;refine yR (fun L τ=>L=[]∧τ=[]∧xF.j5=r) ?_ ?_
 · rcases a0 with _|n6|s6|⟨e6,r6⟩
   · dsimp only at h
     try simp only[YR]
     refine rc [5,6] fun K hK=>?_
     refine rnN 1 ?_;refine clN rfl rfl rfl (asNode_nil    _) ?_;refine rnN 5 ?_;refine nkN hK ?_;refine rgN [5,20] ?_;refine zp rfl ?_;apply zd;exact⟨_,_,⟨rfl,rfl,h⟩,(.t [] false)⟩
   · dsimp only at h
     try simp only[YQ]
     refine rc [5,6] fun K hK=>?_
     refine rnN 1 ?_;refine clN rfl rfl rfl (asNode_num n6   _) ?_;refine rnN 5 ?_;refine nkN hK ?_;refine rgN [5,20] ?_;refine zp rfl ?_;apply zd;exact⟨_,_,⟨rfl,rfl,h⟩,(.t [] false)⟩
   · dsimp only at h
     try simp only[YP]
     refine rc [5,6] fun K hK=>?_
     refine rnN 1 ?_;refine clN rfl rfl rfl (asNode_str s6   _) ?_;refine rnN 5 ?_;refine nkN hK ?_;refine rgN [5,20] ?_;refine zp rfl ?_;apply zd;exact⟨_,_,⟨rfl,rfl,h⟩,(.t [] false)⟩
   dsimp only at h
   try simp only[ZI]
   refine rc [5,6] fun K hK=>?_
   refine rnN 1 ?_;refine clN rfl rfl rfl (asNode_node e6 r6   _) ?_;refine rnN 5 ?_;refine nkN hK ?_;refine rgN [5,20] ?_;refine zq rfl ?_;refine rgN [2] ?_;cases h;exact rtA
 rintro _ _ ⟨rfl,rfl,h⟩;unfold xF.j5 at h;refine rgN [2] ?_;cases h;exact rtA
theorem xF.ev (a0:GValueValue)(r:GValueValue)(h:xF a0=r)(σ:Store):ACalls qg 250 [.agg (encGValueValue a0)] σ (fun r' σ'=>r'=anyV r∧σ'=σ):=
 (xF.ok a0 r h).c σ
def xN (a0:Int):Int:=
 (if (-2147483648)<(if 2147483647<a0 then 2147483647 else a0) then (if 2147483647<a0 then 2147483647 else a0) else (-2147483648))
theorem xN.ok (a0:Int)(r:Int)(h:xN a0=r):ACalls qg 208 [.int .i64 a0] [] (fun r' _=>r'=.int .i64 r):=by
 refine zf (rs:=[.tmp 2]) tok Tryz.func208 rfl Tryz.ntmps208 rfl Tryz.call208 (by simp) ?_;refine zk [(0,.int .i64 a0)] ⟨rfl,trivial⟩ ?_;unfold xN at h;refine rgN [0] ?_
 refine rg tok [2] fun K hK=>?_
 simp only[go_sem,qd,qb,reduceCtorEq,XL,foldO,vai,vaj];apply hK
 cases h;exact rtA
theorem xN.ev (a0:Int)(r:Int)(h:xN a0=r)(σ:Store):ACalls qg 208 [.int .i64 a0] σ (fun r' σ'=>r'=.int .i64 r∧σ'=σ):=
 (xN.ok a0 r h).c σ
def zC.j19 (x8:Int)(rec13:Int→GInterpRun→List GEntry→Option (GTree×GInterpRun))(m0_16:GInterpRun)(l17:List GEntry):Option (GTree×GInterpRun):=
 (rec13 (x8+1) m0_16 l17)
def zC.l13 (zZ:GInterpRun→GStep→(List GValueValue)→Option (List GTree×GInterpRun))(a2:GValueNode):List GStep→Int→GInterpRun→List GEntry→Option (GTree×GInterpRun)
 |[],x8,m0_5,l6=>some ((⟨3,0,[],l6,([]:List GRaw)⟩:GTree),m0_5)
 |y13::q13,x8,m0_5,l6=>(yD a2 y13.fTag).bind fun r22=>(if (qa r22:Int)=0 then (zC.j19 x8 (zC.l13 zZ a2 q13) (⟨m0_5.fp,IntKind.i64.wrap (m0_5.flooks+1)⟩:GInterpRun) l6) else (zZ (⟨m0_5.fp,IntKind.i64.wrap (m0_5.flooks+1)⟩:GInterpRun) y13 r22).bind fun r27=>(if 0<(qa r27.1:Int) then (Xm (qa l6+1) 32).bind fun _u30=>(zC.j19 x8 (zC.l13 zZ a2 q13) r27.2 (l6++[(⟨y13.fTag,r27.1⟩:GEntry)])) else (zC.j19 x8 (zC.l13 zZ a2 q13) r27.2 l6)))
def zC.body (zx:GInterpRun→Int→GValueNode→Option (GTree×GInterpRun))(zZ:GInterpRun→GStep→(List GValueValue)→Option (List GTree×GInterpRun))(a0:GInterpRun)(a1:Int)(a2:GValueNode):Option (GTree×GInterpRun):=
 (YS a0.fp.fParts a1).bind fun y2=>(zC.l13 zZ a2 y2 0 a0 ([]:List GEntry))
theorem zC.step (zx:GInterpRun→Int→GValueNode→Option (GTree×GInterpRun))(zZ:GInterpRun→GStep→(List GValueValue)→Option (List GTree×GInterpRun))(Yj:∀ (a0:GInterpRun) (a1:Int) (a2:GValueNode) (r:GTree×GInterpRun),zx a0 a1 a2=some r→ACalls qg 199 [.op 0 0 0,.int .i64 a1,.dp (encGValueNode a2) 0] [.cells 0 (encGInterpRun a0)] (fun r' σ'=>r'=.agg (cellsGTree r.1)∧σ'=[.cells 0 (encGInterpRun r.2)]))(Yi:∀ (a0:GInterpRun) (a1:GStep) (a2:List GValueValue) (r:List GTree×GInterpRun),zZ a0 a1 a2=some r→ACalls qg 237 [.op 0 0 0,.agg (encGStep a1),.ds true (qc encGValueValue a2) (qa a2) false] [.cells 0 (encGInterpRun a0)] (fun r' σ'=>r'=.ds true (qc encGTree r.1) (qa r.1) false∧σ'=[.cells 0 (encGInterpRun r.2)]))(a0:GInterpRun)(a1:Int)(a2:GValueNode)(r:GTree×GInterpRun)(h:zC.body zx zZ a0 a1 a2=some r):ACalls qg 199 [.op 0 0 0,.int .i64 a1,.dp (encGValueNode a2) 0] [.cells 0 (encGInterpRun a0)] (fun r' σ'=>r'=.agg (cellsGTree r.1)∧σ'=[.cells 0 (encGInterpRun r.2)]):=by
 refine we [0] (rs:=[.cell 6 37]) tok Tryz.func199 rfl Tryz.ntmps199 rfl Tryz.call199 (by simp) rfl ?_;refine zk [(0,.op 0 0 0),(1,.int .i64 a1),(2,.dp (encGValueNode a2) 0)] ⟨rfl,rfl,rfl,trivial⟩ ?_;unfold zC.body at h;refine rgN [0,1,2,6] ?_;refine rgN [0,1,2,6,7] ?_;refine wd 2 3 2 rfl (by simp) rfl (L:=[(0,.op 0 0 0),(1,.int .i64 a1),(2,.dp (encGValueNode a2) 0),(6,.op 1 0 0),(7,.op 2 0 0)]) (τ:=[.cells 0 (encGInterpRun a0),.cells 0 [.int .i64 0,.int .i64 0,.str [],.ds true [] 0 true,.ds true [] 0 true],.cells 0 [.int .i64 3,.int .i64 0,.str [],.os true 2 3 0 0 (qa ([]:List GEntry)) false,.ds true [] 0 true],.cells 0 (qc encGEntry ([]:List GEntry))]) .s ?_
 refine za fun Z1 hZ1=>?_
 obtain⟨y2,hy2,h⟩:=bind_some h;have f3:=E176.idxS hy2;have f4:=E176.fldS0 (f:=246) rfl rfl hy2
 refine rg tok [0,2,6,7,20,21,22] fun K hK=>?_
 simp only[go_sem,qd,qb,qe,reduceCtorEq,ZW,f3,f4];apply hK
 apply ze
 refine yl 20 fun hb13=>?_
 replace hb13:qa y2≤9223372036854775807:=hb13.1;refine zN (fun m L τ=>∃ (p13 q13:List GStep) (x8:Int) (m0_5:GInterpRun) (l6:List GEntry) (v7:Nat),m=qa q13∧L=[(0,.op 0 0 0),(2,.dp (encGValueNode a2) 0),(6,.op 1 0 0),(7,.op 2 0 0),(20,.ds true (qc encGStep y2) (qa y2) false),(21,.int .i64 (qa y2:Int)),(22,.int .i64 x8)]∧τ=[.cells 0 (encGInterpRun m0_5),.cells 0 [.int .i64 0,.int .i64 0,.str [],.ds true [] 0 true,.ds true [] 0 true],.cells 0 [.int .i64 3,.int .i64 0,.str [],.os true 2 3 v7 0 (qa l6) false,.ds true [] 0 true],.cells v7 (qc encGEntry l6)]∧y2=p13++q13∧x8=(qa p13:Int)∧zC.l13 zZ a2 q13 x8 m0_5 l6=some r) _ ⟨[],y2,0,a0,([]:List GEntry),0,rfl,rfl,rfl,rfl,rfl,h⟩ .s ?_;rintro m L τ ⟨p13,q13,x8,m0_5,l6,v7,rfl,rfl,rfl,hE13,hi13,h⟩
 rcases q13 with _|⟨y13,q13⟩
 · have hz13:=yJ hE13 hi13;simp only[zC.l13] at h
   refine rg tok [0,2,6,7,20,21,22,23] fun K hK=>?_
   simp only[go_sem,qd,qb,reduceCtorEq,hz13];apply hK
   refine za fun Z14 hZ14=>?_
   refine zp rfl ?_;apply zI;apply hZ1;refine rgN [6] ?_;apply zE;cases h;simp only[wg,zX,z7,yN,exists_eq_left',go_sem,qf,qe,cellsGTree];refine⟨by decide,by simp,?_,?_⟩
   · first|rfl|(simp only[go_sem,reduceCtorEq,push_cast,if_true,qv,qk,qn,qj,qo,qr,qq,zg]<;>rfl)
   first|rfl|(simp only[go_sem,push_cast,qn,qj,qo,qr,qq,zg]<;>rfl)
 obtain⟨hz13,hw13,hx13,hE'13,hi'13⟩:=yk hE13 hi13 hb13;simp only[zC.l13] at h
 refine rg tok [0,2,6,7,20,21,22,23] fun K hK=>?_
 simp only[go_sem,qd,qb,reduceCtorEq,hz13];apply hK
 refine za fun Z15 hZ15=>?_
 refine zq rfl ?_;apply zd;apply hZ15;refine yR (fun L τ=>∃ (m0_16:GInterpRun) (l17:List GEntry) (v18:Nat),L=[(0,.op 0 0 0),(2,.dp (encGValueNode a2) 0),(6,.op 1 0 0),(7,.op 2 0 0),(20,.ds true (qc encGStep y2) (qa y2) false),(21,.int .i64 (qa y2:Int)),(22,.int .i64 x8)]∧τ=[.cells 0 (encGInterpRun m0_16),.cells 0 [.int .i64 0,.int .i64 0,.str [],.ds true [] 0 true,.ds true [] 0 true],.cells 0 [.int .i64 3,.int .i64 0,.str [],.os true 2 3 v18 0 (qa l17) false,.ds true [] 0 true],.cells v18 (qc encGEntry l17)]∧zC.j19 x8 (zC.l13 zZ a2 q13) m0_16 l17=some r) ?_ ?_
 · apply ze;have f20:=E246.idxS hx13;have f21:=E246.loadS rfl rfl hx13
   refine rg tok [0,2,6,7,9,20,21,22] fun K hK=>?_
   simp only[go_sem,qd,qf,qb,qe,reduceCtorEq,encGStep,f20,f21];apply hK
   refine rgN [0,2,6,7,9,20,21,22] ?_
   refine rc [0,2,6,7,9,10,20,21,22] fun K hK=>?_
   obtain⟨r22,hr22,h⟩:=bind_some h;refine rnN 3 ?_;refine clN rfl rfl rfl (yD.ev a2 y13.fTag r22 hr22 _) ?_;refine rnN 1 ?_;refine nkN hK ?_
   refine za fun Z23 hZ23=>?_
   refine rgN [0,2,6,7,9,10,20,21,22,39] ?_;refine zF rfl (fun hc24=>?_) (fun hc24=>?_)
   · rw[if_pos hc24] at h;have t25:=eq_true hc24;apply zI;exact⟨_,_,⟨(⟨m0_5.fp,IntKind.i64.wrap (m0_5.flooks+1)⟩:GInterpRun),l6,v7,rfl,rfl,h⟩,(.t [0,1,2,3] false)⟩
   rw[if_neg hc24] at h;have t26:=eq_false hc24;apply zd;apply hZ23
   refine rc [0,2,6,7,9,11,20,21,22] fun K hK=>?_
   obtain⟨r27,hr27,h⟩:=bind_some h;refine zj tok 3 ?_;simp only[go_sem,qd,qf,qb,qe,reduceCtorEq,t26];refine clN rfl rfl rfl (@id (ACalls qg 237 [.op 0 0 0,.agg (encGStep y13),.ds true (qc encGValueValue r22) (qa r22) false] [.cells 0 [.ds true (qc (ZW encGStep) m0_5.fp.fParts) (qa m0_5.fp.fParts) false,.int .i64 (IntKind.i64.wrap (m0_5.flooks+1))],.cells 0 [.int .i64 0,.int .i64 0,.str [],.ds true [] 0 true,.ds true [] 0 true],.cells 0 [.int .i64 3,.int .i64 0,.str [],.os true 2 3 v7 0 (qa l6) false,.ds true [] 0 true],.cells v7 (qc encGEntry l6),.cells 0 [.int .i64 y13.fOp,.int .i64 y13.fTag,.int .i64 y13.fSub]] (fun r' σ'=>r'=.ds true (qc encGTree r27.1) (qa r27.1) false∧σ'=[.cells 0 (encGInterpRun r27.2),.cells 0 [.int .i64 0,.int .i64 0,.str [],.ds true [] 0 true,.ds true [] 0 true],.cells 0 [.int .i64 3,.int .i64 0,.str [],.os true 2 3 v7 0 (qa l6) false,.ds true [] 0 true],.cells v7 (qc encGEntry l6),.cells 0 [.int .i64 y13.fOp,.int .i64 y13.fTag,.int .i64 y13.fSub]])) ((Yi (⟨m0_5.fp,IntKind.i64.wrap (m0_5.flooks+1)⟩:GInterpRun) y13 r22 r27 hr27).i [0])) ?_;refine rnN 1 ?_;refine nkN hK ?_;refine rgN [0,2,6,7,9,11,20,21,22,46] ?_;refine zF rfl (fun hc28=>?_) (fun hc28=>?_)
   · rw[if_pos hc28] at h;have t29:=eq_true hc28;obtain⟨_u30,hu30,h⟩:=bind_some h;have gu30:=yy hu30;have f31:=(zz E34.len l6)
     refine rgE tok [0,2,6,7,20,21,22] fun K hK=>?_
     simp only[go_sem,qd,qf,qb,qe,qi,reduceCtorEq,zv,zQ,qO,qI,true_and,qT,ye,zO,yd,t29,gu30,f31,yv,qR,qX,AV.one,qB,qL,qs,qt,qk,qN];apply hK
     exact⟨_,_,⟨r27.2,l6++[(⟨y13.fTag,r27.1⟩:GEntry)],v7+1,rfl,rfl,h⟩,(.t [0,1,2,3] false)⟩
   rw[if_neg hc28] at h;have t32:=eq_false hc28;apply zd;exact⟨_,_,⟨r27.2,l6,v7,rfl,rfl,h⟩,(.t [0,1,2,3] false)⟩
 rintro _ _ ⟨m0_16,l17,v18,rfl,rfl,h⟩;unfold zC.j19 at h
 refine rgE tok [0,2,6,7,20,21,22] fun K hK=>?_
 simp only[go_sem,qd,qb,reduceCtorEq,hw13];apply hK
 exact⟨_,_,_,qw q13.length,⟨p13++[y13],q13,x8+1,m0_16,l17,v18,rfl,rfl,rfl,hE'13,hi'13,h⟩,.s⟩
def zu.j22 (x7:Int)(l5:List GTree)(rec12:Int→GInterpRun→List GTree→Option (List GTree×GInterpRun))(m0_20:GInterpRun)(m3_21:GTree):Option (List GTree×GInterpRun):=
 (Xm (qa l5+1) 80).bind fun _u23=>(rec12 (x7+1) m0_20 (l5++[m3_21]))
def zu.j36 (zx:GInterpRun→Int→GValueNode→Option (GTree×GInterpRun))(a1:GStep)(x7:Int)(m0_4:GInterpRun)(l5:List GTree)(rec12:Int→GInterpRun→List GTree→Option (List GTree×GInterpRun))(r19:GTree)(r25:GValueValue)(x35:Bool):Option (List GTree×GInterpRun):=
 (if x35=true then (match r25 with|.nil=>some (([]:List GTree),m0_4)|.num n38=>some (([]:List GTree),m0_4)|.str s38=>some (([]:List GTree),m0_4)|.node e38 r38=>(zx m0_4 a1.fSub (⟨e38,r38⟩:GValueNode)).bind fun r43=>(if ((decide (a1.fOp=4))&&(decide ((qa r43.1.fEntries:Int)=0)))=true then some (([]:List GTree),r43.2) else (zu.j22 x7 l5 rec12 r43.2 r43.1))) else (zu.j22 x7 l5 rec12 m0_4 r19))
def zu.l12 (zx:GInterpRun→Int→GValueNode→Option (GTree×GInterpRun))(a1:GStep):List GValueValue→Int→GInterpRun→List GTree→Option (List GTree×GInterpRun)
 |[],x7,m0_4,l5=>some (l5,m0_4)
 |y12::q12,x7,m0_4,l5=>(zr xo y12).bind fun r19=>bnd (xF y12) fun r25=>(if a1.fOp=2 then (match r25 with|.nil=>some (([]:List GTree),m0_4)|.num n28=>bnd (xN n28) fun r31=>(zu.j22 x7 l5 (zu.l12 zx a1 q12) m0_4 (⟨r19.fKind,r31,r19.fS,r19.fEntries,r19.fRest⟩:GTree))|.str s28=>some (([]:List GTree),m0_4)|.node e28 r28=>some (([]:List GTree),m0_4)) else (if a1.fOp=3 then (zu.j36 zx a1 x7 m0_4 l5 (zu.l12 zx a1 q12) r19 r25 (decide (a1.fOp=3))) else (zu.j36 zx a1 x7 m0_4 l5 (zu.l12 zx a1 q12) r19 r25 (decide (a1.fOp=4)))))
def zu.j2 (zx:GInterpRun→Int→GValueNode→Option (GTree×GInterpRun))(a0:GInterpRun)(a1:GStep)(x1:List GValueValue):Option (List GTree×GInterpRun):=
 (zu.l12 zx a1 x1 0 a0 ([]:List GTree))
def zu.body (zx:GInterpRun→Int→GValueNode→Option (GTree×GInterpRun))(zZ:GInterpRun→GStep→(List GValueValue)→Option (List GTree×GInterpRun))(a0:GInterpRun)(a1:GStep)(a2:List GValueValue):Option (List GTree×GInterpRun):=
 (if a1.fOp=4 then (grd ((0:Int)≤IntKind.i64.wrap ((qa a2:Int)-1)∧IntKind.i64.wrap ((qa a2:Int)-1)≤(qa a2:Int)∧(qa a2:Int)≤(qa a2:Int))).bind fun _u52=>(zu.j2 zx a0 a1 (X9 a2 (IntKind.i64.wrap ((qa a2:Int)-1)) (qa a2:Int))) else (zu.j2 zx a0 a1 a2))
theorem zu.step (zx:GInterpRun→Int→GValueNode→Option (GTree×GInterpRun))(zZ:GInterpRun→GStep→(List GValueValue)→Option (List GTree×GInterpRun))(Yj:∀ (a0:GInterpRun) (a1:Int) (a2:GValueNode) (r:GTree×GInterpRun),zx a0 a1 a2=some r→ACalls qg 199 [.op 0 0 0,.int .i64 a1,.dp (encGValueNode a2) 0] [.cells 0 (encGInterpRun a0)] (fun r' σ'=>r'=.agg (cellsGTree r.1)∧σ'=[.cells 0 (encGInterpRun r.2)]))(Yi:∀ (a0:GInterpRun) (a1:GStep) (a2:List GValueValue) (r:List GTree×GInterpRun),zZ a0 a1 a2=some r→ACalls qg 237 [.op 0 0 0,.agg (encGStep a1),.ds true (qc encGValueValue a2) (qa a2) false] [.cells 0 (encGInterpRun a0)] (fun r' σ'=>r'=.ds true (qc encGTree r.1) (qa r.1) false∧σ'=[.cells 0 (encGInterpRun r.2)]))(a0:GInterpRun)(a1:GStep)(a2:List GValueValue)(r:List GTree×GInterpRun)(h:zu.body zx zZ a0 a1 a2=some r):ACalls qg 237 [.op 0 0 0,.agg (encGStep a1),.ds true (qc encGValueValue a2) (qa a2) false] [.cells 0 (encGInterpRun a0)] (fun r' σ'=>r'=.ds true (qc encGTree r.1) (qa r.1) false∧σ'=[.cells 0 (encGInterpRun r.2)]):=by
 refine we [0] (rs:=[.tmp 6]) tok Tryz.func237 rfl Tryz.ntmps237 rfl Tryz.call237 (by simp) rfl ?_;refine zk [(0,.op 0 0 0),(1,.agg (encGStep a1)),(2,.ds true (qc encGValueValue a2) (qa a2) false)] ⟨rfl,rfl,rfl,trivial⟩ ?_;unfold zu.body at h
 refine rg tok [0,2,4] fun K hK=>?_
 simp only[go_sem,qd,qb,qe,reduceCtorEq,encGStep];apply hK
 refine rgN [0,2,4,7] ?_;refine YG 7 5 rfl ?_;refine yz (L:=[(0,.op 0 0 0),(2,.ds true (qc encGValueValue a2) (qa a2) false),(4,.op 1 0 0),(7,.os true 5 2 0 0 (qa ([]:List GTree)) false)]) (τ:=[.cells 0 (encGInterpRun a0),.cells 0 [.int .i64 a1.fOp,.int .i64 a1.fTag,.int .i64 a1.fSub],.cells 0 (qc encGTree ([]:List GTree))]) .s ?_;refine yR (fun L τ=>∃ (x1:List GValueValue),L=[(0,.op 0 0 0),(2,.ds true (qc encGValueValue x1) (qa x1) false),(4,.op 1 0 0),(7,.os true 5 2 0 0 (qa ([]:List GTree)) false)]∧τ=[.cells 0 (encGInterpRun a0),.cells 0 [.int .i64 a1.fOp,.int .i64 a1.fTag,.int .i64 a1.fSub],.cells 0 (qc encGTree ([]:List GTree))]∧zu.j2 zx a0 a1 x1=some r) ?_ ?_
 · refine rgN [0,2,4,7,18] ?_;refine zF rfl (fun hc50=>?_) (fun hc50=>?_)
   · rw[if_pos hc50] at h;have t51:=eq_true hc50;obtain⟨_u52,hu52,h⟩:=bind_some h;have gu52:=wF hu52;have f53:=E282.sl_lo gu52
     refine rgE tok [0,2,4,7] fun K hK=>?_
     simp only[go_sem,qd,qb,reduceCtorEq,t51,f53];apply hK
     exact⟨_,_,⟨X9 a2 (IntKind.i64.wrap ((qa a2:Int)-1)) (qa a2:Int),rfl,rfl,h⟩,.s⟩
   rw[if_neg hc50] at h;have t54:=eq_false hc50;apply zd;exact⟨_,_,⟨a2,rfl,rfl,h⟩,.s⟩
 rintro _ _ ⟨x1,rfl,rfl,h⟩;unfold zu.j2 at h
 refine za fun Z3 hZ3=>?_
 refine rgN [0,4,7,24,25,26] ?_;apply ze
 refine yl 24 fun hb12=>?_
 replace hb12:qa x1≤9223372036854775807:=hb12.1;refine zN (fun m L τ=>∃ (p12 q12:List GValueValue) (x7:Int) (m0_4:GInterpRun) (l5:List GTree) (v6:Nat),m=qa q12∧L=[(0,.op 0 0 0),(4,.op 1 0 0),(7,.os true 5 2 v6 0 (qa l5) false),(24,.ds true (qc encGValueValue x1) (qa x1) false),(25,.int .i64 (qa x1:Int)),(26,.int .i64 x7)]∧τ=[.cells 0 (encGInterpRun m0_4),.cells 0 [.int .i64 a1.fOp,.int .i64 a1.fTag,.int .i64 a1.fSub],.cells v6 (qc encGTree l5)]∧x1=p12++q12∧x7=(qa p12:Int)∧zu.l12 zx a1 q12 x7 m0_4 l5=some r) _ ⟨[],x1,0,a0,([]:List GTree),0,rfl,rfl,rfl,rfl,rfl,h⟩ .s ?_;rintro m L τ ⟨p12,q12,x7,m0_4,l5,v6,rfl,rfl,rfl,hE12,hi12,h⟩
 rcases q12 with _|⟨y12,q12⟩
 · have hz12:=yJ hE12 hi12;simp only[zu.l12] at h
   refine rg tok [0,4,7,24,25,26,27] fun K hK=>?_
   simp only[go_sem,qd,qb,reduceCtorEq,hz12];apply hK
   refine za fun Z13 hZ13=>?_
   refine zp rfl ?_;apply zI;apply hZ3;refine rgN [6] ?_;apply zE;cases h;simp only[wg,zX,z7,yN,exists_eq_left',go_sem,qe];refine⟨by decide,by simp,?_,?_⟩
   · first|rfl|(simp only[go_sem,reduceCtorEq,push_cast,if_true,qv,qk,zg]<;>rfl)
   first|rfl|(simp only[go_sem,push_cast,qn,qj,qo,qr,qq,zg]<;>rfl)
 obtain⟨hz12,hw12,hx12,hE'12,hi'12⟩:=yk hE12 hi12 hb12;simp only[zu.l12] at h
 refine rg tok [0,4,7,24,25,26,27] fun K hK=>?_
 simp only[go_sem,qd,qb,reduceCtorEq,hz12];apply hK
 refine za fun Z14 hZ14=>?_
 refine zq rfl ?_;apply zd;apply hZ14
 refine za fun Z15 hZ15=>?_
 apply ze;have f16:=E282.idxS hx12;have f17:=E282.loadS rfl rfl hx12;have f18:=wD y12;unfold AV.one at f18
 refine rg tok [0,4,7,9,24,25,26] fun K hK=>?_
 simp only[go_sem,qd,qf,qb,qe,reduceCtorEq,encGValueValue,f16,f17,f18];apply hK
 refine rc [0,4,7,9,10,24,25,26] fun K hK=>?_
 obtain⟨r19,hr19,h⟩:=bind_some h;refine rnN 1 ?_;refine clN rfl rfl rfl (zr.ev xo y12 r19 hr19 _) ?_;refine zj tok 2 ?_;simp only[go_sem,qd,qf,qb,qe,reduceCtorEq,cellsGTree];refine nkN hK ?_;refine yR (fun L τ=>∃ (m0_20:GInterpRun) (m3_21:GTree),L=[(0,.op 0 0 0),(4,.op 1 0 0),(7,.os true 5 2 v6 0 (qa l5) false),(10,.op 3 0 0),(24,.ds true (qc encGValueValue x1) (qa x1) false),(25,.int .i64 (qa x1:Int)),(26,.int .i64 x7)]∧τ=[.cells 0 (encGInterpRun m0_20),.cells 0 [.int .i64 a1.fOp,.int .i64 a1.fTag,.int .i64 a1.fSub],.cells v6 (qc encGTree l5),.cells 0 (cellsGTree m3_21)]∧zu.j22 x7 l5 (zu.l12 zx a1 q12) m0_20 m3_21=some r) ?_ ?_
 · refine rc [0,4,7,10,11,24,25,26] fun K hK=>?_
   obtain⟨r25,hr25,h⟩:=zH h;refine rnN 1 ?_;refine clN rfl rfl rfl (xF.ev y12 r25 hr25 _) ?_;refine rnN 1 ?_;refine nkN hK ?_;refine rgN [0,4,7,10,11,24,25,26,35] ?_;apply ze;refine rgN [0,4,7,10,11,24,25,26,35,36] ?_;refine zF rfl (fun hc26=>?_) (fun hc26=>?_)
   · rw[if_pos hc26] at h;have t27:=eq_true hc26
     rcases r25 with _|n28|s28|⟨e28,r28⟩
     · dsimp only at h
       try simp only[vaA]
       refine rg tok [0,4,7,10,12,13,24,25,26] fun K hK=>?_
       simp only[go_sem,qd,qb,qe,reduceCtorEq,t27,yr,yw,TypeDesc.isIface];apply hK
       refine za fun Z29 hZ29=>?_
       refine rgN [0,4,7,10,12,24,25,26,44] ?_;refine zq rfl ?_;refine rgN [6] ?_;apply zE;cases h;simp only[wg,zX,z7,yN,exists_eq_left',go_sem,qe];refine⟨by decide,by simp,?_,?_⟩
       · first|rfl|(simp only[go_sem,qd,qf,qb,qe,qi,qm,reduceIte,reduceCtorEq,push_cast,if_true,qv,qk,qn,qj,qx,qo,qE,qz,qr,qq,qp,zg,cellsGTree,encGAdaptProgram,encGInterpRun,zM]<;>rfl)
       first|rfl|(simp only[go_sem,push_cast,qn,qj,qo,qr,qq,zg]<;>rfl)
     · dsimp only at h
       try simp only[vaz]
       refine rg tok [0,4,7,10,12,13,24,25,26] fun K hK=>?_
       simp only[go_sem,qd,qb,qe,reduceCtorEq,t27,yr,yw,TypeDesc.isIface];apply hK
       refine za fun Z30 hZ30=>?_
       refine rgN [0,4,7,10,12,24,25,26,44] ?_;refine zp rfl ?_;apply zd;apply hZ30
       refine rcE [0,4,7,10,24,25,26] fun K hK=>?_
       obtain⟨r31,hr31,h⟩:=zH h;refine rnN 1 ?_;refine clN rfl rfl rfl (xN.ev n28 r31 hr31 _) ?_;refine rnN 2 ?_;refine nkN hK ?_;exact⟨_,_,⟨m0_4,(⟨r19.fKind,r31,r19.fS,r19.fEntries,r19.fRest⟩:GTree),rfl,rfl,h⟩,(.t [0,1,2,4] false)⟩
     · dsimp only at h
       try simp only[vay]
       refine rg tok [0,4,7,10,12,13,24,25,26] fun K hK=>?_
       simp only[go_sem,qd,qb,qe,reduceCtorEq,t27,yr,yw,TypeDesc.isIface];apply hK
       refine za fun Z32 hZ32=>?_
       refine rgN [0,4,7,10,12,24,25,26,44] ?_;refine zq rfl ?_;refine rgN [6] ?_;apply zE;cases h;simp only[wg,zX,z7,yN,exists_eq_left',go_sem,qe];refine⟨by decide,by simp,?_,?_⟩
       · first|rfl|(simp only[go_sem,qd,qf,qb,qe,qi,qm,reduceIte,reduceCtorEq,push_cast,if_true,qv,qk,qn,qj,qx,qo,qE,qz,qr,qq,qp,zg,cellsGTree,encGAdaptProgram,encGInterpRun,zM]<;>rfl)
       first|rfl|(simp only[go_sem,push_cast,qn,qj,qo,qr,qq,zg]<;>rfl)
     dsimp only at h
     try simp only[XU]
     refine rg tok [0,4,7,10,12,13,24,25,26] fun K hK=>?_
     simp only[go_sem,qd,qb,qe,reduceCtorEq,t27,yr,yw,TypeDesc.isIface];apply hK
     refine za fun Z33 hZ33=>?_
     refine rgN [0,4,7,10,12,24,25,26,44] ?_;refine zq rfl ?_;refine rgN [6] ?_;apply zE;cases h;simp only[wg,zX,z7,yN,exists_eq_left',go_sem,qe];refine⟨by decide,by simp,?_,?_⟩
     · first|rfl|(simp only[go_sem,qd,qf,qb,qe,qi,qm,reduceIte,reduceCtorEq,push_cast,if_true,qv,qk,qn,qj,qx,qo,qE,qz,qr,qq,qp,zg,cellsGTree,encGAdaptProgram,encGInterpRun,zM]<;>rfl)
     first|rfl|(simp only[go_sem,push_cast,qn,qj,qo,qr,qq,zg]<;>rfl)
   rw[if_neg hc26] at h;have t34:=eq_false hc26;refine yR (fun L τ=>∃ (x35:Bool),L=[(0,.op 0 0 0),(4,.op 1 0 0),(7,.os true 5 2 v6 0 (qa l5) false),(10,.op 3 0 0),(11,anyV r25),(24,.ds true (qc encGValueValue x1) (qa x1) false),(25,.int .i64 (qa x1:Int)),(26,.int .i64 x7),(48,.bool x35)]∧τ=[.cells 0 (encGInterpRun m0_4),.cells 0 [.int .i64 a1.fOp,.int .i64 a1.fTag,.int .i64 a1.fSub],.cells v6 (qc encGTree l5),.cells 0 (cellsGTree r19)]∧zu.j36 zx a1 x7 m0_4 l5 (zu.l12 zx a1 q12) r19 r25 x35=some r) ?_ ?_
   · refine rg tok [0,4,7,10,11,24,25,26,35,48] fun K hK=>?_
     simp only[go_sem,qd,qb,reduceCtorEq,t34];apply hK
     refine zF rfl (fun hc47=>?_) (fun hc47=>?_)
     · rw[if_pos hc47] at h;have t48:=eq_true hc47;apply zd;exact⟨_,_,⟨decide (a1.fOp=3),rfl,rfl,h⟩,(.t [0,1,2,4] false)⟩
     rw[if_neg hc47] at h;have t49:=eq_false hc47
     refine rgE tok [0,4,7,10,11,24,25,26,48] fun K hK=>?_
     simp only[go_sem,qd,qb,reduceCtorEq,t49];apply hK
     exact⟨_,_,⟨decide (a1.fOp=4),rfl,rfl,h⟩,(.t [0,1,2,4] false)⟩
   rintro _ _ ⟨x35,rfl,rfl,h⟩;unfold zu.j36 at h;refine zw (b:=x35) rfl (fun hc37=>?_) (fun hc37=>?_)
   · rw[if_pos hc37] at h
     rcases r25 with _|n38|s38|⟨e38,r38⟩
     · dsimp only at h
       try simp only[vaA]
       refine rg tok [0,4,7,10,14,15,24,25,26] fun K hK=>?_
       simp only[go_sem,qd,qb,qe,reduceCtorEq,yr,yw,TypeDesc.isIface];apply hK
       refine za fun Z39 hZ39=>?_
       refine rgN [0,4,7,10,14,24,25,26,57] ?_;refine zq rfl ?_;refine rgN [6] ?_;apply zE;cases h;simp only[wg,zX,z7,yN,exists_eq_left',go_sem,qe];refine⟨by decide,by simp,?_,?_⟩
       · first|rfl|(simp only[go_sem,qd,qf,qb,qe,qi,qm,reduceIte,reduceCtorEq,push_cast,if_true,qv,qk,qn,qj,qx,qo,qE,qz,qr,qq,qp,zg,cellsGTree,encGAdaptProgram,encGInterpRun,zM]<;>rfl)
       first|rfl|(simp only[go_sem,push_cast,qn,qj,qo,qr,qq,zg]<;>rfl)
     · dsimp only at h
       try simp only[vaz]
       refine rg tok [0,4,7,10,14,15,24,25,26] fun K hK=>?_
       simp only[go_sem,qd,qb,qe,reduceCtorEq,yr,yw,TypeDesc.isIface];apply hK
       refine za fun Z40 hZ40=>?_
       refine rgN [0,4,7,10,14,24,25,26,57] ?_;refine zq rfl ?_;refine rgN [6] ?_;apply zE;cases h;simp only[wg,zX,z7,yN,exists_eq_left',go_sem,qe];refine⟨by decide,by simp,?_,?_⟩
       · first|rfl|(simp only[go_sem,qd,qf,qb,qe,qi,qm,reduceIte,reduceCtorEq,push_cast,if_true,qv,qk,qn,qj,qx,qo,qE,qz,qr,qq,qp,zg,cellsGTree,encGAdaptProgram,encGInterpRun,zM]<;>rfl)
       first|rfl|(simp only[go_sem,push_cast,qn,qj,qo,qr,qq,zg]<;>rfl)
     · dsimp only at h
       try simp only[vay]
       refine rg tok [0,4,7,10,14,15,24,25,26] fun K hK=>?_
       simp only[go_sem,qd,qb,qe,reduceCtorEq,yr,yw,TypeDesc.isIface];apply hK
       refine za fun Z41 hZ41=>?_
       refine rgN [0,4,7,10,14,24,25,26,57] ?_;refine zq rfl ?_;refine rgN [6] ?_;apply zE;cases h;simp only[wg,zX,z7,yN,exists_eq_left',go_sem,qe];refine⟨by decide,by simp,?_,?_⟩
       · first|rfl|(simp only[go_sem,qd,qf,qb,qe,qi,qm,reduceIte,reduceCtorEq,push_cast,if_true,qv,qk,qn,qj,qx,qo,qE,qz,qr,qq,qp,zg,cellsGTree,encGAdaptProgram,encGInterpRun,zM]<;>rfl)
       first|rfl|(simp only[go_sem,push_cast,qn,qj,qo,qr,qq,zg]<;>rfl)
     dsimp only at h
     try simp only[XU]
     refine rg tok [0,4,7,10,14,15,24,25,26] fun K hK=>?_
     simp only[go_sem,qd,qb,qe,reduceCtorEq,yr,yw,TypeDesc.isIface];apply hK
     refine za fun Z42 hZ42=>?_
     refine rgN [0,4,7,10,14,24,25,26,57] ?_;refine zp rfl ?_;apply zd;apply hZ42
     refine rc [0,4,7,10,24,25,26] fun K hK=>?_
     obtain⟨r43,hr43,h⟩:=bind_some h;refine rnN 4 ?_;refine clN rfl rfl rfl (@id (ACalls qg 199 [.op 0 0 0,.int .i64 a1.fSub,.dp [.ds true (qc encGValueEntry e38) (qa e38) false,.ds true (qc encGRaw r38) (qa r38) false] 0] [.cells 0 (encGInterpRun m0_4),.cells 0 [.int .i64 a1.fOp,.int .i64 a1.fTag,.int .i64 a1.fSub],.cells v6 (qc encGTree l5),.cells 0 (cellsGTree r19)] (fun r' σ'=>r'=.agg (cellsGTree r43.1)∧σ'=[.cells 0 (encGInterpRun r43.2),.cells 0 [.int .i64 a1.fOp,.int .i64 a1.fTag,.int .i64 a1.fSub],.cells v6 (qc encGTree l5),.cells 0 (cellsGTree r19)])) ((Yj m0_4 a1.fSub (⟨e38,r38⟩:GValueNode) r43 hr43).i [0])) ?_;refine zj tok 1 ?_;simp only[go_sem,qf,qb,qe,reduceCtorEq,cellsGTree];refine nkN hK ?_
     refine rc [0,4,7,10,24,25,26,71] fun K hK=>?_
     refine rnN 4 ?_;refine zo 5 (fun L τ=>L=[(0,.op 0 0 0),(4,.op 1 0 0),(7,.os true 5 2 v6 0 (qa l5) false),(10,.op 3 0 0),(24,.ds true (qc encGValueValue x1) (qa x1) false),(25,.int .i64 (qa x1:Int)),(26,.int .i64 x7),(71,.bool ((decide (a1.fOp=4))&&(decide ((qa r43.1.fEntries:Int)=0))))]∧τ=[.cells 0 (encGInterpRun r43.2),.cells 0 [.int .i64 a1.fOp,.int .i64 a1.fTag,.int .i64 a1.fSub],.cells v6 (qc encGTree l5),.cells 0 (cellsGTree r43.1)]) ?_ ?_
     · refine xj 66 rfl (fun hg66=>?_) (fun hg66=>?_)
       · have t44:=eq_true hg66;refine rnN 5 ?_;refine zb ⟨rfl,_,_,⟨rfl,rfl⟩,.p t44⟩
       have t45:=eq_false hg66;refine rnN 5 ?_;refine zb ⟨rfl,_,_,⟨rfl,rfl⟩,.p t45⟩
     rintro _ _ ⟨rfl,rfl⟩;refine nkN hK ?_;refine zw (b:=((decide (a1.fOp=4))&&(decide ((qa r43.1.fEntries:Int)=0)))) rfl (fun hc46=>?_) (fun hc46=>?_)
     · rw[if_pos hc46] at h;refine rgN [6] ?_;apply zE;cases h;simp only[wg,zX,z7,yN,exists_eq_left',go_sem,qe];refine⟨by decide,by simp,?_,?_⟩
       · first|rfl|(simp only[go_sem,qd,qf,qb,qe,qi,qm,reduceIte,reduceCtorEq,push_cast,if_true,qv,qk,qn,qj,qx,qo,qE,qz,qr,qq,qp,zg,cellsGTree,encGAdaptProgram,encGInterpRun,zM]<;>rfl)
       first|rfl|(simp only[go_sem,push_cast,qn,qj,qo,qr,qq,zg]<;>rfl)
     rw[xU hc46] at h;apply zd;exact⟨_,_,⟨r43.2,r43.1,rfl,rfl,h⟩,.s⟩
   rw[xU hc37] at h;apply zd;exact⟨_,_,⟨m0_4,r19,rfl,rfl,h⟩,.s⟩
 rintro _ _ ⟨m0_20,m3_21,rfl,rfl,h⟩;unfold zu.j22 at h;obtain⟨_u23,hu23,h⟩:=bind_some h;have gu23:=yy hu23;have f24:=(zz E38.len l5)
 refine rgE tok [0,4,7,24,25,26] fun K hK=>?_
 simp only[go_sem,qd,qf,qb,qe,qi,reduceCtorEq,zv,zQ,qO,qI,true_and,qT,ye,zO,yd,gu23,f24,yv,qR,qX,AV.one,qB,qL,qs,qt,qk,qN];apply hK
 apply hZ15
 refine rgE tok [0,4,7,24,25,26] fun K hK=>?_
 simp only[go_sem,qd,qb,reduceCtorEq,hw12];apply hK
 exact⟨_,_,_,qw q12.length,⟨p12++[y12],q12,x7+1,m0_20,l5++[m3_21],v6+1,rfl,rfl,rfl,hE'12,hi'12,h⟩,(.t [0,1,2] false)⟩
mutual
def zC : Nat→GInterpRun→Int→GValueNode→Option (GTree×GInterpRun)
 |0,_,_,_=>none
 |k+1,a0,a1,a2=>zC.body (zC k) (zu k) a0 a1 a2
def zu : Nat→GInterpRun→GStep→(List GValueValue)→Option (List GTree×GInterpRun)
 |0,_,_,_=>none
 |k+1,a0,a1,a2=>zu.body (zC k) (zu k) a0 a1 a2
end
theorem zC.all (k:Nat):(∀ (a0:GInterpRun) (a1:Int) (a2:GValueNode) (r:GTree×GInterpRun),zC k a0 a1 a2=some r→ACalls qg 199 [.op 0 0 0,.int .i64 a1,.dp (encGValueNode a2) 0] [.cells 0 (encGInterpRun a0)] (fun r' σ'=>r'=.agg (cellsGTree r.1)∧σ'=[.cells 0 (encGInterpRun r.2)]))∧(∀ (a0:GInterpRun) (a1:GStep) (a2:List GValueValue) (r:List GTree×GInterpRun),zu k a0 a1 a2=some r→ACalls qg 237 [.op 0 0 0,.agg (encGStep a1),.ds true (qc encGValueValue a2) (qa a2) false] [.cells 0 (encGInterpRun a0)] (fun r' σ'=>r'=.ds true (qc encGTree r.1) (qa r.1) false∧σ'=[.cells 0 (encGInterpRun r.2)])):=by
 induction k with
 |zero=>exact⟨(fun a0 a1 a2 r h=>by simp only[zC] at h; cases h),(fun a0 a1 a2 r h=>by simp only[zu] at h; cases h)⟩
 |succ k ih=>exact⟨(fun a0 a1 a2 r h=>zC.step _ _ ih.1 ih.2 a0 a1 a2 r (by simpa only [zC] using h)),(fun a0 a1 a2 r h=>zu.step _ _ ih.1 ih.2 a0 a1 a2 r (by simpa only [zu] using h))⟩
theorem zC.ok (k:Nat)(a0:GInterpRun)(a1:Int)(a2:GValueNode)(r:GTree×GInterpRun)(h:zC k a0 a1 a2=some r):ACalls qg 199 [.op 0 0 0,.int .i64 a1,.dp (encGValueNode a2) 0] [.cells 0 (encGInterpRun a0)] (fun r' σ'=>r'=.agg (cellsGTree r.1)∧σ'=[.cells 0 (encGInterpRun r.2)]):=(zC.all k).1 a0 a1 a2 r h
def wx (a0:GAdaptProgram)(a1:GTree):Option (GTree×Int×Int):=
 bnd (yQ a0) fun r2=>(if ((!r2)||(!(decide (a1.fKind=3))))=true then some ((⟨0,0,[],([]:List GEntry),([]:List GRaw)⟩:GTree),0,1) else (ZE a1).bind fun r4=>(if (!r4.2)=true then some ((⟨0,0,[],([]:List GEntry),([]:List GRaw)⟩:GTree),0,1) else (yn r4.1).bind fun r8=>(zC xo (⟨a0,0⟩:GInterpRun) 0 r8).bind fun r9=>some (r9.1,r9.2.flooks,0)))
theorem wx.ok (a0:GAdaptProgram)(a1:GTree)(r:GTree×Int×Int)(h:wx a0 a1=some r):ACalls qg 152 [.agg (encGAdaptProgram a0),.agg (cellsGTree a1)] [] (fun r' _=>r'=.tup [.agg (cellsGTree r.1),.int .i64 r.2.1,.int .i64 r.2.2]):=by
 refine zf (rs:=[.cell 4 37,.tmp 5,.tmp 6]) tok Tryz.func152 rfl Tryz.ntmps152 rfl Tryz.call152 (by simp) ?_;refine zk [(0,.agg (encGAdaptProgram a0)),(1,.agg (cellsGTree a1))] ⟨rfl,rfl,trivial⟩ ?_;unfold wx at h
 refine rg tok [2,3,4] fun K hK=>?_
 simp only[go_sem,qd,qb,qe,reduceCtorEq,cellsGTree,encGAdaptProgram];apply hK
 refine za fun Z1 hZ1=>?_
 refine rc [2,3,4,18] fun K hK=>?_
 obtain⟨r2,hr2,h⟩:=zH h;refine rnN 1 ?_;refine clN rfl rfl rfl (yQ.ev a0 r2 hr2 _) ?_;refine rnN 2 ?_;refine zo 4 (fun L τ=>L=[(2,.op 0 0 0),(3,.op 1 0 0),(4,.op 2 0 0),(18,.bool ((!r2)||(!(decide (a1.fKind=3)))))]∧τ=[.cells 0 (encGAdaptProgram a0),.cells 0 (cellsGTree a1),.cells 0 [.int .i64 0,.int .i64 0,.str [],.ds true [] 0 true,.ds true [] 0 true]]) ?_ ?_
 · refine zP (b:=(!r2)) 14 rfl (fun hg14=>?_) (fun hg14=>?_)
   · refine rnN 4 ?_;refine zb ⟨rfl,_,_,⟨rfl,rfl⟩,.b hg14⟩
   refine rnN 4 ?_;refine zb ⟨rfl,_,_,⟨rfl,rfl⟩,.b hg14⟩
 rintro _ _ ⟨rfl,rfl⟩;refine nkN hK ?_;refine zw (b:=((!r2)||(!(decide (a1.fKind=3))))) rfl (fun hc3=>?_) (fun hc3=>?_)
 · rw[if_pos hc3] at h;refine rgN [4,5,6] ?_;cases h;exact rtA
 rw[xU hc3] at h;apply zd;apply hZ1
 refine rc [2,4,7,8] fun K hK=>?_
 obtain⟨r4,hr4,h⟩:=bind_some h;refine zj tok 1 ?_;simp only[go_sem,qd,qf,qb,qe,cellsGTree];refine clN rfl rfl rfl (ZE.ev a1 r4 hr4 _) ?_;have f5:=wD r4.1;unfold AV.one at f5;refine zj tok 6 ?_;simp only[go_sem,qd,qf,qb,qe,encGValueValue,f5];refine nkN hK ?_
 refine za fun Z6 hZ6=>?_
 refine rgN [2,4,7,26] ?_;refine zw (b:=(!r4.2)) rfl (fun hc7=>?_) (fun hc7=>?_)
 · rw[if_pos hc7] at h;refine rgN [4,5,6] ?_;cases h;exact rtA
 rw[xU hc7] at h;apply zd;apply hZ6;refine rgN [4,7,9] ?_
 refine rc [4,9,10] fun K hK=>?_
 obtain⟨r8,hr8,h⟩:=bind_some h;refine rnN 2 ?_;refine clN rfl rfl rfl (yn.ev r4.1 r8 hr8 _) ?_;obtain⟨r9,hr9,h⟩:=bind_some h;refine clN rfl rfl rfl (@id (ACalls qg 199 [.op 4 0 0,.int .i64 0,.dp (encGValueNode r8) 0] [.cells 0 (encGAdaptProgram a0),.cells 0 (cellsGTree a1),.cells 0 [.int .i64 0,.int .i64 0,.str [],.ds true [] 0 true,.ds true [] 0 true],.cells 0 [ifcV r4.1],.cells 0 [.ds true (qc (ZW encGStep) a0.fParts) (qa a0.fParts) false,.int .i64 0]] (fun r' σ'=>r'=.agg (cellsGTree r9.1)∧σ'=[.cells 0 (encGAdaptProgram a0),.cells 0 (cellsGTree a1),.cells 0 [.int .i64 0,.int .i64 0,.str [],.ds true [] 0 true,.ds true [] 0 true],.cells 0 [ifcV r4.1],.cells 0 (encGInterpRun r9.2)])) ((zC.ok xo (⟨a0,0⟩:GInterpRun) 0 r8 r9 hr9).i [4])) ?_;refine zj tok 2 ?_;simp only[go_sem,qd,qf,qb,qe,cellsGTree];refine nkN hK ?_
 refine rd [4,5,6] fun K hK=>?_
 refine DW.start (T:=tab) [.at [],.any,.any,.any,.own 1 [2],.eff,.any,.any] [(1,[2])] ?_;refine DW.runN tok 8 ?_;simp only[go_sem,qd,qf,qb,qe,reduceCtorEq,cellsGTree];refine DW.fin tok (by decide +kernel) rfl ?_;simp only[zn,upd,qb,reduceIte,ym,y1];apply hK
 cases h;exact rtA
end
section
set_option maxRecDepth 4000
set_option maxHeartbeats 1000000
open AM
theorem wx.ev (a0:GAdaptProgram)(a1:GTree)(r:GTree×Int×Int)(h:wx a0 a1=some r)(σ:Store):ACalls qg 152 [.agg (encGAdaptProgram a0),.agg (cellsGTree a1)] σ (fun r' σ'=>r'=.tup [.agg (cellsGTree r.1),.int .i64 r.2.1,.int .i64 r.2.2]∧σ'=σ):=
 (wx.ok a0 a1 r h).c σ
def wN (a0:GAdaptProgram)(a1:GTree):Option (GTree×Int):=
 (wx a0 a1).bind fun r1=>some (r1.1,r1.2.2)
theorem wN.ok (a0:GAdaptProgram)(a1:GTree)(r:GTree×Int)(h:wN a0 a1=some r):ACalls qg 100 [.agg (encGAdaptProgram a0),.agg (cellsGTree a1)] [] (fun r' _=>r'=.tup [.agg (cellsGTree r.1),.int .i64 r.2]):=by
 refine zf (rs:=[.cell 4 37,.tmp 5]) tok Tryz.func100 rfl Tryz.ntmps100 rfl Tryz.call100 (by simp) ?_;refine zk [(0,.agg (encGAdaptProgram a0)),(1,.agg (cellsGTree a1))] ⟨rfl,rfl,trivial⟩ ?_;unfold wN at h
 refine rg tok [2,3,4] fun K hK=>?_
 simp only[go_sem,qd,qb,qe,reduceCtorEq,cellsGTree,encGAdaptProgram];apply hK
 refine rc [4,6,8] fun K hK=>?_
 obtain⟨r1,hr1,h⟩:=bind_some h;refine zj tok 2 ?_;simp only[go_sem,qd,qf,qb,qe,cellsGTree];refine clN rfl rfl rfl (wx.ev a0 a1 r1 hr1 _) ?_;refine zj tok 8 ?_;simp only[go_sem,qd,qf,qb,qe,cellsGTree];refine nkN hK ?_;refine rgN [4,5] ?_;cases h;exact rtA
theorem wN.ev (a0:GAdaptProgram)(a1:GTree)(r:GTree×Int)(h:wN a0 a1=some r)(σ:Store):ACalls qg 100 [.agg (encGAdaptProgram a0),.agg (cellsGTree a1)] σ (fun r' σ'=>r'=.tup [.agg (cellsGTree r.1),.int .i64 r.2]∧σ'=σ):=
 (wN.ok a0 a1 r h).c σ
def wk (a0:GSchema)(a1:List UInt8)(a2:List UInt8):Option (GTree×Int):=
 (zS a0).bind fun r2=>(if r2=0 then bnd (zK a0 a1) fun r6=>(if (!r6.2)=true then some ((⟨0,0,[],([]:List GEntry),([]:List GRaw)⟩:GTree),14) else (zL xo a0 r6.1 a2 1).bind fun r9=>some (r9.1,r9.2)) else some ((⟨0,0,[],([]:List GEntry),([]:List GRaw)⟩:GTree),1))
theorem wk.ok (a0:GSchema)(a1:List UInt8)(a2:List UInt8)(r:GTree×Int)(h:wk a0 a1 a2=some r):ACalls qg 98 [.agg (encGSchema a0),.str a1,.ds true (qc encB a2) (qa a2) false] [] (fun r' _=>r'=.tup [.agg (cellsGTree r.1),.int .i64 r.2]):=by
 refine zf (rs:=[.cell 6 37,.tmp 7]) tok Tryz.func98 rfl Tryz.ntmps98 rfl Tryz.call98 (by simp) ?_;refine zk [(0,.agg (encGSchema a0)),(1,.str a1),(2,.ds true (qc encB a2) (qa a2) false)] ⟨rfl,rfl,rfl,trivial⟩ ?_;unfold wk at h
 refine rg tok [1,2,3,6] fun K hK=>?_
 simp only[go_sem,qd,qb,qe,reduceCtorEq,encGSchema];apply hK
 refine za fun Z1 hZ1=>?_
 refine rc [1,2,3,6,12] fun K hK=>?_
 obtain⟨r2,hr2,h⟩:=bind_some h;refine rnN 1 ?_;refine clN rfl rfl rfl (zS.ev a0 r2 hr2 _) ?_;refine rnN 1 ?_;refine nkN hK ?_;refine zF rfl (fun hc3=>?_) (fun hc3=>?_)
 · rw[if_neg hc3] at h;have t4:=eq_false hc3
   refine rg tok [6,7] fun K hK=>?_
   simp only[go_sem,qd,qf,qb,qe,t4];apply hK
   cases h;exact rtA
 rw[if_pos hc3] at h;have t5:=eq_true hc3;apply zd;apply hZ1
 refine rc [2,3,6,8,9] fun K hK=>?_
 obtain⟨r6,hr6,h⟩:=zH h;refine zj tok 2 ?_;simp only[go_sem,qd,qf,qb,qe,t5];refine clN rfl rfl rfl (zK.ev a0 a1 r6 hr6 _) ?_;refine zj tok 6 ?_;simp only[go_sem,qd,qf,qb,qe,encGMessage];refine nkN hK ?_
 refine za fun Z7 hZ7=>?_
 refine rgN [2,3,6,8,21] ?_;refine zw (b:=(!r6.2)) rfl (fun hc8=>?_) (fun hc8=>?_)
 · rw[if_pos hc8] at h;refine rgN [6,7] ?_;cases h;exact rtA
 rw[xU hc8] at h;apply zd;apply hZ7
 refine rc [6,7] fun K hK=>?_
 obtain⟨r9,hr9,h⟩:=bind_some h;refine rnN 3 ?_;refine clN rfl rfl rfl (zL.ev xo a0 r6.1 a2 1 r9 hr9 _) ?_;refine zj tok 4 ?_;simp only[go_sem,qd,qf,qb,qe,cellsGTree];refine nkN hK ?_;cases h;exact rtA
theorem wk.ev (a0:GSchema)(a1:List UInt8)(a2:List UInt8)(r:GTree×Int)(h:wk a0 a1 a2=some r)(σ:Store):ACalls qg 98 [.agg (encGSchema a0),.str a1,.ds true (qc encB a2) (qa a2) false] σ (fun r' σ'=>r'=.tup [.agg (cellsGTree r.1),.int .i64 r.2]∧σ'=σ):=
 (wk.ok a0 a1 a2 r h).c σ
def yP.j3 (x2:Int):Option Int:=
 some x2
def yP (a0:Int)(a1:Int):Option Int:=
 (grd (a1≠0)).bind fun _u1=>(if (a0).tmod a1<0 then (yP.j3 (IntKind.i64.wrap ((a0).tmod a1+a1))) else (yP.j3 ((a0).tmod a1)))
theorem yP.ok (a0:Int)(a1:Int)(r:Int)(h:yP a0 a1=some r):ACalls qg 25 [.int .i64 a0,.int .i64 a1] [] (fun r' _=>r'=.int .i64 r):=by
 refine zf (rs:=[.tmp 4]) tok Tryz.func25 rfl Tryz.ntmps25 rfl Tryz.call25 (by simp) ?_;refine zk [(0,.int .i64 a0),(1,.int .i64 a1)] ⟨rfl,rfl,trivial⟩ ?_;unfold yP at h;refine rgN [0,1] ?_;obtain⟨_u1,hu1,h⟩:=bind_some h;have gu1:=wF hu1;have gu1f:=eq_false gu1
 refine rg tok [1,5] fun K hK=>?_
 simp only[go_sem,qd,qb,reduceCtorEq,gu1f];apply hK
 refine yR (fun L τ=>∃ (x2:Int),L=[(5,.int .i64 x2)]∧τ=[]∧yP.j3 x2=some r) ?_ ?_
 · refine rgN [1,5,10] ?_;refine zF rfl (fun hc4=>?_) (fun hc4=>?_)
   · rw[if_pos hc4] at h;have t5:=eq_true hc4
     refine rgE tok [5] fun K hK=>?_
     simp only[go_sem,qd,qb,t5];apply hK
     exact⟨_,_,⟨IntKind.i64.wrap ((a0).tmod a1+a1),rfl,rfl,h⟩,.s⟩
   rw[if_neg hc4] at h;have t6:=eq_false hc4;apply zd;exact⟨_,_,⟨(a0).tmod a1,rfl,rfl,h⟩,.s⟩
 rintro _ _ ⟨x2,rfl,rfl,h⟩;unfold yP.j3 at h;refine rgN [4] ?_;cases h;exact rtA
theorem yP.ev (a0:Int)(a1:Int)(r:Int)(h:yP a0 a1=some r)(σ:Store):ACalls qg 25 [.int .i64 a0,.int .i64 a1] σ (fun r' σ'=>r'=.int .i64 r∧σ'=σ):=
 (yP.ok a0 a1 r h).c σ
def xH (a0:Int):GSchema:=
 (⟨[97],[(⟨[109],[(⟨[120],1,1,(⟨a0,[]⟩:GType)⟩:GField)],([]:List Int)⟩:GMessage)],([]:List GEnumeration),[(⟨[99],[109],[109]⟩:GMethod)]⟩:GSchema)
theorem xH.ok (a0:Int)(r:GSchema)(h:xH a0=r):ACalls qg 46 [.int .i64 a0] [] (fun r' _=>r'=.agg (encGSchema r)):=by
 refine zf (rs:=[.cell 2 31]) tok Tryz.func46 rfl Tryz.ntmps46 rfl Tryz.call46 (by simp) ?_;refine zk [(0,.int .i64 a0)] ⟨rfl,trivial⟩ ?_;unfold xH at h;refine rgN [0,2] ?_
 refine rg tok [2] fun K hK=>?_
 simp only[go_sem,qd,qf,qb,qe,qi,reduceCtorEq,zv,zQ,qO,qI,true_and,qT];apply hK
 cases h;exact rtA
theorem xH.ev (a0:Int)(r:GSchema)(h:xH a0=r)(σ:Store):ACalls qg 46 [.int .i64 a0] σ (fun r' σ'=>r'=.agg (encGSchema r)∧σ'=σ):=
 (xH.ok a0 r h).c σ
def wM (a0:Int):GTree:=
 (if a0=0 then (⟨3,0,[],([]:List GEntry),([]:List GRaw)⟩:GTree) else (⟨3,0,[],[(⟨1,[(⟨1,a0,[],([]:List GEntry),([]:List GRaw)⟩:GTree)]⟩:GEntry)],([]:List GRaw)⟩:GTree))
theorem wM.ok (a0:Int)(r:GTree)(h:wM a0=r):ACalls qg 49 [.int .i64 a0] [] (fun r' _=>r'=.agg (cellsGTree r)):=by
 refine zf (rs:=[.cell 2 37]) tok Tryz.func49 rfl Tryz.ntmps49 rfl Tryz.call49 (by simp) ?_;refine zk [(0,.int .i64 a0)] ⟨rfl,trivial⟩ ?_;unfold wM at h;refine rgN [0,2] ?_;refine rgN [0,2,3] ?_
 refine za fun Z1 hZ1=>?_
 refine rgN [0,2,3,6] ?_;refine zF rfl (fun hc2=>?_) (fun hc2=>?_)
 · rw[if_neg hc2] at h;have t3:=eq_false hc2
   refine rgE tok [2,3] fun K hK=>?_
   simp only[go_sem,qd,qf,qb,qe,qi,reduceCtorEq,zv,zQ,qO,qI,true_and,qT,t3];apply hK
   apply hZ1;refine rgN [2] ?_;cases h;exact rtA
 rw[if_pos hc2] at h;have t4:=eq_true hc2;apply zd;apply hZ1
 refine rg tok [2] fun K hK=>?_
 simp only[go_sem,qd,qf,qb,qe,reduceCtorEq,t4];apply hK
 cases h;exact rtA
theorem wM.ev (a0:Int)(r:GTree)(h:wM a0=r)(σ:Store):ACalls qg 49 [.int .i64 a0] σ (fun r' σ'=>r'=.agg (cellsGTree r)∧σ'=σ):=
 (wM.ok a0 r h).c σ
def xR (a0:List GRow):Option (List GRow):=(Xm (qa a0) 176).bind fun _=>some a0
theorem xR.ok (a0 r:List GRow)(h:xR a0=some r):ACalls qg 83 [.ds true (qc encGRow a0) (qa a0) false] [] (fun r' _=>r'=.ds true (qc encGRow r) (qa r) false):=by
 obtain⟨_u,hu,h⟩:=bind_some h;have gu:=yy hu;cases h
 have f1:=fun nl tt σ=>ww E82.len a0 nl tt σ
 have f2:=zz E82.len a0;have f3:=Yg encGRow a0
 have fin:∀ σ id ver tt,Store.at σ id ver=some (qc encGRow a0)→tell σ [] true 12 (.os true 11 id ver 0 (qa a0) tt)=.ds true (qc encGRow a0) (qa a0) false:=by
  intro σ id ver tt hs
  simp only[wf,xI,hs,qv,qk];rw[if_pos (by rw[f2]; exact qu _),← f2,qV,zg]
 refine zf (rs:=[.tmp 2]) tok Tryz.func83 rfl Tryz.ntmps83 rfl Tryz.call83 (by simp) ?_;refine zk [(0,.ds true (qc encGRow a0) (qa a0) false)] ⟨rfl,trivial⟩ ?_;refine rgN [0] ?_
 refine za fun Z1 hZ1=>?_
 refine rc [0,4] fun K hK=>?_
 refine rnN 1 ?_
 refine ZA tok rfl rfl rfl rfl rfl rfl fun b hnil=>?_
 have hb:b=true→a0=[]:=fun hb=>by
  have:=hnil hb;simp only[yd,go_sem,reduceCtorEq] at this;exact qS this
 clear hnil
 refine nkN hK ?_;cases b
 · refine zp rfl ?_;apply zd;apply hZ1
   refine rg tok [2] fun K hK=>?_
   by_cases h0:qa a0=0
   · obtain rfl:=qS h0;simp only[go_sem,qd,qb,qe,reduceCtorEq,zv,zQ,qI,uu,ye,zO,yd,z1,uc,qt,q9,qR];apply hK
     apply zE;simp only[wg,zX,z7,yN,exists_eq_left',go_sem]
     first|rfl|(simp only[go_sem,qd,qf,qb,qe,qi,qm,reduceIte,reduceCtorEq,wf,xI,qj]<;>rfl)
   have h1:=eq_false h0;simp only[go_sem,qd,qb,qe,reduceCtorEq,zv,zQ,qI,uu,ye,zO,yd,f1,f3,h1,gu,yv,qj,qL,q9];apply hK
   apply zE;simp only[wg,zX,z7,yN,exists_eq_left',go_sem];exact fin _ _ _ _ (by simp only[Store.at_hd,Store.at_tl,if_true])
 obtain rfl:=hb rfl;refine zq rfl ?_;refine rgN [2] ?_;apply zE;simp only[wg,zX,z7,yN,exists_eq_left',go_sem]
 first|rfl|(simp only[go_sem,qd,qf,qb,qe,qi,qm,reduceIte,reduceCtorEq,Zw,qj,qo,qq,qr]<;>rfl)
theorem xR.ev (a0 r:List GRow)(h:xR a0=some r)(σ:Store):ACalls qg 83 [.ds true (qc encGRow a0) (qa a0) false] σ (fun r' σ'=>r'=.ds true (qc encGRow r) (qa r) false∧σ'=σ):=
 (xR.ok a0 r h).pureAt (by simp only[AV.canon,canonL,canon_all,qB,qp,uC]) (by simp only[AV.canon,canon_all,qB,qp,uC]) σ
def YB (a0:Int):GDedupCache:=
 (⟨(if 1<(if 8<a0 then 8 else a0) then (if 8<a0 then 8 else a0) else 1),([]:List GDedupKey),0,(⟨[],[],0⟩:MapB GDedupKey GPacket),(⟨[],[],0⟩:MapB Int Int)⟩:GDedupCache)
theorem YB.ok (a0:Int)(r:GDedupCache)(h:YB a0=r):ACalls qg 84 [.int .i64 a0] [] (fun r' σ'=>r'=.op 0 0 0∧σ'=[.cells 0 [.int .i64 r.fsize,.os true 2 1 (r.vorder) 0 (qa r.forder) false,.mp 2,.mp 3],.cells (r.vorder) (qc encGDedupKey r.forder),.map (zR kvGDedupKey kvGPacket r.freplies.l) (some (r.freplies.bs,r.freplies.ck)),.map (zR (AV.int .i64) (AV.int .i64) r.flast.l) (some (r.flast.bs,r.flast.ck))]):=by
 refine acalls_ptr (rs:=[.tmp 2]) tok Tryz.func84 rfl Tryz.ntmps84 rfl Tryz.call84 (by simp) ?_;refine zk [(0,.int .i64 a0)] ⟨rfl,trivial⟩ ?_;unfold YB at h;refine rgN [0] ?_
 refine rg tok [2] fun K hK=>?_
 simp only[go_sem,qd,qf,qb,qe,reduceCtorEq,XL,foldO,vai,vaj];apply hK
 refine wd 2 1 2 rfl (by simp) rfl (L:=[(2,.op 2 0 0)]) (τ:=[.map (zR kvGDedupKey kvGPacket []) (some ([],0)),.map (zR (AV.int .i64) (AV.int .i64) []) (some ([],0)),.cells 0 [.int .i64 (if 1<(if 8<a0 then 8 else a0) then (if 8<a0 then 8 else a0) else 1),.os true 2 3 0 0 (qa ([]:List GDedupKey)) false,.mp 0,.mp 1],.cells 0 (qc encGDedupKey ([]:List GDedupKey))]) .s ?_;refine yz (L:=[(2,.op 2 0 0)]) (τ:=[.map (zR kvGDedupKey kvGPacket []) (some ([],0)),.map (zR (AV.int .i64) (AV.int .i64) []) (some ([],0)),.cells 0 [.int .i64 (if 1<(if 8<a0 then 8 else a0) then (if 8<a0 then 8 else a0) else 1),.os true 2 3 0 0 (qa ([]:List GDedupKey)) false,.mp 0,.mp 1],.cells 0 (qc encGDedupKey ([]:List GDedupKey))]) .s ?_;apply zE;obtain rfl:=h;simp only[wg,zX,z7,yN,exists_eq_left',go_sem,qe];refine⟨[2,3,0,1],by decide,by simp,?_,?_⟩
 · first|rfl|(simp only[go_sem,qd,qf,qb,qe,qi,qm,reduceIte,reduceCtorEq,push_cast,if_true,qv,qk,qn,qj,qx,qo,qE,qz,qr,qq,qp,zg,encGDedupKey]<;>rfl)
 first|rfl|(simp only[go_sem,qd,qf,qb,qe,qi,qm,reduceIte,reduceCtorEq,push_cast,if_true,qv,qk,qn,qj,qx,qo,qE,qz,qr,qq,qp,zg,encGDedupKey]<;>rfl)
def xQ (a0:List Int):Option (List Int):=(Xm (qa a0) 8).bind fun _=>some a0
theorem xQ.ok (a0 r:List Int)(h:xQ a0=some r):ACalls qg 129 [.ds true (qc encI a0) (qa a0) false] [] (fun r' _=>r'=.ds true (qc encI r) (qa r) false):=by
 obtain⟨_u,hu,h⟩:=bind_some h;have gu:=yy hu;cases h
 have f1:=fun nl tt σ=>ww E26.len a0 nl tt σ
 have f2:=zz E26.len a0;have f3:=Yg encI a0
 have fin:∀ σ id ver tt,Store.at σ id ver=some (qc encI a0)→tell σ [] true 12 (.os true 1 id ver 0 (qa a0) tt)=.ds true (qc encI a0) (qa a0) false:=by
  intro σ id ver tt hs
  simp only[wf,xI,hs,qv,qk];rw[if_pos (by rw[f2]; exact qu _),← f2,qV,zg]
 refine zf (rs:=[.tmp 2]) tok Tryz.func129 rfl Tryz.ntmps129 rfl Tryz.call129 (by simp) ?_;refine zk [(0,.ds true (qc encI a0) (qa a0) false)] ⟨rfl,trivial⟩ ?_;refine rgN [0] ?_
 refine za fun Z1 hZ1=>?_
 refine rc [0,4] fun K hK=>?_
 refine rnN 1 ?_
 refine ZA tok rfl rfl rfl rfl rfl rfl fun b hnil=>?_
 have hb:b=true→a0=[]:=fun hb=>by
  have:=hnil hb;simp only[yd,go_sem,reduceCtorEq] at this;exact qS this
 clear hnil
 refine nkN hK ?_;cases b
 · refine zp rfl ?_;apply zd;apply hZ1
   refine rg tok [2] fun K hK=>?_
   by_cases h0:qa a0=0
   · obtain rfl:=qS h0;simp only[go_sem,qd,qb,reduceCtorEq,zv,zQ,qI,uu,ye,zO,yd,z1,uc,qt,q9,qR];apply hK
     apply zE;simp only[wg,zX,z7,yN,exists_eq_left',go_sem]
     first|rfl|(simp only[go_sem,qd,qf,qb,qe,qi,qm,reduceIte,reduceCtorEq,wf,xI,qj]<;>rfl)
   have h1:=eq_false h0;simp only[go_sem,qd,qb,reduceCtorEq,zv,zQ,qI,uu,ye,zO,yd,f1,f3,h1,gu,yv,qj,qL,q9];apply hK
   apply zE;simp only[wg,zX,z7,yN,exists_eq_left',go_sem];exact fin _ _ _ _ (by simp only[Store.at_hd,Store.at_tl,if_true])
 obtain rfl:=hb rfl;refine zq rfl ?_;refine rgN [2] ?_;apply zE;simp only[wg,zX,z7,yN,exists_eq_left',go_sem]
 first|rfl|(simp only[go_sem,qd,qf,qb,qe,qi,qm,reduceIte,reduceCtorEq,Zw,qj,qo,qq,qr]<;>rfl)
theorem xQ.ev (a0 r:List Int)(h:xQ a0=some r)(σ:Store):ACalls qg 129 [.ds true (qc encI a0) (qa a0) false] σ (fun r' σ'=>r'=.ds true (qc encI r) (qa r) false∧σ'=σ):=
 (xQ.ok a0 r h).pureAt (by simp only[AV.canon,canonL,canon_all,qB,qp,uC]) (by simp only[AV.canon,canon_all,qB,qp,uC]) σ
def xA (a0:List GSchema):Option (List GSchema):=(Xm (qa a0) 88).bind fun _=>some a0
theorem xA.ok (a0 r:List GSchema)(h:xA a0=some r):ACalls qg 130 [.ds true (qc encGSchema a0) (qa a0) false] [] (fun r' _=>r'=.ds true (qc encGSchema r) (qa r) false):=by
 obtain⟨_u,hu,h⟩:=bind_some h;have gu:=yy hu;cases h
 have f1:=fun nl tt σ=>ww E33.len a0 nl tt σ
 have f2:=zz E33.len a0;have f3:=Yg encGSchema a0
 have fin:∀ σ id ver tt,Store.at σ id ver=some (qc encGSchema a0)→tell σ [] true 12 (.os true 4 id ver 0 (qa a0) tt)=.ds true (qc encGSchema a0) (qa a0) false:=by
  intro σ id ver tt hs
  simp only[wf,xI,hs,qv,qk];rw[if_pos (by rw[f2]; exact qu _),← f2,qV,zg]
 refine zf (rs:=[.tmp 2]) tok Tryz.func130 rfl Tryz.ntmps130 rfl Tryz.call130 (by simp) ?_;refine zk [(0,.ds true (qc encGSchema a0) (qa a0) false)] ⟨rfl,trivial⟩ ?_;refine rgN [0] ?_
 refine za fun Z1 hZ1=>?_
 refine rc [0,4] fun K hK=>?_
 refine rnN 1 ?_
 refine ZA tok rfl rfl rfl rfl rfl rfl fun b hnil=>?_
 have hb:b=true→a0=[]:=fun hb=>by
  have:=hnil hb;simp only[yd,go_sem,reduceCtorEq] at this;exact qS this
 clear hnil
 refine nkN hK ?_;cases b
 · refine zp rfl ?_;apply zd;apply hZ1
   refine rg tok [2] fun K hK=>?_
   by_cases h0:qa a0=0
   · obtain rfl:=qS h0;simp only[go_sem,qd,qb,qe,reduceCtorEq,zv,zQ,qI,uu,ye,zO,yd,z1,uc,qt,q9,qR];apply hK
     apply zE;simp only[wg,zX,z7,yN,exists_eq_left',go_sem]
     first|rfl|(simp only[go_sem,qd,qf,qb,qe,qi,qm,reduceIte,reduceCtorEq,wf,xI,qj]<;>rfl)
   have h1:=eq_false h0;simp only[go_sem,qd,qb,qe,reduceCtorEq,zv,zQ,qI,uu,ye,zO,yd,f1,f3,h1,gu,yv,qj,qL,q9];apply hK
   apply zE;simp only[wg,zX,z7,yN,exists_eq_left',go_sem];exact fin _ _ _ _ (by simp only[Store.at_hd,Store.at_tl,if_true])
 obtain rfl:=hb rfl;refine zq rfl ?_;refine rgN [2] ?_;apply zE;simp only[wg,zX,z7,yN,exists_eq_left',go_sem]
 first|rfl|(simp only[go_sem,qd,qf,qb,qe,qi,qm,reduceIte,reduceCtorEq,Zw,qj,qo,qq,qr]<;>rfl)
theorem xA.ev (a0 r:List GSchema)(h:xA a0=some r)(σ:Store):ACalls qg 130 [.ds true (qc encGSchema a0) (qa a0) false] σ (fun r' σ'=>r'=.ds true (qc encGSchema r) (qa r) false∧σ'=σ):=
 (xA.ok a0 r h).pureAt (by simp only[AV.canon,canonL,canon_all,qB,qp,uC]) (by simp only[AV.canon,canon_all,qB,qp,uC]) σ
def wr (a0:GServerServer)(a1:List Int)(a2:List GSchema):Option GServerServer:=
 (xQ a1).bind fun r1=>(xA a2).bind fun r2=>some (⟨a0.fself,r1,r2,a0.fnewest,a0.frows,a0.fcache,a0.feffects,a0.veffects⟩:GServerServer)
theorem wr.ok (a0:GServerServer)(a1:List Int)(a2:List GSchema)(r:GServerServer)(h:wr a0 a1 a2=some r):ACalls qg 85 [.op 0 0 0,.ds true (qc encI a1) (qa a1) false,.ds true (qc encGSchema a2) (qa a2) false] [.cells 0 [.int .i64 a0.fself,.ds true (qc encI a0.fnumbers) (qa a0.fnumbers) false,.ds true (qc encGSchema a0.fschemas) (qa a0.fschemas) false,.str a0.fnewest.fName,.ds true (qc encGMessage a0.fnewest.fMessages) (qa a0.fnewest.fMessages) false,.ds true (qc encGEnumeration a0.fnewest.fEnums) (qa a0.fnewest.fEnums) false,.ds true (qc encGMethod a0.fnewest.fMethods) (qa a0.fnewest.fMethods) false,.ds true (qc encGRow a0.frows) (qa a0.frows) false,.op 1 0 0,.os true 8 5 (a0.veffects) 0 (qa a0.feffects) false],.cells 0 [.int .i64 a0.fcache.fsize,.os true 2 2 (a0.fcache.vorder) 0 (qa a0.fcache.forder) false,.mp 3,.mp 4],.cells (a0.fcache.vorder) (qc encGDedupKey a0.fcache.forder),.map (zR kvGDedupKey kvGPacket a0.fcache.freplies.l) (some (a0.fcache.freplies.bs,a0.fcache.freplies.ck)),.map (zR (AV.int .i64) (AV.int .i64) a0.fcache.flast.l) (some (a0.fcache.flast.bs,a0.fcache.flast.ck)),.cells (a0.veffects) (qc encGServerEffect a0.feffects)] (fun r' σ'=>r'=.tup []∧σ'=[.cells 0 [.int .i64 r.fself,.ds true (qc encI r.fnumbers) (qa r.fnumbers) false,.ds true (qc encGSchema r.fschemas) (qa r.fschemas) false,.str r.fnewest.fName,.ds true (qc encGMessage r.fnewest.fMessages) (qa r.fnewest.fMessages) false,.ds true (qc encGEnumeration r.fnewest.fEnums) (qa r.fnewest.fEnums) false,.ds true (qc encGMethod r.fnewest.fMethods) (qa r.fnewest.fMethods) false,.ds true (qc encGRow r.frows) (qa r.frows) false,.op 1 0 0,.os true 8 5 (r.veffects) 0 (qa r.feffects) false],.cells 0 [.int .i64 r.fcache.fsize,.os true 2 2 (r.fcache.vorder) 0 (qa r.fcache.forder) false,.mp 3,.mp 4],.cells (r.fcache.vorder) (qc encGDedupKey r.fcache.forder),.map (zR kvGDedupKey kvGPacket r.fcache.freplies.l) (some (r.fcache.freplies.bs,r.fcache.freplies.ck)),.map (zR (AV.int .i64) (AV.int .i64) r.fcache.flast.l) (some (r.fcache.flast.bs,r.fcache.flast.ck)),.cells (r.veffects) (qc encGServerEffect r.feffects)]):=by
 refine we [0,1,2,3,4,5] (rs:=[]) tok Tryz.func85 rfl Tryz.ntmps85 rfl Tryz.call85 (by simp) rfl ?_;refine zk [(0,.op 0 0 0),(1,.ds true (qc encI a1) (qa a1) false),(2,.ds true (qc encGSchema a2) (qa a2) false)] ⟨rfl,rfl,rfl,trivial⟩ ?_;unfold wr at h
 refine rcE [] fun K hK=>?_
 obtain⟨r1,hr1,h⟩:=bind_some h;refine rnN 3 ?_;refine clN rfl rfl rfl (xQ.ev a1 r1 hr1 _) ?_;obtain⟨r2,hr2,h⟩:=bind_some h;refine rnN 1 ?_;refine clN rfl rfl rfl (xA.ev a2 r2 hr2 _) ?_;refine rnN 6 ?_;refine nkN hK ?_
 -- end
 cases h;simp only[wg,zX,yN,exists_eq_left',go_sem,qe];refine⟨by decide,by simp,?_,?_⟩
 · first|rfl|(simp only[go_sem,qd,qf,qb,qe,qi,qm,reduceIte,reduceCtorEq,push_cast,if_true,qv,qk,qn,qj,qx,qo,qE,qz,qr,qq,qp,zg,cellsGTree,encGDedupKey,encGSchema,encGServerEffect,zM]<;>rfl)
 first|rfl|(simp only[go_sem,qb,qe,reduceCtorEq,push_cast,if_true,qk,qn,qj,qo,qr,qq,zg]<;>rfl)
def xp (o:Option GServerServer):Store:=match o with
 |none=>[]
 |some x=>[.cells 0 [.int .i64 x.fself,.ds true (qc encI x.fnumbers) (qa x.fnumbers) false,.ds true (qc encGSchema x.fschemas) (qa x.fschemas) false,.str x.fnewest.fName,.ds true (qc encGMessage x.fnewest.fMessages) (qa x.fnewest.fMessages) false,.ds true (qc encGEnumeration x.fnewest.fEnums) (qa x.fnewest.fEnums) false,.ds true (qc encGMethod x.fnewest.fMethods) (qa x.fnewest.fMethods) false,.ds true (qc encGRow x.frows) (qa x.frows) false,.op 1 0 0,.os true 8 5 (x.veffects) 0 (qa x.feffects) false],.cells 0 [.int .i64 x.fcache.fsize,.os true 2 2 (x.fcache.vorder) 0 (qa x.fcache.forder) false,.mp 3,.mp 4],.cells (x.fcache.vorder) (qc encGDedupKey x.fcache.forder),.map (zR kvGDedupKey kvGPacket x.fcache.freplies.l) (some (x.fcache.freplies.bs,x.fcache.freplies.ck)),.map (zR (AV.int .i64) (AV.int .i64) x.fcache.flast.l) (some (x.fcache.flast.bs,x.fcache.flast.ck)),.cells (x.veffects) (qc encGServerEffect x.feffects)]
def wt (a0:Int)(a1:List Int)(a2:List GSchema)(a3:GSchema)(a4:List GRow)(a5:Int):Option (Option GServerServer×Int):=
 (xr a0 a1 a2).bind fun r2=>(if ((!r2)||(decide (32<(qa a4:Int))))=true then some true else (zS a3).bind fun r3=>some (!(decide (r3=0)))).bind fun c3=>(if c3=true then some ((none:Option GServerServer),1) else (xR a4).bind fun r6=>bnd (YB a5) fun r7=>(wr (⟨a0,([]:List Int),([]:List GSchema),a3,r6,r7,([]:List GServerEffect),0⟩:GServerServer) a1 a2).bind fun r8=>some ((some r8),0))
theorem wt.ok (a0:Int)(a1:List Int)(a2:List GSchema)(a3:GSchema)(a4:List GRow)(a5:Int)(r:Option GServerServer×Int)(h:wt a0 a1 a2 a3 a4 a5=some r):ACalls qg 45 [.int .i64 a0,.ds true (qc encI a1) (qa a1) false,.ds true (qc encGSchema a2) (qa a2) false,.agg (encGSchema a3),.ds true (qc encGRow a4) (qa a4) false,.int .i64 a5] [] (fun r' σ'=>r'=.tup [newV r.1 0,.int .i64 r.2]∧σ'=xp r.1):=by
 refine acalls_ptr (rs:=[.tmp 12,.tmp 13]) tok Tryz.func45 rfl Tryz.ntmps45 rfl Tryz.call45 (by simp) ?_;refine zk [(0,.int .i64 a0),(1,.ds true (qc encI a1) (qa a1) false),(2,.ds true (qc encGSchema a2) (qa a2) false),(3,.agg (encGSchema a3)),(4,.ds true (qc encGRow a4) (qa a4) false),(5,.int .i64 a5)] ⟨rfl,rfl,rfl,rfl,rfl,rfl,trivial⟩ ?_;unfold wt at h
 refine rg tok [0,1,2,4,5,9] fun K hK=>?_
 simp only[go_sem,qd,qb,qe,reduceCtorEq,encGSchema];apply hK
 refine za fun Z1 hZ1=>?_
 refine rc [0,1,2,4,5,9,29] fun K hK=>?_
 obtain⟨r2,hr2,h⟩:=bind_some h;refine rnN 3 ?_;refine clN rfl rfl rfl (xr.ev a0 a1 a2 r2 hr2 _) ?_;refine rnN 2 ?_;refine zo 4 (fun L τ=>L=[(0,.int .i64 a0),(1,.ds true (qc encI a1) (qa a1) false),(2,.ds true (qc encGSchema a2) (qa a2) false),(4,.ds true (qc encGRow a4) (qa a4) false),(5,.int .i64 a5),(9,.op 0 0 0),(24,.bool ((!r2)||(decide (32<(qa a4:Int)))))]∧τ=[.cells 0 (encGSchema a3)]) ?_ ?_
 · refine zP (b:=(!r2)) 20 rfl (fun hg20=>?_) (fun hg20=>?_)
   · refine rnN 4 ?_;refine zb ⟨rfl,_,_,⟨rfl,rfl⟩,.b hg20⟩
   refine rnN 4 ?_;refine zb ⟨rfl,_,_,⟨rfl,rfl⟩,.b hg20⟩
 rintro _ _ ⟨rfl,rfl⟩;refine rnN 1 ?_;obtain⟨c3,hc3,h⟩:=bind_some h;refine zo 4 (fun L τ=>L=[(0,.int .i64 a0),(1,.ds true (qc encI a1) (qa a1) false),(2,.ds true (qc encGSchema a2) (qa a2) false),(4,.ds true (qc encGRow a4) (qa a4) false),(5,.int .i64 a5),(9,.op 0 0 0),(29,.bool c3)]∧τ=[.cells 0 (encGSchema a3)]) ?_ ?_
 · refine zP (b:=((!r2)||(decide (32<(qa a4:Int))))) 25 rfl (fun hg25=>?_) (fun hg25=>?_)
   · rw[if_pos hg25] at hc3;refine rnN 4 ?_;cases hc3;refine zb ⟨rfl,_,_,⟨rfl,rfl⟩,.b hg25⟩
   rw[xU hg25] at hc3;obtain⟨r4,hr4,hc3⟩:=bind_some hc3;refine rnN 1 ?_;refine clN rfl rfl rfl (zS.ev a3 r4 hr4 _) ?_;refine rnN 2 ?_;cases hc3;refine zb ⟨rfl,_,_,⟨rfl,rfl⟩,.b hg25⟩
 rintro _ _ ⟨rfl,rfl⟩;refine nkN hK ?_;refine zw (b:=c3) rfl (fun hc5=>?_) (fun hc5=>?_)
 · rw[if_pos hc5] at h;refine rgN [12,13] ?_;apply zE;cases h;simp only[wg,zX,z7,yN,exists_eq_left',XH,xp,go_sem,qb];refine⟨[],by decide,by simp,?_,?_⟩
   · first|rfl|(simp only[go_sem,qd,qf,qb,qe,qi,qm,reduceIte,reduceCtorEq,push_cast,if_true,qv,qk,qn,qj,qx,qo,qE,qz,qr,qq,qp,zg]<;>rfl)
   first|rfl|(simp only[go_sem,qd,qf,qb,qe,qi,qm,reduceIte,reduceCtorEq,push_cast,if_true,qv,qk,qn,qj,qx,qo,qE,qz,qr,qq,qp,zg]<;>rfl)
 rw[xU hc5] at h;apply zd;apply hZ1;obtain⟨r6,hr6,h⟩:=bind_some h;obtain⟨r7,hr7,h⟩:=zH h
 refine rd [1,2,14] fun K hK=>?_
 refine DW.start (T:=tab) [.any,.own 2 [],.any,.eff,.any,.eff,.any,.eff,.any] [(2,[])] ?_;refine DW.runN tok 3 ?_;simp only[go_sem,qd,qf,qb,qe,reduceCtorEq];refine DW.call rfl rfl rfl (xR.ev a4 r6 hr6 _) ?_;refine DW.runN tok 1 ?_;simp only[go_sem,qd,qb,reduceCtorEq];refine DW.callS rfl rfl rfl (@id (ACalls qg 84 [.int .i64 a5] [.cells 0 (encGSchema a3)] (fun r' σ'=>r'=.op 1 0 0∧σ'=[.cells 0 (encGSchema a3),.cells 0 [.int .i64 r7.fsize,.os true 2 2 (r7.vorder) 0 (qa r7.forder) false,.mp 3,.mp 4],.cells (r7.vorder) (qc encGDedupKey r7.forder),.map (zR kvGDedupKey kvGPacket r7.freplies.l) (some (r7.freplies.bs,r7.freplies.ck)),.map (zR (AV.int .i64) (AV.int .i64) r7.flast.l) (some (r7.flast.bs,r7.flast.ck))])) ((YB.ok a5 r7 hr7).ix [])) (YH (by simp only[go_sem,qf,qe])) ?_;refine DW.runN tok 3 ?_;simp only[go_sem,qd,qf,qb,qe,reduceCtorEq];refine DW.fin tok (by decide +kernel) rfl ?_;simp only[zn,upd,qb,reduceIte,ym,y1];apply hK
 refine wd 5 9 8 rfl (by simp) rfl (L:=[(1,.ds true (qc encI a1) (qa a1) false),(2,.ds true (qc encGSchema a2) (qa a2) false),(14,.op 5 0 0)]) (τ:=[.cells 0 (encGSchema a3),.cells 0 [.int .i64 r7.fsize,.os true 2 2 (r7.vorder) 0 (qa r7.forder) false,.mp 3,.mp 4],.cells (r7.vorder) (qc encGDedupKey r7.forder),.map (zR kvGDedupKey kvGPacket r7.freplies.l) (some (r7.freplies.bs,r7.freplies.ck)),.map (zR (AV.int .i64) (AV.int .i64) r7.flast.l) (some (r7.flast.bs,r7.flast.ck)),.cells 0 [.int .i64 a0,.ds true [] 0 true,.ds true [] 0 true,.str a3.fName,.ds true (qc encGMessage a3.fMessages) (qa a3.fMessages) false,.ds true (qc encGEnumeration a3.fEnums) (qa a3.fEnums) false,.ds true (qc encGMethod a3.fMethods) (qa a3.fMethods) false,.ds true (qc encGRow r6) (qa r6) false,.op 1 0 0,.os true 8 6 0 0 (qa ([]:List GServerEffect)) false],.cells 0 (qc encGServerEffect ([]:List GServerEffect))]) .s ?_;refine yz (L:=[(1,.ds true (qc encI a1) (qa a1) false),(2,.ds true (qc encGSchema a2) (qa a2) false),(14,.op 4 0 0)]) (τ:=[.cells 0 [.int .i64 r7.fsize,.os true 2 1 (r7.vorder) 0 (qa r7.forder) false,.mp 2,.mp 3],.cells (r7.vorder) (qc encGDedupKey r7.forder),.map (zR kvGDedupKey kvGPacket r7.freplies.l) (some (r7.freplies.bs,r7.freplies.ck)),.map (zR (AV.int .i64) (AV.int .i64) r7.flast.l) (some (r7.flast.bs,r7.flast.ck)),.cells 0 [.int .i64 a0,.ds true (qc encI ([]:List Int)) (qa ([]:List Int)) false,.ds true (qc encGSchema ([]:List GSchema)) (qa ([]:List GSchema)) false,.str a3.fName,.ds true (qc encGMessage a3.fMessages) (qa a3.fMessages) false,.ds true (qc encGEnumeration a3.fEnums) (qa a3.fEnums) false,.ds true (qc encGMethod a3.fMethods) (qa a3.fMethods) false,.ds true (qc encGRow r6) (qa r6) false,.op 0 0 0,.os true 8 5 0 0 (qa ([]:List GServerEffect)) false],.cells 0 (qc encGServerEffect ([]:List GServerEffect))]) (.t [1,2,3,4,5,6] true) ?_
 refine rc [14] fun K hK=>?_
 obtain⟨r8,hr8,h⟩:=bind_some h;refine rnN 3 ?_;refine clN rfl rfl rfl (@id (ACalls qg 85 [.op 4 0 0,.ds true (qc encI a1) (qa a1) false,.ds true (qc encGSchema a2) (qa a2) false] [.cells 0 [.int .i64 r7.fsize,.os true 2 1 (r7.vorder) 0 (qa r7.forder) false,.mp 2,.mp 3],.cells (r7.vorder) (qc encGDedupKey r7.forder),.map (zR kvGDedupKey kvGPacket r7.freplies.l) (some (r7.freplies.bs,r7.freplies.ck)),.map (zR (AV.int .i64) (AV.int .i64) r7.flast.l) (some (r7.flast.bs,r7.flast.ck)),.cells 0 [.int .i64 a0,.ds true (qc encI ([]:List Int)) (qa ([]:List Int)) false,.ds true (qc encGSchema ([]:List GSchema)) (qa ([]:List GSchema)) false,.str a3.fName,.ds true (qc encGMessage a3.fMessages) (qa a3.fMessages) false,.ds true (qc encGEnumeration a3.fEnums) (qa a3.fEnums) false,.ds true (qc encGMethod a3.fMethods) (qa a3.fMethods) false,.ds true (qc encGRow r6) (qa r6) false,.op 0 0 0,.os true 8 5 0 0 (qa ([]:List GServerEffect)) false],.cells 0 (qc encGServerEffect ([]:List GServerEffect))] (fun r' σ'=>r'=.tup []∧σ'=[.cells 0 [.int .i64 r8.fcache.fsize,.os true 2 1 (r8.fcache.vorder) 0 (qa r8.fcache.forder) false,.mp 2,.mp 3],.cells (r8.fcache.vorder) (qc encGDedupKey r8.fcache.forder),.map (zR kvGDedupKey kvGPacket r8.fcache.freplies.l) (some (r8.fcache.freplies.bs,r8.fcache.freplies.ck)),.map (zR (AV.int .i64) (AV.int .i64) r8.fcache.flast.l) (some (r8.fcache.flast.bs,r8.fcache.flast.ck)),.cells 0 [.int .i64 r8.fself,.ds true (qc encI r8.fnumbers) (qa r8.fnumbers) false,.ds true (qc encGSchema r8.fschemas) (qa r8.fschemas) false,.str r8.fnewest.fName,.ds true (qc encGMessage r8.fnewest.fMessages) (qa r8.fnewest.fMessages) false,.ds true (qc encGEnumeration r8.fnewest.fEnums) (qa r8.fnewest.fEnums) false,.ds true (qc encGMethod r8.fnewest.fMethods) (qa r8.fnewest.fMethods) false,.ds true (qc encGRow r8.frows) (qa r8.frows) false,.op 0 0 0,.os true 8 5 (r8.veffects) 0 (qa r8.feffects) false],.cells (r8.veffects) (qc encGServerEffect r8.feffects)])) ((wr.ok (⟨a0,([]:List Int),([]:List GSchema),a3,r6,r7,([]:List GServerEffect),0⟩:GServerServer) a1 a2 r8 hr8).ix [4,0,1,2,3,5])) ?_;refine nkN hK ?_;refine rgN [12,13] ?_;apply zE;cases h;simp only[wg,zX,z7,yN,exists_eq_left',XG,xp,go_sem,qb,qe];refine⟨[4,0,1,2,3,5],by decide,by simp,?_,?_⟩
 · first|rfl|(simp only[go_sem,qd,qf,qb,qe,qi,qm,reduceIte,reduceCtorEq,push_cast,if_true,qv,qk,qn,qj,qx,qo,qE,qz,qr,qq,qp,zg,cellsGTree,encGDedupKey,encGSchema,encGServerEffect,zM]<;>rfl)
 first|rfl|(simp only[go_sem,qb,qe,reduceCtorEq,push_cast,if_true,qk,qn,qj,qo,qr,qq,zg]<;>rfl)
theorem wt.at (a0:Int)(a1:List Int)(a2:List GSchema)(a3:GSchema)(a4:List GRow)(a5:Int)(r:Option GServerServer×Int)(h:wt a0 a1 a2 a3 a4 a5=some r)(σ:Store):ACalls qg 45 [.int .i64 a0,.ds true (qc encI a1) (qa a1) false,.ds true (qc encGSchema a2) (qa a2) false,.agg (encGSchema a3),.ds true (qc encGRow a4) (qa a4) false,.int .i64 a5] σ (fun r' σ'=>r'=.tup [newV r.1 σ.length,.int .i64 r.2]∧σ'=σ++(xp r.1).map (renO fun i=>σ.length+i)):=
 ACalls.newAt (x:=fun n=>.tup [newV r.1 n,.int .i64 r.2]) (wt.ok a0 a1 a2 a3 a4 a5 r h) (fun n=>by obtain⟨o,e⟩:=r; cases o<;>simp only[XH,XG,AV.ren,renL,uF]) (by simp only[push_cast]) σ
def xS (a0:GDedupCache)(a1:Int)(a2:Int):GPacket×Int:=
 (if ((Ya a0.freplies.l (⟨a1,a2⟩:GDedupKey)).isSome)=true then ((Ya a0.freplies.l (⟨a1,a2⟩:GDedupKey)).getD (⟨0,0,0,0,0,[],0,[]⟩:GPacket),2) else (if (((Ya a0.flast.l a1).isSome)&&(decide (a2≤(Ya a0.flast.l a1).getD 0)))=true then ((⟨0,0,0,0,0,[],0,[]⟩:GPacket),3) else ((⟨0,0,0,0,0,[],0,[]⟩:GPacket),1)))
theorem xS.ok (a0:GDedupCache)(a1:Int)(a2:Int)(r:GPacket×Int)(h:xS a0 a1 a2=r):ACalls qg 132 [.op 0 0 0,.int .i64 a1,.int .i64 a2] [.cells 0 [.int .i64 a0.fsize,.os true 2 1 (a0.vorder) 0 (qa a0.forder) false,.mp 2,.mp 3],.cells (a0.vorder) (qc encGDedupKey a0.forder),.map (zR kvGDedupKey kvGPacket a0.freplies.l) (some (a0.freplies.bs,a0.freplies.ck)),.map (zR (AV.int .i64) (AV.int .i64) a0.flast.l) (some (a0.flast.bs,a0.flast.ck))] (fun r' σ'=>r'=.tup [.agg (encGPacket r.1),.int .i64 r.2]∧σ'=[.cells 0 [.int .i64 a0.fsize,.os true 2 1 (a0.vorder) 0 (qa a0.forder) false,.mp 2,.mp 3],.cells (a0.vorder) (qc encGDedupKey a0.forder),.map (zR kvGDedupKey kvGPacket a0.freplies.l) (some (a0.freplies.bs,a0.freplies.ck)),.map (zR (AV.int .i64) (AV.int .i64) a0.flast.l) (some (a0.flast.bs,a0.flast.ck))]):=by
 refine we [0,1,2,3] (rs:=[.cell 6 43,.tmp 7]) tok Tryz.func132 rfl Tryz.ntmps132 rfl Tryz.call132 (by simp) rfl ?_;refine zk [(0,.op 0 0 0),(1,.int .i64 a1),(2,.int .i64 a2)] ⟨rfl,rfl,rfl,trivial⟩ ?_;unfold xS at h;refine rgN [0,1,2,6] ?_
 refine za fun Z1 hZ1=>?_
 have f2:=fun (o0:AObj) (o1:AObj) (x:Store)=>YM (T:=tab) (t:=205) (ek:=kvGDedupKey) (ev:=kvGPacket) (z:=(⟨0,0,0,0,0,[],0,[]⟩:GPacket)) KA268 rfl rfl rfl rfl a0.freplies.l (⟨a1,a2⟩:GDedupKey) true (o0::o1::.map (zR kvGDedupKey kvGPacket a0.freplies.l) (some (a0.freplies.bs,a0.freplies.ck))::x) 2 rfl
 simp only[kvGDedupKey,encGDedupKey,kvGPacket,encGPacket] at f2
 refine rg tok [0,1,2,6,8,9] fun K hK=>?_
 simp only[go_sem,qd,qf,qb,qe,reduceCtorEq,Yu,if_false,if_true,f2];apply hK
 refine rgN [0,1,2,6,8,23] ?_;refine zw (b:=((Ya a0.freplies.l (⟨a1,a2⟩:GDedupKey)).isSome)) rfl (fun hc3=>?_) (fun hc3=>?_)
 · rw[if_pos hc3] at h;refine rgN [6,7] ?_;apply zE;obtain rfl:=h;simp only[wg,zX,z7,yN,exists_eq_left',go_sem,qf,qb,qe,encGPacket];refine⟨by decide,by simp,?_,?_⟩
   · first|rfl|(simp only[go_sem,qd,qf,qb,qe,qi,qm,reduceIte,reduceCtorEq,push_cast,if_true,qv,qk,qn,qj,qx,qo,qE,qz,qr,qq,qp,zg,encGDedupKey,encGPacket]<;>rfl)
   first|rfl|(simp only[go_sem,qb,qe,reduceCtorEq,push_cast,if_true,qk,qn,qj,zg]<;>rfl)
 rw[xU hc3] at h;apply zd;apply hZ1
 refine za fun Z4 hZ4=>?_
 have f5:=fun (o0:AObj) (o1:AObj) (o2:AObj) (x:Store)=>YM (T:=tab) (t:=206) (ek:=(AV.int .i64)) (ev:=(AV.int .i64)) (z:=0) (vaB.int rfl rfl rfl rfl) rfl rfl rfl rfl a0.flast.l a1 true (o0::o1::o2::.map (zR (AV.int .i64) (AV.int .i64) a0.flast.l) (some (a0.flast.bs,a0.flast.ck))::x) 3 rfl
 refine rg tok [2,6,10,11] fun K hK=>?_
 simp only[go_sem,qd,qb,qe,reduceCtorEq,Yu,if_false,if_true,f5];apply hK
 refine rc [6,39] fun K hK=>?_
 refine rnN 2 ?_;refine zo 4 (fun L τ=>L=[(6,.op 4 0 0),(39,.bool (((Ya a0.flast.l a1).isSome)&&(decide (a2≤(Ya a0.flast.l a1).getD 0))))]∧τ=[.cells 0 [.int .i64 a0.fsize,.os true 2 1 (a0.vorder) 0 (qa a0.forder) false,.mp 2,.mp 3],.cells (a0.vorder) (qc encGDedupKey a0.forder),.map (zR kvGDedupKey kvGPacket a0.freplies.l) (some (a0.freplies.bs,a0.freplies.ck)),.map (zR (AV.int .i64) (AV.int .i64) a0.flast.l) (some (a0.flast.bs,a0.flast.ck)),.cells 0 [.int .i64 0,.int .i64 0,.int .i64 0,.int .i64 0,.int .i64 0,.str [],.int .i64 0,.str []],.cells 0 [.int .i64 (((Ya a0.freplies.l (⟨a1,a2⟩:GDedupKey)).getD (⟨0,0,0,0,0,[],0,[]⟩:GPacket)).fKind),.int .i64 (((Ya a0.freplies.l (⟨a1,a2⟩:GDedupKey)).getD (⟨0,0,0,0,0,[],0,[]⟩:GPacket)).fFrom),.int .i64 (((Ya a0.freplies.l (⟨a1,a2⟩:GDedupKey)).getD (⟨0,0,0,0,0,[],0,[]⟩:GPacket)).fTo),.int .i64 (((Ya a0.freplies.l (⟨a1,a2⟩:GDedupKey)).getD (⟨0,0,0,0,0,[],0,[]⟩:GPacket)).fID),.int .i64 (((Ya a0.freplies.l (⟨a1,a2⟩:GDedupKey)).getD (⟨0,0,0,0,0,[],0,[]⟩:GPacket)).fVersion),.str (((Ya a0.freplies.l (⟨a1,a2⟩:GDedupKey)).getD (⟨0,0,0,0,0,[],0,[]⟩:GPacket)).fMethod),.int .i64 (((Ya a0.freplies.l (⟨a1,a2⟩:GDedupKey)).getD (⟨0,0,0,0,0,[],0,[]⟩:GPacket)).fErr),.str (((Ya a0.freplies.l (⟨a1,a2⟩:GDedupKey)).getD (⟨0,0,0,0,0,[],0,[]⟩:GPacket)).fBody)]]) ?_ ?_
 · refine zP (b:=((Ya a0.flast.l a1).isSome)) 35 rfl (fun hg35=>?_) (fun hg35=>?_)
   · refine rnN 4 ?_;refine zb ⟨rfl,_,_,⟨rfl,rfl⟩,.b hg35⟩
   refine rnN 4 ?_;refine zb ⟨rfl,_,_,⟨rfl,rfl⟩,.b hg35⟩
 rintro _ _ ⟨rfl,rfl⟩;refine nkN hK ?_;refine zw (b:=(((Ya a0.flast.l a1).isSome)&&(decide (a2≤(Ya a0.flast.l a1).getD 0)))) rfl (fun hc6=>?_) (fun hc6=>?_)
 · rw[if_pos hc6] at h;refine rgN [6,7] ?_;apply zE;obtain rfl:=h;simp only[wg,zX,z7,yN,exists_eq_left',go_sem,qf,qb,qe,encGPacket];refine⟨by decide,by simp,?_,?_⟩
   · first|rfl|(simp only[go_sem,qd,qf,qb,qe,qi,qm,reduceIte,reduceCtorEq,push_cast,if_true,qv,qk,qn,qj,qx,qo,qE,qz,qr,qq,qp,zg,encGDedupKey,encGPacket]<;>rfl)
   first|rfl|(simp only[go_sem,qb,qe,reduceCtorEq,push_cast,if_true,qk,qn,qj,zg]<;>rfl)
 rw[xU hc6] at h;apply zd;apply hZ4;refine rgN [6,7] ?_;apply zE;obtain rfl:=h;simp only[wg,zX,z7,yN,exists_eq_left',go_sem,qf,qb,qe,encGPacket];refine⟨by decide,by simp,?_,?_⟩
 · first|rfl|(simp only[go_sem,qd,qf,qb,qe,qi,qm,reduceIte,reduceCtorEq,push_cast,if_true,qv,qk,qn,qj,qx,qo,qE,qz,qr,qq,qp,zg,encGDedupKey,encGPacket]<;>rfl)
 first|rfl|(simp only[go_sem,qb,qe,reduceCtorEq,push_cast,if_true,qk,qn,qj,zg]<;>rfl)
end
end Go.Proofs.YtaahlckibpiphaaGreatDoor
