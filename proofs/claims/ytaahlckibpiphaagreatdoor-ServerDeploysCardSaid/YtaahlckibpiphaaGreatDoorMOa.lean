/- Parts of the proof, cut down to what it needs. -/
import Derived.Test.YtaahlckibpiphaaGreatDoorMFB
import Derived.KernelRfl
import Derived.Test.YtaahlckibpiphaaGreatDoorMU
import Derived.Test.YtaahlckibpiphaaGreatDoorRows
import Derived.Test.YtaahlckibpiphaaGreatDoorChecked
import Derived.Test.YtaahlckibpiphaaGreatDoorTie
import Derived.ProofKit
import Derived.OpenShut
import Derived.ShutString
import Derived.ChangeOld
import Derived.ChangeSame
import Derived.ChangeVars
import Derived.JoinedOf
import Derived.RowKit
import Derived.LaidLaws
import Derived.LaidHandle
import Derived.Lib.LaidIn
import Derived.Lib.LaidU8T
import Derived.SevenTiedAt
import Derived.Test.YtaahlckibpiphaaGreatDoorMFBab
set_option linter.constructorNameAsVariable false
set_option linter.unusedSimpArgs false
set_option linter.unusedVariables false
namespace Go.Proofs.YtaahlckibpiphaaGreatDoor
open _root_.List renaming length → qg, flatMap → qh, length_append → qk, length_cons → qp, drop_zero → qq, map_nil → qr, map_append → qs, map_cons → qt, append_assoc → qu, length_nil → qz, append_nil → qB, flatMap_cons → qC, flatMap_append → qD, nil_append → qE, cons_append → qF, flatMap_nil → qG, getD_eq_getElem?_getD → qL, range_zero → qN, length_eq_zero_iff → qP, getElem?_eq_some_iff → qR, all_cons → qS, mem_cons_of_mem → qU, all_nil → qV, mem_cons_self → qX, range_succ → qY, mem_cons → q5, length_singleton → q9, eq_nil_of_length_eq_zero → ub, take_length → uc, all_eq_true → uf, length_map → uj, getElem?_append_right → un, take_of_length_le → uo, set_cons_zero → uA, filter_cons → uF, range → uG, mem_append → uP, pairwise_cons → uQ
open _root_.Option renaming bind_some → qj, bind → uH
open _root_.Nat renaming reduceEqDiff → qa, reduceLeDiff → qb, reduceAdd → qc, reduceMul → qd, reduceLT → qe, reduceSub → qf, zero_add → ql, lt_succ_self → qH, le_refl → qI, zero_le → qW, reduceMod → q1, lt_of_lt_of_le → ug, zero_mul → um, add_assoc → uv, le_trans → uD, sub_self → uI, add_zero → uJ
open _root_.Bool renaming not_false → qn, and_true → qo, or_true → qv, not_true → qw, and_false → qx, or_false → qy, and_self → qJ, and_eq_true → qK, true_and → ui, or_eq_true → uk, true_or → uE, false_or → uM
open _root_.Int renaming toNat → qQ, toNat_natCast → ul
open _root_.BitVec renaming ofInt → qM, toNat → ur
open _root_.Array renaming getD_eq_getD_getElem? → uw
open _root_.UInt8 renaming ofNat → ua


open _root_.Go.Proofs.Tryz renaming prog → qi
section
set_option maxRecDepth 4000
set_option maxHeartbeats 1000000
open AM
def wA.l8 (a1:List yo):List yo→Int→Option Bool
 |[],x6=>some true
 |y8::q8,x6=>(YN a1 x6).bind fun y14=>(if (!(decide (y8.fTag=y14.fTag)&&(decide (y8.fWire=y14.fWire)&&(decide (y8.fN=y14.fN)&&decide (y8.fB=y14.fB)))))=true then some false else ((wA.l8 a1 q8) (x6+1)))
def wA (a0:List yo)(a1:List yo):Option Bool:=
 (if (qg a0:Int)=(qg a1:Int) then (wA.l8 a1 a0 0) else some false)
theorem wA.ok {a0 a1 r}(h:wA a0 a1=some r):ACalls qi 120 [.ds true (qh zu a0) (qg a0) false,.ds true (qh zu a1) (qg a1) false] [] (fun r' _=>r'=.bool r):=by
 refine zw (rs:=[.tmp 4]) tok Tryz.func120 rfl Tryz.ntmps120 rfl Tryz.call120 (by simp) ?_;refine zC [(0,.ds true (qh zu a0) (qg a0) false),(1,.ds true (qh zu a1) (qg a1) false)] ⟨rfl,rfl,trivial⟩ ?_;unfold wA at h;refine rgN [0,1] ?_
 refine ze fun Z1 hZ1=>?_
 refine rg tok [0,1,10] fun K hK=>?_
 simp only[go_sem,qe,qb,qa,qc,qd,qf,reduceIte,reduceCtorEq,zV];apply hK
 refine yn rfl (fun hc2=>?_) (fun hc2=>?_)
 · rw[if_neg hc2] at h;have t3:=eq_false hc2
   refine rg tok [4] fun K hK=>?_
   simp only[go_sem,qe,qb,qa,qc,qd,qf,reduceIte,reduceCtorEq,t3];apply hK
   cases h;exact rtA
 rw[if_pos hc2] at h;have t4:=eq_true hc2;apply zp;apply hZ1
 refine ze fun Z5 hZ5=>?_
 refine rg tok [0,1,12,13] fun K hK=>?_
 simp only[go_sem,qe,qb,qa,qc,qd,qf,reduceIte,reduceCtorEq,t4];apply hK
 apply zt
 refine xv 0 fun hb8=>?_
 replace hb8:qg a0≤9223372036854775807:=hb8.1;refine yh (fun m L τ=>∃ (p8 q8:List yo) (x6:Int),m=qg q8∧L=[(0,.ds true (qh zu a0) (qg a0) false),(1,.ds true (qh zu a1) (qg a1) false),(12,.int .i64 (qg a0:Int)),(13,.int .i64 x6)]∧τ=([]:zi)∧a0=p8++q8∧x6=(qg p8:Int)∧wA.l8 a1 q8 x6=some r) _ ⟨[],a0,0,rfl,rfl,rfl,rfl,rfl,h⟩ .s ?_;rintro m L τ ⟨p8,q8,x6,rfl,rfl,rfl,hE8,hi8,h⟩
 rcases q8 with _|⟨y8,q8⟩
 · have hz8:=xE hE8 hi8;simp only[wA.l8] at h
   refine rg tok [0,1,12,13,14] fun K hK=>?_
   simp only[go_sem,qe,qb,qa,qc,qd,qf,reduceIte,reduceCtorEq,zV,t4,hz8];apply hK
   refine ze fun Z9 hZ9=>?_
   refine zK rfl ?_;apply ye;apply hZ5
   refine rg tok [4] fun K hK=>?_
   simp only[go_sem,qe,qb,qa,qc,qd,qf,reduceIte,reduceCtorEq,t4,hz8];apply hK
   cases h;exact rtA
 obtain⟨hz8,hw8,hx8,hE'8,hi'8⟩:=yZ hE8 hi8 hb8;simp only[wA.l8] at h
 refine rg tok [0,1,12,13,14] fun K hK=>?_
 simp only[go_sem,qe,qb,qa,qc,qd,qf,reduceIte,reduceCtorEq,zV,t4,hz8,hw8];apply hK
 refine ze fun Z10 hZ10=>?_
 refine zQ rfl ?_;apply zp;apply hZ10
 refine ze fun Z11 hZ11=>?_
 apply zt
 refine rg tok [0,1,5,12,13] fun K hK=>?_
 simp only[go_sem,qe,qb,qa,qc,qd,qf,reduceIte,reduceCtorEq,t4,hz8,hw8];apply hK
 have f12:=E35.idxS hx8;have f13:=E35.loadS rfl rfl hx8;obtain⟨y14,hy14,h⟩:=bind_some h;have f15:=E35.idxS hy14;have f16:=E35.loadS rfl rfl hy14
 refine rd [0,1,12,13,24] fun K hK=>?_
 refine DW.start (T:=tab) [.any,.any,.any,.at [],.any,.any,.any,.at [],.any] [] ?_;refine DW.runN tok 8 ?_;simp only[go_sem,qe,qb,qa,qc,qd,qf,reduceIte,reduceCtorEq,zu,t4,hz8,hw8,f12,f13,f15,f16,evEqA,vak,ceq];refine DW.runN tok 1 ?_;simp only[go_sem,qe,qb,qa,qc,qd,qf,reduceIte,reduceCtorEq,zV,zu,t4,hz8,hw8,f12,f13,f15,f16,evEqA,vak,ceq];refine DW.fin tok (by decide +kernel) rfl ?_;simp only[zG,yE,yV,ZS,upd,qa,reduceIte,xl,xU];apply hK
 refine zY (b:=(!(decide (y8.fTag=y14.fTag)&&(decide (y8.fWire=y14.fWire)&&(decide (y8.fN=y14.fN)&&decide (y8.fB=y14.fB)))))) rfl (fun hc17=>?_) (fun hc17=>?_)
 · rw[if_pos hc17] at h
   refine rg tok [4] fun K hK=>?_
   simp only[go_sem,qe,qb,qa,qc,qd,qf,reduceIte,reduceCtorEq,t4,hz8,hw8];apply hK
   cases h;exact rtA
 rw[Zg hc17] at h;apply zp;apply hZ11
 refine rgE tok [0,1,12,13] fun K hK=>?_
 simp only[go_sem,qe,qb,qa,qc,qd,qf,reduceIte,reduceCtorEq,zV,t4,hz8,hw8];apply hK
 exact⟨_,_,_,qH q8.length,⟨p8++[y8],q8,x6+1,rfl,rfl,rfl,hE'8,hi'8,h⟩,.s⟩
def wF.body (xn:zq→zq→Option Bool)(yS:zA→zA→Option Bool)(zH:(List zA)→(List zA)→Option Bool)(zO:(List zq)→(List zq)→Option Bool)(a0:zq)(a1:zq):Option Bool:=
 (if (((decide (a0.fKind=a1.fKind))&&(decide (a0.fN=a1.fN)))&&(decide (a0.fS=a1.fS)))=true then (wA a0.fRest a1.fRest).bind fun r3=>some r3 else some false).bind fun c3=>(if c3=true then (zH a0.fEntries a1.fEntries).bind fun r5=>some r5 else some false).bind fun c5=>some c5
theorem wF.step (xn:zq→zq→Option Bool)(yS:zA→zA→Option Bool)(zH:(List zA)→(List zA)→Option Bool)(zO:(List zq)→(List zq)→Option Bool)(Yg:∀ (a0:zq) (a1:zq) (r:Bool),xn a0 a1=some r→ACalls qi 80 [.agg (za a0),.agg (za a1)] [] (fun r' _=>r'=.bool r))(ZE:∀ (a0:zA) (a1:zA) (r:Bool),yS a0 a1=some r→ACalls qi 122 [.agg (zF a0),.agg (zF a1)] [] (fun r' _=>r'=.bool r))(y1:∀ (a0:List zA) (a1:List zA) (r:Bool),zH a0 a1=some r→ACalls qi 121 [.ds true (qh zz a0) (qg a0) false,.ds true (qh zz a1) (qg a1) false,.fn (.func 122) [] []] [] (fun r' _=>r'=.bool r))(xj:∀ (a0:List zq) (a1:List zq) (r:Bool),zO a0 a1=some r→ACalls qi 123 [.ds true (qh ym a0) (qg a0) false,.ds true (qh ym a1) (qg a1) false,.fn (.func 80) [] []] [] (fun r' _=>r'=.bool r))(a0:zq)(a1:zq)(r:Bool)(h:wF.body xn yS zH zO a0 a1=some r):ACalls qi 80 [.agg (za a0),.agg (za a1)] [] (fun r' _=>r'=.bool r):=by
 have ev_value_Same:=fun a0 a1 r h σ=>(Yg a0 a1 r h).c σ
 have ev_value_Same_1:=fun a0 a1 r h σ=>(ZE a0 a1 r h).c σ
 have ev_slices_EqualFunc_Entry_value_Same_1:=fun a0 a1 r h σ=>(y1 a0 a1 r h).c σ
 have ev_slices_EqualFunc_Tree_value_Same:=fun a0 a1 r h σ=>(xj a0 a1 r h).c σ
 refine zw (rs:=[.tmp 4]) tok Tryz.func80 rfl Tryz.ntmps80 rfl Tryz.call80 (by simp) ?_;refine zC [(0,.agg (za a0)),(1,.agg (za a1))] ⟨rfl,rfl,trivial⟩ ?_;unfold wF.body at h
 refine rg tok [2,3] fun K hK=>?_
 simp only[go_sem,qe,qb,qa,qc,qd,qf,reduceIte,reduceCtorEq,za,zh];apply hK
 refine rc [4] fun K hK=>?_
 refine zd tok 6 ?_;simp only[go_sem,qe,qb,qa,qc,qd,qf,reduceIte,reduceCtorEq,zV];refine zI 6 (fun L τ=>L=[(2,.op 0 0 0),(3,.op 1 0 0),(16,.bool ((decide (a0.fKind=a1.fKind))&&(decide (a0.fN=a1.fN))))]∧τ=([.cells 0 (za a0),.cells 0 (za a1)]:zi)) ?_ ?_
 · refine wr 10 rfl (fun hg10=>?_) (fun hg10=>?_)
   · have t1:=eq_true hg10;refine zd tok 6 ?_;simp only[go_sem,qe,qb,qa,qc,qd,qf,reduceIte,reduceCtorEq,zV];refine zm ⟨rfl,_,_,⟨rfl,rfl⟩,.p t1⟩
   have t2:=eq_false hg10;refine zd tok 6 ?_;simp only[go_sem,qe,qb,qa,qc,qd,qf,reduceIte,reduceCtorEq,zV];refine zm ⟨rfl,_,_,⟨rfl,rfl⟩,.p t2⟩
 rintro _ _ ⟨rfl,rfl⟩;refine rnN 1 ?_;refine zI 6 (fun L τ=>L=[(2,.op 0 0 0),(3,.op 1 0 0),(23,.bool (((decide (a0.fKind=a1.fKind))&&(decide (a0.fN=a1.fN)))&&(decide (a0.fS=a1.fS))))]∧τ=([.cells 0 (za a0),.cells 0 (za a1)]:zi)) ?_ ?_
 · refine yz (b:=((decide (a0.fKind=a1.fKind))&&(decide (a0.fN=a1.fN)))) 17 rfl (fun hg17=>?_) (fun hg17=>?_)
   · refine zd tok 6 ?_;simp only[go_sem,qe,qb,qa,qc,qd,qf,reduceIte,reduceCtorEq,zV];refine zm ⟨rfl,_,_,⟨rfl,rfl⟩,.b hg17⟩
   refine zd tok 6 ?_;simp only[go_sem,qe,qb,qa,qc,qd,qf,reduceIte,reduceCtorEq,zV];refine zm ⟨rfl,_,_,⟨rfl,rfl⟩,.b hg17⟩
 rintro _ _ ⟨rfl,rfl⟩;refine rnN 1 ?_;obtain⟨c3,hc3,h⟩:=bind_some h;refine zI 6 (fun L τ=>L=[(2,.op 0 0 0),(3,.op 1 0 0),(30,.bool c3)]∧τ=([.cells 0 (za a0),.cells 0 (za a1)]:zi)) ?_ ?_
 · refine yz (b:=(((decide (a0.fKind=a1.fKind))&&(decide (a0.fN=a1.fN)))&&(decide (a0.fS=a1.fS)))) 24 rfl (fun hg24=>?_) (fun hg24=>?_)
   · rw[if_pos hg24] at hc3;obtain⟨r4,hr4,hc3⟩:=bind_some hc3;refine rnN 4 ?_;refine clN rfl rfl rfl ((wA.ok hr4).c _) ?_;refine rnN 1 ?_;cases hc3;refine zm ⟨rfl,_,_,⟨rfl,rfl⟩,.b hg24⟩
   rw[Zg hg24] at hc3;refine rnN 6 ?_;cases hc3;refine zm ⟨rfl,_,_,⟨rfl,rfl⟩,.b hg24⟩
 rintro _ _ ⟨rfl,rfl⟩;refine rnN 1 ?_;obtain⟨c5,hc5,h⟩:=bind_some h;refine zI 6 (fun L τ=>L=[(37,.bool c5)]∧τ=([.cells 0 (za a0),.cells 0 (za a1)]:zi)) ?_ ?_
 · refine yz (b:=c3) 31 rfl (fun hg31=>?_) (fun hg31=>?_)
   · rw[if_pos hg31] at hc5;obtain⟨r6,hr6,hc5⟩:=bind_some hc5;refine rnN 4 ?_;refine clN rfl rfl rfl (ev_slices_EqualFunc_Entry_value_Same_1 a0.fEntries a1.fEntries r6 hr6 _) ?_;refine rnN 1 ?_;cases hc5;refine zm ⟨rfl,_,_,⟨rfl,rfl⟩,.b hg31⟩
   rw[Zg hg31] at hc5;refine rnN 6 ?_;cases hc5;refine zm ⟨rfl,_,_,⟨rfl,rfl⟩,.b hg31⟩
 rintro _ _ ⟨rfl,rfl⟩;refine rnN 1 ?_;refine nkN hK ?_;cases h;exact rtA
def wZ.body (xn:zq→zq→Option Bool)(yS:zA→zA→Option Bool)(zH:(List zA)→(List zA)→Option Bool)(zO:(List zq)→(List zq)→Option Bool)(a0:zA)(a1:zA):Option Bool:=
 (if a0.fTag=a1.fTag then (zO a0.fTrees a1.fTrees).bind fun r1=>some r1 else some false).bind fun c1=>some c1
theorem wZ.step (xn:zq→zq→Option Bool)(yS:zA→zA→Option Bool)(zH:(List zA)→(List zA)→Option Bool)(zO:(List zq)→(List zq)→Option Bool)(Yg:∀ (a0:zq) (a1:zq) (r:Bool),xn a0 a1=some r→ACalls qi 80 [.agg (za a0),.agg (za a1)] [] (fun r' _=>r'=.bool r))(ZE:∀ (a0:zA) (a1:zA) (r:Bool),yS a0 a1=some r→ACalls qi 122 [.agg (zF a0),.agg (zF a1)] [] (fun r' _=>r'=.bool r))(y1:∀ (a0:List zA) (a1:List zA) (r:Bool),zH a0 a1=some r→ACalls qi 121 [.ds true (qh zz a0) (qg a0) false,.ds true (qh zz a1) (qg a1) false,.fn (.func 122) [] []] [] (fun r' _=>r'=.bool r))(xj:∀ (a0:List zq) (a1:List zq) (r:Bool),zO a0 a1=some r→ACalls qi 123 [.ds true (qh ym a0) (qg a0) false,.ds true (qh ym a1) (qg a1) false,.fn (.func 80) [] []] [] (fun r' _=>r'=.bool r))(a0:zA)(a1:zA)(r:Bool)(h:wZ.body xn yS zH zO a0 a1=some r):ACalls qi 122 [.agg (zF a0),.agg (zF a1)] [] (fun r' _=>r'=.bool r):=by
 have ev_value_Same:=fun a0 a1 r h σ=>(Yg a0 a1 r h).c σ
 have ev_value_Same_1:=fun a0 a1 r h σ=>(ZE a0 a1 r h).c σ
 have ev_slices_EqualFunc_Entry_value_Same_1:=fun a0 a1 r h σ=>(y1 a0 a1 r h).c σ
 have ev_slices_EqualFunc_Tree_value_Same:=fun a0 a1 r h σ=>(xj a0 a1 r h).c σ
 refine zw (rs:=[.tmp 4]) tok Tryz.func122 rfl Tryz.ntmps122 rfl Tryz.call122 (by simp) ?_;refine zC [(0,.agg (zF a0)),(1,.agg (zF a1))] ⟨rfl,rfl,trivial⟩ ?_;unfold wZ.body at h
 refine rg tok [2,3] fun K hK=>?_
 simp only[go_sem,qe,qb,qa,qc,qd,qf,reduceIte,reduceCtorEq,zF,z8];apply hK
 refine rc [4] fun K hK=>?_
 refine zd tok 6 ?_;simp only[go_sem,qe,qb,qa,qc,qd,qf,reduceIte,reduceCtorEq,zV];obtain⟨c1,hc1,h⟩:=bind_some h;refine zI 6 (fun L τ=>L=[(16,.bool c1)]∧τ=([.cells 0 (zF a0),.cells 0 (zF a1)]:zi)) ?_ ?_
 · refine wr 10 rfl (fun hg10=>?_) (fun hg10=>?_)
   · have t2:=eq_true hg10;rw[if_pos hg10] at hc1;obtain⟨r3,hr3,hc1⟩:=bind_some hc1;refine rnN 4 ?_;refine clN rfl rfl rfl (ev_slices_EqualFunc_Tree_value_Same a0.fTrees a1.fTrees r3 hr3 _) ?_;refine rnN 1 ?_;cases hc1;refine zm ⟨rfl,_,_,⟨rfl,rfl⟩,.p t2⟩
   have t4:=eq_false hg10;rw[if_neg hg10] at hc1;refine rnN 6 ?_;cases hc1;refine zm ⟨rfl,_,_,⟨rfl,rfl⟩,.p t4⟩
 rintro _ _ ⟨rfl,rfl⟩;refine rnN 1 ?_;refine nkN hK ?_;cases h;exact rtA
def zE.l8 (yS:zA→zA→Option Bool)(a1:List zA):List zA→Int→Option Bool
 |[],x6=>some true
 |y8::q8,x6=>(YN a1 x6).bind fun y14=>(yS y8 y14).bind fun r17=>(if (!r17)=true then some false else ((zE.l8 yS a1 q8) (x6+1)))
def zE.body (xn:zq→zq→Option Bool)(yS:zA→zA→Option Bool)(zH:(List zA)→(List zA)→Option Bool)(zO:(List zq)→(List zq)→Option Bool)(a0:List zA)(a1:List zA):Option Bool:=
 (if (qg a0:Int)=(qg a1:Int) then (zE.l8 yS a1 a0 0) else some false)
theorem zE.step (xn:zq→zq→Option Bool)(yS:zA→zA→Option Bool)(zH:(List zA)→(List zA)→Option Bool)(zO:(List zq)→(List zq)→Option Bool)(Yg:∀ (a0:zq) (a1:zq) (r:Bool),xn a0 a1=some r→ACalls qi 80 [.agg (za a0),.agg (za a1)] [] (fun r' _=>r'=.bool r))(ZE:∀ (a0:zA) (a1:zA) (r:Bool),yS a0 a1=some r→ACalls qi 122 [.agg (zF a0),.agg (zF a1)] [] (fun r' _=>r'=.bool r))(y1:∀ (a0:List zA) (a1:List zA) (r:Bool),zH a0 a1=some r→ACalls qi 121 [.ds true (qh zz a0) (qg a0) false,.ds true (qh zz a1) (qg a1) false,.fn (.func 122) [] []] [] (fun r' _=>r'=.bool r))(xj:∀ (a0:List zq) (a1:List zq) (r:Bool),zO a0 a1=some r→ACalls qi 123 [.ds true (qh ym a0) (qg a0) false,.ds true (qh ym a1) (qg a1) false,.fn (.func 80) [] []] [] (fun r' _=>r'=.bool r))(a0:List zA)(a1:List zA)(r:Bool)(h:zE.body xn yS zH zO a0 a1=some r):ACalls qi 121 [.ds true (qh zz a0) (qg a0) false,.ds true (qh zz a1) (qg a1) false,.fn (.func 122) [] []] [] (fun r' _=>r'=.bool r):=by
 have ev_value_Same:=fun a0 a1 r h σ=>(Yg a0 a1 r h).c σ
 have ev_value_Same_1:=fun a0 a1 r h σ=>(ZE a0 a1 r h).c σ
 have ev_slices_EqualFunc_Entry_value_Same_1:=fun a0 a1 r h σ=>(y1 a0 a1 r h).c σ
 have ev_slices_EqualFunc_Tree_value_Same:=fun a0 a1 r h σ=>(xj a0 a1 r h).c σ
 refine zw (rs:=[.tmp 6]) tok Tryz.func121 rfl Tryz.ntmps121 rfl Tryz.call121 (by simp) ?_;refine zC [(0,.ds true (qh zz a0) (qg a0) false),(1,.ds true (qh zz a1) (qg a1) false),(2,.fn (.func 122) [] [])] ⟨rfl,rfl,rfl,trivial⟩ ?_;unfold zE.body at h;refine rgN [0,1,2] ?_
 refine ze fun Z1 hZ1=>?_
 refine rg tok [0,1,2,14] fun K hK=>?_
 simp only[go_sem,qe,qb,qa,qc,qd,qf,reduceIte,reduceCtorEq,zV];apply hK
 refine yn rfl (fun hc2=>?_) (fun hc2=>?_)
 · rw[if_neg hc2] at h;have t3:=eq_false hc2
   refine rg tok [6] fun K hK=>?_
   simp only[go_sem,qe,qb,qa,qc,qd,qf,reduceIte,reduceCtorEq,t3];apply hK
   cases h;exact rtA
 rw[if_pos hc2] at h;have t4:=eq_true hc2;apply zp;apply hZ1
 refine ze fun Z5 hZ5=>?_
 refine rg tok [1,2,15,16,17] fun K hK=>?_
 simp only[go_sem,qe,qb,qa,qc,qd,qf,reduceIte,reduceCtorEq,t4];apply hK
 apply zt
 refine xv 15 fun hb8=>?_
 replace hb8:qg a0≤9223372036854775807:=hb8.1;refine yh (fun m L τ=>∃ (p8 q8:List zA) (x6:Int),m=qg q8∧L=[(1,.ds true (qh zz a1) (qg a1) false),(2,.fn (.func 122) [] []),(15,.ds true (qh zz a0) (qg a0) false),(16,.int .i64 (qg a0:Int)),(17,.int .i64 x6)]∧τ=([]:zi)∧a0=p8++q8∧x6=(qg p8:Int)∧zE.l8 yS a1 q8 x6=some r) _ ⟨[],a0,0,rfl,rfl,rfl,rfl,rfl,h⟩ .s ?_;rintro m L τ ⟨p8,q8,x6,rfl,rfl,rfl,hE8,hi8,h⟩
 rcases q8 with _|⟨y8,q8⟩
 · have hz8:=xE hE8 hi8;simp only[zE.l8] at h
   refine rg tok [1,2,15,16,17,18] fun K hK=>?_
   simp only[go_sem,qe,qb,qa,qc,qd,qf,reduceIte,reduceCtorEq,zV,t4,hz8];apply hK
   refine ze fun Z9 hZ9=>?_
   refine zK rfl ?_;apply ye;apply hZ5
   refine rg tok [6] fun K hK=>?_
   simp only[go_sem,qe,qb,qa,qc,qd,qf,reduceIte,reduceCtorEq,t4,hz8];apply hK
   cases h;exact rtA
 obtain⟨hz8,hw8,hx8,hE'8,hi'8⟩:=yZ hE8 hi8 hb8;simp only[zE.l8] at h
 refine rg tok [1,2,15,16,17,18] fun K hK=>?_
 simp only[go_sem,qe,qb,qa,qc,qd,qf,reduceIte,reduceCtorEq,zV,t4,hz8,hw8];apply hK
 refine ze fun Z10 hZ10=>?_
 refine zQ rfl ?_;apply zp;apply hZ10
 refine ze fun Z11 hZ11=>?_
 apply zt;have f12:=E34.idxS hx8;have f13:=E34.loadS rfl rfl hx8
 refine rg tok [1,2,7,8,15,16,17] fun K hK=>?_
 simp only[go_sem,qe,qb,qa,qc,qd,qf,reduceIte,reduceCtorEq,zF,z8,t4,hz8,hw8,f12,f13];apply hK
 obtain⟨y14,hy14,h⟩:=bind_some h;have f15:=E34.idxS hy14;have f16:=E34.loadS rfl rfl hy14
 refine rg tok [1,2,8,9,15,16,17] fun K hK=>?_
 simp only[go_sem,qe,qb,qa,qc,qd,qf,reduceIte,reduceCtorEq,zF,z8,t4,hz8,hw8,f15,f16];apply hK
 refine rc [1,2,15,16,17,30] fun K hK=>?_
 obtain⟨r17,hr17,h⟩:=bind_some h;refine zd tok 3 ?_;simp only[go_sem,qe,qb,qa,qc,qd,qf,reduceIte,reduceCtorEq,zF,z8,t4,hz8,hw8];refine clN rfl rfl rfl (ev_value_Same_1 y8 y14 r17 hr17 _) ?_;refine zd tok 1 ?_;simp only[go_sem,qe,qb,qa,qc,qd,qf,reduceIte,reduceCtorEq,zF,z8,t4,hz8,hw8];refine nkN hK ?_;refine zY (b:=(!r17)) rfl (fun hc18=>?_) (fun hc18=>?_)
 · rw[if_pos hc18] at h
   refine rg tok [6] fun K hK=>?_
   simp only[go_sem,qe,qb,qa,qc,qd,qf,reduceIte,reduceCtorEq,t4,hz8,hw8];apply hK
   cases h;exact rtA
 rw[Zg hc18] at h;apply zp;apply hZ11
 refine rgE tok [1,2,15,16,17] fun K hK=>?_
 simp only[go_sem,qe,qb,qa,qc,qd,qf,reduceIte,reduceCtorEq,zV,t4,hz8,hw8];apply hK
 exact⟨_,_,_,qH q8.length,⟨p8++[y8],q8,x6+1,rfl,rfl,rfl,hE'8,hi'8,h⟩,(.t [] false)⟩
def zN.l8 (xn:zq→zq→Option Bool)(a1:List zq):List zq→Int→Option Bool
 |[],x6=>some true
 |y8::q8,x6=>(YN a1 x6).bind fun y14=>(xn y8 y14).bind fun r17=>(if (!r17)=true then some false else ((zN.l8 xn a1 q8) (x6+1)))
def zN.body (xn:zq→zq→Option Bool)(yS:zA→zA→Option Bool)(zH:(List zA)→(List zA)→Option Bool)(zO:(List zq)→(List zq)→Option Bool)(a0:List zq)(a1:List zq):Option Bool:=
 (if (qg a0:Int)=(qg a1:Int) then (zN.l8 xn a1 a0 0) else some false)
theorem zN.step (xn:zq→zq→Option Bool)(yS:zA→zA→Option Bool)(zH:(List zA)→(List zA)→Option Bool)(zO:(List zq)→(List zq)→Option Bool)(Yg:∀ (a0:zq) (a1:zq) (r:Bool),xn a0 a1=some r→ACalls qi 80 [.agg (za a0),.agg (za a1)] [] (fun r' _=>r'=.bool r))(ZE:∀ (a0:zA) (a1:zA) (r:Bool),yS a0 a1=some r→ACalls qi 122 [.agg (zF a0),.agg (zF a1)] [] (fun r' _=>r'=.bool r))(y1:∀ (a0:List zA) (a1:List zA) (r:Bool),zH a0 a1=some r→ACalls qi 121 [.ds true (qh zz a0) (qg a0) false,.ds true (qh zz a1) (qg a1) false,.fn (.func 122) [] []] [] (fun r' _=>r'=.bool r))(xj:∀ (a0:List zq) (a1:List zq) (r:Bool),zO a0 a1=some r→ACalls qi 123 [.ds true (qh ym a0) (qg a0) false,.ds true (qh ym a1) (qg a1) false,.fn (.func 80) [] []] [] (fun r' _=>r'=.bool r))(a0:List zq)(a1:List zq)(r:Bool)(h:zN.body xn yS zH zO a0 a1=some r):ACalls qi 123 [.ds true (qh ym a0) (qg a0) false,.ds true (qh ym a1) (qg a1) false,.fn (.func 80) [] []] [] (fun r' _=>r'=.bool r):=by
 have ev_value_Same:=fun a0 a1 r h σ=>(Yg a0 a1 r h).c σ
 have ev_value_Same_1:=fun a0 a1 r h σ=>(ZE a0 a1 r h).c σ
 have ev_slices_EqualFunc_Entry_value_Same_1:=fun a0 a1 r h σ=>(y1 a0 a1 r h).c σ
 have ev_slices_EqualFunc_Tree_value_Same:=fun a0 a1 r h σ=>(xj a0 a1 r h).c σ
 refine zw (rs:=[.tmp 6]) tok Tryz.func123 rfl Tryz.ntmps123 rfl Tryz.call123 (by simp) ?_;refine zC [(0,.ds true (qh ym a0) (qg a0) false),(1,.ds true (qh ym a1) (qg a1) false),(2,.fn (.func 80) [] [])] ⟨rfl,rfl,rfl,trivial⟩ ?_;unfold zN.body at h;refine rgN [0,1,2] ?_
 refine ze fun Z1 hZ1=>?_
 refine rg tok [0,1,2,14] fun K hK=>?_
 simp only[go_sem,qe,qb,qa,qc,qd,qf,reduceIte,reduceCtorEq,zV];apply hK
 refine yn rfl (fun hc2=>?_) (fun hc2=>?_)
 · rw[if_neg hc2] at h;have t3:=eq_false hc2
   refine rg tok [6] fun K hK=>?_
   simp only[go_sem,qe,qb,qa,qc,qd,qf,reduceIte,reduceCtorEq,t3];apply hK
   cases h;exact rtA
 rw[if_pos hc2] at h;have t4:=eq_true hc2;apply zp;apply hZ1
 refine ze fun Z5 hZ5=>?_
 refine rg tok [1,2,15,16,17] fun K hK=>?_
 simp only[go_sem,qe,qb,qa,qc,qd,qf,reduceIte,reduceCtorEq,t4];apply hK
 apply zt
 refine xv 15 fun hb8=>?_
 replace hb8:qg a0≤9223372036854775807:=hb8.1;refine yh (fun m L τ=>∃ (p8 q8:List zq) (x6:Int),m=qg q8∧L=[(1,.ds true (qh ym a1) (qg a1) false),(2,.fn (.func 80) [] []),(15,.ds true (qh ym a0) (qg a0) false),(16,.int .i64 (qg a0:Int)),(17,.int .i64 x6)]∧τ=([]:zi)∧a0=p8++q8∧x6=(qg p8:Int)∧zN.l8 xn a1 q8 x6=some r) _ ⟨[],a0,0,rfl,rfl,rfl,rfl,rfl,h⟩ .s ?_;rintro m L τ ⟨p8,q8,x6,rfl,rfl,rfl,hE8,hi8,h⟩
 rcases q8 with _|⟨y8,q8⟩
 · have hz8:=xE hE8 hi8;simp only[zN.l8] at h
   refine rg tok [1,2,15,16,17,18] fun K hK=>?_
   simp only[go_sem,qe,qb,qa,qc,qd,qf,reduceIte,reduceCtorEq,zV,t4,hz8];apply hK
   refine ze fun Z9 hZ9=>?_
   refine zK rfl ?_;apply ye;apply hZ5
   refine rg tok [6] fun K hK=>?_
   simp only[go_sem,qe,qb,qa,qc,qd,qf,reduceIte,reduceCtorEq,t4,hz8];apply hK
   cases h;exact rtA
 obtain⟨hz8,hw8,hx8,hE'8,hi'8⟩:=yZ hE8 hi8 hb8;simp only[zN.l8] at h
 refine rg tok [1,2,15,16,17,18] fun K hK=>?_
 simp only[go_sem,qe,qb,qa,qc,qd,qf,reduceIte,reduceCtorEq,zV,t4,hz8,hw8];apply hK
 refine ze fun Z10 hZ10=>?_
 refine zQ rfl ?_;apply zp;apply hZ10
 refine ze fun Z11 hZ11=>?_
 apply zt;have f12:=E38.idxS hx8;have f13:=E38.loadS rfl rfl hx8
 refine rg tok [1,2,7,8,15,16,17] fun K hK=>?_
 simp only[go_sem,qe,qb,qa,qc,qd,qf,reduceIte,reduceCtorEq,za,zh,t4,hz8,hw8,f12,f13];apply hK
 obtain⟨y14,hy14,h⟩:=bind_some h;have f15:=E38.idxS hy14;have f16:=E38.loadS rfl rfl hy14
 refine rg tok [1,2,8,9,15,16,17] fun K hK=>?_
 simp only[go_sem,qe,qb,qa,qc,qd,qf,reduceIte,reduceCtorEq,za,zh,t4,hz8,hw8,f15,f16];apply hK
 refine rc [1,2,15,16,17,30] fun K hK=>?_
 obtain⟨r17,hr17,h⟩:=bind_some h;refine zd tok 3 ?_;simp only[go_sem,qe,qb,qa,qc,qd,qf,reduceIte,reduceCtorEq,za,zh,t4,hz8,hw8];refine clN rfl rfl rfl (ev_value_Same y8 y14 r17 hr17 _) ?_;refine zd tok 1 ?_;simp only[go_sem,qe,qb,qa,qc,qd,qf,reduceIte,reduceCtorEq,za,zh,t4,hz8,hw8];refine nkN hK ?_;refine zY (b:=(!r17)) rfl (fun hc18=>?_) (fun hc18=>?_)
 · rw[if_pos hc18] at h
   refine rg tok [6] fun K hK=>?_
   simp only[go_sem,qe,qb,qa,qc,qd,qf,reduceIte,reduceCtorEq,t4,hz8,hw8];apply hK
   cases h;exact rtA
 rw[Zg hc18] at h;apply zp;apply hZ11
 refine rgE tok [1,2,15,16,17] fun K hK=>?_
 simp only[go_sem,qe,qb,qa,qc,qd,qf,reduceIte,reduceCtorEq,zV,t4,hz8,hw8];apply hK
 exact⟨_,_,_,qH q8.length,⟨p8++[y8],q8,x6+1,rfl,rfl,rfl,hE'8,hi'8,h⟩,(.t [] false)⟩
mutual
def wF : Nat→zq→zq→Option Bool
 |0,_,_=>none
 |k+1,a0,a1=>wF.body (wF k) (wZ k) (zE k) (zN k) a0 a1
def wZ : Nat→zA→zA→Option Bool
 |0,_,_=>none
 |k+1,a0,a1=>wZ.body (wF k) (wZ k) (zE k) (zN k) a0 a1
def zE : Nat→(List zA)→(List zA)→Option Bool
 |0,_,_=>none
 |k+1,a0,a1=>zE.body (wF k) (wZ k) (zE k) (zN k) a0 a1
def zN : Nat→(List zq)→(List zq)→Option Bool
 |0,_,_=>none
 |k+1,a0,a1=>zN.body (wF k) (wZ k) (zE k) (zN k) a0 a1
end
theorem wF.all (k:Nat):(∀ (a0:zq) (a1:zq) (r:Bool),wF k a0 a1=some r→ACalls qi 80 [.agg (za a0),.agg (za a1)] [] (fun r' _=>r'=.bool r))∧(∀ (a0:zA) (a1:zA) (r:Bool),wZ k a0 a1=some r→ACalls qi 122 [.agg (zF a0),.agg (zF a1)] [] (fun r' _=>r'=.bool r))∧(∀ (a0:List zA) (a1:List zA) (r:Bool),zE k a0 a1=some r→ACalls qi 121 [.ds true (qh zz a0) (qg a0) false,.ds true (qh zz a1) (qg a1) false,.fn (.func 122) [] []] [] (fun r' _=>r'=.bool r))∧(∀ (a0:List zq) (a1:List zq) (r:Bool),zN k a0 a1=some r→ACalls qi 123 [.ds true (qh ym a0) (qg a0) false,.ds true (qh ym a1) (qg a1) false,.fn (.func 80) [] []] [] (fun r' _=>r'=.bool r)):=by
 induction k with
 |zero=>exact⟨(fun a0 a1 r h=>by simp only[wF] at h; cases h),(fun a0 a1 r h=>by simp only[wZ] at h; cases h),(fun a0 a1 r h=>by simp only[zE] at h; cases h),(fun a0 a1 r h=>by simp only[zN] at h; cases h)⟩
 |succ k ih=>exact⟨(fun a0 a1 r h=>wF.step _ _ _ _ ih.1 ih.2.1 ih.2.2.1 ih.2.2.2 a0 a1 r (by simpa only [wF] using h)),(fun a0 a1 r h=>wZ.step _ _ _ _ ih.1 ih.2.1 ih.2.2.1 ih.2.2.2 a0 a1 r (by simpa only [wZ] using h)),(fun a0 a1 r h=>zE.step _ _ _ _ ih.1 ih.2.1 ih.2.2.1 ih.2.2.2 a0 a1 r (by simpa only [zE] using h)),(fun a0 a1 r h=>zN.step _ _ _ _ ih.1 ih.2.1 ih.2.2.1 ih.2.2.2 a0 a1 r (by simpa only [zN] using h))⟩
theorem wF.ev (k:Nat)(a0:zq)(a1:zq)(r:Bool)(h:wF k a0 a1=some r)(σ:zi):ACalls qi 80 [.agg (za a0),.agg (za a1)] σ (fun r' σ'=>r'=.bool r∧σ'=σ):=
 ((wF.all k).1 a0 a1 r h).c σ
def xz.j10 (x5:Int)(rec7:Int→Option zq):Option zq:=
 (rec7 (x5+1))
def xz.l7 (a0:zP)(a3:List UInt8)(a4:zq)(r1:Zn×Bool):List GRow→Int→Option zq
 |[],x5=>some (⟨3,0,[],([]:List zA),([]:List yo)⟩:zq)
 |y7::q7,x5=>(if y7.fMethod=a3 then (wC a0 r1.1.fIn y7.fIn).bind fun r17=>(wC a0 r1.1.fOut y7.fOut).bind fun r18=>(if (r17.2&&r18.2)=true then (wF xG r17.1 a4).bind fun r19=>some r19 else some false).bind fun c19=>(if c19=true then some r18.1 else (xz.j10 x5 (xz.l7 a0 a3 a4 r1 q7))) else (xz.j10 x5 (xz.l7 a0 a3 a4 r1 q7)))
def xz (a0:zP)(a1:zP)(a2:List GRow)(a3:List UInt8)(a4:zq):Option zq:=
 bnd (wh a0 a3) fun r1=>(if (!r1.2)=true then some (⟨0,0,[],([]:List zA),([]:List yo)⟩:zq) else (xz.l7 a0 a3 a4 r1 a2 0))
theorem xz.ok {a0 a1 a2 a3 a4 r}(h:xz a0 a1 a2 a3 a4=some r):ACalls qi 42 [.agg (zb a0),.agg (zb a1),.ds true (qh yb a2) (qg a2) false,.str a3,.agg (za a4)] [] (fun r' _=>r'=.agg (za r)):=by
 refine zw (rs:=[.cell 10 37]) tok Tryz.func42 rfl Tryz.ntmps42 rfl Tryz.call42 (by simp) ?_;refine zC [(0,.agg (zb a0)),(1,.agg (zb a1)),(2,.ds true (qh yb a2) (qg a2) false),(3,.str a3),(4,.agg (za a4))] ⟨rfl,rfl,rfl,rfl,rfl,trivial⟩ ?_;unfold xz at h
 refine rg tok [2,3,5,9,10] fun K hK=>?_
 simp only[go_sem,qe,qb,qa,qc,qd,qf,reduceIte,reduceCtorEq,za,zb,zh];apply hK
 refine rc [2,3,5,9,10,11,12] fun K hK=>?_
 obtain⟨r1,hr1,h⟩:=yi h;refine zd tok 2 ?_;simp only[go_sem,qe,qb,qa,qc,qd,qf,reduceIte,reduceCtorEq,zb];refine clN rfl rfl rfl ((wh.ok hr1).c _) ?_;refine zd tok 6 ?_;simp only[go_sem,qe,qb,qa,qc,qd,qf,reduceIte,reduceCtorEq,zr,zb];refine nkN hK ?_
 refine ze fun Z2 hZ2=>?_
 refine rgN [2,3,5,9,10,11,26] ?_;refine zY (b:=(!r1.2)) rfl (fun hc3=>?_) (fun hc3=>?_)
 · rw[if_pos hc3] at h
   refine rg tok [10] fun K hK=>?_
   simp only[go_sem,qe,qb,qa,qc,qd,qf,reduceIte,reduceCtorEq,za,zh];apply hK
   cases h;exact rtA
 rw[Zg hc3] at h;apply zp;apply hZ2
 refine ze fun Z4 hZ4=>?_
 refine rgN [3,5,9,10,11,28,29,30] ?_;apply zt
 refine xv 28 fun hb7=>?_
 replace hb7:qg a2≤9223372036854775807:=hb7.1;refine yh (fun m L τ=>∃ (p7 q7:List GRow) (x5:Int),m=qg q7∧L=[(3,.str a3),(5,.op 0 0 0),(9,.op 1 0 0),(10,.op 2 0 0),(11,.op 3 0 0),(28,.ds true (qh yb a2) (qg a2) false),(29,.int .i64 (qg a2:Int)),(30,.int .i64 x5)]∧τ=([.cells 0 (zb a0),.cells 0 (za a4),.cells 0 [.int .i64 0,.int .i64 0,.str [],.ds true [] 0 true,.ds true [] 0 true],.cells 0 [.str r1.1.fName,.str r1.1.fIn,.str r1.1.fOut]]:zi)∧a2=p7++q7∧x5=(qg p7:Int)∧xz.l7 a0 a3 a4 r1 q7 x5=some r) _ ⟨[],a2,0,rfl,rfl,rfl,rfl,rfl,h⟩ (.t [0,2,3,4] false) ?_;rintro m L τ ⟨p7,q7,x5,rfl,rfl,rfl,hE7,hi7,h⟩
 rcases q7 with _|⟨y7,q7⟩
 · have hz7:=xE hE7 hi7;simp only[xz.l7] at h
   refine rg tok [3,5,9,10,11,28,29,30,31] fun K hK=>?_
   simp only[go_sem,qe,qb,qa,qc,qd,qf,reduceIte,reduceCtorEq,zV,hz7];apply hK
   refine ze fun Z8 hZ8=>?_
   refine zK rfl ?_;apply ye;apply hZ4
   refine rg tok [10] fun K hK=>?_
   simp only[go_sem,qe,qb,qa,qc,qd,qf,reduceIte,reduceCtorEq,za,zh,hz7];apply hK
   cases h;exact rtA
 obtain⟨hz7,hw7,hx7,hE'7,hi'7⟩:=yZ hE7 hi7 hb7;simp only[xz.l7] at h
 refine rg tok [3,5,9,10,11,28,29,30,31] fun K hK=>?_
 simp only[go_sem,qe,qb,qa,qc,qd,qf,reduceIte,reduceCtorEq,zV,hz7,hw7];apply hK
 refine ze fun Z9 hZ9=>?_
 refine zQ rfl ?_;apply zp;apply hZ9;refine xV (fun L τ=>L=[(3,.str a3),(5,.op 0 0 0),(9,.op 1 0 0),(10,.op 2 0 0),(11,.op 3 0 0),(28,.ds true (qh yb a2) (qg a2) false),(29,.int .i64 (qg a2:Int)),(30,.int .i64 x5)]∧τ=([.cells 0 (zb a0),.cells 0 (za a4),.cells 0 [.int .i64 0,.int .i64 0,.str [],.ds true [] 0 true,.ds true [] 0 true],.cells 0 [.str r1.1.fName,.str r1.1.fIn,.str r1.1.fOut]]:zi)∧xz.j10 x5 (xz.l7 a0 a3 a4 r1 q7)=some r) ?_ ?_
 · apply zt;have f11:=E82.idxS hx7;have f12:=E82.loadS rfl rfl hx7
   refine rg tok [3,5,9,10,11,14,28,29,30] fun K hK=>?_
   simp only[go_sem,qe,qb,qa,qc,qd,qf,reduceIte,reduceCtorEq,za,yb,zh,hz7,hw7,f11,f12];apply hK
   refine ze fun Z13 hZ13=>?_
   refine rg tok [3,5,9,10,11,14,28,29,30,37] fun K hK=>?_
   simp only[go_sem,qe,qb,qa,qc,qd,qf,reduceIte,reduceCtorEq,zV,hz7,hw7];apply hK
   refine yn rfl (fun hc14=>?_) (fun hc14=>?_)
   · rw[if_neg hc14] at h;have t15:=eq_false hc14;apply ye;exact⟨_,_,⟨rfl,rfl,h⟩,(.t [0,1,2,3] false)⟩
   rw[if_pos hc14] at h;have t16:=eq_true hc14;apply zp;apply hZ13
   refine rc [3,5,9,10,11,14,15,16,28,29,30] fun K hK=>?_
   obtain⟨r17,hr17,h⟩:=bind_some h;refine zd tok 5 ?_;simp only[go_sem,qe,qb,qa,qc,qd,qf,reduceIte,reduceCtorEq,za,zb,zh,hz7,hw7,t16];refine clN rfl rfl rfl ((wC.ok hr17).c _) ?_;refine zd tok 6 ?_;simp only[go_sem,qe,qb,qa,qc,qd,qf,reduceIte,reduceCtorEq,za,zb,zh,hz7,hw7,t16];refine nkN hK ?_
   refine rc [3,5,9,10,11,15,16,17,18,28,29,30] fun K hK=>?_
   obtain⟨r18,hr18,h⟩:=bind_some h;refine zd tok 5 ?_;simp only[go_sem,qe,qb,qa,qc,qd,qf,reduceIte,reduceCtorEq,za,zb,zh,hz7,hw7,t16];refine clN rfl rfl rfl ((wC.ok hr18).c _) ?_;refine zd tok 6 ?_;simp only[go_sem,qe,qb,qa,qc,qd,qf,reduceIte,reduceCtorEq,za,zb,zh,hz7,hw7,t16];refine nkN hK ?_
   refine rc [3,5,9,10,11,17,28,29,30,64] fun K hK=>?_
   refine zd tok 2 ?_;simp only[go_sem,qe,qb,qa,qc,qd,qf,reduceIte,reduceCtorEq,hz7,hw7,t16];refine zI 2 (fun L τ=>L=[(3,.str a3),(5,.op 0 0 0),(9,.op 1 0 0),(10,.op 2 0 0),(11,.op 3 0 0),(15,.op 5 0 0),(17,.op 6 0 0),(28,.ds true (qh yb a2) (qg a2) false),(29,.int .i64 (qg a2:Int)),(30,.int .i64 x5),(59,.bool (r17.2&&r18.2))]∧τ=([.cells 0 (zb a0),.cells 0 (za a4),.cells 0 [.int .i64 0,.int .i64 0,.str [],.ds true [] 0 true,.ds true [] 0 true],.cells 0 [.str r1.1.fName,.str r1.1.fIn,.str r1.1.fOut],.cells 0 (yb y7),.cells 0 (za r17.1),.cells 0 (za r18.1)]:zi)) ?_ ?_
   · refine yz (b:=r17.2) 57 rfl (fun hg57=>?_) (fun hg57=>?_)
     · refine zd tok 2 ?_;simp only[go_sem,qe,qb,qa,qc,qd,qf,reduceIte,reduceCtorEq,hz7,hw7,t16];refine zm ⟨rfl,_,_,⟨rfl,rfl⟩,.b hg57⟩
     refine zd tok 2 ?_;simp only[go_sem,qe,qb,qa,qc,qd,qf,reduceIte,reduceCtorEq,hz7,hw7,t16];refine zm ⟨rfl,_,_,⟨rfl,rfl⟩,.b hg57⟩
   rintro _ _ ⟨rfl,rfl⟩;refine zd tok 1 ?_;simp only[go_sem,qe,qb,qa,qc,qd,qf,reduceIte,reduceCtorEq,hz7,hw7,t16];obtain⟨c19,hc19,h⟩:=bind_some h;refine zI 4 (fun L τ=>L=[(3,.str a3),(5,.op 0 0 0),(9,.op 1 0 0),(10,.op 2 0 0),(11,.op 3 0 0),(17,.op 6 0 0),(28,.ds true (qh yb a2) (qg a2) false),(29,.int .i64 (qg a2:Int)),(30,.int .i64 x5),(64,.bool c19)]∧τ=([.cells 0 (zb a0),.cells 0 (za a4),.cells 0 [.int .i64 0,.int .i64 0,.str [],.ds true [] 0 true,.ds true [] 0 true],.cells 0 [.str r1.1.fName,.str r1.1.fIn,.str r1.1.fOut],.cells 0 (yb y7),.cells 0 (za r17.1),.cells 0 (za r18.1)]:zi)) ?_ ?_
   · refine yz (b:=(r17.2&&r18.2)) 60 rfl (fun hg60=>?_) (fun hg60=>?_)
     · rw[if_pos hg60] at hc19;obtain⟨r20,hr20,hc19⟩:=bind_some hc19;refine zd tok 2 ?_;simp only[go_sem,qe,qb,qa,qc,qd,qf,reduceIte,reduceCtorEq,za,zh,hz7,hw7,t16];refine clN rfl rfl rfl (wF.ev xG r17.1 a4 r20 hr20 _) ?_;refine zd tok 1 ?_;simp only[go_sem,qe,qb,qa,qc,qd,qf,reduceIte,reduceCtorEq,za,zh,hz7,hw7,t16];cases hc19;refine zm ⟨rfl,_,_,⟨rfl,rfl⟩,.b hg60⟩
     rw[Zg hg60] at hc19;refine zd tok 4 ?_;simp only[go_sem,qe,qb,qa,qc,qd,qf,reduceIte,reduceCtorEq,za,zh,hz7,hw7,t16];cases hc19;refine zm ⟨rfl,_,_,⟨rfl,rfl⟩,.b hg60⟩
   rintro _ _ ⟨rfl,rfl⟩;refine nkN hK ?_;refine zY (b:=c19) rfl (fun hc21=>?_) (fun hc21=>?_)
   · rw[if_pos hc21] at h
     refine rg tok [10] fun K hK=>?_
     simp only[go_sem,qe,qb,qa,qc,qd,qf,reduceIte,reduceCtorEq,za,zh,hz7,hw7,t16];apply hK
     cases h;exact rtA
   rw[Zg hc21] at h;apply zp;exact⟨_,_,⟨rfl,rfl,h⟩,(.t [0,1,2,3] false)⟩
 rintro _ _ ⟨rfl,rfl,h⟩;unfold xz.j10 at h
 refine rgE tok [3,5,9,10,11,28,29,30] fun K hK=>?_
 simp only[go_sem,qe,qb,qa,qc,qd,qf,reduceIte,reduceCtorEq,zV,hz7,hw7];apply hK
 exact⟨_,_,_,qH q7.length,⟨p7++[y7],q7,x5+1,rfl,rfl,rfl,hE'7,hi'7,h⟩,.s⟩
end
section
set_option maxRecDepth 4000
set_option maxHeartbeats 1000000
open AM
def xL.j19 (a0:wY)(a1:Int)(a2:Int)(w9:XX xi xo)(w12:XX Int Int)(x18:Bool):Option (Int×wY):=
 (if x18=true then none else some (0,(⟨a0.fsize,a0.forder++[(⟨a1,a2⟩:xi)],a0.vorder+1,w9,w12⟩:wY)))
def xL (a0:wY)(a1:Int)(a2:Int)(a3:xo):Option (Int×wY):=
 bnd (xK a0 a1 a2) fun r2=>(if r2.2=1 then (vai (qg a0.forder+1) 16).bind fun _u6=>(XX.sto (XX.ent (⟨0,0,0,0,0,[],0,[]⟩:xo) a0.freplies (⟨a1,a2⟩:xi)) (XX.stamp a0.freplies (⟨a1,a2⟩:xi)) a3).bind fun w9=>(XX.sto (XX.ent 0 a0.flast a1) (XX.stamp a0.flast a1) a2).bind fun w12=>(YN (a0.forder++[(⟨a1,a2⟩:xi)]) 0).bind fun y15=>(if a0.fsize<(qg (a0.forder++[(⟨a1,a2⟩:xi)]):Int) then (xL.j19 a0 a1 a2 w9 w12 (!(decide (y15.ffrom=a1)&&decide (y15.fid=a2)))) else (xL.j19 a0 a1 a2 w9 w12 false)) else some (20,a0))
theorem xL.ok {a0 a1 a2 a3 r}(h:xL a0 a1 a2 a3=some r):ACalls qi 134 [.op 0 0 0,.int .i64 a1,.int .i64 a2,.agg (zo a3)] [.cells 0 [.int .i64 a0.fsize,.os true 2 1 (a0.vorder) 0 (qg a0.forder) false,.mp 2,.mp 3],.cells (a0.vorder) (qh zn a0.forder),.map (yK zy zL a0.freplies.l) (some (a0.freplies.bs,a0.freplies.ck)),.map (yK (AV.int .i64) (AV.int .i64) a0.flast.l) (some (a0.flast.bs,a0.flast.ck))] (fun r' σ'=>r'=.int .i64 r.1∧σ'=[.cells 0 [.int .i64 r.2.fsize,.os true 2 1 (r.2.vorder) 0 (qg r.2.forder) false,.mp 2,.mp 3],.cells (r.2.vorder) (qh zn r.2.forder),.map (yK zy zL r.2.freplies.l) (some (r.2.freplies.bs,r.2.freplies.ck)),.map (yK (AV.int .i64) (AV.int .i64) r.2.flast.l) (some (r.2.flast.bs,r.2.flast.ck))]):=by
 refine Zy [0,1,2,3] (rs:=[.tmp 8]) tok Tryz.func134 rfl Tryz.ntmps134 rfl Tryz.call134 (by simp) rfl ?_;refine zC [(0,.op 0 0 0),(1,.int .i64 a1),(2,.int .i64 a2),(3,.agg (zo a3))] ⟨rfl,rfl,rfl,rfl,trivial⟩ ?_;unfold xL at h
 refine rg tok [0,1,2,7] fun K hK=>?_
 simp only[go_sem,qe,qb,qa,qc,qd,qf,reduceIte,reduceCtorEq,zo];apply hK
 refine ze fun Z1 hZ1=>?_
 refine rc [0,1,2,7,10] fun K hK=>?_
 obtain⟨r2,hr2,h⟩:=yi h;refine rnN 3 ?_;refine clN rfl rfl rfl (@id (ACalls qi 132 [.op 0 0 0,.int .i64 a1,.int .i64 a2] [.cells 0 [.int .i64 a0.fsize,.os true 2 1 (a0.vorder) 0 (qg a0.forder) false,.mp 2,.mp 3],.cells (a0.vorder) (qh zn a0.forder),.map (yK zy zL a0.freplies.l) (some (a0.freplies.bs,a0.freplies.ck)),.map (yK (AV.int .i64) (AV.int .i64) a0.flast.l) (some (a0.flast.bs,a0.flast.ck)),.cells 0 (zo a3)] (fun r' σ'=>r'=.tup [.agg (zo r2.1),.int .i64 r2.2]∧σ'=[.cells 0 [.int .i64 a0.fsize,.os true 2 1 (a0.vorder) 0 (qg a0.forder) false,.mp 2,.mp 3],.cells (a0.vorder) (qh zn a0.forder),.map (yK zy zL a0.freplies.l) (some (a0.freplies.bs,a0.freplies.ck)),.map (yK (AV.int .i64) (AV.int .i64) a0.flast.l) (some (a0.flast.bs,a0.flast.ck)),.cells 0 (zo a3)])) ((xK.ok hr2).ix [0,1,2,3])) ?_;refine zd tok 6 ?_;simp only[go_sem,qe,qb,qa,qc,qd,qf,reduceIte,reduceCtorEq,zo];refine nkN hK ?_
 refine rg tok [0,1,2,7,21] fun K hK=>?_
 simp only[go_sem,qe,qb,qa,qc,qd,qf,reduceIte,reduceCtorEq,zV];apply hK
 refine yn rfl (fun hc3=>?_) (fun hc3=>?_)
 · rw[if_neg hc3] at h;have t4:=eq_false hc3
   refine rg tok [8] fun K hK=>?_
   simp only[go_sem,qe,qb,qa,qc,qd,qf,reduceIte,reduceCtorEq,t4];apply hK
   apply yk;cases h;simp only[ZA,yT,yY,xR,exists_eq_left',go_sem,qe,qb,qa,qc,qd,qf,reduceIte,reduceCtorEq,zn];refine⟨by decide,by simp,?_,?_⟩
   · first|rfl|(simp only[go_sem,qe,qb,qa,qc,qd,qf,reduceIte,reduceCtorEq,push_cast,if_true,qq,ql,qt,qr,qs,qv,qy,qo,qx,qw,qn,zx,zn]<;>rfl)
   first|rfl|(simp only[go_sem,qe,qb,qa,qc,qd,qf,reduceIte,reduceCtorEq,push_cast,if_true,qq,ql,qt,qr,qs,qv,qy,qo,qx,qw,qn,zx,zn]<;>rfl)
 rw[if_pos hc3] at h;have t5:=eq_true hc3;apply zp;apply hZ1
 refine rg tok [0,1,2,7,11] fun K hK=>?_
 simp only[go_sem,qe,qb,qa,qc,qd,qf,reduceIte,reduceCtorEq,zn,t5];apply hK
 obtain⟨_u6,hu6,h⟩:=bind_some h;have gu6:=xh hu6;have f7:=(zX E207.len a0.forder)
 refine rd [0,1,2,7,11] fun K hK=>?_
 refine DW.start (T:=tab) [.any,.any,.any,.any,.own 1 [],.at [],.eff,.eff,.any,.any,.eff] [(1,[])] ?_;refine DW.runN tok 8 ?_;simp only[go_sem,qe,qb,qa,qc,qd,qf,reduceIte,reduceCtorEq,zU,yA,qY,qN,qW,true_and,q1,yR,yp,yU,zn,t5,gu6,f7,yP,qV,qS,AV.one,qJ,qo,gt_iff_lt,zW,qD,qC,qG,qB,qE,qk,qp,qz,ql,qu,qF];refine DW.runN tok 3 ?_;simp only[go_sem,qe,qb,qa,qc,qd,qf,reduceIte,reduceCtorEq,zn,t5,gu6,f7,yP,qV,qS,AV.one,qJ,qo,gt_iff_lt,zW,qD,qC,qG,qB,qE,qk,qp,qz,ql,qu,qF];refine DW.fin tok (by decide +kernel) rfl ?_;simp only[zG,yE,yV,ZS,upd,qa,reduceIte,xl,xU];apply hK
 refine y5 (L:=[(0,.op 0 0 0),(1,.int .i64 a1),(2,.int .i64 a2),(7,.op 4 0 0),(11,.op 6 0 0)]) (τ:=[.cells 0 [.int .i64 a0.fsize,.os true 2 1 (a0.vorder+1) 0 (qg (a0.forder++[(⟨a1,a2⟩:xi)])) false,.mp 2,.mp 3],.cells (a0.vorder+1) (qh zn (a0.forder++[(⟨a1,a2⟩:xi)])),.map (yK zy zL a0.freplies.l) (some (a0.freplies.bs,a0.freplies.ck)),.map (yK (AV.int .i64) (AV.int .i64) a0.flast.l) (some (a0.flast.bs,a0.flast.ck)),.cells 0 (zo a3),.cells 0 (zo r2.1),.cells 0 [.int .i64 a1,.int .i64 a2],.cells 0 [.int .i64 a1,.int .i64 a2]]) .s ?_
 have f8:=fun (o0:Yt) (o1:Yt) (x:zi)=>entry_B (T:=tab) (t:=205) (ek:=zy) (ev:=zL) (z:=(⟨0,0,0,0,0,[],0,[]⟩:xo)) KA268 rfl rfl rfl rfl a0.freplies (⟨a1,a2⟩:xi) (o0::o1::.map (yK zy zL a0.freplies.l) (some (a0.freplies.bs,a0.freplies.ck))::x) 2 rfl rfl
 simp only[vba,zy,zn,zL,zo] at f8;obtain⟨w9,hw9,h⟩:=bind_some h
 have f10:=fun (o0:Yt) (o1:Yt) (x:zi)=>store_B (ek:=zy) (ev:=zL) hw9 (o0::o1::.map (yK zy zL (XX.ent (⟨0,0,0,0,0,[],0,[]⟩:xo) a0.freplies (⟨a1,a2⟩:xi)).l) (some ((XX.ent (⟨0,0,0,0,0,[],0,[]⟩:xo) a0.freplies (⟨a1,a2⟩:xi)).bs,(XX.ent (⟨0,0,0,0,0,[],0,[]⟩:xo) a0.freplies (⟨a1,a2⟩:xi)).ck))::x) 2 rfl rfl .i64
 simp only[vba,zL,zo] at f10
 have f11:=fun (o0:Yt) (o1:Yt) (o2:Yt) (x:zi)=>entry_B (T:=tab) (t:=206) (ek:=(AV.int .i64)) (ev:=(AV.int .i64)) (z:=0) (vc8.int rfl rfl rfl rfl) rfl rfl rfl rfl a0.flast a1 (o0::o1::o2::.map (yK (AV.int .i64) (AV.int .i64) a0.flast.l) (some (a0.flast.bs,a0.flast.ck))::x) 3 rfl rfl
 simp only[vba] at f11;obtain⟨w12,hw12,h⟩:=bind_some h
 have f13:=fun (o0:Yt) (o1:Yt) (o2:Yt) (x:zi)=>store_B (ek:=(AV.int .i64)) (ev:=(AV.int .i64)) hw12 (o0::o1::o2::.map (yK (AV.int .i64) (AV.int .i64) (XX.ent 0 a0.flast a1).l) (some ((XX.ent 0 a0.flast a1).bs,(XX.ent 0 a0.flast a1).ck))::x) 3 rfl rfl .i64
 simp only[vba] at f13
 refine rd [0,11] fun K hK=>?_
 refine DW.start (T:=tab) [.any,.any,.any,.at [],.at [],.any,.any,.any,.at [],.any,.own 1 [2],.any,.eff,.any,.eff,.eff,.any,.eff] [(1,[2])] ?_;refine DW.runN tok 8 ?_;simp only[go_sem,qe,qb,qa,qc,qd,qf,reduceIte,reduceCtorEq,vba,zn,zo,zy,zL,t5,f8,f10,f11,f13];refine DW.runN tok 8 ?_;simp only[go_sem,qe,qb,qa,qc,qd,qf,reduceIte,reduceCtorEq,vba,zn,zo,zy,zL,t5,f8,f10,f11,f13];refine DW.runN tok 2 ?_;simp only[go_sem,qe,qb,qa,qc,qd,qf,reduceIte,reduceCtorEq,vba,zn,zo,zy,zL,t5,f8,f10,f11,f13];refine DW.fin tok (by decide +kernel) rfl ?_;simp only[zG,yE,yV,ZS,upd,qa,reduceIte,xl,xU];apply hK
 refine ze fun Z14 hZ14=>?_
 obtain⟨y15,hy15,h⟩:=bind_some h;have f16:=E207.idxO hy15;have f17:=E207.rdO hy15
 refine rg tok [0,11,12] fun K hK=>?_
 simp only[go_sem,qe,qb,qa,qc,qd,qf,reduceIte,reduceCtorEq,zn,t5,f16,f17];apply hK
 refine xV (fun L τ=>∃ (x18:Bool),L=[(0,.op 0 0 0),(12,.op 4 0 0),(71,.bool x18)]∧τ=([.cells 0 [.int .i64 a0.fsize,.os true 2 1 (a0.vorder+1) 0 (qg (a0.forder++[(⟨a1,a2⟩:xi)])) false,.mp 2,.mp 3],.cells (a0.vorder+1) (qh zn (a0.forder++[(⟨a1,a2⟩:xi)])),.map (yK zy zL w9.l) (some (w9.bs,w9.ck)),.map (yK (AV.int .i64) (AV.int .i64) w12.l) (some (w12.bs,w12.ck)),.cells 0 [.int .i64 y15.ffrom,.int .i64 y15.fid]]:zi)∧xL.j19 a0 a1 a2 w9 w12 x18=some r) ?_ ?_
 · refine rdE [0,12,71] fun K hK=>?_
   refine DW.start (T:=tab) [.any,.any,.any,.at [],.at [],.any,.any,.any,.at [],.any,.any,.at [],.at [],.any,.any] [] ?_;refine DW.runN tok 8 ?_;simp only[go_sem,qe,qb,qa,qc,qd,qf,reduceIte,reduceCtorEq,t5];refine DW.runN tok 3 ?_;simp only[go_sem,qe,qb,qa,qc,qd,qf,reduceIte,reduceCtorEq,zV,t5]
   refine DW.if 67 rfl (fun hg67=>?_) (fun hg67=>?_)
   · rw[if_pos hg67] at h;have t22:=eq_true hg67;refine DW.runN tok 4 ?_;simp only[go_sem,qe,qb,qa,qc,qd,qf,reduceIte,reduceCtorEq,zV,zn,t5,t22,evEqA,vak,ceq];refine DW.fin tok (by decide +kernel) rfl ?_;simp only[zG,yE,yV,ZS,upd,qa,reduceIte,xl,xU];apply hK
     exact⟨_,_,⟨!(decide (y15.ffrom=a1)&&decide (y15.fid=a2)),rfl,rfl,h⟩,(.t [0,1,2,3,8] false)⟩
   rw[if_neg hg67] at h;have t23:=eq_false hg67;refine DW.runN tok 4 ?_;simp only[go_sem,qe,qb,qa,qc,qd,qf,reduceIte,reduceCtorEq,zV,t5,t23];refine DW.fin tok (by decide +kernel) rfl ?_;simp only[zG,yE,yV,ZS,upd,qa,reduceIte,xl,xU];apply hK
   exact⟨_,_,⟨false,rfl,rfl,h⟩,(.t [0,1,2,3,8] false)⟩
 rintro _ _ ⟨x18,rfl,rfl,h⟩;unfold xL.j19 at h;refine zY (b:=x18) rfl (fun hc20=>?_) (fun hc20=>?_)
 · rw[if_pos hc20] at h
   have f21:=fun (o0:Yt) (o1:Yt) (x:zi)=>delete_B (T:=tab) (t:=205) (ek:=zy) (ev:=zL) KA268 rfl rfl w9 y15 (o0::o1::.map (yK zy zL w9.l) (some (w9.bs,w9.ck))::x) 2 rfl rfl rfl
   simp only[vba,zy,zn,zL,zo] at f21
   refine rd [0] fun K hK=>?_
   refine DW.start (T:=tab) [.any,.any,.any,.at [],.at [],.eff] [] ?_;refine DW.runN tok 6 ?_;simp only[go_sem,qe,qb,qa,qc,qd,qf,reduceIte,reduceCtorEq,vba,zn,zo,zy,zL,t5,f21];refine DW.fin tok (by decide +kernel) rfl ?_;simp only[zG,yE,yV,ZS,upd,qa,reduceIte,xl,xU];apply hK
   cases h
 rw[Zg hc20] at h;apply zp;apply hZ14
 refine rg tok [8] fun K hK=>?_
 simp only[go_sem,qe,qb,qa,qc,qd,qf,reduceIte,reduceCtorEq,t5];apply hK
 apply yk;cases h;simp only[ZA,yT,yY,xR,exists_eq_left',go_sem,qe,qb,qa,qc,qd,qf,reduceIte,reduceCtorEq,zn];refine⟨by decide,by simp,?_,?_⟩
 · first|rfl|(simp only[go_sem,qe,qb,qa,qc,qd,qf,reduceIte,reduceCtorEq,push_cast,if_true,qq,ql,qt,qr,qs,qv,qy,qo,qx,qw,qn,zx,zn]<;>rfl)
 first|rfl|(simp only[go_sem,qe,qb,qa,qc,qd,qf,reduceIte,reduceCtorEq,push_cast,if_true,qq,ql,qt,qr,qs,qv,qy,qo,qx,qw,qn,zx,zn]<;>rfl)
def yr.j24 (a0:xM)(a1:xo)(r10:YY×Int)(x22:Int)(x23:List UInt8):Option (xo×xM):=
 (xL a0.fcache a1.fFrom a1.fID (⟨4,a0.fself,a1.fFrom,a1.fID,a1.fVersion,a1.fMethod,x22,x23⟩:xo)).bind fun r26=>some ((⟨4,a0.fself,a1.fFrom,a1.fID,a1.fVersion,a1.fMethod,x22,x23⟩:xo),(⟨a0.fself,a0.fnumbers,a0.fschemas,a0.fnewest,a0.frows,r26.2,a0.feffects++[(⟨a1.fFrom,a1.fID,a1.fMethod,r10.1.fin⟩:xp)],a0.veffects+1⟩:xM))
def yr (a0:xM)(a1:xo):Option (xo×xM):=
 bnd (xK a0.fcache a1.fFrom a1.fID) fun r1=>(if r1.2=2 then some (r1.1,a0) else (if r1.2=3 then some ((⟨4,a0.fself,a1.fFrom,a1.fID,a1.fVersion,a1.fMethod,20,[]⟩:xo),a0) else (wW a0 a1).bind fun r10=>(if r10.2=0 then (YN a0.fschemas (IntKind.i64.wrap ((qg a0.fschemas:Int)-1))).bind fun y15=>(vai (qg a0.feffects+1) 112).bind fun _u18=>(xz y15 a0.fnewest a0.frows a1.fMethod r10.1.fin).bind fun r20=>(xH y15 r10.1.fschema r10.1.fown.fOut r10.1.ftheirs.fOut).bind fun r21=>(Zs r21.1 r20).bind fun r27=>(if r27.2=0 then (ZP r27.1).bind fun r30=>(yr.j24 a0 a1 r10 r30.2 r30.1) else (yr.j24 a0 a1 r10 r27.2 ([]:List UInt8))) else some ((⟨4,a0.fself,a1.fFrom,a1.fID,a1.fVersion,a1.fMethod,r10.2,[]⟩:xo),a0))))
theorem yr.ok {a0 a1 r}(h:yr a0 a1=some r):ACalls qi 87 [.op 0 0 0,.agg (zo a1)] [.cells 0 [.int .i64 a0.fself,.ds true (qh wH a0.fnumbers) (qg a0.fnumbers) false,.ds true (qh zb a0.fschemas) (qg a0.fschemas) false,.str a0.fnewest.fName,.ds true (qh zf a0.fnewest.fMessages) (qg a0.fnewest.fMessages) false,.ds true (qh zj a0.fnewest.fEnums) (qg a0.fnewest.fEnums) false,.ds true (qh zr a0.fnewest.fMethods) (qg a0.fnewest.fMethods) false,.ds true (qh yb a0.frows) (qg a0.frows) false,.op 1 0 0,.os true 8 5 (a0.veffects) 0 (qg a0.feffects) false],.cells 0 [.int .i64 a0.fcache.fsize,.os true 2 2 (a0.fcache.vorder) 0 (qg a0.fcache.forder) false,.mp 3,.mp 4],.cells (a0.fcache.vorder) (qh zn a0.fcache.forder),.map (yK zy zL a0.fcache.freplies.l) (some (a0.fcache.freplies.bs,a0.fcache.freplies.ck)),.map (yK (AV.int .i64) (AV.int .i64) a0.fcache.flast.l) (some (a0.fcache.flast.bs,a0.fcache.flast.ck)),.cells (a0.veffects) (qh zk a0.feffects)] (fun r' σ'=>r'=.agg (zo r.1)∧σ'=[.cells 0 [.int .i64 r.2.fself,.ds true (qh wH r.2.fnumbers) (qg r.2.fnumbers) false,.ds true (qh zb r.2.fschemas) (qg r.2.fschemas) false,.str r.2.fnewest.fName,.ds true (qh zf r.2.fnewest.fMessages) (qg r.2.fnewest.fMessages) false,.ds true (qh zj r.2.fnewest.fEnums) (qg r.2.fnewest.fEnums) false,.ds true (qh zr r.2.fnewest.fMethods) (qg r.2.fnewest.fMethods) false,.ds true (qh yb r.2.frows) (qg r.2.frows) false,.op 1 0 0,.os true 8 5 (r.2.veffects) 0 (qg r.2.feffects) false],.cells 0 [.int .i64 r.2.fcache.fsize,.os true 2 2 (r.2.fcache.vorder) 0 (qg r.2.fcache.forder) false,.mp 3,.mp 4],.cells (r.2.fcache.vorder) (qh zn r.2.fcache.forder),.map (yK zy zL r.2.fcache.freplies.l) (some (r.2.fcache.freplies.bs,r.2.fcache.freplies.ck)),.map (yK (AV.int .i64) (AV.int .i64) r.2.fcache.flast.l) (some (r.2.fcache.flast.bs,r.2.fcache.flast.ck)),.cells (r.2.veffects) (qh zk r.2.feffects)]):=by
 refine Zy [0,1,2,3,4,5] (rs:=[.cell 4 43]) tok Tryz.func87 rfl Tryz.ntmps87 rfl Tryz.call87 (by simp) rfl ?_;refine zC [(0,.op 0 0 0),(1,.agg (zo a1))] ⟨rfl,rfl,trivial⟩ ?_;unfold yr at h
 refine rg tok [0,3,4] fun K hK=>?_
 simp only[go_sem,qe,qb,qa,qc,qd,qf,reduceIte,reduceCtorEq,zo];apply hK
 obtain⟨r1,hr1,h⟩:=yi h
 refine rd [0,3,4,5,6] fun K hK=>?_
 refine DW.start (T:=tab) [.any,.any,.any,.at [],.any,.at [],.any,.at [],.eff,.any,.any,.any,.flt,.eff,.any] [] ?_;refine DW.runN tok 8 ?_;simp only[go_sem,qe,qb,qa,qc,qd,qf,reduceIte,reduceCtorEq,zo];refine DW.callS rfl rfl rfl (@id (ACalls qi 132 [.op 1 0 0,.int .i64 a1.fFrom,.int .i64 a1.fID] [.cells 0 [.int .i64 a0.fself,.ds true (qh wH a0.fnumbers) (qg a0.fnumbers) false,.ds true (qh zb a0.fschemas) (qg a0.fschemas) false,.str a0.fnewest.fName,.ds true (qh zf a0.fnewest.fMessages) (qg a0.fnewest.fMessages) false,.ds true (qh zj a0.fnewest.fEnums) (qg a0.fnewest.fEnums) false,.ds true (qh zr a0.fnewest.fMethods) (qg a0.fnewest.fMethods) false,.ds true (qh yb a0.frows) (qg a0.frows) false,.op 1 0 0,.os true 8 5 (a0.veffects) 0 (qg a0.feffects) false],.cells 0 [.int .i64 a0.fcache.fsize,.os true 2 2 (a0.fcache.vorder) 0 (qg a0.fcache.forder) false,.mp 3,.mp 4],.cells (a0.fcache.vorder) (qh zn a0.fcache.forder),.map (yK zy zL a0.fcache.freplies.l) (some (a0.fcache.freplies.bs,a0.fcache.freplies.ck)),.map (yK (AV.int .i64) (AV.int .i64) a0.fcache.flast.l) (some (a0.fcache.flast.bs,a0.fcache.flast.ck)),.cells (a0.veffects) (qh zk a0.feffects),.cells 0 (zo a1),.cells 0 [.int .i64 0,.int .i64 0,.int .i64 0,.int .i64 0,.int .i64 0,.str [],.int .i64 0,.str []]] (fun r' σ'=>r'=.tup [.agg (zo r1.1),.int .i64 r1.2]∧σ'=[.cells 0 [.int .i64 a0.fself,.ds true (qh wH a0.fnumbers) (qg a0.fnumbers) false,.ds true (qh zb a0.fschemas) (qg a0.fschemas) false,.str a0.fnewest.fName,.ds true (qh zf a0.fnewest.fMessages) (qg a0.fnewest.fMessages) false,.ds true (qh zj a0.fnewest.fEnums) (qg a0.fnewest.fEnums) false,.ds true (qh zr a0.fnewest.fMethods) (qg a0.fnewest.fMethods) false,.ds true (qh yb a0.frows) (qg a0.frows) false,.op 1 0 0,.os true 8 5 (a0.veffects) 0 (qg a0.feffects) false],.cells 0 [.int .i64 a0.fcache.fsize,.os true 2 2 (a0.fcache.vorder) 0 (qg a0.fcache.forder) false,.mp 3,.mp 4],.cells (a0.fcache.vorder) (qh zn a0.fcache.forder),.map (yK zy zL a0.fcache.freplies.l) (some (a0.fcache.freplies.bs,a0.fcache.freplies.ck)),.map (yK (AV.int .i64) (AV.int .i64) a0.fcache.flast.l) (some (a0.fcache.flast.bs,a0.fcache.flast.ck)),.cells (a0.veffects) (qh zk a0.feffects),.cells 0 (zo a1),.cells 0 [.int .i64 0,.int .i64 0,.int .i64 0,.int .i64 0,.int .i64 0,.str [],.int .i64 0,.str []]])) ((xK.ok hr1).ix [1,2,3,4])) (vaP (by simp only[go_sem,qe,qb,qa,qc,qd,qf,reduceIte,reduceCtorEq])) ?_;refine DW.runN tok 6 ?_;simp only[go_sem,qe,qb,qa,qc,qd,qf,reduceIte,reduceCtorEq,zo];refine DW.fin tok (by decide +kernel) rfl ?_;simp only[zG,yE,yV,ZS,upd,qa,reduceIte,xl,xU];apply hK
 refine ze fun Z2 hZ2=>?_
 refine rg tok [0,3,4,5,6,28] fun K hK=>?_
 simp only[go_sem,qe,qb,qa,qc,qd,qf,reduceIte,reduceCtorEq,zV];apply hK
 refine yn rfl (fun hc3=>?_) (fun hc3=>?_)
 · rw[if_pos hc3] at h;have t4:=eq_true hc3
   refine rg tok [4] fun K hK=>?_
   simp only[go_sem,qe,qb,qa,qc,qd,qf,reduceIte,reduceCtorEq,zo,t4];apply hK
   apply yk;cases h;simp only[ZA,yT,yY,xR,exists_eq_left',go_sem,qe,qb,qa,qc,qd,qf,reduceIte,reduceCtorEq,za,zn,zo,zb,zk,zh];refine⟨by decide,by simp,?_,?_⟩
   · first|rfl|(simp only[go_sem,qe,qb,qa,qc,qd,qf,reduceIte,reduceCtorEq,push_cast,if_true,qq,ql,qt,qr,qs,qv,qy,qo,qx,qw,qn,zx,za,zn,zo,zb,zk,zh]<;>rfl)
   first|rfl|(simp only[go_sem,qe,qb,qa,qc,qd,qf,reduceIte,reduceCtorEq,push_cast,if_true,qq,ql,qt,qr,qs,qv,qy,qo,qx,qw,qn,zx,za,zn,zo,zb,zk,zh]<;>rfl)
 rw[if_neg hc3] at h;have t5:=eq_false hc3;apply zp;apply hZ2
 refine rd [0,3,4,6,7] fun K hK=>?_
 refine DW.start (T:=tab) [.any,.any,.any,.own 1 [],.any,.own 1 [],.any,.own 1 [],.any,.own 1 [],.any,.own 1 [],.any,.eff,.eff] [(1,[])] ?_;refine DW.runN tok 8 ?_;simp only[go_sem,qe,qb,qa,qc,qd,qf,reduceIte,reduceCtorEq,zo,t5];refine DW.runN tok 7 ?_;simp only[go_sem,qe,qb,qa,qc,qd,qf,reduceIte,reduceCtorEq,zo,t5];refine DW.fin tok (by decide +kernel) rfl ?_;simp only[zG,yE,yV,ZS,upd,qa,reduceIte,xl,xU];apply hK
 refine ze fun Z6 hZ6=>?_
 refine rg tok [0,3,4,7,44] fun K hK=>?_
 simp only[go_sem,qe,qb,qa,qc,qd,qf,reduceIte,reduceCtorEq,zV,t5];apply hK
 refine yn rfl (fun hc7=>?_) (fun hc7=>?_)
 · rw[if_pos hc7] at h;have t8:=eq_true hc7
   refine rg tok [4,7] fun K hK=>?_
   simp only[go_sem,qe,qb,qa,qc,qd,qf,reduceIte,reduceCtorEq,zo,t5,t8];apply hK
   refine rg tok [4] fun K hK=>?_
   simp only[go_sem,qe,qb,qa,qc,qd,qf,reduceIte,reduceCtorEq,zo,t5,t8];apply hK
   apply yk;cases h;simp only[ZA,yT,yY,xR,exists_eq_left',go_sem,qe,qb,qa,qc,qd,qf,reduceIte,reduceCtorEq,za,zn,zo,zb,zk,zh];refine⟨by decide,by simp,?_,?_⟩
   · first|rfl|(simp only[go_sem,qe,qb,qa,qc,qd,qf,reduceIte,reduceCtorEq,push_cast,if_true,qq,ql,qt,qr,qs,qv,qy,qo,qx,qw,qn,zx,za,zn,zo,zb,zk,zh]<;>rfl)
   first|rfl|(simp only[go_sem,qe,qb,qa,qc,qd,qf,reduceIte,reduceCtorEq,push_cast,if_true,qq,ql,qt,qr,qs,qv,qy,qo,qx,qw,qn,zx,za,zn,zo,zb,zk,zh]<;>rfl)
 rw[if_neg hc7] at h;have t9:=eq_false hc7;apply zp;apply hZ6
 refine rc [0,3,4,7,8,9] fun K hK=>?_
 obtain⟨r10,hr10,h⟩:=bind_some h;refine zd tok 2 ?_;simp only[go_sem,qe,qb,qa,qc,qd,qf,reduceIte,reduceCtorEq,zo,t5,t9];refine clN rfl rfl rfl (@id (ACalls qi 133 [.op 0 0 0,.agg (zo a1)] [.cells 0 [.int .i64 a0.fself,.ds true (qh wH a0.fnumbers) (qg a0.fnumbers) false,.ds true (qh zb a0.fschemas) (qg a0.fschemas) false,.str a0.fnewest.fName,.ds true (qh zf a0.fnewest.fMessages) (qg a0.fnewest.fMessages) false,.ds true (qh zj a0.fnewest.fEnums) (qg a0.fnewest.fEnums) false,.ds true (qh zr a0.fnewest.fMethods) (qg a0.fnewest.fMethods) false,.ds true (qh yb a0.frows) (qg a0.frows) false,.op 1 0 0,.os true 8 5 (a0.veffects) 0 (qg a0.feffects) false],.cells 0 [.int .i64 a0.fcache.fsize,.os true 2 2 (a0.fcache.vorder) 0 (qg a0.fcache.forder) false,.mp 3,.mp 4],.cells (a0.fcache.vorder) (qh zn a0.fcache.forder),.map (yK zy zL a0.fcache.freplies.l) (some (a0.fcache.freplies.bs,a0.fcache.freplies.ck)),.map (yK (AV.int .i64) (AV.int .i64) a0.fcache.flast.l) (some (a0.fcache.flast.bs,a0.fcache.flast.ck)),.cells (a0.veffects) (qh zk a0.feffects),.cells 0 (zo a1),.cells 0 [.int .i64 0,.int .i64 0,.int .i64 0,.int .i64 0,.int .i64 0,.str [],.int .i64 0,.str []],.cells 0 (zo r1.1),.cells 0 [.int .i64 4,.int .i64 a0.fself,.int .i64 a1.fFrom,.int .i64 a1.fID,.int .i64 a1.fVersion,.str a1.fMethod,.int .i64 0,.str []]] (fun r' σ'=>r'=.tup [.agg (yu r10.1),.int .i64 r10.2]∧σ'=[.cells 0 [.int .i64 a0.fself,.ds true (qh wH a0.fnumbers) (qg a0.fnumbers) false,.ds true (qh zb a0.fschemas) (qg a0.fschemas) false,.str a0.fnewest.fName,.ds true (qh zf a0.fnewest.fMessages) (qg a0.fnewest.fMessages) false,.ds true (qh zj a0.fnewest.fEnums) (qg a0.fnewest.fEnums) false,.ds true (qh zr a0.fnewest.fMethods) (qg a0.fnewest.fMethods) false,.ds true (qh yb a0.frows) (qg a0.frows) false,.op 1 0 0,.os true 8 5 (a0.veffects) 0 (qg a0.feffects) false],.cells 0 [.int .i64 a0.fcache.fsize,.os true 2 2 (a0.fcache.vorder) 0 (qg a0.fcache.forder) false,.mp 3,.mp 4],.cells (a0.fcache.vorder) (qh zn a0.fcache.forder),.map (yK zy zL a0.fcache.freplies.l) (some (a0.fcache.freplies.bs,a0.fcache.freplies.ck)),.map (yK (AV.int .i64) (AV.int .i64) a0.fcache.flast.l) (some (a0.fcache.flast.bs,a0.fcache.flast.ck)),.cells (a0.veffects) (qh zk a0.feffects),.cells 0 (zo a1),.cells 0 [.int .i64 0,.int .i64 0,.int .i64 0,.int .i64 0,.int .i64 0,.str [],.int .i64 0,.str []],.cells 0 (zo r1.1),.cells 0 [.int .i64 4,.int .i64 a0.fself,.int .i64 a1.fFrom,.int .i64 a1.fID,.int .i64 a1.fVersion,.str a1.fMethod,.int .i64 0,.str []]])) ((wW.ok hr10).ix [0,1,2,3,4,5])) ?_;refine zd tok 6 ?_;simp only[go_sem,qe,qb,qa,qc,qd,qf,reduceIte,reduceCtorEq,za,zr,zo,zb,yu,zh,t5,t9];refine nkN hK ?_
 refine ze fun Z11 hZ11=>?_
 refine rg tok [0,3,4,7,8,9,54] fun K hK=>?_
 simp only[go_sem,qe,qb,qa,qc,qd,qf,reduceIte,reduceCtorEq,zV,t5,t9];apply hK
 refine yn rfl (fun hc12=>?_) (fun hc12=>?_)
 · rw[if_neg hc12] at h;have t13:=eq_false hc12
   refine rg tok [4,7] fun K hK=>?_
   simp only[go_sem,qe,qb,qa,qc,qd,qf,reduceIte,reduceCtorEq,zo,t5,t9,t13];apply hK
   refine rg tok [4] fun K hK=>?_
   simp only[go_sem,qe,qb,qa,qc,qd,qf,reduceIte,reduceCtorEq,zo,t5,t9,t13];apply hK
   apply yk;cases h;simp only[ZA,yT,yY,xR,exists_eq_left',go_sem,qe,qb,qa,qc,qd,qf,reduceIte,reduceCtorEq,za,zn,zo,zb,zk,zh];refine⟨by decide,by simp,?_,?_⟩
   · first|rfl|(simp only[go_sem,qe,qb,qa,qc,qd,qf,reduceIte,reduceCtorEq,push_cast,if_true,qq,ql,qt,qr,qs,qv,qy,qo,qx,qw,qn,zx,za,zn,zo,zb,zk,zh]<;>rfl)
   first|rfl|(simp only[go_sem,qe,qb,qa,qc,qd,qf,reduceIte,reduceCtorEq,push_cast,if_true,qq,ql,qt,qr,qs,qv,qy,qo,qx,qw,qn,zx,za,zn,zo,zb,zk,zh]<;>rfl)
 rw[if_pos hc12] at h;have t14:=eq_true hc12;apply zp;apply hZ11;obtain⟨y15,hy15,h⟩:=bind_some h;have f16:=E33.idxS hy15;have f17:=E33.loadS rfl rfl hy15
 refine rd [0,3,4,7,8,10] fun K hK=>?_
 refine DW.start (T:=tab) [.any,.any,.any,.own 1 [],.any,.any,.any,.own 1 [],.own 1 [],.any,.any,.own 1 [],.eff,.eff] [(1,[])] ?_;refine DW.runN tok 8 ?_;simp only[go_sem,qe,qb,qa,qc,qd,qf,reduceIte,reduceCtorEq,zb,t5,t9,t14,f16,f17];refine DW.runN tok 6 ?_;simp only[go_sem,qe,qb,qa,qc,qd,qf,reduceIte,reduceCtorEq,zV,zb,t5,t9,t14,f16,f17];refine DW.fin tok (by decide +kernel) rfl ?_;simp only[zG,yE,yV,ZS,upd,qa,reduceIte,xl,xU];apply hK
 obtain⟨_u18,hu18,h⟩:=bind_some h;have gu18:=xh hu18;have f19:=(zX E92.len a0.feffects)
 refine rd [0,3,4,7,8,10] fun K hK=>?_
 refine DW.start (T:=tab) [.any,.any,.any,.any,.own 1 [],.any,.at [],.any,.at [],.any,.at [],.any,.at [],.any,.eff,.eff,.any,.any,.eff] [(1,[])] ?_;refine DW.runN tok 8 ?_;simp only[go_sem,qe,qb,qa,qc,qd,qf,reduceIte,reduceCtorEq,za,zb,zk,zh,t5,t9,t14,gu18,f19,yP,qV,qS,AV.one,qJ,qo,gt_iff_lt,zW,qD,qC,qG,qB,qE,qk,qp,qz,ql,qu,qF];refine DW.runN tok 8 ?_;simp only[go_sem,qe,qb,qa,qc,qd,qf,reduceIte,reduceCtorEq,zU,yA,qY,qN,qW,true_and,q1,yR,yp,yU,za,zb,zk,zh,t5,t9,t14,gu18,f19,yP,qV,qS,AV.one,qJ,qo,gt_iff_lt,zW,qD,qC,qG,qB,qE,qk,qp,qz,ql,qu,qF];refine DW.runN tok 3 ?_;simp only[go_sem,qe,qb,qa,qc,qd,qf,reduceIte,reduceCtorEq,za,zb,zk,zh,t5,t9,t14,gu18,f19,yP,qV,qS,AV.one,qJ,qo,gt_iff_lt,zW,qD,qC,qG,qB,qE,qk,qp,qz,ql,qu,qF];refine DW.fin tok (by decide +kernel) rfl ?_;simp only[zG,yE,yV,ZS,upd,qa,reduceIte,xl,xU];apply hK
 refine y5 (L:=[(0,.op 0 0 0),(3,.op 6 0 0),(4,.op 7 0 0),(7,.op 9 0 0),(8,.op 10 0 0),(10,.op 11 0 0)]) (τ:=[.cells 0 [.int .i64 a0.fself,.ds true (qh wH a0.fnumbers) (qg a0.fnumbers) false,.ds true (qh zb a0.fschemas) (qg a0.fschemas) false,.str a0.fnewest.fName,.ds true (qh zf a0.fnewest.fMessages) (qg a0.fnewest.fMessages) false,.ds true (qh zj a0.fnewest.fEnums) (qg a0.fnewest.fEnums) false,.ds true (qh zr a0.fnewest.fMethods) (qg a0.fnewest.fMethods) false,.ds true (qh yb a0.frows) (qg a0.frows) false,.op 1 0 0,.os true 8 5 (a0.veffects+1) 0 (qg (a0.feffects++[(⟨a1.fFrom,a1.fID,a1.fMethod,r10.1.fin⟩:xp)])) false],.cells 0 [.int .i64 a0.fcache.fsize,.os true 2 2 (a0.fcache.vorder) 0 (qg a0.fcache.forder) false,.mp 3,.mp 4],.cells (a0.fcache.vorder) (qh zn a0.fcache.forder),.map (yK zy zL a0.fcache.freplies.l) (some (a0.fcache.freplies.bs,a0.fcache.freplies.ck)),.map (yK (AV.int .i64) (AV.int .i64) a0.fcache.flast.l) (some (a0.fcache.flast.bs,a0.fcache.flast.ck)),.cells (a0.veffects+1) (qh zk (a0.feffects++[(⟨a1.fFrom,a1.fID,a1.fMethod,r10.1.fin⟩:xp)])),.cells 0 (zo a1),.cells 0 [.int .i64 0,.int .i64 0,.int .i64 0,.int .i64 0,.int .i64 0,.str [],.int .i64 0,.str []],.cells 0 (zo r1.1),.cells 0 [.int .i64 4,.int .i64 a0.fself,.int .i64 a1.fFrom,.int .i64 a1.fID,.int .i64 a1.fVersion,.str a1.fMethod,.int .i64 0,.str []],.cells 0 (yu r10.1),.cells 0 (zb y15),.cells 0 [.int .i64 a1.fFrom,.int .i64 a1.fID,.str a1.fMethod,.int .i64 r10.1.fin.fKind,.int .i64 r10.1.fin.fN,.str r10.1.fin.fS,.ds true (qh zz r10.1.fin.fEntries) (qg r10.1.fin.fEntries) false,.ds true (qh zu r10.1.fin.fRest) (qg r10.1.fin.fRest) false]]) .s ?_;obtain⟨r20,hr20,h⟩:=bind_some h
 refine rd [0,3,4,7,8,10,11] fun K hK=>?_
 refine DW.start (T:=tab) [.at [],.any,.any,.any,.at [],.any,.any,.any,.at [],.any,.at [],.any,.at [],.eff,.flt,.eff] [] ?_;refine DW.runN tok 8 ?_;simp only[go_sem,qe,qb,qa,qc,qd,qf,reduceIte,reduceCtorEq,za,zb,zh,t5,t9,t14];refine DW.runN tok 5 ?_;simp only[go_sem,qe,qb,qa,qc,qd,qf,reduceIte,reduceCtorEq,za,zb,zh,t5,t9,t14];refine DW.call rfl rfl rfl ((xz.ok hr20).c _) ?_;refine DW.runN tok 2 ?_;simp only[go_sem,qe,qb,qa,qc,qd,qf,reduceIte,reduceCtorEq,za,zb,zh,t5,t9,t14];refine DW.fin tok (by decide +kernel) rfl ?_;simp only[zG,yE,yV,ZS,upd,qa,reduceIte,xl,xU];apply hK
 refine rc [0,3,4,7,11,12] fun K hK=>?_
 obtain⟨r21,hr21,h⟩:=bind_some h;refine zd tok 9 ?_;simp only[go_sem,qe,qb,qa,qc,qd,qf,reduceIte,reduceCtorEq,zb,t5,t9,t14];refine clN rfl rfl rfl ((xH.ok hr21).c _) ?_;refine zd tok 6 ?_;simp only[go_sem,qe,qb,qa,qc,qd,qf,reduceIte,reduceCtorEq,zv,zb,t5,t9,t14];refine nkN hK ?_
 refine rg tok [0,3,4,7,11,12,14] fun K hK=>?_
 simp only[go_sem,qe,qb,qa,qc,qd,qf,reduceIte,reduceCtorEq,t5,t9,t14];apply hK
 refine xV (fun L τ=>∃ (x22:Int) (x23:List UInt8),L=[(0,.op 0 0 0),(3,.op 6 0 0),(4,.op 7 0 0),(7,.op 8 0 0),(9,.int .i64 x22),(14,.ds true (qh Zh x23) (qg x23) false)]∧τ=([.cells 0 [.int .i64 a0.fself,.ds true (qh wH a0.fnumbers) (qg a0.fnumbers) false,.ds true (qh zb a0.fschemas) (qg a0.fschemas) false,.str a0.fnewest.fName,.ds true (qh zf a0.fnewest.fMessages) (qg a0.fnewest.fMessages) false,.ds true (qh zj a0.fnewest.fEnums) (qg a0.fnewest.fEnums) false,.ds true (qh zr a0.fnewest.fMethods) (qg a0.fnewest.fMethods) false,.ds true (qh yb a0.frows) (qg a0.frows) false,.op 1 0 0,.os true 8 5 (a0.veffects+1) 0 (qg (a0.feffects++[(⟨a1.fFrom,a1.fID,a1.fMethod,r10.1.fin⟩:xp)])) false],.cells 0 [.int .i64 a0.fcache.fsize,.os true 2 2 (a0.fcache.vorder) 0 (qg a0.fcache.forder) false,.mp 3,.mp 4],.cells (a0.fcache.vorder) (qh zn a0.fcache.forder),.map (yK zy zL a0.fcache.freplies.l) (some (a0.fcache.freplies.bs,a0.fcache.freplies.ck)),.map (yK (AV.int .i64) (AV.int .i64) a0.fcache.flast.l) (some (a0.fcache.flast.bs,a0.fcache.flast.ck)),.cells (a0.veffects+1) (qh zk (a0.feffects++[(⟨a1.fFrom,a1.fID,a1.fMethod,r10.1.fin⟩:xp)])),.cells 0 (zo a1),.cells 0 [.int .i64 0,.int .i64 0,.int .i64 0,.int .i64 0,.int .i64 0,.str [],.int .i64 0,.str []],.cells 0 [.int .i64 4,.int .i64 a0.fself,.int .i64 a1.fFrom,.int .i64 a1.fID,.int .i64 a1.fVersion,.str a1.fMethod,.int .i64 0,.str []]]:zi)∧yr.j24 a0 a1 r10 x22 x23=some r) ?_ ?_
 · refine rc [0,3,4,7,9,11,14] fun K hK=>?_
   obtain⟨r27,hr27,h⟩:=bind_some h;refine zd tok 2 ?_;simp only[go_sem,qe,qb,qa,qc,qd,qf,reduceIte,reduceCtorEq,za,zv,zh,t5,t9,t14];refine clN rfl rfl rfl ((Zs.ok hr27).c _) ?_;refine zd tok 5 ?_;simp only[go_sem,qe,qb,qa,qc,qd,qf,reduceIte,reduceCtorEq,za,zv,zh,t5,t9,t14];refine nkN hK ?_
   refine rg tok [0,3,4,7,9,11,14,122] fun K hK=>?_
   simp only[go_sem,qe,qb,qa,qc,qd,qf,reduceIte,reduceCtorEq,zV,t5,t9,t14];apply hK
   refine yn rfl (fun hc28=>?_) (fun hc28=>?_)
   · rw[if_pos hc28] at h;have t29:=eq_true hc28
     refine rcE [0,3,4,7,9,14] fun K hK=>?_
     obtain⟨r30,hr30,h⟩:=bind_some h;refine zd tok 1 ?_;simp only[go_sem,qe,qb,qa,qc,qd,qf,reduceIte,reduceCtorEq,za,zh,t5,t9,t14,t29];refine clN rfl rfl rfl ((ZP.ok hr30).c _) ?_;refine zd tok 5 ?_;simp only[go_sem,qe,qb,qa,qc,qd,qf,reduceIte,reduceCtorEq,za,zh,t5,t9,t14,t29];refine nkN hK ?_;exact⟨_,_,⟨r30.2,r30.1,rfl,rfl,h⟩,(.t [0,1,2,3,4,5,6,7,9] false)⟩
   rw[if_neg hc28] at h;have t31:=eq_false hc28;apply zp;exact⟨_,_,⟨r27.2,([]:List UInt8),rfl,rfl,h⟩,(.t [0,1,2,3,4,5,6,7,9] true)⟩
 rintro _ _ ⟨x22,x23,rfl,rfl,h⟩;unfold yr.j24 at h;have f25:=vcl (T:=tab) (src:=48) (dst:=9) rfl rfl rfl rfl rfl rfl x23
 refine rd [0,3,4,7] fun K hK=>?_
 refine DW.start (T:=tab) [.any,.any,.own 1 [8],.any,.eff,.any,.eff] [(1,[8])] ?_;refine DW.runN tok 7 ?_;simp only[go_sem,qe,qb,qa,qc,qd,qf,reduceIte,reduceCtorEq,zo,t5,t9,t14,f25];refine DW.fin tok (by decide +kernel) rfl ?_;simp only[zG,yE,yV,ZS,upd,qa,reduceIte,xl,xU];apply hK
 obtain⟨r26,hr26,h⟩:=bind_some h
 refine rd [4,7] fun K hK=>?_
 refine DW.start (T:=tab) [.any,.any,.any,.at [],.any,.at [],.any,.at [],.at [],.eff] [] ?_;refine DW.runN tok 8 ?_;simp only[go_sem,qe,qb,qa,qc,qd,qf,reduceIte,reduceCtorEq,zo,t5,t9,t14];refine DW.runN tok 1 ?_;simp only[go_sem,qe,qb,qa,qc,qd,qf,reduceIte,reduceCtorEq,zo,t5,t9,t14];refine DW.callS rfl rfl rfl (@id (ACalls qi 134 [.op 1 0 0,.int .i64 a1.fFrom,.int .i64 a1.fID,.agg [.int .i64 4,.int .i64 a0.fself,.int .i64 a1.fFrom,.int .i64 a1.fID,.int .i64 a1.fVersion,.str a1.fMethod,.int .i64 x22,.str x23]] [.cells 0 [.int .i64 a0.fself,.ds true (qh wH a0.fnumbers) (qg a0.fnumbers) false,.ds true (qh zb a0.fschemas) (qg a0.fschemas) false,.str a0.fnewest.fName,.ds true (qh zf a0.fnewest.fMessages) (qg a0.fnewest.fMessages) false,.ds true (qh zj a0.fnewest.fEnums) (qg a0.fnewest.fEnums) false,.ds true (qh zr a0.fnewest.fMethods) (qg a0.fnewest.fMethods) false,.ds true (qh yb a0.frows) (qg a0.frows) false,.op 1 0 0,.os true 8 5 (a0.veffects+1) 0 (qg (a0.feffects++[(⟨a1.fFrom,a1.fID,a1.fMethod,r10.1.fin⟩:xp)])) false],.cells 0 [.int .i64 a0.fcache.fsize,.os true 2 2 (a0.fcache.vorder) 0 (qg a0.fcache.forder) false,.mp 3,.mp 4],.cells (a0.fcache.vorder) (qh zn a0.fcache.forder),.map (yK zy zL a0.fcache.freplies.l) (some (a0.fcache.freplies.bs,a0.fcache.freplies.ck)),.map (yK (AV.int .i64) (AV.int .i64) a0.fcache.flast.l) (some (a0.fcache.flast.bs,a0.fcache.flast.ck)),.cells (a0.veffects+1) (qh zk (a0.feffects++[(⟨a1.fFrom,a1.fID,a1.fMethod,r10.1.fin⟩:xp)])),.cells 0 (zo a1),.cells 0 [.int .i64 0,.int .i64 0,.int .i64 0,.int .i64 0,.int .i64 0,.str [],.int .i64 0,.str []],.cells 0 [.int .i64 4,.int .i64 a0.fself,.int .i64 a1.fFrom,.int .i64 a1.fID,.int .i64 a1.fVersion,.str a1.fMethod,.int .i64 x22,.str x23]] (fun r' σ'=>r'=.int .i64 r26.1∧σ'=[.cells 0 [.int .i64 a0.fself,.ds true (qh wH a0.fnumbers) (qg a0.fnumbers) false,.ds true (qh zb a0.fschemas) (qg a0.fschemas) false,.str a0.fnewest.fName,.ds true (qh zf a0.fnewest.fMessages) (qg a0.fnewest.fMessages) false,.ds true (qh zj a0.fnewest.fEnums) (qg a0.fnewest.fEnums) false,.ds true (qh zr a0.fnewest.fMethods) (qg a0.fnewest.fMethods) false,.ds true (qh yb a0.frows) (qg a0.frows) false,.op 1 0 0,.os true 8 5 (a0.veffects+1) 0 (qg (a0.feffects++[(⟨a1.fFrom,a1.fID,a1.fMethod,r10.1.fin⟩:xp)])) false],.cells 0 [.int .i64 r26.2.fsize,.os true 2 2 (r26.2.vorder) 0 (qg r26.2.forder) false,.mp 3,.mp 4],.cells (r26.2.vorder) (qh zn r26.2.forder),.map (yK zy zL r26.2.freplies.l) (some (r26.2.freplies.bs,r26.2.freplies.ck)),.map (yK (AV.int .i64) (AV.int .i64) r26.2.flast.l) (some (r26.2.flast.bs,r26.2.flast.ck)),.cells (a0.veffects+1) (qh zk (a0.feffects++[(⟨a1.fFrom,a1.fID,a1.fMethod,r10.1.fin⟩:xp)])),.cells 0 (zo a1),.cells 0 [.int .i64 0,.int .i64 0,.int .i64 0,.int .i64 0,.int .i64 0,.str [],.int .i64 0,.str []],.cells 0 [.int .i64 4,.int .i64 a0.fself,.int .i64 a1.fFrom,.int .i64 a1.fID,.int .i64 a1.fVersion,.str a1.fMethod,.int .i64 x22,.str x23]])) ((xL.ok hr26).ix [1,2,3,4])) (vaP (by simp only[go_sem,qe,qb,qa,qc,qd,qf,reduceIte,reduceCtorEq])) ?_;refine DW.fin tok (by decide +kernel) rfl ?_;simp only[zG,yE,yV,ZS,upd,qa,reduceIte,xl,xU];apply hK
 refine rg tok [4] fun K hK=>?_
 simp only[go_sem,qe,qb,qa,qc,qd,qf,reduceIte,reduceCtorEq,zo,t5,t9,t14];apply hK
 apply yk;cases h;simp only[ZA,yT,yY,xR,exists_eq_left',go_sem,qe,qb,qa,qc,qd,qf,reduceIte,reduceCtorEq,za,zn,zo,zb,zk,zh];refine⟨by decide,by simp,?_,?_⟩
 · first|rfl|(simp only[go_sem,qe,qb,qa,qc,qd,qf,reduceIte,reduceCtorEq,push_cast,if_true,qq,ql,qt,qr,qs,qv,qy,qo,qx,qw,qn,zx,za,zn,zo,zb,zk,zh]<;>rfl)
 first|rfl|(simp only[go_sem,qe,qb,qa,qc,qd,qf,reduceIte,reduceCtorEq,push_cast,if_true,qq,ql,qt,qr,qs,qv,qy,qo,qx,qw,qn,zx,za,zn,zo,zb,zk,zh]<;>rfl)
end
section
set_option maxRecDepth 4000
set_option maxHeartbeats 1000000
open AM
def yQ (a0:xM)(a1:xo):Option (xo×Bool×xM):=
 (if a1.fTo=a0.fself then (if a1.fKind=1 then none else (if a1.fKind=3 then (yr a0 a1).bind fun r11=>some (r11.1,true,r11.2) else some ((⟨0,0,0,0,0,[],0,[]⟩:xo),false,a0))) else some ((⟨0,0,0,0,0,[],0,[]⟩:xo),false,a0))
theorem yQ.ok {a0 a1 r}(h:yQ a0 a1=some r):ACalls qi 47 [.op 0 0 0,.agg (zo a1)] [.cells 0 [.int .i64 a0.fself,.ds true (qh wH a0.fnumbers) (qg a0.fnumbers) false,.ds true (qh zb a0.fschemas) (qg a0.fschemas) false,.str a0.fnewest.fName,.ds true (qh zf a0.fnewest.fMessages) (qg a0.fnewest.fMessages) false,.ds true (qh zj a0.fnewest.fEnums) (qg a0.fnewest.fEnums) false,.ds true (qh zr a0.fnewest.fMethods) (qg a0.fnewest.fMethods) false,.ds true (qh yb a0.frows) (qg a0.frows) false,.op 1 0 0,.os true 8 5 (a0.veffects) 0 (qg a0.feffects) false],.cells 0 [.int .i64 a0.fcache.fsize,.os true 2 2 (a0.fcache.vorder) 0 (qg a0.fcache.forder) false,.mp 3,.mp 4],.cells (a0.fcache.vorder) (qh zn a0.fcache.forder),.map (yK zy zL a0.fcache.freplies.l) (some (a0.fcache.freplies.bs,a0.fcache.freplies.ck)),.map (yK (AV.int .i64) (AV.int .i64) a0.fcache.flast.l) (some (a0.fcache.flast.bs,a0.fcache.flast.ck)),.cells (a0.veffects) (qh zk a0.feffects)] (fun r' σ'=>r'=.tup [.agg (zo r.1),.bool r.2.1]∧σ'=[.cells 0 [.int .i64 r.2.2.fself,.ds true (qh wH r.2.2.fnumbers) (qg r.2.2.fnumbers) false,.ds true (qh zb r.2.2.fschemas) (qg r.2.2.fschemas) false,.str r.2.2.fnewest.fName,.ds true (qh zf r.2.2.fnewest.fMessages) (qg r.2.2.fnewest.fMessages) false,.ds true (qh zj r.2.2.fnewest.fEnums) (qg r.2.2.fnewest.fEnums) false,.ds true (qh zr r.2.2.fnewest.fMethods) (qg r.2.2.fnewest.fMethods) false,.ds true (qh yb r.2.2.frows) (qg r.2.2.frows) false,.op 1 0 0,.os true 8 5 (r.2.2.veffects) 0 (qg r.2.2.feffects) false],.cells 0 [.int .i64 r.2.2.fcache.fsize,.os true 2 2 (r.2.2.fcache.vorder) 0 (qg r.2.2.fcache.forder) false,.mp 3,.mp 4],.cells (r.2.2.fcache.vorder) (qh zn r.2.2.fcache.forder),.map (yK zy zL r.2.2.fcache.freplies.l) (some (r.2.2.fcache.freplies.bs,r.2.2.fcache.freplies.ck)),.map (yK (AV.int .i64) (AV.int .i64) r.2.2.fcache.flast.l) (some (r.2.2.fcache.flast.bs,r.2.2.fcache.flast.ck)),.cells (r.2.2.veffects) (qh zk r.2.2.feffects)]):=by
 refine Zy [0,1,2,3,4,5] (rs:=[.cell 4 43,.tmp 5]) tok Tryz.func47 rfl Tryz.ntmps47 rfl Tryz.call47 (by simp) rfl ?_;refine zC [(0,.op 0 0 0),(1,.agg (zo a1))] ⟨rfl,rfl,trivial⟩ ?_;unfold yQ at h
 refine rg tok [0,3,4] fun K hK=>?_
 simp only[go_sem,qe,qb,qa,qc,qd,qf,reduceIte,reduceCtorEq,zo];apply hK
 refine ze fun Z1 hZ1=>?_
 refine rd [0,3,4,12] fun K hK=>?_
 refine DW.start (T:=tab) [.any,.at [],.any,.any,.any,.at [],.any] [] ?_;refine DW.runN tok 7 ?_;simp only[go_sem,qe,qb,qa,qc,qd,qf,reduceIte,reduceCtorEq,zV];refine DW.fin tok (by decide +kernel) rfl ?_;simp only[zG,yE,yV,ZS,upd,qa,reduceIte,xl,xU];apply hK
 refine yn rfl (fun hc2=>?_) (fun hc2=>?_)
 · rw[if_neg hc2] at h;have t3:=eq_false hc2
   refine rg tok [4,5] fun K hK=>?_
   simp only[go_sem,qe,qb,qa,qc,qd,qf,reduceIte,reduceCtorEq,zo,t3];apply hK
   apply yk;cases h;simp only[ZA,yT,yY,xR,exists_eq_left',go_sem,qe,qb,qa,qc,qd,qf,reduceIte,reduceCtorEq,za,zn,zo,zb,zk,zh];refine⟨by decide,by simp,?_,?_⟩
   · first|rfl|(simp only[go_sem,qe,qb,qa,qc,qd,qf,reduceIte,reduceCtorEq,push_cast,if_true,qq,ql,qt,qr,qs,qv,qy,qo,qx,qw,qn,zx,za,zn,zo,zb,zk,zh]<;>rfl)
   first|rfl|(simp only[go_sem,qe,qb,qa,qc,qd,qf,reduceIte,reduceCtorEq,push_cast,if_true,qq,ql,qt,qr,qs,qv,qy,qo,qx,qw,qn,zx,za,zn,zo,zb,zk,zh]<;>rfl)
 rw[if_pos hc2] at h;have t4:=eq_true hc2;apply zp;apply hZ1
 refine ze fun Z5 hZ5=>?_
 refine rg tok [0,3,4,15] fun K hK=>?_
 simp only[go_sem,qe,qb,qa,qc,qd,qf,reduceIte,reduceCtorEq,t4];apply hK
 apply zt
 refine rg tok [0,3,4,15,16] fun K hK=>?_
 simp only[go_sem,qe,qb,qa,qc,qd,qf,reduceIte,reduceCtorEq,zV,t4];apply hK
 refine yn rfl (fun hc6=>?_) (fun hc6=>?_)
 · rw[if_pos hc6] at h;have t7:=eq_true hc6;cases h
 rw[if_neg hc6] at h;have t8:=eq_false hc6
 refine rg tok [0,3,4,31] fun K hK=>?_
 simp only[go_sem,qe,qb,qa,qc,qd,qf,reduceIte,reduceCtorEq,zV,t4,t8];apply hK
 refine yn rfl (fun hc9=>?_) (fun hc9=>?_)
 · rw[if_pos hc9] at h;have t10:=eq_true hc9
   refine rc [4,5] fun K hK=>?_
   obtain⟨r11,hr11,h⟩:=bind_some h;refine zd tok 2 ?_;simp only[go_sem,qe,qb,qa,qc,qd,qf,reduceIte,reduceCtorEq,zo,t4,t8,t10];refine clN rfl rfl rfl (@id (ACalls qi 87 [.op 0 0 0,.agg (zo a1)] [.cells 0 [.int .i64 a0.fself,.ds true (qh wH a0.fnumbers) (qg a0.fnumbers) false,.ds true (qh zb a0.fschemas) (qg a0.fschemas) false,.str a0.fnewest.fName,.ds true (qh zf a0.fnewest.fMessages) (qg a0.fnewest.fMessages) false,.ds true (qh zj a0.fnewest.fEnums) (qg a0.fnewest.fEnums) false,.ds true (qh zr a0.fnewest.fMethods) (qg a0.fnewest.fMethods) false,.ds true (qh yb a0.frows) (qg a0.frows) false,.op 1 0 0,.os true 8 5 (a0.veffects) 0 (qg a0.feffects) false],.cells 0 [.int .i64 a0.fcache.fsize,.os true 2 2 (a0.fcache.vorder) 0 (qg a0.fcache.forder) false,.mp 3,.mp 4],.cells (a0.fcache.vorder) (qh zn a0.fcache.forder),.map (yK zy zL a0.fcache.freplies.l) (some (a0.fcache.freplies.bs,a0.fcache.freplies.ck)),.map (yK (AV.int .i64) (AV.int .i64) a0.fcache.flast.l) (some (a0.fcache.flast.bs,a0.fcache.flast.ck)),.cells (a0.veffects) (qh zk a0.feffects),.cells 0 (zo a1),.cells 0 [.int .i64 0,.int .i64 0,.int .i64 0,.int .i64 0,.int .i64 0,.str [],.int .i64 0,.str []]] (fun r' σ'=>r'=.agg (zo r11.1)∧σ'=[.cells 0 [.int .i64 r11.2.fself,.ds true (qh wH r11.2.fnumbers) (qg r11.2.fnumbers) false,.ds true (qh zb r11.2.fschemas) (qg r11.2.fschemas) false,.str r11.2.fnewest.fName,.ds true (qh zf r11.2.fnewest.fMessages) (qg r11.2.fnewest.fMessages) false,.ds true (qh zj r11.2.fnewest.fEnums) (qg r11.2.fnewest.fEnums) false,.ds true (qh zr r11.2.fnewest.fMethods) (qg r11.2.fnewest.fMethods) false,.ds true (qh yb r11.2.frows) (qg r11.2.frows) false,.op 1 0 0,.os true 8 5 (r11.2.veffects) 0 (qg r11.2.feffects) false],.cells 0 [.int .i64 r11.2.fcache.fsize,.os true 2 2 (r11.2.fcache.vorder) 0 (qg r11.2.fcache.forder) false,.mp 3,.mp 4],.cells (r11.2.fcache.vorder) (qh zn r11.2.fcache.forder),.map (yK zy zL r11.2.fcache.freplies.l) (some (r11.2.fcache.freplies.bs,r11.2.fcache.freplies.ck)),.map (yK (AV.int .i64) (AV.int .i64) r11.2.fcache.flast.l) (some (r11.2.fcache.flast.bs,r11.2.fcache.flast.ck)),.cells (r11.2.veffects) (qh zk r11.2.feffects),.cells 0 (zo a1),.cells 0 [.int .i64 0,.int .i64 0,.int .i64 0,.int .i64 0,.int .i64 0,.str [],.int .i64 0,.str []]])) ((yr.ok hr11).ix [0,1,2,3,4,5])) ?_;refine zd tok 2 ?_;simp only[go_sem,qe,qb,qa,qc,qd,qf,reduceIte,reduceCtorEq,zo,t4,t8,t10];refine nkN hK ?_;apply yk;cases h;simp only[ZA,yT,yY,xR,exists_eq_left',go_sem,qe,qb,qa,qc,qd,qf,reduceIte,reduceCtorEq,za,zn,zo,zb,zk,zh];refine⟨by decide,by simp,?_,?_⟩
   · first|rfl|(simp only[go_sem,qe,qb,qa,qc,qd,qf,reduceIte,reduceCtorEq,push_cast,if_true,qq,ql,qt,qr,qs,qv,qy,qo,qx,qw,qn,zx,za,zn,zo,zb,zk,zh]<;>rfl)
   first|rfl|(simp only[go_sem,qe,qb,qa,qc,qd,qf,reduceIte,reduceCtorEq,push_cast,if_true,qq,ql,qt,qr,qs,qv,qy,qo,qx,qw,qn,zx,za,zn,zo,zb,zk,zh]<;>rfl)
 rw[if_neg hc9] at h;have t12:=eq_false hc9;apply zp;apply hZ5
 refine rg tok [4,5] fun K hK=>?_
 simp only[go_sem,qe,qb,qa,qc,qd,qf,reduceIte,reduceCtorEq,zo,t4,t8,t12];apply hK
 apply yk;cases h;simp only[ZA,yT,yY,xR,exists_eq_left',go_sem,qe,qb,qa,qc,qd,qf,reduceIte,reduceCtorEq,za,zn,zo,zb,zk,zh];refine⟨by decide,by simp,?_,?_⟩
 · first|rfl|(simp only[go_sem,qe,qb,qa,qc,qd,qf,reduceIte,reduceCtorEq,push_cast,if_true,qq,ql,qt,qr,qs,qv,qy,qo,qx,qw,qn,zx,za,zn,zo,zb,zk,zh]<;>rfl)
 first|rfl|(simp only[go_sem,qe,qb,qa,qc,qd,qf,reduceIte,reduceCtorEq,push_cast,if_true,qq,ql,qt,qr,qs,qv,qy,qo,qx,qw,qn,zx,za,zn,zo,zb,zk,zh]<;>rfl)
def ZC (a0:List xp):Option (List xp):=(vai (qg a0) 112).bind fun _=>some a0
theorem ZC.lo (a0 r:List xp)(h:ZC a0=some r)(ver:Nat):ACalls qi 88 [.os true 8 0 ver 0 (qg a0) false] [.cells ver (qh zk a0)] (fun r' σ'=>r'=.ds true (qh zk r) (qg r) false∧σ'=[.cells ver (qh zk a0)]):=by
 obtain⟨_u,hu,h⟩:=bind_some h;have gu:=xh hu;cases h;have f2:=zX E92.len a0;have f3:=Yq zk a0
 have f1:∀ τ:zi,xf (.cells ver (qh zk a0)::τ) 8 (.os true 8 0 ver 0 (qg a0) false)=some (qg a0,qh zk a0):=fun τ=>by
  simp only[xf,zi.at_hd,if_true,qq,ql,← f2,uc,qI,and_self]
 have fin:∀ σ id ver tt,zi.at σ id ver=some (qh zk a0)→Xb [0] id 0=none→tell σ [0] true 12 (.os true 8 id ver 0 (qg a0) tt)=.ds true (qh zk a0) (qg a0) false:=by
  intro σ id ver tt hs hk
  simp only[ZI,hk,hs,qq,ql];rw[if_pos (by rw[f2]; exact qI _),← f2,uc,zx]
 refine Zy [0] (rs:=[.tmp 2]) tok Tryz.func88 rfl Tryz.ntmps88 rfl Tryz.call88 (by simp) rfl ?_;refine zC [(0,.os true 8 0 ver 0 (qg a0) false)] ⟨rfl,trivial⟩ ?_;refine rgN [0] ?_
 refine ze fun Z1 hZ1=>?_
 refine rc [0,4] fun K hK=>?_
 refine rnN 1 ?_
 refine Xl tok rfl rfl rfl rfl rfl rfl fun b hnil=>?_
 have hb:b=true→a0=[]:=fun hb=>by
  have:=hnil hb;simp only[yU,go_sem,qe,qb,qa,qc,qd,qf,reduceIte,reduceCtorEq] at this;exact ub this
 clear hnil
 refine nkN hK ?_;cases b
 · refine zK rfl ?_;apply zp;apply hZ1
   refine rg tok [2] fun K hK=>?_
   by_cases h0:qg a0=0
   · obtain rfl:=ub h0;simp only[go_sem,qe,qb,qa,qc,qd,qf,reduceIte,reduceCtorEq,zU,yA,qN,qW,yR,yp,yU,xf,qG,qz,um,qV,gt_iff_lt,List.drop_nil,List.take_nil,uJ,and_self];apply hK
     apply yk;simp only[ZA,yT,yY,xR,exists_eq_left',go_sem,qe,qb,qa,qc,qd,qf,reduceIte,reduceCtorEq];refine⟨by decide,by simp,?_,?_⟩
     · first|rfl|(simp only[go_sem,qe,qb,qa,qc,qd,qf,reduceIte,reduceCtorEq,ZI,Zi,Yp,qr]<;>rfl)
     first|rfl|(simp only[go_sem,qe,qb,qa,qc,qd,qf,reduceIte,reduceCtorEq,YZ,Xz,Yv,Y1,Y0,qr]<;>rfl)
   have h1:=eq_false h0;simp only[go_sem,qe,qb,qa,qc,qd,qf,reduceIte,reduceCtorEq,zU,yA,qN,qW,yR,yp,yU,f1,f3,h1,gu,yP,gt_iff_lt,qr,qE,um];apply hK
   apply yk;simp only[ZA,yT,yY,xR,exists_eq_left',go_sem,qe,qb,qa,qc,qd,qf,reduceIte,reduceCtorEq];refine⟨by decide,by simp,?_,?_⟩
   · exact fin _ _ _ _ (by simp only[zi.at_hd,zi.at_tl,if_true]) rfl
   first|rfl|(simp only[go_sem,qe,qb,qa,qc,qd,qf,reduceIte,reduceCtorEq,YZ,Xz,Yv,Y1,Y0,zx,qr]<;>rfl)
 obtain rfl:=hb rfl;refine zQ rfl ?_;refine rgN [2] ?_;apply yk;simp only[ZA,yT,yY,xR,exists_eq_left',go_sem,qe,qb,qa,qc,qd,qf,reduceIte,reduceCtorEq];refine⟨by decide,by simp,?_,?_⟩
 · first|rfl|(simp only[go_sem,qe,qb,qa,qc,qd,qf,reduceIte,reduceCtorEq,Xj,qr,qv,qy,qw,qn,qo,qx]<;>rfl)
 first|rfl|(simp only[go_sem,qe,qb,qa,qc,qd,qf,reduceIte,reduceCtorEq,YZ,Xz,Yv,Y1,Y0,zx,qr,qG]<;>rfl)
def wb (a0:xM):Option (List xp):=
 (ZC a0.feffects).bind fun r1=>some r1
theorem wb.ok {a0 r}(h:wb a0=some r):ACalls qi 48 [.op 0 0 0] [.cells 0 [.int .i64 a0.fself,.ds true (qh wH a0.fnumbers) (qg a0.fnumbers) false,.ds true (qh zb a0.fschemas) (qg a0.fschemas) false,.str a0.fnewest.fName,.ds true (qh zf a0.fnewest.fMessages) (qg a0.fnewest.fMessages) false,.ds true (qh zj a0.fnewest.fEnums) (qg a0.fnewest.fEnums) false,.ds true (qh zr a0.fnewest.fMethods) (qg a0.fnewest.fMethods) false,.ds true (qh yb a0.frows) (qg a0.frows) false,.op 1 0 0,.os true 8 5 (a0.veffects) 0 (qg a0.feffects) false],.cells 0 [.int .i64 a0.fcache.fsize,.os true 2 2 (a0.fcache.vorder) 0 (qg a0.fcache.forder) false,.mp 3,.mp 4],.cells (a0.fcache.vorder) (qh zn a0.fcache.forder),.map (yK zy zL a0.fcache.freplies.l) (some (a0.fcache.freplies.bs,a0.fcache.freplies.ck)),.map (yK (AV.int .i64) (AV.int .i64) a0.fcache.flast.l) (some (a0.fcache.flast.bs,a0.fcache.flast.ck)),.cells (a0.veffects) (qh zk a0.feffects)] (fun r' σ'=>r'=.ds true (qh zk r) (qg r) false∧σ'=[.cells 0 [.int .i64 a0.fself,.ds true (qh wH a0.fnumbers) (qg a0.fnumbers) false,.ds true (qh zb a0.fschemas) (qg a0.fschemas) false,.str a0.fnewest.fName,.ds true (qh zf a0.fnewest.fMessages) (qg a0.fnewest.fMessages) false,.ds true (qh zj a0.fnewest.fEnums) (qg a0.fnewest.fEnums) false,.ds true (qh zr a0.fnewest.fMethods) (qg a0.fnewest.fMethods) false,.ds true (qh yb a0.frows) (qg a0.frows) false,.op 1 0 0,.os true 8 5 (a0.veffects) 0 (qg a0.feffects) false],.cells 0 [.int .i64 a0.fcache.fsize,.os true 2 2 (a0.fcache.vorder) 0 (qg a0.fcache.forder) false,.mp 3,.mp 4],.cells (a0.fcache.vorder) (qh zn a0.fcache.forder),.map (yK zy zL a0.fcache.freplies.l) (some (a0.fcache.freplies.bs,a0.fcache.freplies.ck)),.map (yK (AV.int .i64) (AV.int .i64) a0.fcache.flast.l) (some (a0.fcache.flast.bs,a0.fcache.flast.ck)),.cells (a0.veffects) (qh zk a0.feffects)]):=by
 refine Zy [0,1,2,3,4,5] (rs:=[.tmp 2]) tok Tryz.func48 rfl Tryz.ntmps48 rfl Tryz.call48 (by simp) rfl ?_;refine zC [(0,.op 0 0 0)] ⟨rfl,trivial⟩ ?_;unfold wb at h;refine rgN [0] ?_
 refine rc [2] fun K hK=>?_
 obtain⟨r1,hr1,h⟩:=bind_some h;refine rnN 4 ?_;refine clN rfl rfl rfl (@id (ACalls qi 88 [.os true 8 5 (a0.veffects) 0 (qg a0.feffects) false] [.cells 0 [.int .i64 a0.fself,.ds true (qh wH a0.fnumbers) (qg a0.fnumbers) false,.ds true (qh zb a0.fschemas) (qg a0.fschemas) false,.str a0.fnewest.fName,.ds true (qh zf a0.fnewest.fMessages) (qg a0.fnewest.fMessages) false,.ds true (qh zj a0.fnewest.fEnums) (qg a0.fnewest.fEnums) false,.ds true (qh zr a0.fnewest.fMethods) (qg a0.fnewest.fMethods) false,.ds true (qh yb a0.frows) (qg a0.frows) false,.op 1 0 0,.os true 8 5 (a0.veffects) 0 (qg a0.feffects) false],.cells 0 [.int .i64 a0.fcache.fsize,.os true 2 2 (a0.fcache.vorder) 0 (qg a0.fcache.forder) false,.mp 3,.mp 4],.cells (a0.fcache.vorder) (qh zn a0.fcache.forder),.map (yK zy zL a0.fcache.freplies.l) (some (a0.fcache.freplies.bs,a0.fcache.freplies.ck)),.map (yK (AV.int .i64) (AV.int .i64) a0.fcache.flast.l) (some (a0.fcache.flast.bs,a0.fcache.flast.ck)),.cells (a0.veffects) (qh zk a0.feffects)] (fun r' σ'=>r'=.ds true (qh zk r1) (qg r1) false∧σ'=[.cells 0 [.int .i64 a0.fself,.ds true (qh wH a0.fnumbers) (qg a0.fnumbers) false,.ds true (qh zb a0.fschemas) (qg a0.fschemas) false,.str a0.fnewest.fName,.ds true (qh zf a0.fnewest.fMessages) (qg a0.fnewest.fMessages) false,.ds true (qh zj a0.fnewest.fEnums) (qg a0.fnewest.fEnums) false,.ds true (qh zr a0.fnewest.fMethods) (qg a0.fnewest.fMethods) false,.ds true (qh yb a0.frows) (qg a0.frows) false,.op 1 0 0,.os true 8 5 (a0.veffects) 0 (qg a0.feffects) false],.cells 0 [.int .i64 a0.fcache.fsize,.os true 2 2 (a0.fcache.vorder) 0 (qg a0.fcache.forder) false,.mp 3,.mp 4],.cells (a0.fcache.vorder) (qh zn a0.fcache.forder),.map (yK zy zL a0.fcache.freplies.l) (some (a0.fcache.freplies.bs,a0.fcache.freplies.ck)),.map (yK (AV.int .i64) (AV.int .i64) a0.fcache.flast.l) (some (a0.fcache.flast.bs,a0.fcache.flast.ck)),.cells (a0.veffects) (qh zk a0.feffects)])) ((ZC.lo a0.feffects r1 hr1 a0.veffects).i [5])) ?_;refine rnN 1 ?_;refine nkN hK ?_;apply yk;cases h;simp only[ZA,yT,yY,xR,exists_eq_left',go_sem,qe,qb,qa,qc,qd,qf,reduceIte,reduceCtorEq,za,zn,zb,zk,zh];refine⟨by decide,by simp,?_,?_⟩
 · first|rfl|(simp only[go_sem,qe,qb,qa,qc,qd,qf,reduceIte,reduceCtorEq,push_cast,if_true,qq,ql,qt,qr,qs,qv,qy,qo,qx,qw,qn,zx,za,zn,zb,zk,zh]<;>rfl)
 first|rfl|(simp only[go_sem,qe,qb,qa,qc,qd,qf,reduceIte,reduceCtorEq,push_cast,if_true,qq,ql,qt,qr,qs,qv,qy,qo,qx,qw,qn,zx,za,zn,zb,zk,zh]<;>rfl)
def Xm  : Option Bool:=
 bnd (wS 1) fun r1=>bnd (wS 1) fun r2=>bnd (w5 5) fun r3=>bnd (w5 7) fun r4=>(ZJ 0 [1] [r1] r2 [(⟨[99],r3,r4⟩:GRow)] 4).bind fun r5=>(match r5.1 with|.none=>(if ((!(decide (r5.2=0)))||true)=true then some false else none)|.some y6=>(if ((!(decide (r5.2=0)))||false)=true then some false else (yQ y6 (⟨3,1,0,1,1,[99],0,[2,10]⟩:xo)).bind fun r15=>(yQ r15.2.2 (⟨3,1,0,1,1,[99],0,[2,10]⟩:xo)).bind fun r16=>(if (((r15.2.1&&r16.2.1)&&(decide (r15.1.fKind=r16.1.fKind)&&(decide (r15.1.fFrom=r16.1.fFrom)&&(decide (r15.1.fTo=r16.1.fTo)&&(decide (r15.1.fID=r16.1.fID)&&(decide (r15.1.fVersion=r16.1.fVersion)&&(decide (r15.1.fMethod=r16.1.fMethod)&&(decide (r15.1.fErr=r16.1.fErr)&&decide (r15.1.fBody=r16.1.fBody)))))))))&&(decide (r15.1.fBody=[2,14])))=true then (wb r16.2.2).bind fun r17=>some (decide ((qg r17:Int)=1)) else some false).bind fun c17=>some c17))
theorem Xm.ok  (r:Bool)(h:Xm=some r):ACalls qi 41 [] [] (fun r' _=>r'=.bool r):=by
 refine zw (rs:=[.tmp 0]) tok Tryz.func41 rfl Tryz.ntmps41 rfl Tryz.call41 (by simp) ?_;refine zC [] trivial ?_;unfold Xm at h;refine rgN [] ?_
 refine rc [1,2] fun K hK=>?_
 obtain⟨r1,hr1,h⟩:=yi h;refine zd tok 1 ?_;simp only[go_sem,qe,qb,qa,qc,qd,qf,reduceIte,reduceCtorEq,zU,yA,qY,qN,qW,true_and,q1];refine clN rfl rfl rfl ((wS.ok hr1).c _) ?_;obtain⟨r2,hr2,h⟩:=yi h;refine zd tok 1 ?_;simp only[go_sem,qe,qb,qa,qc,qd,qf,reduceIte,reduceCtorEq,zU,yA,qY,qN,qW,true_and,q1,zb];refine clN rfl rfl rfl ((wS.ok hr2).c _) ?_;obtain⟨r3,hr3,h⟩:=yi h;refine clN rfl rfl rfl ((w5.ok hr3).c _) ?_;obtain⟨r4,hr4,h⟩:=yi h;refine clN rfl rfl rfl ((w5.ok hr4).c _) ?_;obtain⟨r5,hr5,h⟩:=bind_some h;refine zd tok 2 ?_;simp only[go_sem,qe,qb,qa,qc,qd,qf,reduceIte,reduceCtorEq,zU,yA,qY,qN,qW,true_and,q1,za,yb,zb,zh];refine X5 (L:=[(9,.ds true (qh wH [1]) (qg [1]) false),(11,.ds true (qh zb [r1]) (qg [r1]) false),(12,.agg (zb r2)),(16,.ds true (qh yb [(⟨[99],r3,r4⟩:GRow)]) (qg [(⟨[99],r3,r4⟩:GRow)]) false)]) (τ:=[]) (.t [] false) ?_;refine clN rfl rfl rfl (ZJ.at hr5 _) ?_;refine zd tok 5 ?_;simp only[go_sem,qe,qb,qa,qc,qd,qf,reduceIte,reduceCtorEq,za,yb,zb,zh];refine nkN hK ?_
 generalize hz6:r5.1=z6 at h ⊢
 rcases z6 with _|y6
 · try dsimp only at h
   simp only[XC,XB,wQ];refine awp_eqS (τ:=[]) (by first|rfl|(simp only[qt,qr,qB,qE,qF,renO_mapE,renO_cells,vbT,AV.ren,vb9,XL,qc]<;>first|rfl|(and_intros<;>rfl))) ?_
   refine ze fun Z7 hZ7=>?_
   refine rc [1,25] fun K hK=>?_
   refine zd tok 3 ?_;simp only[go_sem,qe,qb,qa,qc,qd,qf,reduceIte,reduceCtorEq,zV];refine zI 3 (fun L τ=>L=[(1,.nilp),(25,.bool ((!(decide (r5.2=0)))||true))]∧τ=([]:zi)) ?_ ?_
   · refine wr 22 rfl (fun hg22=>?_) (fun hg22=>?_)
     · have t8:=eq_false hg22;refine zd tok 3 ?_;simp only[go_sem,qe,qb,qa,qc,qd,qf,reduceIte,reduceCtorEq,zV];refine zm ⟨rfl,_,_,⟨rfl,rfl⟩,.p t8⟩
     have t9:=eq_true hg22;refine zd tok 3 ?_;simp only[go_sem,qe,qb,qa,qc,qd,qf,reduceIte,reduceCtorEq,zV];refine zm ⟨rfl,_,_,⟨rfl,rfl⟩,.p t9⟩
   rintro _ _ ⟨rfl,rfl⟩;refine nkN hK ?_;refine zY (b:=((!(decide (r5.2=0)))||true)) rfl (fun hc10=>?_) (fun hc10=>?_)
   · rw[if_pos hc10] at h;refine rgN [0] ?_;cases h;exact rtA
   rw[Zg hc10] at h;apply zp;apply hZ7
   refine rg tok [1,3] fun K hK=>?_
   simp only[go_sem,qe,qb,qa,qc,qd,qf,reduceIte,reduceCtorEq,zo];apply hK
   cases h
 try dsimp only at h
 simp only[XC,XB,wQ];refine awp_eqS (τ:=[.cells 0 [.int .i64 y6.fself,.ds true (qh wH y6.fnumbers) (qg y6.fnumbers) false,.ds true (qh zb y6.fschemas) (qg y6.fschemas) false,.str y6.fnewest.fName,.ds true (qh zf y6.fnewest.fMessages) (qg y6.fnewest.fMessages) false,.ds true (qh zj y6.fnewest.fEnums) (qg y6.fnewest.fEnums) false,.ds true (qh zr y6.fnewest.fMethods) (qg y6.fnewest.fMethods) false,.ds true (qh yb y6.frows) (qg y6.frows) false,.op 1 0 0,.os true 8 5 (y6.veffects) 0 (qg y6.feffects) false],.cells 0 [.int .i64 y6.fcache.fsize,.os true 2 2 (y6.fcache.vorder) 0 (qg y6.fcache.forder) false,.mp 3,.mp 4],.cells (y6.fcache.vorder) (qh zn y6.fcache.forder),.map (yK zy zL y6.fcache.freplies.l) (some (y6.fcache.freplies.bs,y6.fcache.freplies.ck)),.map (yK (AV.int .i64) (AV.int .i64) y6.fcache.flast.l) (some (y6.fcache.flast.bs,y6.fcache.flast.ck)),.cells (y6.veffects) (qh zk y6.feffects)]) (by first|rfl|(simp only[qt,qr,qB,qE,qF,renO_mapE,renO_cells,vbT,AV.ren,vb9,XL,qc]<;>first|rfl|(and_intros<;>rfl))) ?_
 refine ze fun Z11 hZ11=>?_
 refine rc [1,25] fun K hK=>?_
 refine zd tok 3 ?_;simp only[go_sem,qe,qb,qa,qc,qd,qf,reduceIte,reduceCtorEq,zV];refine zI 3 (fun L τ=>L=[(1,.op 0 0 0),(25,.bool ((!(decide (r5.2=0)))||false))]∧τ=([.cells 0 [.int .i64 y6.fself,.ds true (qh wH y6.fnumbers) (qg y6.fnumbers) false,.ds true (qh zb y6.fschemas) (qg y6.fschemas) false,.str y6.fnewest.fName,.ds true (qh zf y6.fnewest.fMessages) (qg y6.fnewest.fMessages) false,.ds true (qh zj y6.fnewest.fEnums) (qg y6.fnewest.fEnums) false,.ds true (qh zr y6.fnewest.fMethods) (qg y6.fnewest.fMethods) false,.ds true (qh yb y6.frows) (qg y6.frows) false,.op 1 0 0,.os true 8 5 (y6.veffects) 0 (qg y6.feffects) false],.cells 0 [.int .i64 y6.fcache.fsize,.os true 2 2 (y6.fcache.vorder) 0 (qg y6.fcache.forder) false,.mp 3,.mp 4],.cells (y6.fcache.vorder) (qh zn y6.fcache.forder),.map (yK zy zL y6.fcache.freplies.l) (some (y6.fcache.freplies.bs,y6.fcache.freplies.ck)),.map (yK (AV.int .i64) (AV.int .i64) y6.fcache.flast.l) (some (y6.fcache.flast.bs,y6.fcache.flast.ck)),.cells (y6.veffects) (qh zk y6.feffects)]:zi)) ?_ ?_
 · refine wr 22 rfl (fun hg22=>?_) (fun hg22=>?_)
   · have t12:=eq_false hg22;refine zd tok 3 ?_;simp only[go_sem,qe,qb,qa,qc,qd,qf,reduceIte,reduceCtorEq,zV];refine zm ⟨rfl,_,_,⟨rfl,rfl⟩,.p t12⟩
   have t13:=eq_true hg22;refine zd tok 3 ?_;simp only[go_sem,qe,qb,qa,qc,qd,qf,reduceIte,reduceCtorEq,zV];refine zm ⟨rfl,_,_,⟨rfl,rfl⟩,.p t13⟩
 rintro _ _ ⟨rfl,rfl⟩;refine nkN hK ?_;refine zY (b:=((!(decide (r5.2=0)))||false)) rfl (fun hc14=>?_) (fun hc14=>?_)
 · rw[if_pos hc14] at h;refine rgN [0] ?_;cases h;exact rtA
 rw[Zg hc14] at h;apply zp;apply hZ11
 refine rg tok [1,3] fun K hK=>?_
 simp only[go_sem,qe,qb,qa,qc,qd,qf,reduceIte,reduceCtorEq,zo];apply hK
 refine rc [1,3,4,5] fun K hK=>?_
 obtain⟨r15,hr15,h⟩:=bind_some h;refine zd tok 2 ?_;simp only[go_sem,qe,qb,qa,qc,qd,qf,reduceIte,reduceCtorEq,zo];refine clN rfl rfl rfl (@id (ACalls qi 47 [.op 0 0 0,.agg [.int .i64 3,.int .i64 1,.int .i64 0,.int .i64 1,.int .i64 1,.str [99],.int .i64 0,.str [2,10]]] [.cells 0 [.int .i64 y6.fself,.ds true (qh wH y6.fnumbers) (qg y6.fnumbers) false,.ds true (qh zb y6.fschemas) (qg y6.fschemas) false,.str y6.fnewest.fName,.ds true (qh zf y6.fnewest.fMessages) (qg y6.fnewest.fMessages) false,.ds true (qh zj y6.fnewest.fEnums) (qg y6.fnewest.fEnums) false,.ds true (qh zr y6.fnewest.fMethods) (qg y6.fnewest.fMethods) false,.ds true (qh yb y6.frows) (qg y6.frows) false,.op 1 0 0,.os true 8 5 (y6.veffects) 0 (qg y6.feffects) false],.cells 0 [.int .i64 y6.fcache.fsize,.os true 2 2 (y6.fcache.vorder) 0 (qg y6.fcache.forder) false,.mp 3,.mp 4],.cells (y6.fcache.vorder) (qh zn y6.fcache.forder),.map (yK zy zL y6.fcache.freplies.l) (some (y6.fcache.freplies.bs,y6.fcache.freplies.ck)),.map (yK (AV.int .i64) (AV.int .i64) y6.fcache.flast.l) (some (y6.fcache.flast.bs,y6.fcache.flast.ck)),.cells (y6.veffects) (qh zk y6.feffects),.cells 0 [.int .i64 3,.int .i64 1,.int .i64 0,.int .i64 1,.int .i64 1,.str [99],.int .i64 0,.str [2,10]]] (fun r' σ'=>r'=.tup [.agg (zo r15.1),.bool r15.2.1]∧σ'=[.cells 0 [.int .i64 r15.2.2.fself,.ds true (qh wH r15.2.2.fnumbers) (qg r15.2.2.fnumbers) false,.ds true (qh zb r15.2.2.fschemas) (qg r15.2.2.fschemas) false,.str r15.2.2.fnewest.fName,.ds true (qh zf r15.2.2.fnewest.fMessages) (qg r15.2.2.fnewest.fMessages) false,.ds true (qh zj r15.2.2.fnewest.fEnums) (qg r15.2.2.fnewest.fEnums) false,.ds true (qh zr r15.2.2.fnewest.fMethods) (qg r15.2.2.fnewest.fMethods) false,.ds true (qh yb r15.2.2.frows) (qg r15.2.2.frows) false,.op 1 0 0,.os true 8 5 (r15.2.2.veffects) 0 (qg r15.2.2.feffects) false],.cells 0 [.int .i64 r15.2.2.fcache.fsize,.os true 2 2 (r15.2.2.fcache.vorder) 0 (qg r15.2.2.fcache.forder) false,.mp 3,.mp 4],.cells (r15.2.2.fcache.vorder) (qh zn r15.2.2.fcache.forder),.map (yK zy zL r15.2.2.fcache.freplies.l) (some (r15.2.2.fcache.freplies.bs,r15.2.2.fcache.freplies.ck)),.map (yK (AV.int .i64) (AV.int .i64) r15.2.2.fcache.flast.l) (some (r15.2.2.fcache.flast.bs,r15.2.2.fcache.flast.ck)),.cells (r15.2.2.veffects) (qh zk r15.2.2.feffects),.cells 0 [.int .i64 3,.int .i64 1,.int .i64 0,.int .i64 1,.int .i64 1,.str [99],.int .i64 0,.str [2,10]]])) ((yQ.ok hr15).ix [0,1,2,3,4,5])) ?_;refine zd tok 6 ?_;simp only[go_sem,qe,qb,qa,qc,qd,qf,reduceIte,reduceCtorEq,zo];refine nkN hK ?_
 refine rc [1,4,5,6,7] fun K hK=>?_
 obtain⟨r16,hr16,h⟩:=bind_some h;refine zd tok 2 ?_;simp only[go_sem,qe,qb,qa,qc,qd,qf,reduceIte,reduceCtorEq,zo];refine clN rfl rfl rfl (@id (ACalls qi 47 [.op 0 0 0,.agg [.int .i64 3,.int .i64 1,.int .i64 0,.int .i64 1,.int .i64 1,.str [99],.int .i64 0,.str [2,10]]] [.cells 0 [.int .i64 r15.2.2.fself,.ds true (qh wH r15.2.2.fnumbers) (qg r15.2.2.fnumbers) false,.ds true (qh zb r15.2.2.fschemas) (qg r15.2.2.fschemas) false,.str r15.2.2.fnewest.fName,.ds true (qh zf r15.2.2.fnewest.fMessages) (qg r15.2.2.fnewest.fMessages) false,.ds true (qh zj r15.2.2.fnewest.fEnums) (qg r15.2.2.fnewest.fEnums) false,.ds true (qh zr r15.2.2.fnewest.fMethods) (qg r15.2.2.fnewest.fMethods) false,.ds true (qh yb r15.2.2.frows) (qg r15.2.2.frows) false,.op 1 0 0,.os true 8 5 (r15.2.2.veffects) 0 (qg r15.2.2.feffects) false],.cells 0 [.int .i64 r15.2.2.fcache.fsize,.os true 2 2 (r15.2.2.fcache.vorder) 0 (qg r15.2.2.fcache.forder) false,.mp 3,.mp 4],.cells (r15.2.2.fcache.vorder) (qh zn r15.2.2.fcache.forder),.map (yK zy zL r15.2.2.fcache.freplies.l) (some (r15.2.2.fcache.freplies.bs,r15.2.2.fcache.freplies.ck)),.map (yK (AV.int .i64) (AV.int .i64) r15.2.2.fcache.flast.l) (some (r15.2.2.fcache.flast.bs,r15.2.2.fcache.flast.ck)),.cells (r15.2.2.veffects) (qh zk r15.2.2.feffects),.cells 0 [.int .i64 3,.int .i64 1,.int .i64 0,.int .i64 1,.int .i64 1,.str [99],.int .i64 0,.str [2,10]],.cells 0 (zo r15.1)] (fun r' σ'=>r'=.tup [.agg (zo r16.1),.bool r16.2.1]∧σ'=[.cells 0 [.int .i64 r16.2.2.fself,.ds true (qh wH r16.2.2.fnumbers) (qg r16.2.2.fnumbers) false,.ds true (qh zb r16.2.2.fschemas) (qg r16.2.2.fschemas) false,.str r16.2.2.fnewest.fName,.ds true (qh zf r16.2.2.fnewest.fMessages) (qg r16.2.2.fnewest.fMessages) false,.ds true (qh zj r16.2.2.fnewest.fEnums) (qg r16.2.2.fnewest.fEnums) false,.ds true (qh zr r16.2.2.fnewest.fMethods) (qg r16.2.2.fnewest.fMethods) false,.ds true (qh yb r16.2.2.frows) (qg r16.2.2.frows) false,.op 1 0 0,.os true 8 5 (r16.2.2.veffects) 0 (qg r16.2.2.feffects) false],.cells 0 [.int .i64 r16.2.2.fcache.fsize,.os true 2 2 (r16.2.2.fcache.vorder) 0 (qg r16.2.2.fcache.forder) false,.mp 3,.mp 4],.cells (r16.2.2.fcache.vorder) (qh zn r16.2.2.fcache.forder),.map (yK zy zL r16.2.2.fcache.freplies.l) (some (r16.2.2.fcache.freplies.bs,r16.2.2.fcache.freplies.ck)),.map (yK (AV.int .i64) (AV.int .i64) r16.2.2.fcache.flast.l) (some (r16.2.2.fcache.flast.bs,r16.2.2.fcache.flast.ck)),.cells (r16.2.2.veffects) (qh zk r16.2.2.feffects),.cells 0 [.int .i64 3,.int .i64 1,.int .i64 0,.int .i64 1,.int .i64 1,.str [99],.int .i64 0,.str [2,10]],.cells 0 (zo r15.1)])) ((yQ.ok hr16).ix [0,1,2,3,4,5])) ?_;refine zd tok 6 ?_;simp only[go_sem,qe,qb,qa,qc,qd,qf,reduceIte,reduceCtorEq,zo];refine nkN hK ?_
 refine rc [0] fun K hK=>?_
 refine rnN 2 ?_;refine zI 2 (fun L τ=>L=[(1,.op 0 0 0),(4,.op 7 0 0),(6,.op 8 0 0),(42,.bool (r15.2.1&&r16.2.1))]∧τ=([.cells 0 [.int .i64 r16.2.2.fself,.ds true (qh wH r16.2.2.fnumbers) (qg r16.2.2.fnumbers) false,.ds true (qh zb r16.2.2.fschemas) (qg r16.2.2.fschemas) false,.str r16.2.2.fnewest.fName,.ds true (qh zf r16.2.2.fnewest.fMessages) (qg r16.2.2.fnewest.fMessages) false,.ds true (qh zj r16.2.2.fnewest.fEnums) (qg r16.2.2.fnewest.fEnums) false,.ds true (qh zr r16.2.2.fnewest.fMethods) (qg r16.2.2.fnewest.fMethods) false,.ds true (qh yb r16.2.2.frows) (qg r16.2.2.frows) false,.op 1 0 0,.os true 8 5 (r16.2.2.veffects) 0 (qg r16.2.2.feffects) false],.cells 0 [.int .i64 r16.2.2.fcache.fsize,.os true 2 2 (r16.2.2.fcache.vorder) 0 (qg r16.2.2.fcache.forder) false,.mp 3,.mp 4],.cells (r16.2.2.fcache.vorder) (qh zn r16.2.2.fcache.forder),.map (yK zy zL r16.2.2.fcache.freplies.l) (some (r16.2.2.fcache.freplies.bs,r16.2.2.fcache.freplies.ck)),.map (yK (AV.int .i64) (AV.int .i64) r16.2.2.fcache.flast.l) (some (r16.2.2.fcache.flast.bs,r16.2.2.fcache.flast.ck)),.cells (r16.2.2.veffects) (qh zk r16.2.2.feffects),.cells 0 [.int .i64 3,.int .i64 1,.int .i64 0,.int .i64 1,.int .i64 1,.str [99],.int .i64 0,.str [2,10]],.cells 0 (zo r15.1),.cells 0 (zo r16.1)]:zi)) ?_ ?_
 · refine yz (b:=r15.2.1) 40 rfl (fun hg40=>?_) (fun hg40=>?_)
   · refine rnN 2 ?_;refine zm ⟨rfl,_,_,⟨rfl,rfl⟩,.b hg40⟩
   refine rnN 2 ?_;refine zm ⟨rfl,_,_,⟨rfl,rfl⟩,.b hg40⟩
 rintro _ _ ⟨rfl,rfl⟩;refine rnN 1 ?_;refine zI 4 (fun L τ=>L=[(1,.op 0 0 0),(4,.op 7 0 0),(47,.bool ((r15.2.1&&r16.2.1)&&(decide (r15.1.fKind=r16.1.fKind)&&(decide (r15.1.fFrom=r16.1.fFrom)&&(decide (r15.1.fTo=r16.1.fTo)&&(decide (r15.1.fID=r16.1.fID)&&(decide (r15.1.fVersion=r16.1.fVersion)&&(decide (r15.1.fMethod=r16.1.fMethod)&&(decide (r15.1.fErr=r16.1.fErr)&&decide (r15.1.fBody=r16.1.fBody))))))))))]∧τ=([.cells 0 [.int .i64 r16.2.2.fself,.ds true (qh wH r16.2.2.fnumbers) (qg r16.2.2.fnumbers) false,.ds true (qh zb r16.2.2.fschemas) (qg r16.2.2.fschemas) false,.str r16.2.2.fnewest.fName,.ds true (qh zf r16.2.2.fnewest.fMessages) (qg r16.2.2.fnewest.fMessages) false,.ds true (qh zj r16.2.2.fnewest.fEnums) (qg r16.2.2.fnewest.fEnums) false,.ds true (qh zr r16.2.2.fnewest.fMethods) (qg r16.2.2.fnewest.fMethods) false,.ds true (qh yb r16.2.2.frows) (qg r16.2.2.frows) false,.op 1 0 0,.os true 8 5 (r16.2.2.veffects) 0 (qg r16.2.2.feffects) false],.cells 0 [.int .i64 r16.2.2.fcache.fsize,.os true 2 2 (r16.2.2.fcache.vorder) 0 (qg r16.2.2.fcache.forder) false,.mp 3,.mp 4],.cells (r16.2.2.fcache.vorder) (qh zn r16.2.2.fcache.forder),.map (yK zy zL r16.2.2.fcache.freplies.l) (some (r16.2.2.fcache.freplies.bs,r16.2.2.fcache.freplies.ck)),.map (yK (AV.int .i64) (AV.int .i64) r16.2.2.fcache.flast.l) (some (r16.2.2.fcache.flast.bs,r16.2.2.fcache.flast.ck)),.cells (r16.2.2.veffects) (qh zk r16.2.2.feffects),.cells 0 [.int .i64 3,.int .i64 1,.int .i64 0,.int .i64 1,.int .i64 1,.str [99],.int .i64 0,.str [2,10]],.cells 0 (zo r15.1),.cells 0 (zo r16.1)]:zi)) ?_ ?_
 · refine yz (b:=(r15.2.1&&r16.2.1)) 43 rfl (fun hg43=>?_) (fun hg43=>?_)
   · refine zd tok 4 ?_;simp only[go_sem,qe,qb,qa,qc,qd,qf,reduceIte,reduceCtorEq,zV,zo,evEqA,vak,ceq];refine zm ⟨rfl,_,_,⟨rfl,rfl⟩,.b hg43⟩
   refine zd tok 4 ?_;simp only[go_sem,qe,qb,qa,qc,qd,qf,reduceIte,reduceCtorEq,zV,zo];refine zm ⟨rfl,_,_,⟨rfl,rfl⟩,.b hg43⟩
 rintro _ _ ⟨rfl,rfl⟩;refine zd tok 1 ?_;simp only[go_sem,qe,qb,qa,qc,qd,qf,reduceIte,reduceCtorEq,zo];refine zI 4 (fun L τ=>L=[(1,.op 0 0 0),(52,.bool (((r15.2.1&&r16.2.1)&&(decide (r15.1.fKind=r16.1.fKind)&&(decide (r15.1.fFrom=r16.1.fFrom)&&(decide (r15.1.fTo=r16.1.fTo)&&(decide (r15.1.fID=r16.1.fID)&&(decide (r15.1.fVersion=r16.1.fVersion)&&(decide (r15.1.fMethod=r16.1.fMethod)&&(decide (r15.1.fErr=r16.1.fErr)&&decide (r15.1.fBody=r16.1.fBody)))))))))&&(decide (r15.1.fBody=[2,14]))))]∧τ=([.cells 0 [.int .i64 r16.2.2.fself,.ds true (qh wH r16.2.2.fnumbers) (qg r16.2.2.fnumbers) false,.ds true (qh zb r16.2.2.fschemas) (qg r16.2.2.fschemas) false,.str r16.2.2.fnewest.fName,.ds true (qh zf r16.2.2.fnewest.fMessages) (qg r16.2.2.fnewest.fMessages) false,.ds true (qh zj r16.2.2.fnewest.fEnums) (qg r16.2.2.fnewest.fEnums) false,.ds true (qh zr r16.2.2.fnewest.fMethods) (qg r16.2.2.fnewest.fMethods) false,.ds true (qh yb r16.2.2.frows) (qg r16.2.2.frows) false,.op 1 0 0,.os true 8 5 (r16.2.2.veffects) 0 (qg r16.2.2.feffects) false],.cells 0 [.int .i64 r16.2.2.fcache.fsize,.os true 2 2 (r16.2.2.fcache.vorder) 0 (qg r16.2.2.fcache.forder) false,.mp 3,.mp 4],.cells (r16.2.2.fcache.vorder) (qh zn r16.2.2.fcache.forder),.map (yK zy zL r16.2.2.fcache.freplies.l) (some (r16.2.2.fcache.freplies.bs,r16.2.2.fcache.freplies.ck)),.map (yK (AV.int .i64) (AV.int .i64) r16.2.2.fcache.flast.l) (some (r16.2.2.fcache.flast.bs,r16.2.2.fcache.flast.ck)),.cells (r16.2.2.veffects) (qh zk r16.2.2.feffects),.cells 0 [.int .i64 3,.int .i64 1,.int .i64 0,.int .i64 1,.int .i64 1,.str [99],.int .i64 0,.str [2,10]],.cells 0 (zo r15.1),.cells 0 (zo r16.1)]:zi)) ?_ ?_
 · refine yz (b:=((r15.2.1&&r16.2.1)&&(decide (r15.1.fKind=r16.1.fKind)&&(decide (r15.1.fFrom=r16.1.fFrom)&&(decide (r15.1.fTo=r16.1.fTo)&&(decide (r15.1.fID=r16.1.fID)&&(decide (r15.1.fVersion=r16.1.fVersion)&&(decide (r15.1.fMethod=r16.1.fMethod)&&(decide (r15.1.fErr=r16.1.fErr)&&decide (r15.1.fBody=r16.1.fBody)))))))))) 48 rfl (fun hg48=>?_) (fun hg48=>?_)
   · refine zd tok 4 ?_;simp only[go_sem,qe,qb,qa,qc,qd,qf,reduceIte,reduceCtorEq,zV,zo];refine zm ⟨rfl,_,_,⟨rfl,rfl⟩,.b hg48⟩
   refine zd tok 4 ?_;simp only[go_sem,qe,qb,qa,qc,qd,qf,reduceIte,reduceCtorEq,zV,zo];refine zm ⟨rfl,_,_,⟨rfl,rfl⟩,.b hg48⟩
 rintro _ _ ⟨rfl,rfl⟩;refine zd tok 1 ?_;simp only[go_sem,qe,qb,qa,qc,qd,qf,reduceIte,reduceCtorEq,zo];obtain⟨c17,hc17,h⟩:=bind_some h;refine zI 5 (fun L τ=>L=[(58,.bool c17)]∧τ=([.cells 0 [.int .i64 r16.2.2.fself,.ds true (qh wH r16.2.2.fnumbers) (qg r16.2.2.fnumbers) false,.ds true (qh zb r16.2.2.fschemas) (qg r16.2.2.fschemas) false,.str r16.2.2.fnewest.fName,.ds true (qh zf r16.2.2.fnewest.fMessages) (qg r16.2.2.fnewest.fMessages) false,.ds true (qh zj r16.2.2.fnewest.fEnums) (qg r16.2.2.fnewest.fEnums) false,.ds true (qh zr r16.2.2.fnewest.fMethods) (qg r16.2.2.fnewest.fMethods) false,.ds true (qh yb r16.2.2.frows) (qg r16.2.2.frows) false,.op 1 0 0,.os true 8 5 (r16.2.2.veffects) 0 (qg r16.2.2.feffects) false],.cells 0 [.int .i64 r16.2.2.fcache.fsize,.os true 2 2 (r16.2.2.fcache.vorder) 0 (qg r16.2.2.fcache.forder) false,.mp 3,.mp 4],.cells (r16.2.2.fcache.vorder) (qh zn r16.2.2.fcache.forder),.map (yK zy zL r16.2.2.fcache.freplies.l) (some (r16.2.2.fcache.freplies.bs,r16.2.2.fcache.freplies.ck)),.map (yK (AV.int .i64) (AV.int .i64) r16.2.2.fcache.flast.l) (some (r16.2.2.fcache.flast.bs,r16.2.2.fcache.flast.ck)),.cells (r16.2.2.veffects) (qh zk r16.2.2.feffects),.cells 0 [.int .i64 3,.int .i64 1,.int .i64 0,.int .i64 1,.int .i64 1,.str [99],.int .i64 0,.str [2,10]],.cells 0 (zo r15.1),.cells 0 (zo r16.1)]:zi)) ?_ ?_
 · refine yz (b:=(((r15.2.1&&r16.2.1)&&(decide (r15.1.fKind=r16.1.fKind)&&(decide (r15.1.fFrom=r16.1.fFrom)&&(decide (r15.1.fTo=r16.1.fTo)&&(decide (r15.1.fID=r16.1.fID)&&(decide (r15.1.fVersion=r16.1.fVersion)&&(decide (r15.1.fMethod=r16.1.fMethod)&&(decide (r15.1.fErr=r16.1.fErr)&&decide (r15.1.fBody=r16.1.fBody)))))))))&&(decide (r15.1.fBody=[2,14])))) 53 rfl (fun hg53=>?_) (fun hg53=>?_)
   · rw[if_pos hg53] at hc17;obtain⟨r18,hr18,hc17⟩:=bind_some hc17;refine zd tok 1 ?_;simp only[go_sem,qe,qb,qa,qc,qd,qf,reduceIte,reduceCtorEq,zo];refine clN rfl rfl rfl (@id (ACalls qi 48 [.op 0 0 0] [.cells 0 [.int .i64 r16.2.2.fself,.ds true (qh wH r16.2.2.fnumbers) (qg r16.2.2.fnumbers) false,.ds true (qh zb r16.2.2.fschemas) (qg r16.2.2.fschemas) false,.str r16.2.2.fnewest.fName,.ds true (qh zf r16.2.2.fnewest.fMessages) (qg r16.2.2.fnewest.fMessages) false,.ds true (qh zj r16.2.2.fnewest.fEnums) (qg r16.2.2.fnewest.fEnums) false,.ds true (qh zr r16.2.2.fnewest.fMethods) (qg r16.2.2.fnewest.fMethods) false,.ds true (qh yb r16.2.2.frows) (qg r16.2.2.frows) false,.op 1 0 0,.os true 8 5 (r16.2.2.veffects) 0 (qg r16.2.2.feffects) false],.cells 0 [.int .i64 r16.2.2.fcache.fsize,.os true 2 2 (r16.2.2.fcache.vorder) 0 (qg r16.2.2.fcache.forder) false,.mp 3,.mp 4],.cells (r16.2.2.fcache.vorder) (qh zn r16.2.2.fcache.forder),.map (yK zy zL r16.2.2.fcache.freplies.l) (some (r16.2.2.fcache.freplies.bs,r16.2.2.fcache.freplies.ck)),.map (yK (AV.int .i64) (AV.int .i64) r16.2.2.fcache.flast.l) (some (r16.2.2.fcache.flast.bs,r16.2.2.fcache.flast.ck)),.cells (r16.2.2.veffects) (qh zk r16.2.2.feffects),.cells 0 [.int .i64 3,.int .i64 1,.int .i64 0,.int .i64 1,.int .i64 1,.str [99],.int .i64 0,.str [2,10]],.cells 0 (zo r15.1),.cells 0 (zo r16.1)] (fun r' σ'=>r'=.ds true (qh zk r18) (qg r18) false∧σ'=[.cells 0 [.int .i64 r16.2.2.fself,.ds true (qh wH r16.2.2.fnumbers) (qg r16.2.2.fnumbers) false,.ds true (qh zb r16.2.2.fschemas) (qg r16.2.2.fschemas) false,.str r16.2.2.fnewest.fName,.ds true (qh zf r16.2.2.fnewest.fMessages) (qg r16.2.2.fnewest.fMessages) false,.ds true (qh zj r16.2.2.fnewest.fEnums) (qg r16.2.2.fnewest.fEnums) false,.ds true (qh zr r16.2.2.fnewest.fMethods) (qg r16.2.2.fnewest.fMethods) false,.ds true (qh yb r16.2.2.frows) (qg r16.2.2.frows) false,.op 1 0 0,.os true 8 5 (r16.2.2.veffects) 0 (qg r16.2.2.feffects) false],.cells 0 [.int .i64 r16.2.2.fcache.fsize,.os true 2 2 (r16.2.2.fcache.vorder) 0 (qg r16.2.2.fcache.forder) false,.mp 3,.mp 4],.cells (r16.2.2.fcache.vorder) (qh zn r16.2.2.fcache.forder),.map (yK zy zL r16.2.2.fcache.freplies.l) (some (r16.2.2.fcache.freplies.bs,r16.2.2.fcache.freplies.ck)),.map (yK (AV.int .i64) (AV.int .i64) r16.2.2.fcache.flast.l) (some (r16.2.2.fcache.flast.bs,r16.2.2.fcache.flast.ck)),.cells (r16.2.2.veffects) (qh zk r16.2.2.feffects),.cells 0 [.int .i64 3,.int .i64 1,.int .i64 0,.int .i64 1,.int .i64 1,.str [99],.int .i64 0,.str [2,10]],.cells 0 (zo r15.1),.cells 0 (zo r16.1)])) ((wb.ok hr18).ix [0,1,2,3,4,5])) ?_;refine zd tok 3 ?_;simp only[go_sem,qe,qb,qa,qc,qd,qf,reduceIte,reduceCtorEq,zV,zo];cases hc17;refine zm ⟨rfl,_,_,⟨rfl,rfl⟩,.b hg53⟩
   rw[Zg hg53] at hc17;refine zd tok 5 ?_;simp only[go_sem,qe,qb,qa,qc,qd,qf,reduceIte,reduceCtorEq,zV,zo];cases hc17;refine zm ⟨rfl,_,_,⟨rfl,rfl⟩,.b hg53⟩
 rintro _ _ ⟨rfl,rfl⟩;refine zd tok 1 ?_;simp only[go_sem,qe,qb,qa,qc,qd,qf,reduceIte,reduceCtorEq,zo];refine nkN hK ?_;cases h;exact rtA
end
section
set_option maxRecDepth 4000
set_option maxHeartbeats 1000000
open AM
def xT (a0:xM)(a1:List Int)(a2:List zP):Option (Int×xM):=
 (w6 a0.fself a1 a2).bind fun r2=>(if (!r2)=true then some (1,a0) else (Zl a0 a1 a2).bind fun r4=>some (0,r4))
theorem xT.ok {a0 a1 a2 r}(h:xT a0 a1 a2=some r):ACalls qi 52 [.op 0 0 0,.ds true (qh wH a1) (qg a1) false,.ds true (qh zb a2) (qg a2) false] [.cells 0 [.int .i64 a0.fself,.ds true (qh wH a0.fnumbers) (qg a0.fnumbers) false,.ds true (qh zb a0.fschemas) (qg a0.fschemas) false,.str a0.fnewest.fName,.ds true (qh zf a0.fnewest.fMessages) (qg a0.fnewest.fMessages) false,.ds true (qh zj a0.fnewest.fEnums) (qg a0.fnewest.fEnums) false,.ds true (qh zr a0.fnewest.fMethods) (qg a0.fnewest.fMethods) false,.ds true (qh yb a0.frows) (qg a0.frows) false,.op 1 0 0,.os true 8 5 (a0.veffects) 0 (qg a0.feffects) false],.cells 0 [.int .i64 a0.fcache.fsize,.os true 2 2 (a0.fcache.vorder) 0 (qg a0.fcache.forder) false,.mp 3,.mp 4],.cells (a0.fcache.vorder) (qh zn a0.fcache.forder),.map (yK zy zL a0.fcache.freplies.l) (some (a0.fcache.freplies.bs,a0.fcache.freplies.ck)),.map (yK (AV.int .i64) (AV.int .i64) a0.fcache.flast.l) (some (a0.fcache.flast.bs,a0.fcache.flast.ck)),.cells (a0.veffects) (qh zk a0.feffects)] (fun r' σ'=>r'=.int .i64 r.1∧σ'=[.cells 0 [.int .i64 r.2.fself,.ds true (qh wH r.2.fnumbers) (qg r.2.fnumbers) false,.ds true (qh zb r.2.fschemas) (qg r.2.fschemas) false,.str r.2.fnewest.fName,.ds true (qh zf r.2.fnewest.fMessages) (qg r.2.fnewest.fMessages) false,.ds true (qh zj r.2.fnewest.fEnums) (qg r.2.fnewest.fEnums) false,.ds true (qh zr r.2.fnewest.fMethods) (qg r.2.fnewest.fMethods) false,.ds true (qh yb r.2.frows) (qg r.2.frows) false,.op 1 0 0,.os true 8 5 (r.2.veffects) 0 (qg r.2.feffects) false],.cells 0 [.int .i64 r.2.fcache.fsize,.os true 2 2 (r.2.fcache.vorder) 0 (qg r.2.fcache.forder) false,.mp 3,.mp 4],.cells (r.2.fcache.vorder) (qh zn r.2.fcache.forder),.map (yK zy zL r.2.fcache.freplies.l) (some (r.2.fcache.freplies.bs,r.2.fcache.freplies.ck)),.map (yK (AV.int .i64) (AV.int .i64) r.2.fcache.flast.l) (some (r.2.fcache.flast.bs,r.2.fcache.flast.ck)),.cells (r.2.veffects) (qh zk r.2.feffects)]):=by
 refine Zy [0,1,2,3,4,5] (rs:=[.tmp 6]) tok Tryz.func52 rfl Tryz.ntmps52 rfl Tryz.call52 (by simp) rfl ?_;refine zC [(0,.op 0 0 0),(1,.ds true (qh wH a1) (qg a1) false),(2,.ds true (qh zb a2) (qg a2) false)] ⟨rfl,rfl,rfl,trivial⟩ ?_;unfold xT at h;refine rgN [0,1,2] ?_
 refine ze fun Z1 hZ1=>?_
 refine rc [0,1,2,14] fun K hK=>?_
 obtain⟨r2,hr2,h⟩:=bind_some h;refine rnN 6 ?_;refine clN rfl rfl rfl ((w6.ok hr2).c _) ?_;refine rnN 1 ?_;refine nkN hK ?_;refine zY (b:=(!r2)) rfl (fun hc3=>?_) (fun hc3=>?_)
 · rw[if_pos hc3] at h;refine rgN [6] ?_;apply yk;cases h;simp only[ZA,yT,yY,xR,exists_eq_left',go_sem,qe,qb,qa,qc,qd,qf,reduceIte,reduceCtorEq,za,zn,zb,zk,zh];refine⟨by decide,by simp,?_,?_⟩
   · first|rfl|(simp only[go_sem,qe,qb,qa,qc,qd,qf,reduceIte,reduceCtorEq,push_cast,if_true,qq,ql,qt,qr,qs,qv,qy,qo,qx,qw,qn,zx,za,zn,zb,zk,zh]<;>rfl)
   first|rfl|(simp only[go_sem,qe,qb,qa,qc,qd,qf,reduceIte,reduceCtorEq,push_cast,if_true,qq,ql,qt,qr,qs,qv,qy,qo,qx,qw,qn,zx,za,zn,zb,zk,zh]<;>rfl)
 rw[Zg hc3] at h;apply zp;apply hZ1
 refine rc [] fun K hK=>?_
 obtain⟨r4,hr4,h⟩:=bind_some h;refine rnN 3 ?_;refine clN rfl rfl rfl (@id (ACalls qi 85 [.op 0 0 0,.ds true (qh wH a1) (qg a1) false,.ds true (qh zb a2) (qg a2) false] [.cells 0 [.int .i64 a0.fself,.ds true (qh wH a0.fnumbers) (qg a0.fnumbers) false,.ds true (qh zb a0.fschemas) (qg a0.fschemas) false,.str a0.fnewest.fName,.ds true (qh zf a0.fnewest.fMessages) (qg a0.fnewest.fMessages) false,.ds true (qh zj a0.fnewest.fEnums) (qg a0.fnewest.fEnums) false,.ds true (qh zr a0.fnewest.fMethods) (qg a0.fnewest.fMethods) false,.ds true (qh yb a0.frows) (qg a0.frows) false,.op 1 0 0,.os true 8 5 (a0.veffects) 0 (qg a0.feffects) false],.cells 0 [.int .i64 a0.fcache.fsize,.os true 2 2 (a0.fcache.vorder) 0 (qg a0.fcache.forder) false,.mp 3,.mp 4],.cells (a0.fcache.vorder) (qh zn a0.fcache.forder),.map (yK zy zL a0.fcache.freplies.l) (some (a0.fcache.freplies.bs,a0.fcache.freplies.ck)),.map (yK (AV.int .i64) (AV.int .i64) a0.fcache.flast.l) (some (a0.fcache.flast.bs,a0.fcache.flast.ck)),.cells (a0.veffects) (qh zk a0.feffects)] (fun r' σ'=>r'=.tup []∧σ'=[.cells 0 [.int .i64 r4.fself,.ds true (qh wH r4.fnumbers) (qg r4.fnumbers) false,.ds true (qh zb r4.fschemas) (qg r4.fschemas) false,.str r4.fnewest.fName,.ds true (qh zf r4.fnewest.fMessages) (qg r4.fnewest.fMessages) false,.ds true (qh zj r4.fnewest.fEnums) (qg r4.fnewest.fEnums) false,.ds true (qh zr r4.fnewest.fMethods) (qg r4.fnewest.fMethods) false,.ds true (qh yb r4.frows) (qg r4.frows) false,.op 1 0 0,.os true 8 5 (r4.veffects) 0 (qg r4.feffects) false],.cells 0 [.int .i64 r4.fcache.fsize,.os true 2 2 (r4.fcache.vorder) 0 (qg r4.fcache.forder) false,.mp 3,.mp 4],.cells (r4.fcache.vorder) (qh zn r4.fcache.forder),.map (yK zy zL r4.fcache.freplies.l) (some (r4.fcache.freplies.bs,r4.fcache.freplies.ck)),.map (yK (AV.int .i64) (AV.int .i64) r4.fcache.flast.l) (some (r4.fcache.flast.bs,r4.fcache.flast.ck)),.cells (r4.veffects) (qh zk r4.feffects)])) ((Zl.ok hr4).ix [0,1,2,3,4,5])) ?_;refine nkN hK ?_;refine rgN [6] ?_;apply yk;cases h;simp only[ZA,yT,yY,xR,exists_eq_left',go_sem,qe,qb,qa,qc,qd,qf,reduceIte,reduceCtorEq,za,zn,zb,zk,zh];refine⟨by decide,by simp,?_,?_⟩
 · first|rfl|(simp only[go_sem,qe,qb,qa,qc,qd,qf,reduceIte,reduceCtorEq,push_cast,if_true,qq,ql,qt,qr,qs,qv,qy,qo,qx,qw,qn,zx,za,zn,zb,zk,zh]<;>rfl)
 first|rfl|(simp only[go_sem,qe,qb,qa,qc,qd,qf,reduceIte,reduceCtorEq,push_cast,if_true,qq,ql,qt,qr,qs,qv,qy,qo,qx,qw,qn,zx,za,zn,zb,zk,zh]<;>rfl)
def law24_ServerDeploys (a0:Int)(a1:Int):Option Bool:=
 bnd (wS 1) fun r1=>bnd (wS 2) fun r2=>bnd (w5 0) fun r3=>bnd (w5 a0) fun r4=>(ZJ 0 [1] [r1] r2 [(⟨[99],r3,r4⟩:GRow)] 4).bind fun r5=>(match r5.1 with|.none=>(if r5.2=0 then (Zb a1 1000).bind fun r11=>none else some false)|.some y6=>(if r5.2=0 then (Zb a1 1000).bind fun r16=>(yQ y6 (⟨3,1,0,r16,1,[99],0,[]⟩:xo)).bind fun r17=>bnd (wS 1) fun r18=>bnd (wS 2) fun r19=>(xT r17.2.2 [1,2] [r18,r19]).bind fun r20=>(xT r20.2 ([]:List Int) ([]:List zP)).bind fun r21=>(yQ r21.2 (⟨3,1,0,r16,1,[99],0,[]⟩:xo)).bind fun r22=>(yQ r22.2.2 (⟨3,1,0,IntKind.i64.wrap (r16+1),2,[99],0,[]⟩:xo)).bind fun r23=>bnd (w5 a0) fun r24=>(ZL r24).bind fun r25=>(if ((((((r17.2.1&&r22.2.1)&&r23.2.1)&&(decide (r20.1=0)))&&(decide (r21.1=1)))&&(decide (r17.1.fKind=r22.1.fKind)&&(decide (r17.1.fFrom=r22.1.fFrom)&&(decide (r17.1.fTo=r22.1.fTo)&&(decide (r17.1.fID=r22.1.fID)&&(decide (r17.1.fVersion=r22.1.fVersion)&&(decide (r17.1.fMethod=r22.1.fMethod)&&(decide (r17.1.fErr=r22.1.fErr)&&decide (r17.1.fBody=r22.1.fBody)))))))))&&(decide (r23.1.fBody=r25.1)))=true then (wb r23.2.2).bind fun r27=>some (decide ((qg r27:Int)=2)) else some false).bind fun c27=>(if c27=true then (Xm).bind fun r29=>some r29 else some false).bind fun c29=>some c29 else some false))
theorem law24_ServerDeploys.ok {a0 a1 r}(h:law24_ServerDeploys a0 a1=some r):ACalls qi 14 [.int .i64 a0,.int .i64 a1] [] (fun r' _=>r'=.bool r):=by
 refine zw (rs:=[.tmp 4]) tok Tryz.func14 rfl Tryz.ntmps14 rfl Tryz.call14 (by simp) ?_;refine zC [(0,.int .i64 a0),(1,.int .i64 a1)] ⟨rfl,rfl,trivial⟩ ?_;unfold law24_ServerDeploys at h;refine rgN [0,1] ?_
 refine rc [0,1,5,6] fun K hK=>?_
 obtain⟨r1,hr1,h⟩:=yi h;refine zd tok 1 ?_;simp only[go_sem,qe,qb,qa,qc,qd,qf,reduceIte,reduceCtorEq,zU,yA,qY,qN,qW,true_and,q1];refine clN rfl rfl rfl ((wS.ok hr1).c _) ?_;obtain⟨r2,hr2,h⟩:=yi h;refine zd tok 1 ?_;simp only[go_sem,qe,qb,qa,qc,qd,qf,reduceIte,reduceCtorEq,zU,yA,qY,qN,qW,true_and,q1,zb];refine clN rfl rfl rfl ((wS.ok hr2).c _) ?_;obtain⟨r3,hr3,h⟩:=yi h;refine clN rfl rfl rfl ((w5.ok hr3).c _) ?_;obtain⟨r4,hr4,h⟩:=yi h;refine zd tok 1 ?_;simp only[go_sem,qe,qb,qa,qc,qd,qf,reduceIte,reduceCtorEq,zb];refine clN rfl rfl rfl ((w5.ok hr4).c _) ?_;obtain⟨r5,hr5,h⟩:=bind_some h;refine zd tok 2 ?_;simp only[go_sem,qe,qb,qa,qc,qd,qf,reduceIte,reduceCtorEq,zU,yA,qY,qN,qW,true_and,q1,za,yb,zb,zh];refine X5 (L:=[(0,.int .i64 a0),(1,.int .i64 a1),(20,.ds true (qh wH [1]) (qg [1]) false),(22,.ds true (qh zb [r1]) (qg [r1]) false),(23,.agg (zb r2)),(28,.ds true (qh yb [(⟨[99],r3,r4⟩:GRow)]) (qg [(⟨[99],r3,r4⟩:GRow)]) false)]) (τ:=[]) (.t [] false) ?_;refine clN rfl rfl rfl (ZJ.at hr5 _) ?_;refine zd tok 5 ?_;simp only[go_sem,qe,qb,qa,qc,qd,qf,reduceIte,reduceCtorEq,za,yb,zb,zh];refine nkN hK ?_
 generalize hz6:r5.1=z6 at h ⊢
 rcases z6 with _|y6
 · try dsimp only at h
   simp only[XC,XB,wQ];refine awp_eqS (τ:=[]) (by first|rfl|(simp only[qt,qr,qB,qE,qF,renO_mapE,renO_cells,vbT,AV.ren,vb9,XL,qc]<;>first|rfl|(and_intros<;>rfl))) ?_
   refine ze fun Z7 hZ7=>?_
   refine rg tok [0,1,5,33] fun K hK=>?_
   simp only[go_sem,qe,qb,qa,qc,qd,qf,reduceIte,reduceCtorEq,zV];apply hK
   refine yn rfl (fun hc8=>?_) (fun hc8=>?_)
   · rw[if_neg hc8] at h;have t9:=eq_false hc8
     refine rg tok [4] fun K hK=>?_
     simp only[go_sem,qe,qb,qa,qc,qd,qf,reduceIte,reduceCtorEq,t9];apply hK
     cases h;exact rtA
   rw[if_pos hc8] at h;have t10:=eq_true hc8;apply zp;apply hZ7
   refine rc [0,5,7] fun K hK=>?_
   obtain⟨r11,hr11,h⟩:=bind_some h;refine zd tok 1 ?_;simp only[go_sem,qe,qb,qa,qc,qd,qf,reduceIte,reduceCtorEq,t10];refine clN rfl rfl rfl ((Zb.ok hr11).c _) ?_;refine zd tok 1 ?_;simp only[go_sem,qe,qb,qa,qc,qd,qf,reduceIte,reduceCtorEq,t10];refine nkN hK ?_
   refine rg tok [0,5,7,8] fun K hK=>?_
   simp only[go_sem,qe,qb,qa,qc,qd,qf,reduceIte,reduceCtorEq,zo,t10];apply hK
   cases h
 try dsimp only at h
 simp only[XC,XB,wQ];refine awp_eqS (τ:=[.cells 0 [.int .i64 y6.fself,.ds true (qh wH y6.fnumbers) (qg y6.fnumbers) false,.ds true (qh zb y6.fschemas) (qg y6.fschemas) false,.str y6.fnewest.fName,.ds true (qh zf y6.fnewest.fMessages) (qg y6.fnewest.fMessages) false,.ds true (qh zj y6.fnewest.fEnums) (qg y6.fnewest.fEnums) false,.ds true (qh zr y6.fnewest.fMethods) (qg y6.fnewest.fMethods) false,.ds true (qh yb y6.frows) (qg y6.frows) false,.op 1 0 0,.os true 8 5 (y6.veffects) 0 (qg y6.feffects) false],.cells 0 [.int .i64 y6.fcache.fsize,.os true 2 2 (y6.fcache.vorder) 0 (qg y6.fcache.forder) false,.mp 3,.mp 4],.cells (y6.fcache.vorder) (qh zn y6.fcache.forder),.map (yK zy zL y6.fcache.freplies.l) (some (y6.fcache.freplies.bs,y6.fcache.freplies.ck)),.map (yK (AV.int .i64) (AV.int .i64) y6.fcache.flast.l) (some (y6.fcache.flast.bs,y6.fcache.flast.ck)),.cells (y6.veffects) (qh zk y6.feffects)]) (by first|rfl|(simp only[qt,qr,qB,qE,qF,renO_mapE,renO_cells,vbT,AV.ren,vb9,XL,qc]<;>first|rfl|(and_intros<;>rfl))) ?_
 refine ze fun Z12 hZ12=>?_
 refine rg tok [0,1,5,33] fun K hK=>?_
 simp only[go_sem,qe,qb,qa,qc,qd,qf,reduceIte,reduceCtorEq,zV];apply hK
 refine yn rfl (fun hc13=>?_) (fun hc13=>?_)
 · rw[if_neg hc13] at h;have t14:=eq_false hc13
   refine rg tok [4] fun K hK=>?_
   simp only[go_sem,qe,qb,qa,qc,qd,qf,reduceIte,reduceCtorEq,t14];apply hK
   cases h;exact rtA
 rw[if_pos hc13] at h;have t15:=eq_true hc13;apply zp;apply hZ12
 refine rc [0,5,7] fun K hK=>?_
 obtain⟨r16,hr16,h⟩:=bind_some h;refine zd tok 1 ?_;simp only[go_sem,qe,qb,qa,qc,qd,qf,reduceIte,reduceCtorEq,t15];refine clN rfl rfl rfl ((Zb.ok hr16).c _) ?_;refine zd tok 1 ?_;simp only[go_sem,qe,qb,qa,qc,qd,qf,reduceIte,reduceCtorEq,t15];refine nkN hK ?_
 refine rg tok [0,5,7,8] fun K hK=>?_
 simp only[go_sem,qe,qb,qa,qc,qd,qf,reduceIte,reduceCtorEq,zo,t15];apply hK
 refine rc [0,5,7,8,9,10] fun K hK=>?_
 obtain⟨r17,hr17,h⟩:=bind_some h;refine zd tok 2 ?_;simp only[go_sem,qe,qb,qa,qc,qd,qf,reduceIte,reduceCtorEq,zo,t15];refine clN rfl rfl rfl (@id (ACalls qi 47 [.op 0 0 0,.agg [.int .i64 3,.int .i64 1,.int .i64 0,.int .i64 r16,.int .i64 1,.str [99],.int .i64 0,.str []]] [.cells 0 [.int .i64 y6.fself,.ds true (qh wH y6.fnumbers) (qg y6.fnumbers) false,.ds true (qh zb y6.fschemas) (qg y6.fschemas) false,.str y6.fnewest.fName,.ds true (qh zf y6.fnewest.fMessages) (qg y6.fnewest.fMessages) false,.ds true (qh zj y6.fnewest.fEnums) (qg y6.fnewest.fEnums) false,.ds true (qh zr y6.fnewest.fMethods) (qg y6.fnewest.fMethods) false,.ds true (qh yb y6.frows) (qg y6.frows) false,.op 1 0 0,.os true 8 5 (y6.veffects) 0 (qg y6.feffects) false],.cells 0 [.int .i64 y6.fcache.fsize,.os true 2 2 (y6.fcache.vorder) 0 (qg y6.fcache.forder) false,.mp 3,.mp 4],.cells (y6.fcache.vorder) (qh zn y6.fcache.forder),.map (yK zy zL y6.fcache.freplies.l) (some (y6.fcache.freplies.bs,y6.fcache.freplies.ck)),.map (yK (AV.int .i64) (AV.int .i64) y6.fcache.flast.l) (some (y6.fcache.flast.bs,y6.fcache.flast.ck)),.cells (y6.veffects) (qh zk y6.feffects),.cells 0 [.int .i64 3,.int .i64 1,.int .i64 0,.int .i64 r16,.int .i64 1,.str [99],.int .i64 0,.str []]] (fun r' σ'=>r'=.tup [.agg (zo r17.1),.bool r17.2.1]∧σ'=[.cells 0 [.int .i64 r17.2.2.fself,.ds true (qh wH r17.2.2.fnumbers) (qg r17.2.2.fnumbers) false,.ds true (qh zb r17.2.2.fschemas) (qg r17.2.2.fschemas) false,.str r17.2.2.fnewest.fName,.ds true (qh zf r17.2.2.fnewest.fMessages) (qg r17.2.2.fnewest.fMessages) false,.ds true (qh zj r17.2.2.fnewest.fEnums) (qg r17.2.2.fnewest.fEnums) false,.ds true (qh zr r17.2.2.fnewest.fMethods) (qg r17.2.2.fnewest.fMethods) false,.ds true (qh yb r17.2.2.frows) (qg r17.2.2.frows) false,.op 1 0 0,.os true 8 5 (r17.2.2.veffects) 0 (qg r17.2.2.feffects) false],.cells 0 [.int .i64 r17.2.2.fcache.fsize,.os true 2 2 (r17.2.2.fcache.vorder) 0 (qg r17.2.2.fcache.forder) false,.mp 3,.mp 4],.cells (r17.2.2.fcache.vorder) (qh zn r17.2.2.fcache.forder),.map (yK zy zL r17.2.2.fcache.freplies.l) (some (r17.2.2.fcache.freplies.bs,r17.2.2.fcache.freplies.ck)),.map (yK (AV.int .i64) (AV.int .i64) r17.2.2.fcache.flast.l) (some (r17.2.2.fcache.flast.bs,r17.2.2.fcache.flast.ck)),.cells (r17.2.2.veffects) (qh zk r17.2.2.feffects),.cells 0 [.int .i64 3,.int .i64 1,.int .i64 0,.int .i64 r16,.int .i64 1,.str [99],.int .i64 0,.str []]])) ((yQ.ok hr17).ix [0,1,2,3,4,5])) ?_;refine zd tok 6 ?_;simp only[go_sem,qe,qb,qa,qc,qd,qf,reduceIte,reduceCtorEq,zo,t15];refine nkN hK ?_
 refine rc [0,5,7,8,9,10,11] fun K hK=>?_
 obtain⟨r18,hr18,h⟩:=yi h;refine zd tok 2 ?_;simp only[go_sem,qe,qb,qa,qc,qd,qf,reduceIte,reduceCtorEq,zU,yA,qY,qN,qW,true_and,q1,t15];refine clN rfl rfl rfl ((wS.ok hr18).c _) ?_;obtain⟨r19,hr19,h⟩:=yi h;refine clN rfl rfl rfl ((wS.ok hr19).c _) ?_;refine zd tok 1 ?_;simp only[go_sem,qe,qb,qa,qc,qd,qf,reduceIte,reduceCtorEq,zU,yA,qY,qN,qW,true_and,q1,zb,t15];refine X5 (L:=[(0,.int .i64 a0),(5,.op 0 0 0),(7,.int .i64 r16),(8,.op 6 0 0),(9,.op 7 0 0),(10,.bool r17.2.1),(44,.op 0 0 0),(45,.ds true (qh wH [1,2]) (qg [1,2]) false),(48,.ds true (qh zb [r18,r19]) (qg [r18,r19]) false)]) (τ:=[.cells 0 [.int .i64 r17.2.2.fself,.ds true (qh wH r17.2.2.fnumbers) (qg r17.2.2.fnumbers) false,.ds true (qh zb r17.2.2.fschemas) (qg r17.2.2.fschemas) false,.str r17.2.2.fnewest.fName,.ds true (qh zf r17.2.2.fnewest.fMessages) (qg r17.2.2.fnewest.fMessages) false,.ds true (qh zj r17.2.2.fnewest.fEnums) (qg r17.2.2.fnewest.fEnums) false,.ds true (qh zr r17.2.2.fnewest.fMethods) (qg r17.2.2.fnewest.fMethods) false,.ds true (qh yb r17.2.2.frows) (qg r17.2.2.frows) false,.op 1 0 0,.os true 8 5 (r17.2.2.veffects) 0 (qg r17.2.2.feffects) false],.cells 0 [.int .i64 r17.2.2.fcache.fsize,.os true 2 2 (r17.2.2.fcache.vorder) 0 (qg r17.2.2.fcache.forder) false,.mp 3,.mp 4],.cells (r17.2.2.fcache.vorder) (qh zn r17.2.2.fcache.forder),.map (yK zy zL r17.2.2.fcache.freplies.l) (some (r17.2.2.fcache.freplies.bs,r17.2.2.fcache.freplies.ck)),.map (yK (AV.int .i64) (AV.int .i64) r17.2.2.fcache.flast.l) (some (r17.2.2.fcache.flast.bs,r17.2.2.fcache.flast.ck)),.cells (r17.2.2.veffects) (qh zk r17.2.2.feffects),.cells 0 [.int .i64 3,.int .i64 1,.int .i64 0,.int .i64 r16,.int .i64 1,.str [99],.int .i64 0,.str []],.cells 0 (zo r17.1)]) (.t [0,1,2,3,4,5,6,7] false) ?_;obtain⟨r20,hr20,h⟩:=bind_some h;refine clN rfl rfl rfl (@id (ACalls qi 52 [.op 0 0 0,.ds true (qh wH [1,2]) (qg [1,2]) false,.ds true (qh zb [r18,r19]) (qg [r18,r19]) false] [.cells 0 [.int .i64 r17.2.2.fself,.ds true (qh wH r17.2.2.fnumbers) (qg r17.2.2.fnumbers) false,.ds true (qh zb r17.2.2.fschemas) (qg r17.2.2.fschemas) false,.str r17.2.2.fnewest.fName,.ds true (qh zf r17.2.2.fnewest.fMessages) (qg r17.2.2.fnewest.fMessages) false,.ds true (qh zj r17.2.2.fnewest.fEnums) (qg r17.2.2.fnewest.fEnums) false,.ds true (qh zr r17.2.2.fnewest.fMethods) (qg r17.2.2.fnewest.fMethods) false,.ds true (qh yb r17.2.2.frows) (qg r17.2.2.frows) false,.op 1 0 0,.os true 8 5 (r17.2.2.veffects) 0 (qg r17.2.2.feffects) false],.cells 0 [.int .i64 r17.2.2.fcache.fsize,.os true 2 2 (r17.2.2.fcache.vorder) 0 (qg r17.2.2.fcache.forder) false,.mp 3,.mp 4],.cells (r17.2.2.fcache.vorder) (qh zn r17.2.2.fcache.forder),.map (yK zy zL r17.2.2.fcache.freplies.l) (some (r17.2.2.fcache.freplies.bs,r17.2.2.fcache.freplies.ck)),.map (yK (AV.int .i64) (AV.int .i64) r17.2.2.fcache.flast.l) (some (r17.2.2.fcache.flast.bs,r17.2.2.fcache.flast.ck)),.cells (r17.2.2.veffects) (qh zk r17.2.2.feffects),.cells 0 [.int .i64 3,.int .i64 1,.int .i64 0,.int .i64 r16,.int .i64 1,.str [99],.int .i64 0,.str []],.cells 0 (zo r17.1)] (fun r' σ'=>r'=.int .i64 r20.1∧σ'=[.cells 0 [.int .i64 r20.2.fself,.ds true (qh wH r20.2.fnumbers) (qg r20.2.fnumbers) false,.ds true (qh zb r20.2.fschemas) (qg r20.2.fschemas) false,.str r20.2.fnewest.fName,.ds true (qh zf r20.2.fnewest.fMessages) (qg r20.2.fnewest.fMessages) false,.ds true (qh zj r20.2.fnewest.fEnums) (qg r20.2.fnewest.fEnums) false,.ds true (qh zr r20.2.fnewest.fMethods) (qg r20.2.fnewest.fMethods) false,.ds true (qh yb r20.2.frows) (qg r20.2.frows) false,.op 1 0 0,.os true 8 5 (r20.2.veffects) 0 (qg r20.2.feffects) false],.cells 0 [.int .i64 r20.2.fcache.fsize,.os true 2 2 (r20.2.fcache.vorder) 0 (qg r20.2.fcache.forder) false,.mp 3,.mp 4],.cells (r20.2.fcache.vorder) (qh zn r20.2.fcache.forder),.map (yK zy zL r20.2.fcache.freplies.l) (some (r20.2.fcache.freplies.bs,r20.2.fcache.freplies.ck)),.map (yK (AV.int .i64) (AV.int .i64) r20.2.fcache.flast.l) (some (r20.2.fcache.flast.bs,r20.2.fcache.flast.ck)),.cells (r20.2.veffects) (qh zk r20.2.feffects),.cells 0 [.int .i64 3,.int .i64 1,.int .i64 0,.int .i64 r16,.int .i64 1,.str [99],.int .i64 0,.str []],.cells 0 (zo r17.1)])) ((xT.ok hr20).ix [0,1,2,3,4,5])) ?_;refine zd tok 1 ?_;simp only[go_sem,qe,qb,qa,qc,qd,qf,reduceIte,reduceCtorEq,zb,t15];refine nkN hK ?_
 refine rc [0,5,7,8,9,10,11,12] fun K hK=>?_
 obtain⟨r21,hr21,h⟩:=bind_some h;refine zd tok 1 ?_;simp only[go_sem,qe,qb,qa,qc,qd,qf,reduceIte,reduceCtorEq,t15];refine clN rfl rfl rfl (ACalls.loose (@id (ACalls qi 52 [.op 0 0 0,.ds true (qh wH ([]:List Int)) (qg ([]:List Int)) false,.ds true (qh zb ([]:List zP)) (qg ([]:List zP)) false] [.cells 0 [.int .i64 r20.2.fself,.ds true (qh wH r20.2.fnumbers) (qg r20.2.fnumbers) false,.ds true (qh zb r20.2.fschemas) (qg r20.2.fschemas) false,.str r20.2.fnewest.fName,.ds true (qh zf r20.2.fnewest.fMessages) (qg r20.2.fnewest.fMessages) false,.ds true (qh zj r20.2.fnewest.fEnums) (qg r20.2.fnewest.fEnums) false,.ds true (qh zr r20.2.fnewest.fMethods) (qg r20.2.fnewest.fMethods) false,.ds true (qh yb r20.2.frows) (qg r20.2.frows) false,.op 1 0 0,.os true 8 5 (r20.2.veffects) 0 (qg r20.2.feffects) false],.cells 0 [.int .i64 r20.2.fcache.fsize,.os true 2 2 (r20.2.fcache.vorder) 0 (qg r20.2.fcache.forder) false,.mp 3,.mp 4],.cells (r20.2.fcache.vorder) (qh zn r20.2.fcache.forder),.map (yK zy zL r20.2.fcache.freplies.l) (some (r20.2.fcache.freplies.bs,r20.2.fcache.freplies.ck)),.map (yK (AV.int .i64) (AV.int .i64) r20.2.fcache.flast.l) (some (r20.2.fcache.flast.bs,r20.2.fcache.flast.ck)),.cells (r20.2.veffects) (qh zk r20.2.feffects),.cells 0 [.int .i64 3,.int .i64 1,.int .i64 0,.int .i64 r16,.int .i64 1,.str [99],.int .i64 0,.str []],.cells 0 (zo r17.1)] (fun r' σ'=>r'=.int .i64 r21.1∧σ'=[.cells 0 [.int .i64 r21.2.fself,.ds true (qh wH r21.2.fnumbers) (qg r21.2.fnumbers) false,.ds true (qh zb r21.2.fschemas) (qg r21.2.fschemas) false,.str r21.2.fnewest.fName,.ds true (qh zf r21.2.fnewest.fMessages) (qg r21.2.fnewest.fMessages) false,.ds true (qh zj r21.2.fnewest.fEnums) (qg r21.2.fnewest.fEnums) false,.ds true (qh zr r21.2.fnewest.fMethods) (qg r21.2.fnewest.fMethods) false,.ds true (qh yb r21.2.frows) (qg r21.2.frows) false,.op 1 0 0,.os true 8 5 (r21.2.veffects) 0 (qg r21.2.feffects) false],.cells 0 [.int .i64 r21.2.fcache.fsize,.os true 2 2 (r21.2.fcache.vorder) 0 (qg r21.2.fcache.forder) false,.mp 3,.mp 4],.cells (r21.2.fcache.vorder) (qh zn r21.2.fcache.forder),.map (yK zy zL r21.2.fcache.freplies.l) (some (r21.2.fcache.freplies.bs,r21.2.fcache.freplies.ck)),.map (yK (AV.int .i64) (AV.int .i64) r21.2.fcache.flast.l) (some (r21.2.fcache.flast.bs,r21.2.fcache.flast.ck)),.cells (r21.2.veffects) (qh zk r21.2.feffects),.cells 0 [.int .i64 3,.int .i64 1,.int .i64 0,.int .i64 r16,.int .i64 1,.str [99],.int .i64 0,.str []],.cells 0 (zo r17.1)])) ((xT.ok hr21).ix [0,1,2,3,4,5]))) ?_;refine zd tok 1 ?_;simp only[go_sem,qe,qb,qa,qc,qd,qf,reduceIte,reduceCtorEq,t15];refine nkN hK ?_
 refine rc [0,5,7,8,9,10,11,12,13,14] fun K hK=>?_
 obtain⟨r22,hr22,h⟩:=bind_some h;refine zd tok 2 ?_;simp only[go_sem,qe,qb,qa,qc,qd,qf,reduceIte,reduceCtorEq,zo,t15];refine clN rfl rfl rfl (@id (ACalls qi 47 [.op 0 0 0,.agg [.int .i64 3,.int .i64 1,.int .i64 0,.int .i64 r16,.int .i64 1,.str [99],.int .i64 0,.str []]] [.cells 0 [.int .i64 r21.2.fself,.ds true (qh wH r21.2.fnumbers) (qg r21.2.fnumbers) false,.ds true (qh zb r21.2.fschemas) (qg r21.2.fschemas) false,.str r21.2.fnewest.fName,.ds true (qh zf r21.2.fnewest.fMessages) (qg r21.2.fnewest.fMessages) false,.ds true (qh zj r21.2.fnewest.fEnums) (qg r21.2.fnewest.fEnums) false,.ds true (qh zr r21.2.fnewest.fMethods) (qg r21.2.fnewest.fMethods) false,.ds true (qh yb r21.2.frows) (qg r21.2.frows) false,.op 1 0 0,.os true 8 5 (r21.2.veffects) 0 (qg r21.2.feffects) false],.cells 0 [.int .i64 r21.2.fcache.fsize,.os true 2 2 (r21.2.fcache.vorder) 0 (qg r21.2.fcache.forder) false,.mp 3,.mp 4],.cells (r21.2.fcache.vorder) (qh zn r21.2.fcache.forder),.map (yK zy zL r21.2.fcache.freplies.l) (some (r21.2.fcache.freplies.bs,r21.2.fcache.freplies.ck)),.map (yK (AV.int .i64) (AV.int .i64) r21.2.fcache.flast.l) (some (r21.2.fcache.flast.bs,r21.2.fcache.flast.ck)),.cells (r21.2.veffects) (qh zk r21.2.feffects),.cells 0 [.int .i64 3,.int .i64 1,.int .i64 0,.int .i64 r16,.int .i64 1,.str [99],.int .i64 0,.str []],.cells 0 (zo r17.1)] (fun r' σ'=>r'=.tup [.agg (zo r22.1),.bool r22.2.1]∧σ'=[.cells 0 [.int .i64 r22.2.2.fself,.ds true (qh wH r22.2.2.fnumbers) (qg r22.2.2.fnumbers) false,.ds true (qh zb r22.2.2.fschemas) (qg r22.2.2.fschemas) false,.str r22.2.2.fnewest.fName,.ds true (qh zf r22.2.2.fnewest.fMessages) (qg r22.2.2.fnewest.fMessages) false,.ds true (qh zj r22.2.2.fnewest.fEnums) (qg r22.2.2.fnewest.fEnums) false,.ds true (qh zr r22.2.2.fnewest.fMethods) (qg r22.2.2.fnewest.fMethods) false,.ds true (qh yb r22.2.2.frows) (qg r22.2.2.frows) false,.op 1 0 0,.os true 8 5 (r22.2.2.veffects) 0 (qg r22.2.2.feffects) false],.cells 0 [.int .i64 r22.2.2.fcache.fsize,.os true 2 2 (r22.2.2.fcache.vorder) 0 (qg r22.2.2.fcache.forder) false,.mp 3,.mp 4],.cells (r22.2.2.fcache.vorder) (qh zn r22.2.2.fcache.forder),.map (yK zy zL r22.2.2.fcache.freplies.l) (some (r22.2.2.fcache.freplies.bs,r22.2.2.fcache.freplies.ck)),.map (yK (AV.int .i64) (AV.int .i64) r22.2.2.fcache.flast.l) (some (r22.2.2.fcache.flast.bs,r22.2.2.fcache.flast.ck)),.cells (r22.2.2.veffects) (qh zk r22.2.2.feffects),.cells 0 [.int .i64 3,.int .i64 1,.int .i64 0,.int .i64 r16,.int .i64 1,.str [99],.int .i64 0,.str []],.cells 0 (zo r17.1)])) ((yQ.ok hr22).ix [0,1,2,3,4,5])) ?_;refine zd tok 6 ?_;simp only[go_sem,qe,qb,qa,qc,qd,qf,reduceIte,reduceCtorEq,zo,t15];refine nkN hK ?_
 refine rg tok [0,5,8,9,10,11,12,13,14] fun K hK=>?_
 simp only[go_sem,qe,qb,qa,qc,qd,qf,reduceIte,reduceCtorEq,zV,zo,t15];apply hK
 refine rg tok [0,5,8,9,10,11,12,13,14] fun K hK=>?_
 simp only[go_sem,qe,qb,qa,qc,qd,qf,reduceIte,reduceCtorEq,zo,t15];apply hK
 refine rc [0,5,9,10,11,12,13,14,15,16] fun K hK=>?_
 obtain⟨r23,hr23,h⟩:=bind_some h;refine zd tok 2 ?_;simp only[go_sem,qe,qb,qa,qc,qd,qf,reduceIte,reduceCtorEq,zo,t15];refine clN rfl rfl rfl (@id (ACalls qi 47 [.op 0 0 0,.agg [.int .i64 3,.int .i64 1,.int .i64 0,.int .i64 (IntKind.i64.wrap (r16+1)),.int .i64 2,.str [99],.int .i64 0,.str []]] [.cells 0 [.int .i64 r22.2.2.fself,.ds true (qh wH r22.2.2.fnumbers) (qg r22.2.2.fnumbers) false,.ds true (qh zb r22.2.2.fschemas) (qg r22.2.2.fschemas) false,.str r22.2.2.fnewest.fName,.ds true (qh zf r22.2.2.fnewest.fMessages) (qg r22.2.2.fnewest.fMessages) false,.ds true (qh zj r22.2.2.fnewest.fEnums) (qg r22.2.2.fnewest.fEnums) false,.ds true (qh zr r22.2.2.fnewest.fMethods) (qg r22.2.2.fnewest.fMethods) false,.ds true (qh yb r22.2.2.frows) (qg r22.2.2.frows) false,.op 1 0 0,.os true 8 5 (r22.2.2.veffects) 0 (qg r22.2.2.feffects) false],.cells 0 [.int .i64 r22.2.2.fcache.fsize,.os true 2 2 (r22.2.2.fcache.vorder) 0 (qg r22.2.2.fcache.forder) false,.mp 3,.mp 4],.cells (r22.2.2.fcache.vorder) (qh zn r22.2.2.fcache.forder),.map (yK zy zL r22.2.2.fcache.freplies.l) (some (r22.2.2.fcache.freplies.bs,r22.2.2.fcache.freplies.ck)),.map (yK (AV.int .i64) (AV.int .i64) r22.2.2.fcache.flast.l) (some (r22.2.2.fcache.flast.bs,r22.2.2.fcache.flast.ck)),.cells (r22.2.2.veffects) (qh zk r22.2.2.feffects),.cells 0 [.int .i64 3,.int .i64 1,.int .i64 0,.int .i64 (IntKind.i64.wrap (r16+1)),.int .i64 2,.str [99],.int .i64 0,.str []],.cells 0 (zo r17.1),.cells 0 (zo r22.1)] (fun r' σ'=>r'=.tup [.agg (zo r23.1),.bool r23.2.1]∧σ'=[.cells 0 [.int .i64 r23.2.2.fself,.ds true (qh wH r23.2.2.fnumbers) (qg r23.2.2.fnumbers) false,.ds true (qh zb r23.2.2.fschemas) (qg r23.2.2.fschemas) false,.str r23.2.2.fnewest.fName,.ds true (qh zf r23.2.2.fnewest.fMessages) (qg r23.2.2.fnewest.fMessages) false,.ds true (qh zj r23.2.2.fnewest.fEnums) (qg r23.2.2.fnewest.fEnums) false,.ds true (qh zr r23.2.2.fnewest.fMethods) (qg r23.2.2.fnewest.fMethods) false,.ds true (qh yb r23.2.2.frows) (qg r23.2.2.frows) false,.op 1 0 0,.os true 8 5 (r23.2.2.veffects) 0 (qg r23.2.2.feffects) false],.cells 0 [.int .i64 r23.2.2.fcache.fsize,.os true 2 2 (r23.2.2.fcache.vorder) 0 (qg r23.2.2.fcache.forder) false,.mp 3,.mp 4],.cells (r23.2.2.fcache.vorder) (qh zn r23.2.2.fcache.forder),.map (yK zy zL r23.2.2.fcache.freplies.l) (some (r23.2.2.fcache.freplies.bs,r23.2.2.fcache.freplies.ck)),.map (yK (AV.int .i64) (AV.int .i64) r23.2.2.fcache.flast.l) (some (r23.2.2.fcache.flast.bs,r23.2.2.fcache.flast.ck)),.cells (r23.2.2.veffects) (qh zk r23.2.2.feffects),.cells 0 [.int .i64 3,.int .i64 1,.int .i64 0,.int .i64 (IntKind.i64.wrap (r16+1)),.int .i64 2,.str [99],.int .i64 0,.str []],.cells 0 (zo r17.1),.cells 0 (zo r22.1)])) ((yQ.ok hr23).ix [0,1,2,3,4,5])) ?_;refine zd tok 6 ?_;simp only[go_sem,qe,qb,qa,qc,qd,qf,reduceIte,reduceCtorEq,zo,t15];refine nkN hK ?_
 refine rc [5,9,10,11,12,13,14,15,16,17] fun K hK=>?_
 obtain⟨r24,hr24,h⟩:=yi h;refine zd tok 1 ?_;simp only[go_sem,qe,qb,qa,qc,qd,qf,reduceIte,reduceCtorEq,t15];refine clN rfl rfl rfl ((w5.ok hr24).c _) ?_;obtain⟨r25,hr25,h⟩:=bind_some h;refine clN rfl rfl rfl ((ZL.ok hr25).c _) ?_;refine zd tok 5 ?_;simp only[go_sem,qe,qb,qa,qc,qd,qf,reduceIte,reduceCtorEq,t15];refine nkN hK ?_
 refine rc [4] fun K hK=>?_
 refine zd tok 2 ?_;simp only[go_sem,qe,qb,qa,qc,qd,qf,reduceIte,reduceCtorEq,t15];refine zI 2 (fun L τ=>L=[(5,.op 0 0 0),(9,.op 7 0 0),(11,.int .i64 r20.1),(12,.int .i64 r21.1),(13,.op 8 0 0),(15,.op 9 0 0),(16,.bool r23.2.1),(17,.ds true (qh Zh r25.1) (qg r25.1) false),(77,.bool (r17.2.1&&r22.2.1))]∧τ=([.cells 0 [.int .i64 r23.2.2.fself,.ds true (qh wH r23.2.2.fnumbers) (qg r23.2.2.fnumbers) false,.ds true (qh zb r23.2.2.fschemas) (qg r23.2.2.fschemas) false,.str r23.2.2.fnewest.fName,.ds true (qh zf r23.2.2.fnewest.fMessages) (qg r23.2.2.fnewest.fMessages) false,.ds true (qh zj r23.2.2.fnewest.fEnums) (qg r23.2.2.fnewest.fEnums) false,.ds true (qh zr r23.2.2.fnewest.fMethods) (qg r23.2.2.fnewest.fMethods) false,.ds true (qh yb r23.2.2.frows) (qg r23.2.2.frows) false,.op 1 0 0,.os true 8 5 (r23.2.2.veffects) 0 (qg r23.2.2.feffects) false],.cells 0 [.int .i64 r23.2.2.fcache.fsize,.os true 2 2 (r23.2.2.fcache.vorder) 0 (qg r23.2.2.fcache.forder) false,.mp 3,.mp 4],.cells (r23.2.2.fcache.vorder) (qh zn r23.2.2.fcache.forder),.map (yK zy zL r23.2.2.fcache.freplies.l) (some (r23.2.2.fcache.freplies.bs,r23.2.2.fcache.freplies.ck)),.map (yK (AV.int .i64) (AV.int .i64) r23.2.2.fcache.flast.l) (some (r23.2.2.fcache.flast.bs,r23.2.2.fcache.flast.ck)),.cells (r23.2.2.veffects) (qh zk r23.2.2.feffects),.cells 0 [.int .i64 3,.int .i64 1,.int .i64 0,.int .i64 (IntKind.i64.wrap (r16+1)),.int .i64 2,.str [99],.int .i64 0,.str []],.cells 0 (zo r17.1),.cells 0 (zo r22.1),.cells 0 (zo r23.1)]:zi)) ?_ ?_
 · refine yz (b:=r17.2.1) 75 rfl (fun hg75=>?_) (fun hg75=>?_)
   · refine zd tok 2 ?_;simp only[go_sem,qe,qb,qa,qc,qd,qf,reduceIte,reduceCtorEq,t15];refine zm ⟨rfl,_,_,⟨rfl,rfl⟩,.b hg75⟩
   refine zd tok 2 ?_;simp only[go_sem,qe,qb,qa,qc,qd,qf,reduceIte,reduceCtorEq,t15];refine zm ⟨rfl,_,_,⟨rfl,rfl⟩,.b hg75⟩
 rintro _ _ ⟨rfl,rfl⟩;refine zd tok 1 ?_;simp only[go_sem,qe,qb,qa,qc,qd,qf,reduceIte,reduceCtorEq,t15];refine zI 2 (fun L τ=>L=[(5,.op 0 0 0),(9,.op 7 0 0),(11,.int .i64 r20.1),(12,.int .i64 r21.1),(13,.op 8 0 0),(15,.op 9 0 0),(17,.ds true (qh Zh r25.1) (qg r25.1) false),(80,.bool ((r17.2.1&&r22.2.1)&&r23.2.1))]∧τ=([.cells 0 [.int .i64 r23.2.2.fself,.ds true (qh wH r23.2.2.fnumbers) (qg r23.2.2.fnumbers) false,.ds true (qh zb r23.2.2.fschemas) (qg r23.2.2.fschemas) false,.str r23.2.2.fnewest.fName,.ds true (qh zf r23.2.2.fnewest.fMessages) (qg r23.2.2.fnewest.fMessages) false,.ds true (qh zj r23.2.2.fnewest.fEnums) (qg r23.2.2.fnewest.fEnums) false,.ds true (qh zr r23.2.2.fnewest.fMethods) (qg r23.2.2.fnewest.fMethods) false,.ds true (qh yb r23.2.2.frows) (qg r23.2.2.frows) false,.op 1 0 0,.os true 8 5 (r23.2.2.veffects) 0 (qg r23.2.2.feffects) false],.cells 0 [.int .i64 r23.2.2.fcache.fsize,.os true 2 2 (r23.2.2.fcache.vorder) 0 (qg r23.2.2.fcache.forder) false,.mp 3,.mp 4],.cells (r23.2.2.fcache.vorder) (qh zn r23.2.2.fcache.forder),.map (yK zy zL r23.2.2.fcache.freplies.l) (some (r23.2.2.fcache.freplies.bs,r23.2.2.fcache.freplies.ck)),.map (yK (AV.int .i64) (AV.int .i64) r23.2.2.fcache.flast.l) (some (r23.2.2.fcache.flast.bs,r23.2.2.fcache.flast.ck)),.cells (r23.2.2.veffects) (qh zk r23.2.2.feffects),.cells 0 [.int .i64 3,.int .i64 1,.int .i64 0,.int .i64 (IntKind.i64.wrap (r16+1)),.int .i64 2,.str [99],.int .i64 0,.str []],.cells 0 (zo r17.1),.cells 0 (zo r22.1),.cells 0 (zo r23.1)]:zi)) ?_ ?_
 · refine yz (b:=(r17.2.1&&r22.2.1)) 78 rfl (fun hg78=>?_) (fun hg78=>?_)
   · refine zd tok 2 ?_;simp only[go_sem,qe,qb,qa,qc,qd,qf,reduceIte,reduceCtorEq,t15];refine zm ⟨rfl,_,_,⟨rfl,rfl⟩,.b hg78⟩
   refine zd tok 2 ?_;simp only[go_sem,qe,qb,qa,qc,qd,qf,reduceIte,reduceCtorEq,t15];refine zm ⟨rfl,_,_,⟨rfl,rfl⟩,.b hg78⟩
 rintro _ _ ⟨rfl,rfl⟩;refine zd tok 1 ?_;simp only[go_sem,qe,qb,qa,qc,qd,qf,reduceIte,reduceCtorEq,t15];refine zI 3 (fun L τ=>L=[(5,.op 0 0 0),(9,.op 7 0 0),(12,.int .i64 r21.1),(13,.op 8 0 0),(15,.op 9 0 0),(17,.ds true (qh Zh r25.1) (qg r25.1) false),(84,.bool (((r17.2.1&&r22.2.1)&&r23.2.1)&&(decide (r20.1=0))))]∧τ=([.cells 0 [.int .i64 r23.2.2.fself,.ds true (qh wH r23.2.2.fnumbers) (qg r23.2.2.fnumbers) false,.ds true (qh zb r23.2.2.fschemas) (qg r23.2.2.fschemas) false,.str r23.2.2.fnewest.fName,.ds true (qh zf r23.2.2.fnewest.fMessages) (qg r23.2.2.fnewest.fMessages) false,.ds true (qh zj r23.2.2.fnewest.fEnums) (qg r23.2.2.fnewest.fEnums) false,.ds true (qh zr r23.2.2.fnewest.fMethods) (qg r23.2.2.fnewest.fMethods) false,.ds true (qh yb r23.2.2.frows) (qg r23.2.2.frows) false,.op 1 0 0,.os true 8 5 (r23.2.2.veffects) 0 (qg r23.2.2.feffects) false],.cells 0 [.int .i64 r23.2.2.fcache.fsize,.os true 2 2 (r23.2.2.fcache.vorder) 0 (qg r23.2.2.fcache.forder) false,.mp 3,.mp 4],.cells (r23.2.2.fcache.vorder) (qh zn r23.2.2.fcache.forder),.map (yK zy zL r23.2.2.fcache.freplies.l) (some (r23.2.2.fcache.freplies.bs,r23.2.2.fcache.freplies.ck)),.map (yK (AV.int .i64) (AV.int .i64) r23.2.2.fcache.flast.l) (some (r23.2.2.fcache.flast.bs,r23.2.2.fcache.flast.ck)),.cells (r23.2.2.veffects) (qh zk r23.2.2.feffects),.cells 0 [.int .i64 3,.int .i64 1,.int .i64 0,.int .i64 (IntKind.i64.wrap (r16+1)),.int .i64 2,.str [99],.int .i64 0,.str []],.cells 0 (zo r17.1),.cells 0 (zo r22.1),.cells 0 (zo r23.1)]:zi)) ?_ ?_
 · refine yz (b:=((r17.2.1&&r22.2.1)&&r23.2.1)) 81 rfl (fun hg81=>?_) (fun hg81=>?_)
   · refine zd tok 3 ?_;simp only[go_sem,qe,qb,qa,qc,qd,qf,reduceIte,reduceCtorEq,zV,t15];refine zm ⟨rfl,_,_,⟨rfl,rfl⟩,.b hg81⟩
   refine zd tok 3 ?_;simp only[go_sem,qe,qb,qa,qc,qd,qf,reduceIte,reduceCtorEq,zV,t15];refine zm ⟨rfl,_,_,⟨rfl,rfl⟩,.b hg81⟩
 rintro _ _ ⟨rfl,rfl⟩;refine zd tok 1 ?_;simp only[go_sem,qe,qb,qa,qc,qd,qf,reduceIte,reduceCtorEq,t15];refine zI 3 (fun L τ=>L=[(5,.op 0 0 0),(9,.op 7 0 0),(13,.op 8 0 0),(15,.op 9 0 0),(17,.ds true (qh Zh r25.1) (qg r25.1) false),(88,.bool ((((r17.2.1&&r22.2.1)&&r23.2.1)&&(decide (r20.1=0)))&&(decide (r21.1=1))))]∧τ=([.cells 0 [.int .i64 r23.2.2.fself,.ds true (qh wH r23.2.2.fnumbers) (qg r23.2.2.fnumbers) false,.ds true (qh zb r23.2.2.fschemas) (qg r23.2.2.fschemas) false,.str r23.2.2.fnewest.fName,.ds true (qh zf r23.2.2.fnewest.fMessages) (qg r23.2.2.fnewest.fMessages) false,.ds true (qh zj r23.2.2.fnewest.fEnums) (qg r23.2.2.fnewest.fEnums) false,.ds true (qh zr r23.2.2.fnewest.fMethods) (qg r23.2.2.fnewest.fMethods) false,.ds true (qh yb r23.2.2.frows) (qg r23.2.2.frows) false,.op 1 0 0,.os true 8 5 (r23.2.2.veffects) 0 (qg r23.2.2.feffects) false],.cells 0 [.int .i64 r23.2.2.fcache.fsize,.os true 2 2 (r23.2.2.fcache.vorder) 0 (qg r23.2.2.fcache.forder) false,.mp 3,.mp 4],.cells (r23.2.2.fcache.vorder) (qh zn r23.2.2.fcache.forder),.map (yK zy zL r23.2.2.fcache.freplies.l) (some (r23.2.2.fcache.freplies.bs,r23.2.2.fcache.freplies.ck)),.map (yK (AV.int .i64) (AV.int .i64) r23.2.2.fcache.flast.l) (some (r23.2.2.fcache.flast.bs,r23.2.2.fcache.flast.ck)),.cells (r23.2.2.veffects) (qh zk r23.2.2.feffects),.cells 0 [.int .i64 3,.int .i64 1,.int .i64 0,.int .i64 (IntKind.i64.wrap (r16+1)),.int .i64 2,.str [99],.int .i64 0,.str []],.cells 0 (zo r17.1),.cells 0 (zo r22.1),.cells 0 (zo r23.1)]:zi)) ?_ ?_
 · refine yz (b:=(((r17.2.1&&r22.2.1)&&r23.2.1)&&(decide (r20.1=0)))) 85 rfl (fun hg85=>?_) (fun hg85=>?_)
   · refine zd tok 3 ?_;simp only[go_sem,qe,qb,qa,qc,qd,qf,reduceIte,reduceCtorEq,zV,t15];refine zm ⟨rfl,_,_,⟨rfl,rfl⟩,.b hg85⟩
   refine zd tok 3 ?_;simp only[go_sem,qe,qb,qa,qc,qd,qf,reduceIte,reduceCtorEq,zV,t15];refine zm ⟨rfl,_,_,⟨rfl,rfl⟩,.b hg85⟩
 rintro _ _ ⟨rfl,rfl⟩;refine zd tok 1 ?_;simp only[go_sem,qe,qb,qa,qc,qd,qf,reduceIte,reduceCtorEq,t15];refine zI 4 (fun L τ=>L=[(5,.op 0 0 0),(15,.op 9 0 0),(17,.ds true (qh Zh r25.1) (qg r25.1) false),(93,.bool (((((r17.2.1&&r22.2.1)&&r23.2.1)&&(decide (r20.1=0)))&&(decide (r21.1=1)))&&(decide (r17.1.fKind=r22.1.fKind)&&(decide (r17.1.fFrom=r22.1.fFrom)&&(decide (r17.1.fTo=r22.1.fTo)&&(decide (r17.1.fID=r22.1.fID)&&(decide (r17.1.fVersion=r22.1.fVersion)&&(decide (r17.1.fMethod=r22.1.fMethod)&&(decide (r17.1.fErr=r22.1.fErr)&&decide (r17.1.fBody=r22.1.fBody))))))))))]∧τ=([.cells 0 [.int .i64 r23.2.2.fself,.ds true (qh wH r23.2.2.fnumbers) (qg r23.2.2.fnumbers) false,.ds true (qh zb r23.2.2.fschemas) (qg r23.2.2.fschemas) false,.str r23.2.2.fnewest.fName,.ds true (qh zf r23.2.2.fnewest.fMessages) (qg r23.2.2.fnewest.fMessages) false,.ds true (qh zj r23.2.2.fnewest.fEnums) (qg r23.2.2.fnewest.fEnums) false,.ds true (qh zr r23.2.2.fnewest.fMethods) (qg r23.2.2.fnewest.fMethods) false,.ds true (qh yb r23.2.2.frows) (qg r23.2.2.frows) false,.op 1 0 0,.os true 8 5 (r23.2.2.veffects) 0 (qg r23.2.2.feffects) false],.cells 0 [.int .i64 r23.2.2.fcache.fsize,.os true 2 2 (r23.2.2.fcache.vorder) 0 (qg r23.2.2.fcache.forder) false,.mp 3,.mp 4],.cells (r23.2.2.fcache.vorder) (qh zn r23.2.2.fcache.forder),.map (yK zy zL r23.2.2.fcache.freplies.l) (some (r23.2.2.fcache.freplies.bs,r23.2.2.fcache.freplies.ck)),.map (yK (AV.int .i64) (AV.int .i64) r23.2.2.fcache.flast.l) (some (r23.2.2.fcache.flast.bs,r23.2.2.fcache.flast.ck)),.cells (r23.2.2.veffects) (qh zk r23.2.2.feffects),.cells 0 [.int .i64 3,.int .i64 1,.int .i64 0,.int .i64 (IntKind.i64.wrap (r16+1)),.int .i64 2,.str [99],.int .i64 0,.str []],.cells 0 (zo r17.1),.cells 0 (zo r22.1),.cells 0 (zo r23.1)]:zi)) ?_ ?_
 · refine yz (b:=((((r17.2.1&&r22.2.1)&&r23.2.1)&&(decide (r20.1=0)))&&(decide (r21.1=1)))) 89 rfl (fun hg89=>?_) (fun hg89=>?_)
   · refine zd tok 4 ?_;simp only[go_sem,qe,qb,qa,qc,qd,qf,reduceIte,reduceCtorEq,zV,zo,t15,evEqA,vak,ceq];refine zm ⟨rfl,_,_,⟨rfl,rfl⟩,.b hg89⟩
   refine zd tok 4 ?_;simp only[go_sem,qe,qb,qa,qc,qd,qf,reduceIte,reduceCtorEq,zV,zo,t15];refine zm ⟨rfl,_,_,⟨rfl,rfl⟩,.b hg89⟩
 rintro _ _ ⟨rfl,rfl⟩;refine zd tok 1 ?_;simp only[go_sem,qe,qb,qa,qc,qd,qf,reduceIte,reduceCtorEq,zo,t15];refine zI 6 (fun L τ=>L=[(5,.op 0 0 0),(100,.bool ((((((r17.2.1&&r22.2.1)&&r23.2.1)&&(decide (r20.1=0)))&&(decide (r21.1=1)))&&(decide (r17.1.fKind=r22.1.fKind)&&(decide (r17.1.fFrom=r22.1.fFrom)&&(decide (r17.1.fTo=r22.1.fTo)&&(decide (r17.1.fID=r22.1.fID)&&(decide (r17.1.fVersion=r22.1.fVersion)&&(decide (r17.1.fMethod=r22.1.fMethod)&&(decide (r17.1.fErr=r22.1.fErr)&&decide (r17.1.fBody=r22.1.fBody)))))))))&&(decide (r23.1.fBody=r25.1))))]∧τ=([.cells 0 [.int .i64 r23.2.2.fself,.ds true (qh wH r23.2.2.fnumbers) (qg r23.2.2.fnumbers) false,.ds true (qh zb r23.2.2.fschemas) (qg r23.2.2.fschemas) false,.str r23.2.2.fnewest.fName,.ds true (qh zf r23.2.2.fnewest.fMessages) (qg r23.2.2.fnewest.fMessages) false,.ds true (qh zj r23.2.2.fnewest.fEnums) (qg r23.2.2.fnewest.fEnums) false,.ds true (qh zr r23.2.2.fnewest.fMethods) (qg r23.2.2.fnewest.fMethods) false,.ds true (qh yb r23.2.2.frows) (qg r23.2.2.frows) false,.op 1 0 0,.os true 8 5 (r23.2.2.veffects) 0 (qg r23.2.2.feffects) false],.cells 0 [.int .i64 r23.2.2.fcache.fsize,.os true 2 2 (r23.2.2.fcache.vorder) 0 (qg r23.2.2.fcache.forder) false,.mp 3,.mp 4],.cells (r23.2.2.fcache.vorder) (qh zn r23.2.2.fcache.forder),.map (yK zy zL r23.2.2.fcache.freplies.l) (some (r23.2.2.fcache.freplies.bs,r23.2.2.fcache.freplies.ck)),.map (yK (AV.int .i64) (AV.int .i64) r23.2.2.fcache.flast.l) (some (r23.2.2.fcache.flast.bs,r23.2.2.fcache.flast.ck)),.cells (r23.2.2.veffects) (qh zk r23.2.2.feffects),.cells 0 [.int .i64 3,.int .i64 1,.int .i64 0,.int .i64 (IntKind.i64.wrap (r16+1)),.int .i64 2,.str [99],.int .i64 0,.str []],.cells 0 (zo r17.1),.cells 0 (zo r22.1),.cells 0 (zo r23.1)]:zi)) ?_ ?_
 · refine yz (b:=(((((r17.2.1&&r22.2.1)&&r23.2.1)&&(decide (r20.1=0)))&&(decide (r21.1=1)))&&(decide (r17.1.fKind=r22.1.fKind)&&(decide (r17.1.fFrom=r22.1.fFrom)&&(decide (r17.1.fTo=r22.1.fTo)&&(decide (r17.1.fID=r22.1.fID)&&(decide (r17.1.fVersion=r22.1.fVersion)&&(decide (r17.1.fMethod=r22.1.fMethod)&&(decide (r17.1.fErr=r22.1.fErr)&&decide (r17.1.fBody=r22.1.fBody)))))))))) 94 rfl (fun hg94=>?_) (fun hg94=>?_)
   · have f26:=vcl (T:=tab) (src:=48) (dst:=9) rfl rfl rfl rfl rfl rfl r25.1;refine zd tok 6 ?_;simp only[go_sem,qe,qb,qa,qc,qd,qf,reduceIte,reduceCtorEq,zV,zo,t15,f26];refine zm ⟨rfl,_,_,⟨rfl,rfl⟩,.b hg94⟩
   refine zd tok 6 ?_;simp only[go_sem,qe,qb,qa,qc,qd,qf,reduceIte,reduceCtorEq,zV,zo,t15];refine zm ⟨rfl,_,_,⟨rfl,rfl⟩,.b hg94⟩
 rintro _ _ ⟨rfl,rfl⟩;refine zd tok 1 ?_;simp only[go_sem,qe,qb,qa,qc,qd,qf,reduceIte,reduceCtorEq,zo,t15];obtain⟨c27,hc27,h⟩:=bind_some h;refine zI 5 (fun L τ=>L=[(106,.bool c27)]∧τ=([.cells 0 [.int .i64 r23.2.2.fself,.ds true (qh wH r23.2.2.fnumbers) (qg r23.2.2.fnumbers) false,.ds true (qh zb r23.2.2.fschemas) (qg r23.2.2.fschemas) false,.str r23.2.2.fnewest.fName,.ds true (qh zf r23.2.2.fnewest.fMessages) (qg r23.2.2.fnewest.fMessages) false,.ds true (qh zj r23.2.2.fnewest.fEnums) (qg r23.2.2.fnewest.fEnums) false,.ds true (qh zr r23.2.2.fnewest.fMethods) (qg r23.2.2.fnewest.fMethods) false,.ds true (qh yb r23.2.2.frows) (qg r23.2.2.frows) false,.op 1 0 0,.os true 8 5 (r23.2.2.veffects) 0 (qg r23.2.2.feffects) false],.cells 0 [.int .i64 r23.2.2.fcache.fsize,.os true 2 2 (r23.2.2.fcache.vorder) 0 (qg r23.2.2.fcache.forder) false,.mp 3,.mp 4],.cells (r23.2.2.fcache.vorder) (qh zn r23.2.2.fcache.forder),.map (yK zy zL r23.2.2.fcache.freplies.l) (some (r23.2.2.fcache.freplies.bs,r23.2.2.fcache.freplies.ck)),.map (yK (AV.int .i64) (AV.int .i64) r23.2.2.fcache.flast.l) (some (r23.2.2.fcache.flast.bs,r23.2.2.fcache.flast.ck)),.cells (r23.2.2.veffects) (qh zk r23.2.2.feffects),.cells 0 [.int .i64 3,.int .i64 1,.int .i64 0,.int .i64 (IntKind.i64.wrap (r16+1)),.int .i64 2,.str [99],.int .i64 0,.str []],.cells 0 (zo r17.1),.cells 0 (zo r22.1),.cells 0 (zo r23.1)]:zi)) ?_ ?_
 · refine yz (b:=((((((r17.2.1&&r22.2.1)&&r23.2.1)&&(decide (r20.1=0)))&&(decide (r21.1=1)))&&(decide (r17.1.fKind=r22.1.fKind)&&(decide (r17.1.fFrom=r22.1.fFrom)&&(decide (r17.1.fTo=r22.1.fTo)&&(decide (r17.1.fID=r22.1.fID)&&(decide (r17.1.fVersion=r22.1.fVersion)&&(decide (r17.1.fMethod=r22.1.fMethod)&&(decide (r17.1.fErr=r22.1.fErr)&&decide (r17.1.fBody=r22.1.fBody)))))))))&&(decide (r23.1.fBody=r25.1)))) 101 rfl (fun hg101=>?_) (fun hg101=>?_)
   · rw[if_pos hg101] at hc27;obtain⟨r28,hr28,hc27⟩:=bind_some hc27;refine zd tok 1 ?_;simp only[go_sem,qe,qb,qa,qc,qd,qf,reduceIte,reduceCtorEq,zo,t15];refine clN rfl rfl rfl (@id (ACalls qi 48 [.op 0 0 0] [.cells 0 [.int .i64 r23.2.2.fself,.ds true (qh wH r23.2.2.fnumbers) (qg r23.2.2.fnumbers) false,.ds true (qh zb r23.2.2.fschemas) (qg r23.2.2.fschemas) false,.str r23.2.2.fnewest.fName,.ds true (qh zf r23.2.2.fnewest.fMessages) (qg r23.2.2.fnewest.fMessages) false,.ds true (qh zj r23.2.2.fnewest.fEnums) (qg r23.2.2.fnewest.fEnums) false,.ds true (qh zr r23.2.2.fnewest.fMethods) (qg r23.2.2.fnewest.fMethods) false,.ds true (qh yb r23.2.2.frows) (qg r23.2.2.frows) false,.op 1 0 0,.os true 8 5 (r23.2.2.veffects) 0 (qg r23.2.2.feffects) false],.cells 0 [.int .i64 r23.2.2.fcache.fsize,.os true 2 2 (r23.2.2.fcache.vorder) 0 (qg r23.2.2.fcache.forder) false,.mp 3,.mp 4],.cells (r23.2.2.fcache.vorder) (qh zn r23.2.2.fcache.forder),.map (yK zy zL r23.2.2.fcache.freplies.l) (some (r23.2.2.fcache.freplies.bs,r23.2.2.fcache.freplies.ck)),.map (yK (AV.int .i64) (AV.int .i64) r23.2.2.fcache.flast.l) (some (r23.2.2.fcache.flast.bs,r23.2.2.fcache.flast.ck)),.cells (r23.2.2.veffects) (qh zk r23.2.2.feffects),.cells 0 [.int .i64 3,.int .i64 1,.int .i64 0,.int .i64 (IntKind.i64.wrap (r16+1)),.int .i64 2,.str [99],.int .i64 0,.str []],.cells 0 (zo r17.1),.cells 0 (zo r22.1),.cells 0 (zo r23.1)] (fun r' σ'=>r'=.ds true (qh zk r28) (qg r28) false∧σ'=[.cells 0 [.int .i64 r23.2.2.fself,.ds true (qh wH r23.2.2.fnumbers) (qg r23.2.2.fnumbers) false,.ds true (qh zb r23.2.2.fschemas) (qg r23.2.2.fschemas) false,.str r23.2.2.fnewest.fName,.ds true (qh zf r23.2.2.fnewest.fMessages) (qg r23.2.2.fnewest.fMessages) false,.ds true (qh zj r23.2.2.fnewest.fEnums) (qg r23.2.2.fnewest.fEnums) false,.ds true (qh zr r23.2.2.fnewest.fMethods) (qg r23.2.2.fnewest.fMethods) false,.ds true (qh yb r23.2.2.frows) (qg r23.2.2.frows) false,.op 1 0 0,.os true 8 5 (r23.2.2.veffects) 0 (qg r23.2.2.feffects) false],.cells 0 [.int .i64 r23.2.2.fcache.fsize,.os true 2 2 (r23.2.2.fcache.vorder) 0 (qg r23.2.2.fcache.forder) false,.mp 3,.mp 4],.cells (r23.2.2.fcache.vorder) (qh zn r23.2.2.fcache.forder),.map (yK zy zL r23.2.2.fcache.freplies.l) (some (r23.2.2.fcache.freplies.bs,r23.2.2.fcache.freplies.ck)),.map (yK (AV.int .i64) (AV.int .i64) r23.2.2.fcache.flast.l) (some (r23.2.2.fcache.flast.bs,r23.2.2.fcache.flast.ck)),.cells (r23.2.2.veffects) (qh zk r23.2.2.feffects),.cells 0 [.int .i64 3,.int .i64 1,.int .i64 0,.int .i64 (IntKind.i64.wrap (r16+1)),.int .i64 2,.str [99],.int .i64 0,.str []],.cells 0 (zo r17.1),.cells 0 (zo r22.1),.cells 0 (zo r23.1)])) ((wb.ok hr28).ix [0,1,2,3,4,5])) ?_;refine zd tok 3 ?_;simp only[go_sem,qe,qb,qa,qc,qd,qf,reduceIte,reduceCtorEq,zV,zo,t15];cases hc27;refine zm ⟨rfl,_,_,⟨rfl,rfl⟩,.b hg101⟩
   rw[Zg hg101] at hc27;refine zd tok 5 ?_;simp only[go_sem,qe,qb,qa,qc,qd,qf,reduceIte,reduceCtorEq,zV,zo,t15];cases hc27;refine zm ⟨rfl,_,_,⟨rfl,rfl⟩,.b hg101⟩
 rintro _ _ ⟨rfl,rfl⟩;refine zd tok 1 ?_;simp only[go_sem,qe,qb,qa,qc,qd,qf,reduceIte,reduceCtorEq,zo,t15];obtain⟨c29,hc29,h⟩:=bind_some h;refine zI 2 (fun L τ=>L=[(109,.bool c29)]∧τ=([.cells 0 [.int .i64 r23.2.2.fself,.ds true (qh wH r23.2.2.fnumbers) (qg r23.2.2.fnumbers) false,.ds true (qh zb r23.2.2.fschemas) (qg r23.2.2.fschemas) false,.str r23.2.2.fnewest.fName,.ds true (qh zf r23.2.2.fnewest.fMessages) (qg r23.2.2.fnewest.fMessages) false,.ds true (qh zj r23.2.2.fnewest.fEnums) (qg r23.2.2.fnewest.fEnums) false,.ds true (qh zr r23.2.2.fnewest.fMethods) (qg r23.2.2.fnewest.fMethods) false,.ds true (qh yb r23.2.2.frows) (qg r23.2.2.frows) false,.op 1 0 0,.os true 8 5 (r23.2.2.veffects) 0 (qg r23.2.2.feffects) false],.cells 0 [.int .i64 r23.2.2.fcache.fsize,.os true 2 2 (r23.2.2.fcache.vorder) 0 (qg r23.2.2.fcache.forder) false,.mp 3,.mp 4],.cells (r23.2.2.fcache.vorder) (qh zn r23.2.2.fcache.forder),.map (yK zy zL r23.2.2.fcache.freplies.l) (some (r23.2.2.fcache.freplies.bs,r23.2.2.fcache.freplies.ck)),.map (yK (AV.int .i64) (AV.int .i64) r23.2.2.fcache.flast.l) (some (r23.2.2.fcache.flast.bs,r23.2.2.fcache.flast.ck)),.cells (r23.2.2.veffects) (qh zk r23.2.2.feffects),.cells 0 [.int .i64 3,.int .i64 1,.int .i64 0,.int .i64 (IntKind.i64.wrap (r16+1)),.int .i64 2,.str [99],.int .i64 0,.str []],.cells 0 (zo r17.1),.cells 0 (zo r22.1),.cells 0 (zo r23.1)]:zi)) ?_ ?_
 · refine yz (b:=c27) 107 rfl (fun hg107=>?_) (fun hg107=>?_)
   · rw[if_pos hg107] at hc29;obtain⟨r30,hr30,hc29⟩:=bind_some hc29;refine clN rfl rfl rfl ((Xm.ok r30 hr30).c _) ?_;refine zd tok 1 ?_;simp only[go_sem,qe,qb,qa,qc,qd,qf,reduceIte,reduceCtorEq,zo,t15];cases hc29;refine zm ⟨rfl,_,_,⟨rfl,rfl⟩,.b hg107⟩
   rw[Zg hg107] at hc29;refine zd tok 2 ?_;simp only[go_sem,qe,qb,qa,qc,qd,qf,reduceIte,reduceCtorEq,zo,t15];cases hc29;refine zm ⟨rfl,_,_,⟨rfl,rfl⟩,.b hg107⟩
 rintro _ _ ⟨rfl,rfl⟩;refine zd tok 1 ?_;simp only[go_sem,qe,qb,qa,qc,qd,qf,reduceIte,reduceCtorEq,zo,t15];refine nkN hK ?_;cases h;exact rtA
end
section
set_option maxRecDepth 4000
open AM
def vb (n:Nat):List UInt8:=if h:n<128 then [ua n] else ua (n % 128+128)::vb (n / 128)
termination_by n
decreasing_by omega
theorem vb_lt {n:Nat}(h:n<128):vb n=[ua n]:=by rw[vb,dif_pos h]
theorem vb_ge {n:Nat}(h:¬ n<128):vb n=ua (n % 128+128)::vb (n / 128):=by rw[vb,dif_neg h]
theorem vb_pos (n:Nat):0<(vb n).length:=by
 by_cases h:n<128
 · rw[vb_lt h]; exact Nat.one_pos
 rw[vb_ge h,qp]; omega
theorem vb_len : ∀ (k n:Nat),n<2^(7*(k+1))→(vb n).length≤k+1
 |0,n,h=>by rw[vb_lt (by simpa using h)]; exact qI _
 |k+1,n,h=>by
  by_cases h1:n<128
  · rw[vb_lt h1,qp,qz]; omega
  rw[vb_ge h1,qp]
  have:=vb_len k (n / 128) (by
   have e:2^(7*(k+1+1))=128*2^(7*(k+1)):=by rw[show 7*(k+1+1)=7+7*(k+1) by omega,Nat.pow_add]
   rw[e] at h
   exact Nat.div_lt_of_lt_mul h)
  omega
theorem Y6 {n:Nat}(h:n<2^64):(vb n).length≤10:=vb_len 9 n (ug h (by decide))
theorem grd_t {p:Prop} [Decidable p](h:p):grd p=some ():=if_pos h
theorem ZD {n b:Nat}(h:n*b≤140737488355328):vai n b=some ():=if_pos h
theorem u64w {n:Nat}(h:n<2^64):IntKind.u64.wrap (n:Int)=(n:Int):=by rw[IntKind.wrap_u64]; omega
theorem u64i {x:Int}(h:0≤x)(h':x<18446744073709551616):IntKind.u64.wrap x=x:=by rw[IntKind.wrap_u64]; omega
theorem u8w (n:Nat):IntKind.u8.wrap (n:Int)=((n % 256:Nat):Int):=by
 simp only[IntKind.wrap,IntKind.bits,IntKind.signed,Bool.false_and]
 simp
theorem or128 : ∀ m:Fin 256,(qM 8 ((m.val:Nat):Int) ||| qM 8 128).toNat=m.val % 128+128:=by decide
theorem moreByte (n:Nat):ua (qQ (IntKind.u8.wrap ((ur (qM 8 (IntKind.u8.wrap (n:Int)) ||| qM 8 128):Nat):Int)))=ua (n % 128+128):=by
 have h:=or128 ⟨n % 256,Nat.mod_lt _ (by decide)⟩;simp only at h;rw[u8w n,h,u8w (n % 256 % 128+128),ul]
 congr 1
 have:=Nat.mod_mod_of_dvd n (show 128 ∣ 256 by decide)
 omega
theorem lastByte (n:Nat)(h:n<128):ua (qQ (IntKind.u8.wrap (n:Int)))=ua n:=by
 rw[u8w,ul]; congr 1; omega
theorem shr7 (n:Nat):Int.fdiv (n:Int) (2^(min (qQ 7) 64))=((n / 128:Nat):Int):=by
 rw[show ((2:Int)^(min (qQ 7) 64))=128 from by decide,Int.fdiv_eq_ediv_of_nonneg _ (by decide)]
 omega
theorem vint_Put_l : ∀ (k n:Nat) (l:List UInt8),n<2^(7*k)→l.length+k≤140737488355328→wN.l9 k l (n:Int)=some (l++vb n)∨k=0
 |0,_,_,_,_=>Or.inr rfl
 |k+1,n,l,h,hl=>by
  left
  by_cases h1:n<128
  · rw[wN.l9,if_neg (by omega),ZD (by omega),qj,lastByte n h1,vb_lt h1]
  rw[wN.l9,if_pos (by omega),ZD (by omega),qj,moreByte,shr7,vb_ge h1]
  have hk:n / 128<2^(7*k):=by
   have e:2^(7*(k+1))=128*2^(7*k):=by rw[show 7*(k+1)=7+7*k by omega,Nat.pow_add]
   rw[e] at h; exact Nat.div_lt_of_lt_mul h
  rcases vint_Put_l k (n / 128) (l++[ua (n % 128+128)]) hk (by rw[qk,q9]; omega) with e|e
  · rw[e,qu]; rfl
  exfalso; subst e; simp at hk; omega
theorem vint_Put_m : ∀ (k j n:Nat) (l r:List UInt8),wN.l9 k l (n:Int)=some r→wN.l9 (k+j) l (n:Int)=some r
 |0,_,_,_,_,h=>by cases h
 |k+1,j,n,l,r,h=>by
  rw[Nat.succ_add_eq_add_succ,Nat.add_succ]
  by_cases h1:(128:Int)≤(n:Int)
  · rw[wN.l9,if_pos h1] at h ⊢
    cases hr:vai (qg l+1) 1 with
    |none=>rw[hr] at h; cases h
    |some u=>
     rw[hr,qj,shr7] at h
     rw[qj,shr7]; exact vint_Put_m k j _ _ _ h
  rw[wN.l9,if_neg h1] at h ⊢; exact h
theorem vbQ (a:List UInt8){n:Nat}(h:n<2^64)(ha:a.length≤140737488355000):wN a (n:Int)=some (a++vb n):=by
 by_cases h1:n<128
 · rw[wN,if_neg (by omega),ZD (by omega),qj,lastByte n h1,vb_lt h1]
 rw[wN,if_pos (by omega),ZD (by omega),qj,moreByte,shr7,vb_ge h1]
 rcases vint_Put_l 10 (n / 128) (a++[ua (n % 128+128)]) (by omega) (by rw[qk,q9]; omega) with e|e
 · have:=vint_Put_m 10 999999999999999999990 _ _ _ e;rw[show 10+999999999999999999990=xG from rfl] at this
   rw[this,qu]; rfl
 cases e
theorem bv64 {n:Nat}(h:n<2^64):(qM 64 (n:Int)).toNat=n:=by
 rw[BitVec.ofInt_natCast,BitVec.toNat_ofNat]; exact Nat.mod_eq_of_lt h
end
section
set_option maxRecDepth 4000
open AM
def vb1 (n:Int):Prop := -9223372036854775808≤n∧n<9223372036854775808
def zg (n:Int):Nat:=if 0≤n then (2*n).toNat else (-2*n-1).toNat
theorem zg_lt {n:Int}(h:vb1 n):zg n<2^64:=by
 unfold zg; obtain⟨h1,h2⟩:=h; split<;>omega
theorem bv0 : qM 64 0=0#64:=by decide
theorem fdiv2 (n:Int)(k:Nat):Int.fdiv n (2^k)=n / (2^k):=Int.fdiv_eq_ediv_of_nonneg _ (Int.le_of_lt (Int.pow_pos (by decide)))
theorem vint_Zig_eq {n:Int}(h:vb1 n):vaS n=(zg n:Int):=by
 obtain⟨h1,h2⟩:=h;unfold vaS zg;rw[show min (qQ 1) 64=1 from rfl,show min (qQ 63) 64=63 from rfl,fdiv2]
 by_cases h0:0≤n
 · have e:n / 2^63=0:=Int.ediv_eq_zero_of_lt h0 (by omega);rw[if_pos h0,e,show IntKind.u64.wrap 0=0 from by rw[IntKind.wrap_u64]; rfl,bv0,BitVec.xor_zero]
   have e2:IntKind.u64.wrap (IntKind.u64.wrap n*2^1)=(((2*n).toNat:Nat):Int):=by rw[IntKind.wrap_u64,IntKind.wrap_u64]; omega
   rw[e2,bv64 (by omega),u64w (by omega)]
 have e:n / 2^63 = -1:=by omega
 have e1:IntKind.u64.wrap (-1)=18446744073709551615:=by rw[IntKind.wrap_u64]; rfl
 have e3:qM 64 18446744073709551615=BitVec.allOnes 64:=by decide
 rw[if_neg h0,e,e1,e3,BitVec.xor_allOnes,BitVec.toNat_not]
 have e2:IntKind.u64.wrap (IntKind.u64.wrap n*2^1)=(((2*n+18446744073709551616).toNat:Nat):Int):=by rw[IntKind.wrap_u64,IntKind.wrap_u64]; omega
 rw[e2,bv64 (by omega),u64w (by omega)]
 omega
def rawOk (r:yo):Prop:=xF r=true∧vb1 r.fN
def keyN (r:yo):Nat:=(2*r.fTag+r.fWire).toNat
def rawB (r:yo):List UInt8:=vb (keyN r)++(if r.fWire=0 then vb (zg r.fN) else vb r.fB.length++r.fB)
def va9 (l:List yo):List UInt8:=l.flatMap rawB
theorem vbY {r:yo}(h:xF r=true):1≤r.fTag∧r.fTag≤500∧((r.fWire=0∧r.fB=[])∨(r.fWire=1∧r.fN=0∧r.fB.length≤4096)):=by
 unfold xF at h
 split at h
 · cases h
 rename_i h1
 simp only[uk,decide_eq_true_eq,not_or] at h1;refine⟨by omega,by omega,?_⟩
 split at h
 · left; exact⟨‹_›,by simpa using h⟩
 split at h
 · right
   simp only[qK,decide_eq_true_eq] at h;exact⟨‹_›,h.1,by omega⟩
 cases h
theorem check_num {t n:Int}(h1:1≤t)(h2:t≤500):xF ⟨t,0,n,[]⟩=true:=by
 unfold xF
 rw[if_neg (by simp only[uk,decide_eq_true_eq]; omega)]; rfl
theorem check_text {t:Int}{s:List UInt8}(h1:1≤t)(h2:t≤500)(h3:s.length≤4096):xF ⟨t,1,0,s⟩=true:=by
 unfold xF;rw[if_neg (by simp only[uk,decide_eq_true_eq]; omega)];simp only[decide_true,ui]
 rw[if_neg (by decide),if_pos trivial]; exact decide_eq_true (by omega)
theorem rawB_le {r:yo}(h:rawOk r):(rawB r).length≤4116:=by
 obtain⟨hc,hn⟩:=h;obtain⟨h1,h2,h3⟩:=vbY hc;unfold rawB keyN;have k1:(vb (2*r.fTag+r.fWire).toNat).length≤10:=Y6 (by omega);have k2:(vb (zg r.fN)).length≤10:=Y6 (zg_lt hn)
 rcases h3 with ⟨h3,h4⟩|⟨h3,h4,h5⟩
 · rw[if_pos h3,qk]; omega
 have k3:(vb r.fB.length).length≤10:=Y6 (by omega)
 rw[if_neg (by omega),qk,qk]; omega
theorem wire_Put_eq {a:List UInt8}{r:yo}(h:rawOk r)(ha:a.length≤1000000):vaR a r=some (a++rawB r,true):=by
 obtain⟨hc,hn⟩:=h;obtain⟨h1,h2,h3⟩:=vbY hc;unfold vaR bnd
 rw[hc]; simp only[]
 have ek:IntKind.u64.wrap (IntKind.i64.wrap ((IntKind.i64.wrap (2*r.fTag))+r.fWire))=((keyN r:Nat):Int):=by
  rw[Y4 (x:=2*r.fTag) (by omega) (by omega),Y4 (by omega) (by omega),u64i (by omega) (by omega),keyN]; omega
 have k1:keyN r<2^64:=by unfold keyN; omega
 have kl:=Y6 k1;rw[if_neg (by decide),ek,vbQ a k1 (by omega),qj]
 rcases h3 with ⟨h3,h4⟩|⟨h3,h4,h5⟩
 · rw[if_pos h3,vint_Zig_eq hn,vbQ _ (zg_lt hn) (by rw[qk]; omega),qj,rawB,if_pos h3,qu]
 have hb:=Y6 (n:=r.fB.length) (by omega);rw[if_neg (by omega),u64w (by omega),vbQ _ (by omega) (by rw[qk]; omega),qj,ZD (by simp only[qk]; omega),qj,rawB,if_neg (by omega)];simp only[qu]
theorem putAll_l11 : ∀ (q:List yo) (x:Int) (acc:List UInt8),(∀ r∈q,rawOk r)→acc.length≤4096→xq.l11 q x acc=some (if 4096<(acc++va9 q).length then ([],4) else (acc++va9 q,0))
 |[],x,acc,_,ha=>by
  rw[xq.l11,va9,qG,qB,if_neg (by omega)]
 |r::q,x,acc,h,ha=>by
  have hr:=h r (qX ..)
  rw[xq.l11,wire_Put_eq hr (by omega),qj]; dsimp only
  have e:acc++va9 (r::q)=(acc++rawB r)++va9 q:=by rw[va9,qC,qu]; rfl
  rw[e]
  by_cases h1:4096<(acc++rawB r).length
  · rw[if_pos (by omega),if_pos (by rw[qk]; omega)]
  rw[if_neg (by omega),putAll_l11 q (x+1) _ (fun s hs=>h s (qU _ hs)) (by omega)]
theorem putAll_l4 (a:List yo):∀ (q:List yo) (x:Int),xq.l4 a q x=if q.all xF then xq.l11 a 0 [] else some ([],1)
 |[],x=>by rw[xq.l4]; rfl
 |r::q,x=>by
  rw[xq.l4,bnd,qS]
  by_cases h:xF r=true
  · rw[h,if_neg (by decide),putAll_l4 a q]; rfl
  rw[if_pos (by simpa using h),if_neg (by rw[qK]; exact fun hh=>h hh.1)]
theorem putAll_eq {l:List yo}(h:∀ r∈l,vb1 r.fN):xq l=some (if l.all xF then (if 4096<(va9 l).length then ([],4) else (va9 l,0)) else ([],1)):=by
 rw[xq,putAll_l4]
 by_cases h1:l.all xF=true
 · rw[if_pos h1,if_pos h1,putAll_l11 l 0 [] (fun r hr=>⟨uf.1 h1 r hr,h r hr⟩) (by decide)]; rfl
 rw[if_neg h1,if_neg h1]
end
section
set_option maxRecDepth 4000
open AM
def vdx (r:yo):List yo→List yo
 |[]=>[r]
 |x::l=>if r.fTag<x.fTag then r::x::l else x::vdx r l
def srtA : List yo→List yo→List yo
 |[],S=>S
 |r::q,S=>srtA q (vdx r S)
def srt (l:List yo):List yo:=srtA l []
def vaf (a b:yo):Prop:=a.fTag≤b.fTag
theorem insR_app {r:yo}:∀ {A B:List yo},(∀ a∈A,a.fTag≤r.fTag)→(∀ b∈B,r.fTag<b.fTag)→vdx r (A++B)=A++r::B
 |[],[],_,_=>rfl
 |[],b::B,_,hB=>by
  rw[qE,vdx,if_pos (hB b (qX ..))]; rfl
 |a::A,B,hA,hB=>by
  rw[qF,vdx,if_neg (by have:=hA a (qX ..); omega),insR_app (fun x hx=>hA x (qU _ hx)) hB]; rfl
theorem insR_mem {r x:yo}:∀ {l:List yo},x∈vdx r l↔x=r∨x∈l
 |[]=>by simp[vdx]
 |y::l=>by
  rw[vdx]; split
  · simp
  rw[q5,insR_mem,q5]
  constructor
  · rintro (h|h|h)
    · exact Or.inr (Or.inl h)
    · exact Or.inl h
    exact Or.inr (Or.inr h)
  rintro (h|h|h)
  · exact Or.inr (Or.inl h)
  · exact Or.inl h
  exact Or.inr (Or.inr h)
theorem vc5 (r:yo):∀ l:List yo,(vdx r l).length=l.length+1
 |[]=>rfl
 |x::l=>by
  rw[vdx]; split
  · rfl
  rw[qp,vc5 r l,qp]
theorem X7 {r:yo}:∀ {l:List yo},l.Pairwise vaf→(vdx r l).Pairwise vaf
 |[],_=>by simp[vdx]
 |x::l,h=>by
  rw[uQ] at h
  rw[vdx]; split
  · rename_i hlt
    rw[uQ,uQ];refine⟨?_,h⟩
    intro y hy
    rcases q5.1 hy with rfl|hy
    · unfold vaf; omega
    have:=h.1 y hy; unfold vaf at *; omega
  rename_i hge
  rw[uQ];refine⟨?_,X7 h.2⟩
  intro y hy
  rcases insR_mem.1 hy with rfl|hy
  · unfold vaf; omega
  exact h.1 y hy
theorem vdw {r:yo}(t:Int):∀ {l:List yo},l.Pairwise vaf→(vdx r l).filter (fun x=>x.fTag=t)=l.filter (fun x=>x.fTag=t)++(if r.fTag=t then [r] else [])
 |[],_=>by rw[vdx,List.filter_nil,qE,uF,List.filter_nil]; simp only[decide_eq_true_eq]
 |x::l,h=>by
  rw[uQ] at h
  rw[vdx]; split
  · rename_i hlt
    rw[uF]
    by_cases hr:r.fTag=t
    · have hn:(x::l).filter (fun x=>x.fTag=t)=[]:=by
       rw[List.filter_eq_nil_iff]
       intro y hy
       simp only[decide_eq_true_eq]
       rcases q5.1 hy with rfl|hy
       · omega
       have:=h.1 y hy; unfold vaf at this; omega
      rw[hn,if_pos (by simpa using hr),if_pos hr]; rfl
    rw[if_neg (by simpa using hr),if_neg hr,qB]
  rw[uF,uF,vdw t h.2]
  split<;>rfl
theorem vde : ∀ {l S:List yo},S.Pairwise vaf→(srtA l S).Pairwise vaf
 |[],_,h=>h
 |r::l,S,h=>by rw[srtA]; exact vde (l:=l) (X7 h)
theorem srt_sorted (l:List yo):(srt l).Pairwise vaf:=vde List.Pairwise.nil
theorem srtA_mem {x:yo}:∀ {l S:List yo},x∈srtA l S↔x∈S∨x∈l
 |[],S=>by simp[srtA]
 |r::l,S=>by
  rw[srtA,srtA_mem,insR_mem,q5]
  constructor
  · rintro ((h|h)|h)
    · exact Or.inr (Or.inl h)
    · exact Or.inl h
    exact Or.inr (Or.inr h)
  rintro (h|h|h)
  · exact Or.inl (Or.inr h)
  · exact Or.inl (Or.inl h)
  exact Or.inr h
theorem srt_mem {x:yo}{l:List yo}:x∈srt l↔x∈l:=by rw[srt,srtA_mem]; simp
theorem vdf (t:Int):∀ {l S:List yo},S.Pairwise vaf→(srtA l S).filter (fun x=>x.fTag=t)=S.filter (fun x=>x.fTag=t)++l.filter (fun x=>x.fTag=t)
 |[],S,_=>by rw[srtA,List.filter_nil,qB]
 |r::l,S,h=>by
  rw[srtA,vdf t (X7 h),vdw t h,uF,qu]
  congr 1
  simp only[decide_eq_true_eq]
  split<;>rfl
theorem srt_filter (l:List yo)(t:Int):(srt l).filter (fun x=>x.fTag=t)=l.filter (fun x=>x.fTag=t):=by
 rw[srt,vdf t List.Pairwise.nil]; rfl
theorem sorted_ext : ∀ {l m:List yo},l.Pairwise vaf→m.Pairwise vaf→(∀ t:Int,l.filter (fun x=>x.fTag=t)=m.filter (fun x=>x.fTag=t))→l=m
 |[],[],_,_,_=>rfl
 |[],y::m,_,_,h=>by
  have:=h y.fTag
  rw[List.filter_nil,uF,if_pos (by simp)] at this; cases this
 |x::l,[],_,_,h=>by
  have:=h x.fTag
  rw[List.filter_nil,uF,if_pos (by simp)] at this; cases this
 |x::l,y::m,hl,hm,h=>by
  rw[uQ] at hl hm
  have hxy:x.fTag=y.fTag:=by
   have h1:x∈(y::m).filter (fun z=>z.fTag=x.fTag):=by rw[← h,uF,if_pos (by simp)]; exact qX ..
   have h2:y∈(x::l).filter (fun z=>z.fTag=y.fTag):=by rw[h,uF,if_pos (by simp)]; exact qX ..
   have a1:y.fTag≤x.fTag:=by
    rcases q5.1 (List.mem_filter.1 h1).1 with e|h1
    · rw[e]; exact Int.le_refl _
    exact hm.1 x h1
   have a2:x.fTag≤y.fTag:=by
    rcases q5.1 (List.mem_filter.1 h2).1 with e|h2
    · rw[e]; exact Int.le_refl _
    exact hl.1 y h2
   omega
  have e:x=y:=by
   have:=h x.fTag;rw[uF,uF,if_pos (by simp),if_pos (by simp[hxy])] at this
   injection this
  subst e
  congr 1
  refine sorted_ext hl.2 hm.2 fun t=>?_
  have:=h t;rw[uF,uF] at this
  split at this
  · injection this
  exact this
theorem srt_of {l m:List yo}(hm:m.Pairwise vaf)(h:∀ t:Int,l.filter (fun x=>x.fTag=t)=m.filter (fun x=>x.fTag=t)):srt l=m:=
 sorted_ext (srt_sorted l) hm fun t=>by rw[srt_filter,h]
theorem vbq {α:Type}{A B:List α}{x:α}{i:Int}(h:i=A.length):YN (A++x::B) i=some x:=by
 subst h
 rw[YN,if_pos (by omega),ul,un (qI _),uI]; rfl
theorem idx_t {α:Type}{l:List α}{i:Int}{x:α}(h0:0≤i)(h:l[i.toNat]?=some x):YN l i=some x:=by rw[YN,if_pos h0,h]
theorem sorted_l17 {r z:yo}{S P:List yo}(rec8:Int→List yo→Option (List yo)):∀ (k:Nat) (A B:List yo),S=A++B→(∀ b∈B,r.fTag<b.fTag)→A.Pairwise vaf→A.length<k→S.length<1000000→
 yD.l17 (S.length:Int) (S++z::P) rec8 r k (A.length:Int)=rec8 ((S.length:Int)+1) (vdx r S++P)
 |0,_,_,_,_,_,h,_=>by omega
 |k+1,A,B,hS,hB,hA,hk,hn=>by
  have stop:(∀ a∈A,a.fTag≤r.fTag)→yD.j20 (S.length:Int) (S++z::P) rec8 r (A.length:Int) (yD.l17 (S.length:Int) (S++z::P) rec8 r k) false=rec8 ((S.length:Int)+1) (vdx r S++P):=by
   intro hle
   have hl:S.length=A.length+B.length:=by rw[hS,qk]
   have e1:IntKind.i64.wrap ((A.length:Int)+1)=((A.length+1:Nat):Int):=by rw[Y4 (by omega) (by omega)]; omega
   rw[yD.j20,if_neg (by decide),e1,grd_t (by rw[qk,qp]; omega),qj,grd_t (by rw[qk,qp]; omega),qj]
   have e2:qQ ((S.length:Int)+1)=S.length+1:=by omega
   rw[ul,ul,ul,e2,show min (S.length-A.length) (S.length+1-(A.length+1))=B.length by omega]
   have hc:∃ w:yo,A.length<(S++z::P).length∧vbJ (S++z::P) (A.length+1) A.length B.length=A++w::(B++P):=by
    cases hB':B with
    |nil=>
     subst hB';rw[qB] at hS;refine⟨z,by rw[hS,qk,qp]; omega,?_⟩;rw[vbJ,hS,qz,List.take_zero,qE,uJ,List.drop_append,List.drop_eq_nil_of_le (by omega),List.take_append,uo (by omega)];rw[show A.length+1-A.length=1 by omega]
     simp
    |cons b B'=>
     refine⟨b,by rw[hS,hB',qk,qk,qp]; omega,?_⟩;rw[hS,hB',vbJ]
     have t1:((A++b::B')++z::P).take (A.length+1)=A++[b]:=by
      rw[qu,List.take_append,uo (by omega),show A.length+1-A.length=1 by omega]; rfl
     have t2:(((A++b::B')++z::P).drop A.length).take (b::B').length=b::B':=by
      rw[qu,List.drop_left' rfl,List.take_left' rfl]
     have t3:((A++b::B')++z::P).drop (A.length+1+(b::B').length)=P:=by
      rw[show (A++b::B')++z::P=((A++b::B')++[z])++P by rw[qu (A++b::B')]; rfl];rw[List.drop_left']
      simp only[qk,qp,qz]; omega
     rw[t1,t2,t3];simp only[qu,qF,qE]
   obtain⟨w,hlt,hc⟩:=hc
   rw[hc,vbq rfl,qj,setI,ul,List.set_append_right _ _ (qI _),uI,uA,hS,insR_app hle hB,qu]; rfl
  rcases List.eq_nil_or_concat A with rfl|⟨A',a,rfl⟩
  · rw[yD.l17,if_neg (by simp)];exact stop (fun a ha=>by cases ha)
  rw[List.concat_eq_append] at *
  have hlA:(A'++[a]).length=A'.length+1:=by rw[qk,q9]
  have hlS:S.length=(A'++[a]).length+B.length:=by rw[hS,qk]
  have e1:IntKind.i64.wrap (((A'++[a]).length:Int)-1)=(A'.length:Int):=by
   rw[Y4 (by omega) (by omega)]; omega
  rw[yD.l17,if_pos (by omega),e1]
  have ei:YN (S++z::P) (A'.length:Int)=some a:=by
   rw[hS,qu,qu]; exact vbq rfl
  rw[ei,qj]
  by_cases hgt:r.fTag<a.fTag
  · rw[decide_eq_true hgt,yD.j20,if_pos rfl,e1];refine sorted_l17 rec8 k A' (a::B) (by rw[hS,qu]; rfl) ?_ (List.pairwise_append.1 hA).1 (by omega) hn
    intro b hb
    rcases q5.1 hb with rfl|hb
    · exact hgt
    exact hB b hb
  rw[decide_eq_false hgt];refine stop ?_
  intro x hx
  rcases uP.1 hx with hx|hx
  · have:=(List.pairwise_append.1 hA).2.2 x hx a (List.mem_singleton.2 rfl)
    unfold vaf at this; omega
  rw[List.mem_singleton] at hx; subst hx; omega
theorem sorted_l8 : ∀ (q S P:List yo),P.length=q.length→S.Pairwise vaf→S.length+q.length<1000000→yD.l8 q (S.length:Int) (S++P)=some (srtA q S)
 |[],S,P,hP,_,_=>by
  have:P=[]:=qP.1 (by simpa using hP);subst this;rw[yD.l8,srtA,qB]
 |r::q,S,[],hP,_,_=>by cases hP
 |r::q,S,z::P,hP,hS,hn=>by
  rw[qp] at hn;rw[yD.l8,sorted_l17 (S:=S) (yD.l8 q) xG S [] (qB S).symm (fun b hb=>by cases hb) hS (ug (show S.length<1000000 by omega) (by decide)) (by omega)]
  have e:(S.length:Int)+1=((vdx r S).length:Int):=by rw[vc5]; omega
  rw[e,sorted_l8 q (vdx r S) P (by simpa using hP) (X7 hS) (by rw[vc5]; omega),srtA]
theorem sorted_eq {l:List yo}(h:l.length<1000000):yD l=some (srt l):=by
 rw[yD,grd_t (by omega),qj,ul];exact sorted_l8 l [] _ List.length_replicate List.Pairwise.nil (by rw[qz]; omega)
end
section
set_option maxRecDepth 4000
open AM
theorem Yo : 9223372036854775808≤xG:=by decide
def TagLt (a b:zA):Prop:=a.fTag<b.fTag
def zTree : zq:=⟨0,0,[],[],[]⟩
def getD (b:List UInt8):List yo×Int:=(Y5 b).getD ([],99)
end
section
set_option maxRecDepth 4000
open AM
def maxD (f:zq→Nat):List zq→Nat→Nat
 |[],d=>d
 |x::l,d=>maxD f l (max d (f x))
theorem maxD_ge {f:zq→Nat}:∀ (l:List zq) (d:Nat),d≤maxD f l d
 |[],d=>qI _
 |x::l,d=>uD (Nat.le_max_left _ _) (maxD_ge l _)
theorem maxD_mem {f:zq→Nat}{x:zq}:∀ {l:List zq} {d:Nat},x∈l→f x≤maxD f l d
 |y::l,d,h=>by
  rw[maxD]
  rcases q5.1 h with rfl|h
  · exact uD (Nat.le_max_right _ _) (maxD_ge l _)
  exact maxD_mem h
theorem maxD_le {f:zq→Nat}{n:Nat}:∀ {l:List zq} {d:Nat},d≤n→(∀ x∈l,f x≤n)→maxD f l d≤n
 |[],d,h,_=>h
 |x::l,d,h,hl=>maxD_le (l:=l) (Nat.max_le.2 ⟨h,hl x (qX ..)⟩) fun y hy=>hl y (qU _ hy)
theorem maxD_app (f:zq→Nat):∀ (l m:List zq) (d:Nat),maxD f (l++m) d=maxD f m (maxD f l d)
 |[],_,_=>rfl
 |x::l,m,d=>maxD_app f l m _
def kids (t:zq):List zq:=t.fEntries.flatMap zA.fTrees
def vbv : Nat→zq→Nat
 |0,_=>0
 |m+1,t=>if t.fKind=3 then maxD (vbv m) (kids t) 0+1 else 0
theorem depT_le : ∀ (m:Nat) (t:zq),vbv m t≤m
 |0,_=>qI _
 |m+1,t=>by
  rw[vbv]; split
  · exact Nat.succ_le_succ (maxD_le (qW _) fun x _=>depT_le m x)
  exact qW _
theorem deep_l20 {self:zq→Int→Option Int}{m:Nat}(hm:m<1000)(hs:∀ x,self x (m:Int)=some ((vbv m x:Nat):Int)){x7:Int}{rec10:Int→Int→Option Int}:∀ (l:List zq) (i:Int) (d:Nat),
 y0.l20 self ((m+1:Nat):Int) x7 rec10 l i (d:Int)=rec10 (x7+1) ((maxD (vbv m) l d:Nat):Int)
 |[],i,d=>rfl
 |x::l,i,d=>by
  rw[y0.l20,show IntKind.i64.wrap (((m+1:Nat):Int)-1)=(m:Int) by rw[Y4 (by omega) (by omega)]; omega,hs,qj,maxD]
  have e:(if (d:Int)<((vbv m x:Nat):Int) then ((vbv m x:Nat):Int) else (d:Int))=((max d (vbv m x):Nat):Int):=by split<;>omega
  rw[e]; exact deep_l20 hm hs l _ _
theorem deep_l10 {self:zq→Int→Option Int}{m:Nat}(hm:m<1000)(hs:∀ x,self x (m:Int)=some ((vbv m x:Nat):Int)):∀ (l:List zA) (i:Int) (d:Nat),d≤1000→
 y0.l10 self ((m+1:Nat):Int) l i (d:Int)=some ((maxD (vbv m) (l.flatMap zA.fTrees) d+1:Nat):Int)
 |[],i,d,hd=>by
  rw[y0.l10,Y4 (by omega) (by omega),qG,maxD]; rfl
 |e::l,i,d,hd=>by
  rw[y0.l10,deep_l20 hm hs,deep_l10 hm hs l _ _ (maxD_le hd fun x _=>uD (depT_le m x) (by omega)),qC,maxD_app]
theorem deep_eq : ∀ (m k:Nat) (t:zq),m<1000→m<k→y0 k t (m:Int)=some ((vbv m t:Nat):Int)
 |m,0,t,_,h=>by omega
 |0,k+1,t,_,_=>by
  rw[y0,y0.body,if_pos (by simp)]; rfl
 |m+1,k+1,t,hm,hk=>by
  rw[y0,y0.body,vbv]
  by_cases h3:t.fKind=3
  · rw[if_neg (by simp only[h3,decide_true,qw,uM,decide_eq_true_eq]; omega),if_pos h3];exact deep_l10 (by omega) (fun x=>deep_eq m k x (by omega) (by omega)) t.fEntries 0 0 (by omega)
  rw[if_pos (by simp[h3]),if_neg h3]; rfl
theorem Depth_eq (t:zq):YS t=some ((vbv 101 t:Nat):Int):=by
 rw[YS,show (101:Int)=((101:Nat):Int) from rfl,deep_eq 101 xG t (by omega) (by have:=Yo; omega)]; rfl
def risB : List yo→Bool
 |a::b::l=>decide (a.fTag≤b.fTag)&&risB (b::l)
 |_=>true
theorem risB_iff : ∀ {l:List yo},risB l=true↔l.Pairwise vaf
 |[]=>by simp[risB]
 |[a]=>by simp[risB]
 |a::b::l=>by
  rw[risB,qK,decide_eq_true_eq,risB_iff,uQ (a:=a)]
  constructor
  · rintro ⟨h1,h2⟩;refine⟨?_,h2⟩
    intro c hc
    rcases q5.1 hc with rfl|hc
    · exact h1
    have:=(uQ.1 h2).1 c hc; unfold vaf at *; omega
  rintro ⟨h1,h2⟩;exact⟨h1 b (qX ..),h2⟩
theorem rising_l {L:List yo}(hL:L.length<4611686018427387904):∀ (k:Nat) (A:List yo) (a:yo) (B:List yo),L=A++a::B→B.length<k→wI.l4 L k ((A.length+1:Nat):Int)=some (risB (a::B))
 |0,_,_,_,_,h=>by omega
 |k+1,A,a,[],h,_=>by
  rw[wI.l4,if_neg (by rw[h,qk,q9]; omega)]; rfl
 |k+1,A,a,b::B,h,hk=>by
  have hl:L.length=A.length+(B.length+2):=by rw[h,qk,qp,qp]
  have e1:YN L ((A.length+1:Nat):Int)=some b:=by
   rw[h,show A++a::b::B=(A++[a])++b::B by rw[qu]; rfl];exact vbq (by rw[qk,q9])
  have e2:IntKind.i64.wrap (((A.length+1:Nat):Int)-1)=(A.length:Int):=by rw[Y4 (by omega) (by omega)]; omega
  have e3:YN L (A.length:Int)=some a:=by rw[h]; exact vbq rfl
  have e4:IntKind.i64.wrap (((A.length+1:Nat):Int)+1)=(((A++[a]).length+1:Nat):Int):=by rw[Y4 (by omega) (by omega),qk,q9]; omega
  rw[wI.l4,if_pos (by omega),e1,qj,e2,e3,qj,risB]
  by_cases hlt:b.fTag<a.fTag
  · rw[if_pos hlt,decide_eq_false (by omega)]; rfl
  rw[if_neg hlt,e4,rising_l hL k (A++[a]) b B (by rw[h,qu]; rfl) (by simpa using hk),decide_eq_true (by omega),ui]
theorem rising_eq {l:List yo}(h:l.length<4611686018427387904):wI l=some (risB l):=by
 cases l with
 |nil=>rfl
 |cons a l=>exact rising_l h xG [] a l rfl (by have:=Yo; rw[qp] at h; omega)
def restB (t:zq):Bool:=t.fRest.all (fun r=>xF r && !(t.fEntries.any fun e=>decide (e.fTag=r.fTag)))&&risB t.fRest
theorem rest_l16 {x2:Int}{rec4:Int→Option Bool}{y:yo}:∀ (l:List zA) (i:Int),xX.l16 x2 rec4 y l i=if (l.any fun e=>decide (e.fTag=y.fTag))=true then some false else rec4 (x2+1)
 |[],i=>by rw[xX.l16]; rfl
 |e::l,i=>by
  rw[xX.l16,List.any_cons]
  by_cases h:e.fTag=y.fTag
  · rw[if_pos h,decide_eq_true h,uE,if_pos rfl]
  rw[if_neg h,decide_eq_false h,uM,rest_l16]
theorem rest_l4 {t:zq}(hr:t.fRest.length<4611686018427387904):∀ (l:List yo) (i:Int),xX.l4 t l i=some (l.all (fun r=>xF r && !(t.fEntries.any fun e=>decide (e.fTag=r.fTag)))&&risB t.fRest)
 |[],i=>by rw[xX.l4,rising_eq hr]; rfl
 |r::l,i=>by
  rw[xX.l4,bnd,qS]
  cases hc:xF r with
  |false=>rfl
  |true=>
   rw[if_neg (by decide),rest_l16]
   cases ha:t.fEntries.any fun e=>decide (e.fTag=r.fTag) with
   |true=>rfl
   |false=>rw[if_neg (by decide),rest_l4 hr l]; rfl
theorem rest_eq {t:zq}(hr:t.fRest.length<4611686018427387904):xX t=some (restB t):=rest_l4 hr _ _
def entB (f:zq→Bool):Int→List zA→Bool
 |_,[]=>true
 |last,e::l=>decide (last<e.fTag∧e.fTag≤500∧1≤e.fTrees.length∧e.fTrees.length≤64)&&(e.fTrees.all fun x=>decide (x.fKind=(e.fTrees.headD zTree).fKind)&&f x)&&entB f e.fTag l
def leafB (t:zq):Bool:=
 if t.fKind=1 then decide (t.fS=[])&&decide ((qg t.fEntries:Int)=0)&&decide ((qg t.fRest:Int)=0)
 else if t.fKind=2 then decide (t.fN=0)&&decide ((qg t.fEntries:Int)=0)&&decide ((qg t.fRest:Int)=0)
 else false
def Yl : Nat→zq→Bool
 |0,t=>leafB t
 |d+1,t=>if t.fKind=3 then decide (t.fN=0)&&decide (t.fS=[])&&entB (Yl d) 0 t.fEntries&&restB t else leafB t
def ownS (t:zq):Prop:=vb1 t.fN∧t.fRest.length≤900000∧∀ r∈t.fRest,vb1 r.fN
def szT : Nat→zq→Prop
 |0,t=>ownS t
 |d+1,t=>ownS t∧∀ x∈kids t,szT d x
theorem vdC {self:zq→Option Bool}{f:zq→Bool}{x3:Int}{rec6:Int→Int→Option Bool}{y:zA}(hy:1≤y.fTrees.length):∀ (l:List zq) (i:Int),(∀ x∈l,self x=some (f x))→
 ya.l18 self x3 rec6 y l i=if (l.all fun x=>decide (x.fKind=(y.fTrees.headD zTree).fKind)&&f x)=true then rec6 (x3+1) y.fTag else some false
 |[],i,_=>by rw[ya.l18]; rfl
 |x::l,i,h=>by
  have e1:YN y.fTrees 0=some (y.fTrees.headD zTree):=by
   cases ht:y.fTrees with
   |nil=>rw[ht] at hy; exact absurd hy (by decide)
   |cons a l=>rfl
  rw[ya.l18,e1,qj,qS]
  by_cases hk:x.fKind=(y.fTrees.headD zTree).fKind
  · rw[if_pos hk,h x (qX ..),qj,decide_eq_true hk,ui]
    cases f x with
    |false=>rfl
    |true=>
     rw[ya.j25,if_neg (by decide),vdC hy l _ fun z hz=>h z (qU _ hz),ui]
  rw[if_neg hk,decide_eq_false hk]; rfl
theorem entries_l6 {self:zq→Option Bool}{f:zq→Bool}:∀ (l:List zA) (i last:Int),(∀ e∈l,∀ x∈e.fTrees,self x=some (f x))→ya.l6 self l i last=some (entB f last l)
 |[],i,last,_=>rfl
 |e::l,i,last,h=>by
  rw[ya.l6,entB]
  by_cases hc:last<e.fTag∧e.fTag≤500∧1≤e.fTrees.length∧e.fTrees.length≤64
  · rw[if_neg (by simp only[uk,decide_eq_true_eq]; omega),vdC hc.2.2.1 e.fTrees 0 (h e (qX ..)),decide_eq_true hc,ui]
    cases ha:e.fTrees.all fun x=>decide (x.fKind=(e.fTrees.headD zTree).fKind)&&f x with
    |false=>rfl
    |true=>rw[if_pos rfl,entries_l6 l _ _ fun y hy=>h y (qU _ hy),ui]
  rw[if_pos (by simp only[uk,decide_eq_true_eq]; omega),decide_eq_false hc]; rfl
theorem Xs {t:zq}{e:zA}{x:zq}(he:e∈t.fEntries)(hx:x∈e.fTrees):x∈kids t:=List.mem_flatMap.2 ⟨e,he,hx⟩
theorem right_eq : ∀ (d m k:Nat) (t:zq),d<m→vbv m t≤d→2*d<k→szT d t→wm k t=some (Yl d t)
 |d,m,0,t,_,_,h,_=>by omega
 |0,m+1,k+1,t,_,hd,_,hz=>by
  have h3:¬ t.fKind=3:=by
   intro h; rw[vbv,if_pos h] at hd; omega
  rw[wm,wm.body,Yl,leafB,if_neg h3]
  split<;>first|rfl|(split<;>rfl)
 |d+1,m+1,k+1,t,hm,hd,hk,hz=>by
  rw[wm,wm.body,Yl]
  by_cases h3:t.fKind=3
  · have hd':maxD (vbv m) (kids t) 0≤d:=by rw[vbv,if_pos h3] at hd; omega
    obtain⟨k',rfl⟩:∃ k',k=k'+1:=⟨k-1,by omega⟩
    have he:ya (k'+1) t=some (entB (Yl d) 0 t.fEntries):=by
     rw[ya,ya.body]
     exact entries_l6 t.fEntries 0 0 fun e he x hx=>right_eq d m k' x (by omega) (uD (maxD_mem (Xs he hx)) hd') (by omega) (hz.2 x (Xs he hx))
    rw[if_neg (by omega),if_neg (by omega),if_pos h3,if_pos h3,he,rest_eq (by have:=hz.1.2.1; omega)]
    cases decide (t.fN=0)&&decide (t.fS=[]) with
    |false=>rfl
    |true=>cases entB (Yl d) 0 t.fEntries<;>rfl
  rw[if_neg h3,if_neg h3,leafB]
  split<;>first|rfl|(split<;>rfl)
def XJ (t:zq):Bool:=decide (vbv 101 t≤10)&&Yl 10 t
theorem check_eq {t:zq}(hz:szT 10 t):Ya t=some (XJ t):=by
 rw[Ya,Depth_eq,qj,XJ]
 by_cases h:vbv 101 t≤10
 · rw[if_pos (by omega),right_eq 10 101 xG t (by omega) h (by have:=Yo; omega) hz,decide_eq_true h,ui]; rfl
 rw[if_neg (by omega),decide_eq_false h]; rfl
end
section
set_option maxRecDepth 4000
open AM
theorem in0 : vb1 0:=⟨by decide,by decide⟩
def rawT (enc:zq→Option (List UInt8))(tag:Int)(x:zq):Option yo:=
 if x.fKind=1 then some ⟨tag,0,x.fN,[]⟩
 else if x.fKind=2 then (if 4096<x.fS.length then none else some ⟨tag,1,0,x.fS⟩)
 else (enc x).bind fun b=>some ⟨tag,1,0,b⟩
def rawL (enc:zq→Option (List UInt8))(tag:Int):List zq→Option (List yo)
 |[]=>some []
 |x::l=>(rawT enc tag x).bind fun r=>(rawL enc tag l).bind fun m=>some (r::m)
def rawE (enc:zq→Option (List UInt8)):List zA→Option (List yo)
 |[]=>some []
 |e::l=>(rawL enc e.fTag e.fTrees).bind fun a=>(rawE enc l).bind fun m=>some (a++m)
def putB (l:List yo):Option (List UInt8):=if 4096<(va9 l).length then none else some (va9 l)
def vbF : Nat→zq→Option (List UInt8)
 |0,_=>none
 |d+1,t=>(rawE (vbF d) t.fEntries).bind fun L=>putB (srt (t.fRest++L))
def vbK : Nat→zq→zs
 |0,t=>if t.fKind=1 then .num t.fN else if t.fKind=2 then .str t.fS else .node [] t.fRest
 |d+1,t=>if t.fKind=1 then .num t.fN else if t.fKind=2 then .str t.fS else .node (t.fEntries.map fun e=>⟨e.fTag,e.fTrees.map (vbK d)⟩) t.fRest
theorem made_l62 {self:zq→Option zs}{f:zq→zs}{t:zq}{r12:List yo}{y:zA}:∀ (l:List zq) (i:Int) (acc:List zs),(∀ x∈l,self x=some (f x))→acc.length+l.length≤64→
 yx.l62 self t r12 y l i acc=yx.l20 self t r12 xG [⟨y.fTag,acc++l.map f⟩] 1
 |[],i,acc,_,_=>by
  rw[yx.l62,qr,qB,Y4 (by decide) (by decide)]; rfl
 |x::l,i,acc,h,hl=>by
  rw[qp] at hl
  rw[yx.l62,h x (qX ..),qj,ZD (by omega),qj,made_l62 l _ _ (fun z hz=>h z (qU _ hz)) (by rw[qk,q9]; omega),qu]; rfl
theorem made_l35 {self:zq→Option zs}{f:zq→zs}{l14:List yJ}{x16:Int}{rec20:List yJ→Int→Option zs}{y:zA}(hl14:l14.length≤1000):∀ (l:List zq) (i:Int) (acc:List zs),(∀ x∈l,self x=some (f x))→acc.length+l.length≤64→
 yx.l35 self l14 x16 rec20 y l i acc=rec20 (l14++[⟨y.fTag,acc++l.map f⟩]) (IntKind.i64.wrap (x16+1))
 |[],i,acc,_,_=>by
  rw[yx.l35,qr,qB,ZD (by omega),qj]
 |x::l,i,acc,h,hl=>by
  rw[qp] at hl
  rw[yx.l35,h x (qX ..),qj,ZD (by omega),qj,made_l35 hl14 l _ _ (fun z hz=>h z (qU _ hz)) (by rw[qk,q9]; omega),qu]; rfl
def entV (f:zq→zs)(e:zA):yJ:=⟨e.fTag,e.fTrees.map f⟩
theorem made_l20 {self:zq→Option zs}{f:zq→zs}{t:zq}{r12:List yo}(hn:t.fEntries.length≤1000)(hs:∀ e∈t.fEntries,e.fTrees.length≤64∧∀ x∈e.fTrees,self x=some (f x)):∀ (k:Nat) (A B:List zA),t.fEntries=A++B→B.length<k→
 yx.l20 self t r12 k (A.map (entV f)) (A.length:Int)=some (.node (t.fEntries.map (entV f)) r12)
 |0,A,B,_,h=>by omega
 |k+1,A,[],h,_=>by
  rw[qB] at h;rw[yx.l20,if_neg (by rw[h]; omega),h]
 |k+1,A,e::B,h,hk=>by
  rw[qp] at hk
  have hl:t.fEntries.length=A.length+(B.length+1):=by rw[h,qk,qp]
  have he:=hs e (by rw[h]; exact List.mem_append_right _ (qX ..))
  have ei:YN t.fEntries (A.length:Int)=some e:=by rw[h]; exact vbq rfl
  rw[yx.l20,if_pos (by omega),ei,qj,made_l35 (f:=f) (by rw[uj]; omega) e.fTrees 0 [] he.2 (by rw[qz]; omega),Y4 (by omega) (by omega)];have:=made_l20 (self:=self) (f:=f) (r12:=r12) hn hs k (A++[e]) B (by rw[h,qu]; rfl) (by omega);rw[qs,qk,q9] at this;rw[show (A.length:Int)+1=((A.length+1:Nat):Int) by omega];exact this
theorem XN {f:zq→Bool}:∀ {l:List zA} {last:Int},entB f last l=true→∀ e∈l,last<e.fTag∧e.fTag≤500∧1≤e.fTrees.length∧e.fTrees.length≤64∧(∀ x∈e.fTrees,x.fKind=(e.fTrees.headD zTree).fKind∧f x=true)
 |[],_,_,e,he=>by cases he
 |a::l,last,h,e,he=>by
  rw[entB,qK,qK,decide_eq_true_eq] at h
  rcases q5.1 he with rfl|he
  · refine⟨h.1.1.1,h.1.1.2.1,h.1.1.2.2.1,h.1.1.2.2.2,fun x hx=>?_⟩;have:=uf.1 h.1.2 x hx;rw[qK,decide_eq_true_eq] at this;exact this
  obtain⟨h1,h2⟩:=XN h.2 e he;exact⟨by omega,h2⟩
theorem va3 {f:zq→Bool}:∀ {l:List zA} {last:Int},entB f last l=true→l.Pairwise TagLt
 |[],_,_=>List.Pairwise.nil
 |a::l,last,h=>by
  rw[entB,qK,qK] at h;rw[uQ];exact⟨fun e he=>(XN h.2 e he).1,va3 h.2⟩
theorem sorted_len {n:Nat}:∀ {l:List zA} {lo:Int},l.Pairwise TagLt→(∀ e∈l,lo<e.fTag∧e.fTag≤lo+n)→l.length≤n
 |[],_,_,_=>qW _
 |a::l,lo,h,hl=>by
  rw[uQ] at h;have ha:=hl a (qX ..)
  cases n with
  |zero=>omega
  |succ n=>
   rw[qp];refine Nat.succ_le_succ (sorted_len (n:=n) (lo:=lo+1) h.2 fun e he=>?_);have h1:=h.1 e he;have h2:=hl e (qU _ he)
   unfold TagLt at h1; omega
theorem vbE {d:Nat}{t:zq}(h:Yl (d+1) t=true)(h3:t.fKind=3):t.fEntries.length≤500∧entB (Yl d) 0 t.fEntries=true∧restB t=true∧t.fN=0∧t.fS=[]:=by
 rw[Yl,if_pos h3] at h;simp only[qK,decide_eq_true_eq] at h;refine⟨?_,h.1.2,h.2,h.1.1.1,h.1.1.2⟩
 exact sorted_len (n:=500) (lo:=0) (va3 h.1.2) fun e he=>by
  have:=XN h.1.2 e he; omega
theorem vbp {t:zq}(h:leafB t=true):t.fKind=1∨t.fKind=2:=by
 unfold leafB at h
 split at h
 · exact Or.inl ‹_›
 split at h
 · exact Or.inr ‹_›
 cases h
theorem vbC {d:Nat}{t:zq}(h:Yl d t=true):t.fKind=1∨t.fKind=2∨t.fKind=3:=by
 cases d with
 |zero=>rcases vbp h with h|h; exact Or.inl h; exact Or.inr (Or.inl h)
 |succ d=>
  rw[Yl] at h
  split at h
  · exact Or.inr (Or.inr ‹_›)
  rcases vbp h with h|h; exact Or.inl h; exact Or.inr (Or.inl h)
theorem made_eq : ∀ (d k:Nat) (t:zq),d<k→Yl d t=true→szT d t→yx k t=some (vbK d t)
 |d,0,t,h,_,_=>by omega
 |0,k+1,t,_,hr,_=>by
  rw[yx,yx.body,vbK]
  rcases vbp hr with h|h
  · rw[if_pos h,if_pos h]; rfl
  rw[if_neg (by omega),if_pos h,if_neg (by omega),if_pos h]; rfl
 |d+1,k+1,t,hk,hr,hz=>by
  rw[yx,yx.body,vbK]
  by_cases h1:t.fKind=1
  · rw[if_pos h1,if_pos h1]; rfl
  by_cases h2:t.fKind=2
  · rw[if_neg h1,if_pos h2,if_neg h1,if_pos h2]; rfl
  have h3:t.fKind=3:=by rcases vbC hr with h|h|h<;>omega
  obtain⟨hl,he,_,_,_⟩:=vbE hr h3
  have hs:∀ e∈t.fEntries,e.fTrees.length≤64∧∀ x∈e.fTrees,yx k x=some (vbK d x):=fun e hm=>by
   have:=XN he e hm;exact⟨this.2.2.2.1,fun x hx=>made_eq d k x (by omega) (this.2.2.2.2 x hx).2 (hz.2 x (Xs hm hx))⟩
  rw[if_neg h1,if_neg h2,if_neg h1,if_neg h2,xY,ZD (by have:=hz.1.2.1; omega),qj,qj]
  cases hE:t.fEntries with
  |nil=>rfl
  |cons a E=>
   rw[if_pos (by rw[qp]; omega)];have ha:=hs a (by rw[hE]; exact qX ..);rw[idx_t (Int.le_refl 0) (show (a::E)[qQ 0]?=some a from rfl),qj,made_l62 (f:=vbK d) a.fTrees 0 [] ha.2 (by rw[qz]; omega)];have:=made_l20 (self:=yx k) (f:=vbK d) (r12:=t.fRest) (by omega) hs xG [a] E (by rw[hE]; rfl) (by have:=Yo; rw[hE,qp] at hl; omega);rw[hE] at this;exact this
theorem of_eq {t:zq}(hz:szT 10 t):Xq t=some (if XJ t=true then (vbK 10 t,true) else (.nil,false)):=by
 rw[Xq,check_eq hz,qj]
 by_cases h:XJ t=true
 · rw[h]
   have hr:Yl 10 t=true:=by unfold XJ at h; rw[qK] at h; exact h.2
   rw[if_neg (by decide),made_eq 10 xG t (by have:=Yo; omega) hr hz]; rfl
 rw[if_pos (by simpa using h),if_neg h]
theorem tags_l8 : ∀ (l:List yJ) (i:Int) (acc:List Int),acc.length+l.length≤1000→xy.l8 l i acc=some (acc++l.map yJ.ftag)
 |[],i,acc,_=>by rw[xy.l8,qr,qB]
 |e::l,i,acc,h=>by
  rw[qp] at h
  rw[xy.l8,ZD (by omega),qj,tags_l8 l _ _ (by rw[qk,q9]; omega),qu]; rfl
theorem get_l4 {f:zq→zs}{e:zA}{B:List zA}(he:e.fTrees.length≤64):∀ (A:List zA) (i:Int),(∀ a∈A,a.fTag≠e.fTag)→xx.l4 e.fTag ((A++e::B).map (entV f)) i=some (e.fTrees.map f)
 |[],i,_=>by
  rw[qE,qt,xx.l4,if_pos (show (entV f e).ftag=e.fTag from rfl),show (entV f e).fl=e.fTrees.map f from rfl,Za,ZD (by rw[uj]; omega)]; rfl
 |a::A,i,h=>by
  rw[qF,qt,xx.l4,if_neg (show ¬ (entV f a).ftag=e.fTag from h a (qX ..))]
  exact get_l4 he A _ fun b hb=>h b (qU _ hb)
theorem rawL_len {enc:zq→Option (List UInt8)}{tag:Int}:∀ {l:List zq} {m:List yo},rawL enc tag l=some m→m.length=l.length
 |[],m,h=>by cases h; rfl
 |x::l,m,h=>by
  obtain⟨r,_,h⟩:=bind_some h;obtain⟨m',h1,h⟩:=bind_some h;cases h;rw[qp,qp,rawL_len h1]
def vaE (o:Option (List yo))(k:List yo→Option (List yo×Int)):Option (List yo×Int):=
 match o with
 |some m=>k m
 |none=>some ([],4)
theorem raws_l24 {selfR:Int→zs→Option (yo×Int)}{f:zq→zs}{enc:zq→Option (List UInt8)}{x6:Int}{rec10:Int→List yo→Option (List yo×Int)}{tag:Int}:∀ (l:List zq) (i:Int) (acc:List yo),(∀ x∈l,selfR tag (f x)=some (match rawT enc tag x with|some r=>(r,0)|none=>(⟨0,0,0,[]⟩,4)))→acc.length+l.length<3518437208882→
 yF.l24 selfR x6 rec10 tag (l.map f) i acc=vaE (rawL enc tag l) fun m=>rec10 (x6+1) (acc++m)
 |[],i,acc,_,_=>by rw[qr,yF.l24,rawL,vaE,qB]
 |x::l,i,acc,h,hl=>by
  rw[qp] at hl;rw[qt,yF.l24,h x (qX ..),qj,rawL]
  cases hx:rawT enc tag x with
  |none=>rfl
  |some r=>
   dsimp only
   rw[if_pos rfl,ZD (by omega),qj,raws_l24 l _ _ (fun z hz=>h z (qU _ hz)) (by rw[qk,q9]; omega),qj]
   cases rawL enc tag l with
   |none=>rfl
   |some m=>simp only[vaE,qj,qu,qF,qE]
theorem raws_l10 {selfR:Int→zs→Option (yo×Int)}{f:zq→zs}{enc:zq→Option (List UInt8)}{E:List zA}{rest:List yo}(hs:E.Pairwise TagLt)(ht:∀ e∈E,e.fTrees.length≤64∧∀ x∈e.fTrees,selfR e.fTag (f x)=some (match rawT enc e.fTag x with|some r=>(r,0)|none=>(⟨0,0,0,[]⟩,4)))(hn:E.length≤500):
 ∀ (B A:List zA) (i:Int) (acc:List yo),E=A++B→acc.length≤900000+64*A.length→yF.l10 selfR ⟨E.map (entV f),rest⟩ (B.map zA.fTag) i acc=vaE (rawE enc B) fun m=>some (srt (acc++m),0)
 |[],A,i,acc,h,ha=>by
  have hl:E.length=A.length:=by rw[h,qB]
  rw[qr,yF.l10,sorted_eq (by omega),rawE,vaE,qB]; rfl
 |e::B,A,i,acc,h,ha=>by
  have hl:E.length=A.length+(B.length+1):=by rw[h,qk,qp]
  have he:=ht e (by rw[h]; exact List.mem_append_right _ (qX ..))
  have hA:∀ a∈A,a.fTag≠e.fTag:=fun a hm=>by
   rw[h] at hs;have:=(List.pairwise_append.1 hs).2.2 a hm e (qX ..)
   unfold TagLt at this; omega
  have hg:xx ⟨E.map (entV f),rest⟩ e.fTag=some (e.fTrees.map f):=by
   rw[xx,h]; exact get_l4 he.1 A 0 hA
  rw[qt,yF.l10,hg,qj,raws_l24 (enc:=enc) e.fTrees 0 acc he.2 (by omega),rawE]
  cases hL:rawL enc e.fTag e.fTrees with
  |none=>rfl
  |some m=>
   have hm:=rawL_len hL;rw[vaE,raws_l10 hs ht hn B (A++[e]) _ _ (by rw[h,qu]; rfl) (by rw[qk,qk,q9]; omega),qj]
   cases rawE enc B with
   |none=>rfl
   |some m'=>simp only[vaE,qj,qu]
end
section
set_option maxRecDepth 4000
open AM
theorem putB_some {l:List yo}{b:List UInt8}(h:putB l=some b):b=va9 l∧b.length≤4096:=by
 unfold putB at h
 split at h
 · cases h
 cases h; exact⟨rfl,by omega⟩
theorem encT_le {d:Nat}{t:zq}{b:List UInt8}(h:vbF d t=some b):b.length≤4096:=by
 cases d with
 |zero=>cases h
 |succ d=>
  rw[vbF] at h;obtain⟨L,_,h⟩:=bind_some h;exact (putB_some h).2
theorem rawT_ok {d:Nat}{tag:Int}{x:zq}{r:yo}(h1:1≤tag)(h2:tag≤500)(hx:vb1 x.fN)(h:rawT (vbF d) tag x=some r):rawOk r∧r.fTag=tag:=by
 unfold rawT at h
 split at h
 · cases h; exact⟨⟨check_num h1 h2,hx⟩,rfl⟩
 split at h
 · split at h
   · cases h
   cases h; exact⟨⟨check_text h1 h2 (by omega),in0⟩,rfl⟩
 obtain⟨b,hb,h⟩:=bind_some h
 cases h; exact⟨⟨check_text h1 h2 (encT_le hb),in0⟩,rfl⟩
theorem rawL_ok {d:Nat}{tag:Int}(h1:1≤tag)(h2:tag≤500):∀ {l:List zq} {m:List yo},(∀ x∈l,vb1 x.fN)→rawL (vbF d) tag l=some m→∀ r∈m,rawOk r∧r.fTag=tag
 |[],m,_,h,r,hr=>by cases h; cases hr
 |x::l,m,hx,h,r,hr=>by
  obtain⟨a,ha,h⟩:=bind_some h;obtain⟨m',hm,h⟩:=bind_some h;cases h
  rcases q5.1 hr with rfl|hr
  · exact rawT_ok h1 h2 (hx x (qX ..)) ha
  exact rawL_ok h1 h2 (fun z hz=>hx z (qU _ hz)) hm r hr
theorem rawE_ok {d:Nat}:∀ {l:List zA} {m:List yo},(∀ e∈l,1≤e.fTag∧e.fTag≤500∧∀ x∈e.fTrees,vb1 x.fN)→rawE (vbF d) l=some m→∀ r∈m,rawOk r∧∃ e∈l,r.fTag=e.fTag
 |[],m,_,h,r,hr=>by cases h; cases hr
 |e::l,m,hx,h,r,hr=>by
  obtain⟨a,ha,h⟩:=bind_some h;obtain⟨m',hm,h⟩:=bind_some h;cases h;have he:=hx e (qX ..)
  rcases uP.1 hr with hr|hr
  · have:=rawL_ok he.1 he.2.1 he.2.2 ha r hr;exact⟨this.1,e,qX ..,this.2⟩
  obtain⟨h1,e',h2,h3⟩:=rawE_ok (fun z hz=>hx z (qU _ hz)) hm r hr;exact⟨h1,e',qU _ h2,h3⟩
theorem szT_own {d:Nat}{t:zq}(h:szT d t):ownS t:=by
 cases d with
 |zero=>exact h
 |succ d=>exact h.1
theorem restB_mem {t:zq}(h:restB t=true):(∀ r∈t.fRest,xF r=true∧∀ e∈t.fEntries,e.fTag≠r.fTag)∧t.fRest.Pairwise vaf:=by
 unfold restB at h;rw[qK] at h;refine⟨fun r hr=>?_,risB_iff.1 h.2⟩;have:=uf.1 h.1 r hr;rw[qK,Bool.not_eq_true'] at this;refine⟨this.1,fun e he hc=>?_⟩;have h2:=List.any_eq_false.1 this.2 e he;exact h2 (decide_eq_true hc)
theorem raws_ok {d:Nat}{t:zq}{L:List yo}(hr:Yl (d+1) t=true)(h3:t.fKind=3)(hz:szT (d+1) t)(hL:rawE (vbF d) t.fEntries=some L):∀ r∈srt (t.fRest++L),rawOk r:=by
 obtain⟨_,he,hb,_,_⟩:=vbE hr h3
 intro r hm
 rw[srt_mem] at hm
 rcases uP.1 hm with hm|hm
 · exact⟨((restB_mem hb).1 r hm).1,hz.1.2.2 r hm⟩
 exact (rawE_ok (fun e hm=>by
  have:=XN he e hm
  exact⟨by omega,this.2.1,fun x hx=>(szT_own (hz.2 x (Xs hm hx))).1⟩) hL r hm).1
def vdt (o:Option (List UInt8)):List UInt8×Int:=
 match o with
 |some b=>(b,0)
 |none=>([],4)
theorem vbU {l:List yo}(h:∀ r∈l,rawOk r):xq l=some (vdt (putB l)):=by
 rw[putAll_eq fun r hr=>(h r hr).2,if_pos (uf.2 fun r hr=>(h r hr).1),putB]
 split
 · rfl
 rfl
theorem tags_eq {f:zq→zs}{E:List zA}{rest:List yo}(h:E.length≤500):xy ⟨E.map (entV f),rest⟩=some (E.map zA.fTag):=by
 rw[xy];have:=tags_l8 (E.map (entV f)) 0 [] (by rw[qz,uj]; omega)
 rw[this,qE,List.map_map]; rfl
theorem raws_eq {selfB:yg→Option (List UInt8×Int)}{selfR:Int→zs→Option (yo×Int)}{selfS:yg→Option (List yo×Int)}{f:zq→zs}{enc:zq→Option (List UInt8)}{E:List zA}{rest:List yo}(hs:E.Pairwise TagLt)(ht:∀ e∈E,e.fTrees.length≤64∧∀ x∈e.fTrees,selfR e.fTag (f x)=some (match rawT enc e.fTag x with|some r=>(r,0)|none=>(⟨0,0,0,[]⟩,4)))(hn:E.length≤500)(hr:rest.length≤900000):
 yF.body selfB selfR selfS ⟨E.map (entV f),rest⟩=vaE (rawE enc E) fun m=>some (srt (rest++m),0):=by
 rw[yF.body,tags_eq hn,wJ,xY,ZD (by dsimp only; omega),qj,qj,qj,qj];exact raws_l10 hs ht hn E [] 0 rest rfl (by rw[qz]; omega)
theorem bytes_eq : ∀ (d k:Nat) (t:zq) (es:List yJ) (rs:List yo),3*d≤k→Yl d t=true→t.fKind=3→szT d t→vbK d t=.node es rs→ww k ⟨es,rs⟩=some (vdt (vbF d t))
 |0,k,t,es,rs,_,hr,h3,_,_=>by
  rcases vbp hr with h|h<;>omega
 |d+1,k,t,es,rs,hk,hr,h3,hz,hv=>by
  obtain⟨k',rfl⟩:∃ k',k=k'+3:=⟨k-3,by omega⟩
  obtain⟨hl,he,hb,_,_⟩:=vbE hr h3;rw[vbK,if_neg (by omega),if_neg (by omega)] at hv;cases hv
  have hs:∀ e∈t.fEntries,e.fTrees.length≤64∧∀ x∈e.fTrees,xP (k'+1) e.fTag (vbK d x)=some (match rawT (vbF d) e.fTag x with|some r=>(r,0)|none=>(⟨0,0,0,[]⟩,4)):=by
   intro e hm
   have h1:=XN he e hm;refine⟨h1.2.2.2.1,fun x hx=>?_⟩;have hrx:=(h1.2.2.2.2 x hx).2;have hzx:=hz.2 x (Xs hm hx);rw[xP,xP.body,rawT]
   rcases vbC hrx with h|h|h
   · have hv:vbK d x=.num x.fN:=by cases d<;>rw[vbK,if_pos h]
     rw[hv,if_pos h]; rfl
   · have hv:vbK d x=.str x.fS:=by cases d<;>rw[vbK,if_neg (by omega),if_pos h]
     rw[hv,if_neg (by omega),if_pos h,show Yj (.str x.fS)=some (.str x.fS) from rfl,qj]
     dsimp only
     rw[xP.j3]
     by_cases hc:4096<x.fS.length
     · rw[if_pos hc,if_pos (by dsimp only; omega)]
     rw[if_neg hc,if_neg (by dsimp only; omega)]
   have h1':¬ x.fKind=1:=by omega
   have h2':¬ x.fKind=2:=by omega
   obtain⟨es,rs,hv⟩:∃ es rs,vbK d x=.node es rs:=by cases d<;>exact⟨_,_,by rw[vbK,if_neg h1',if_neg h2']⟩
   rw[hv,if_neg h1',if_neg h2',show Yj (.node es rs)=some (.node es rs) from rfl,qj]
   dsimp only
   rw[bytes_eq d k' x es rs (by omega) hrx h hzx hv,qj]
   cases hx':vbF d x with
   |none=>rfl
   |some b=>
    have hbl:=encT_le hx'
    rw[vdt]; dsimp only
    rw[if_pos rfl,xP.j3,if_neg (by dsimp only; omega),qj]
  have hR:yF (k'+2) ⟨t.fEntries.map fun e=>⟨e.fTag,e.fTrees.map (vbK d)⟩,t.fRest⟩=vaE (rawE (vbF d) t.fEntries) fun m=>some (srt (t.fRest++m),0):=by
   rw[yF];exact raws_eq (f:=vbK d) (va3 he) hs hl hz.1.2.1
  rw[ww,ww.body,hR,vbF]
  cases hL:rawE (vbF d) t.fEntries with
  |none=>rfl
  |some L=>
   rw[vaE,qj]; dsimp only
   rw[if_pos rfl,vbU (raws_ok hr h3 hz hL),qj,qj]
theorem rawE_eq {d k:Nat}{t:zq}(hk:3*d+2≤k)(hr:Yl (d+1) t=true)(h3:t.fKind=3)(hz:szT (d+1) t):yF k ⟨t.fEntries.map (entV (vbK d)),t.fRest⟩=vaE (rawE (vbF d) t.fEntries) fun m=>some (srt (t.fRest++m),0):=by
 obtain⟨k',rfl⟩:∃ k',k=k'+2:=⟨k-2,by omega⟩
 obtain⟨hl,he,hb,_,_⟩:=vbE hr h3;rw[yF];refine raws_eq (f:=vbK d) (va3 he) ?_ hl hz.1.2.1
 intro e hm
 have h1:=XN he e hm;refine⟨h1.2.2.2.1,fun x hx=>?_⟩;have hrx:=(h1.2.2.2.2 x hx).2;have hzx:=hz.2 x (Xs hm hx);rw[xP,xP.body,rawT]
 rcases vbC hrx with h|h|h
 · have hv:vbK d x=.num x.fN:=by cases d<;>rw[vbK,if_pos h]
   rw[hv,if_pos h]; rfl
 · have hv:vbK d x=.str x.fS:=by cases d<;>rw[vbK,if_neg (by omega),if_pos h]
   rw[hv,if_neg (by omega),if_pos h,show Yj (.str x.fS)=some (.str x.fS) from rfl,qj]
   dsimp only
   rw[xP.j3]
   by_cases hc:4096<x.fS.length
   · rw[if_pos hc,if_pos (by dsimp only; omega)]
   rw[if_neg hc,if_neg (by dsimp only; omega)]
 have h1':¬ x.fKind=1:=by omega
 have h2':¬ x.fKind=2:=by omega
 obtain⟨es,rs,hv⟩:∃ es rs,vbK d x=.node es rs:=by cases d<;>exact⟨_,_,by rw[vbK,if_neg h1',if_neg h2']⟩
 rw[hv,if_neg h1',if_neg h2',show Yj (.node es rs)=some (.node es rs) from rfl,qj]
 dsimp only
 rw[bytes_eq d k' x es rs (by omega) hrx h hzx hv,qj]
 cases hx':vbF d x with
 |none=>rfl
 |some b=>
  have hbl:=encT_le hx'
  rw[vdt]; dsimp only
  rw[if_pos rfl,xP.j3,if_neg (by dsimp only; omega),qj]
theorem vbX {t:zq}(h:XJ t=true):Yl 10 t=true∧vbv 101 t≤10:=by
 unfold XJ at h;rw[qK,decide_eq_true_eq] at h;exact⟨h.2,h.1⟩
theorem Raws_eq {t:zq}(hz:szT 10 t):YX t=some (if XJ t=true∧t.fKind=3 then (match rawE (vbF 9) t.fEntries with|some L=>(srt (t.fRest++L),(0:Int))|none=>([],4)) else ([],1)):=by
 rw[YX,of_eq hz,qj]
 by_cases hc:XJ t=true
 · rw[if_pos hc]
   by_cases h3:t.fKind=3
   · rw[if_neg (by rw[decide_eq_true h3]; exact Bool.false_ne_true),if_pos ⟨hc,h3⟩]
     have hv:vbK 10 t=.node (t.fEntries.map (entV (vbK 9))) t.fRest:=by rw[vbK,if_neg (by omega),if_neg (by omega)]; rfl
     rw[hv,show xS (.node (t.fEntries.map (entV (vbK 9))) t.fRest)=some ⟨t.fEntries.map (entV (vbK 9)),t.fRest⟩ from rfl,qj,rawE_eq (d:=9) (by have:=Yo; omega) (vbX hc).1 h3 hz]
     cases rawE (vbF 9) t.fEntries<;>rfl
   rw[if_pos (by rw[decide_eq_false h3]; rfl),if_neg (fun h=>h3 h.2)]
 rw[if_neg hc,if_pos (by rfl),if_neg (fun h=>hc h.1)]
theorem Encode_eq {t:zq}(hz:szT 10 t):ZP t=some (if XJ t=true∧t.fKind=3 then vdt (vbF 10 t) else ([],1)):=by
 rw[ZP,Raws_eq hz,qj]
 by_cases hc:XJ t=true∧t.fKind=3
 · rw[if_pos hc,if_pos hc,vbF]
   cases hL:rawE (vbF 9) t.fEntries with
   |none=>rfl
   |some L=>
    dsimp only
    rw[if_pos rfl,vbU (raws_ok (vbX hc.1).1 hc.2 hz hL),qj,qj]
 rw[if_neg hc,if_neg hc]; rfl
end
section
set_option maxRecDepth 4000
open AM
theorem ref_more (n:Nat):ua (qQ (IntKind.u8.wrap ((IntKind.u8.wrap ((n:Int).tmod 128))+128)))=ua (n % 128+128):=by
 have e:(n:Int).tmod 128=((n % 128:Nat):Int):=by rw[Int.tmod_eq_emod_of_nonneg (by omega)]; omega
 rw[e,u8w,show ((n % 128 % 256:Nat):Int)+128=((n % 128+128:Nat):Int) by omega,u8w,ul]
 congr 1; omega
theorem ref_next {n:Nat}(h:n<2^64):IntKind.u64.wrap ((n:Int).tdiv 128)=((n / 128:Nat):Int):=by
 rw[Int.tdiv_eq_ediv_of_nonneg (by omega),u64i (by omega) (by omega)]; omega
theorem ref02_l : ∀ (k n:Nat) (l:List UInt8),n<2^64→(vb n).length≤k→l.length+k≤1000000→wB.l8 k l (n:Int)=some (l++vb n)
 |0,n,l,_,h,_=>by have:=vb_pos n; omega
 |k+1,n,l,hn,h,hl=>by
  by_cases h1:n<128
  · rw[wB.l8,if_neg (by omega),ZD (by omega),qj,lastByte n h1,vb_lt h1]
  rw[vb_ge h1,qp] at h
  rw[wB.l8,if_pos (by omega),ZD (by omega),qj,ref_more,ref_next hn,vb_ge h1,ref02_l k (n / 128) _ (by omega) (by omega) (by rw[qk,q9]; omega),qu]; rfl
theorem ref02_m : ∀ (k j n:Nat) (l r:List UInt8),n<2^64→wB.l8 k l (n:Int)=some r→wB.l8 (k+j) l (n:Int)=some r
 |0,_,_,_,_,_,h=>by cases h
 |k+1,j,n,l,r,hn,h=>by
  rw[Nat.succ_add_eq_add_succ,Nat.add_succ]
  by_cases h1:(128:Int)≤(n:Int)
  · rw[wB.l8,if_pos h1] at h ⊢
    cases hr:vai (qg l+1) 1 with
    |none=>rw[hr] at h; cases h
    |some u=>
     rw[hr,qj,ref_next hn] at h
     rw[qj,ref_next hn]; exact ref02_m k j _ _ _ (by omega) h
  rw[wB.l8,if_neg h1] at h ⊢; exact h
theorem vbm {n:Nat}(h:n<2^64):wB (n:Int)=some (vb n):=by
 have:=ref02_m 10 999999999999999999990 n [] (vb n) h (ref02_l 10 n [] h (Y6 h) (by decide));exact this
theorem ref02_Zig_eq {n:Int}(h:vb1 n):X4 n=(zg n:Int):=by
 obtain⟨h1,h2⟩:=h;unfold X4 zg
 by_cases h0:0≤n
 · rw[if_pos h0,if_pos h0,u64i h0 (by omega),u64i (by omega) (by omega)]; omega
 rw[if_neg h0,if_neg h0,Y4 (x:=n+1) (by omega) (by omega),Y4 (by omega) (by omega),u64i (x:=0-(n+1)) (by omega) (by omega),u64i (x:=2*(0-(n+1))) (by omega) (by omega),u64i (by omega) (by omega)]; omega
theorem vbM (r:yo):Yd r=xF r:=by
 unfold Yd xF
 by_cases h0:r.fWire=0
 · simp only[h0,if_true]
 by_cases h1:r.fWire=1
 · simp only[h1,decide_true,ui,if_true]
 simp only[h0,h1,if_false,decide_false,Bool.false_and]
theorem ref04_Put_eq {r:yo}(h:rawOk r):YO r=some (rawB r):=by
 obtain⟨hc,hn⟩:=h;obtain⟨h1,h2,h3⟩:=vbY hc
 have ek:IntKind.u64.wrap (IntKind.i64.wrap ((IntKind.i64.wrap (2*r.fTag))+r.fWire))=((keyN r:Nat):Int):=by
  rw[Y4 (x:=2*r.fTag) (by omega) (by omega),Y4 (by omega) (by omega),u64i (by omega) (by omega),keyN]; omega
 have k1:keyN r<2^64:=by unfold keyN; omega
 have kl:=Y6 k1;unfold YO;rw[ek,vbm k1,qj]
 rcases h3 with ⟨h3,h4⟩|⟨h3,h4,h5⟩
 · have hz:=Y6 (zg_lt hn);rw[if_pos h3,bnd,ref02_Zig_eq hn,vbm (zg_lt hn),qj,ZD (by omega),qj,rawB,if_pos h3]
 have hb:=Y6 (n:=r.fB.length) (by omega);rw[if_neg (by omega),u64w (by omega),vbm (by omega),qj,ZD (by omega),qj,ZD (by rw[qk]; omega),qj,rawB,if_neg (by omega),qu]
theorem ref04_l13 : ∀ (q:List yo) (x:Int) (acc:List UInt8),(∀ r∈q,rawOk r)→acc.length≤4096→xw.l13 q x acc=some (if 4096<(acc++va9 q).length then ([],4) else (acc++va9 q,0))
 |[],x,acc,_,ha=>by
  rw[xw.l13,va9,qG,qB,if_neg (by omega)]
 |r::q,x,acc,h,ha=>by
  have hr:=h r (qX ..);have hrl:=rawB_le hr;rw[xw.l13,ref04_Put_eq hr,qj,ZD (by omega),qj]
  have e:acc++va9 (r::q)=(acc++rawB r)++va9 q:=by rw[va9,qC,qu]; rfl
  rw[e]
  by_cases h1:4096<(acc++rawB r).length
  · rw[if_pos (by omega),if_pos (by rw[qk]; omega)]
  rw[if_neg (by omega),ref04_l13 q (x+1) _ (fun s hs=>h s (qU _ hs)) (by omega)]
theorem ref04_l4 (a:List yo):∀ (q:List yo) (x:Int),xw.l4 a q x=if q.all xF then xw.l13 a 0 [] else some ([],1)
 |[],x=>by rw[xw.l4]; rfl
 |r::q,x=>by
  rw[xw.l4,bnd,qS,vbM]
  by_cases h:xF r=true
  · rw[h,if_neg (by decide),ref04_l4 a q]; rfl
  rw[if_pos (by simpa using h),if_neg (by rw[qK]; exact fun hh=>h hh.1)]
theorem vdq {l:List yo}(h:∀ r∈l,vb1 r.fN):xw l=xq l:=by
 rw[putAll_eq h,xw,ref04_l4]
 by_cases h1:l.all xF=true
 · rw[if_pos h1,if_pos h1,ref04_l13 l 0 [] (fun r hr=>⟨uf.1 h1 r hr,h r hr⟩) (by decide)]; rfl
 rw[if_neg h1,if_neg h1]
theorem set_app0 {α:Type}{A B:List α}{x y:α}{i:Int}(h:i=A.length):setI (A++x::B) i y=A++y::B:=by
 subst h;rw[setI,ul,List.set_append_right _ _ (qI _),uI,uA]
theorem ref_l20 {r:yo}(x4:Int)(rec8:Int→List yo→Option (List yo)):∀ (k:Nat) (A B:List yo),A.Pairwise vaf→(∀ b∈B,r.fTag<b.fTag)→A.length<k→A.length<1000000→
 yw.l20 x4 rec8 k (A++r::B) (A.length:Int)=rec8 (x4+1) (vdx r (A++B))
 |0,A,B,_,_,h,_=>by omega
 |k+1,A,B,hA,hB,hk,hn=>by
  have stop:(∀ a∈A,a.fTag≤r.fTag)→yw.j23 x4 rec8 (A++r::B) (A.length:Int) (yw.l20 x4 rec8 k) false=rec8 (x4+1) (vdx r (A++B)):=by
   intro hle
   rw[yw.j23,if_neg (by decide),insR_app hle hB]
  rcases List.eq_nil_or_concat A with rfl|⟨A',a,rfl⟩
  · rw[yw.l20,if_neg (by simp)];exact stop (fun a ha=>by cases ha)
  rw[List.concat_eq_append] at *
  have hlA:(A'++[a]).length=A'.length+1:=by rw[qk,q9]
  have e1:IntKind.i64.wrap (((A'++[a]).length:Int)-1)=(A'.length:Int):=by rw[Y4 (by omega) (by omega)]; omega
  have i1:YN ((A'++[a])++r::B) (A'.length:Int)=some a:=by rw[qu]; exact vbq rfl
  have i2:YN ((A'++[a])++r::B) ((A'++[a]).length:Int)=some r:=vbq rfl;rw[yw.l20,if_pos (by omega),e1,i1,qj,i2,qj]
  by_cases hgt:r.fTag<a.fTag
  · have s1:setI ((A'++[a])++r::B) (A'.length:Int) r=(A'++[r])++r::B:=by
     rw[qu,qu]; exact set_app0 rfl
    have i3:YN ((A'++[r])++r::B) ((A'++[a]).length:Int)=some r:=vbq (by rw[hlA,qk,q9]);have s2:setI ((A'++[r])++r::B) ((A'++[a]).length:Int) a=(A'++[r])++a::B:=set_app0 (by rw[hlA,qk,q9]);rw[decide_eq_true hgt,yw.j23,if_pos rfl,i2,qj,e1,i1,qj,s1,i3,qj,s2,qu]
    have:=ref_l20 (r:=r) x4 rec8 k A' (a::B) (List.pairwise_append.1 hA).1 (fun b hb=>by
     rcases q5.1 hb with rfl|hb
     · exact hgt
     exact hB b hb) (by omega) (by omega)
    rw[qu];exact this
  rw[decide_eq_false hgt];refine stop ?_
  intro x hx
  rcases uP.1 hx with hx|hx
  · have:=(List.pairwise_append.1 hA).2.2 x hx a (List.mem_singleton.2 rfl)
    unfold vaf at this; omega
  rw[List.mem_singleton] at hx; subst hx; omega
theorem ref_l8 : ∀ (q S:List yo) (x:Int),S.Pairwise vaf→S.length+q.length<1000000→yw.l8 q x S=some (srtA q S)
 |[],S,x,_,_=>rfl
 |r::q,S,x,hS,hn=>by
  rw[qp] at hn;rw[yw.l8,ZD (by omega),qj];have:=ref_l20 (r:=r) x (yw.l8 q) xG S [] hS (fun b hb=>by cases hb) (by have:=Yo; omega) (by omega);rw[qB] at this;rw[this,ref_l8 q (vdx r S) _ (X7 hS) (by rw[vc5]; omega),srtA]
theorem vdo {l:List yo}(h:l.length<1000000):yw l=some (srt l):=
 ref_l8 l [] 0 List.Pairwise.nil (by rw[qz]; omega)
theorem ref04_ris : ∀ (L:List yo) (k:Nat) (x:Int),w4.l4 L k x=wI.l4 L k x
 |L,0,x=>rfl
 |L,k+1,x=>by
  rw[w4.l4,wI.l4];simp only[ref04_ris L k]
theorem vdp (l:List yo):w4 l=wI l:=ref04_ris l xG 1
theorem rdeep_l18 {self:zq→Int→Option Int}{m:Nat}{a:Int}(ha:a=100-m)(hm:m≤100)(hs:∀ x,self x (a+1)=some ((vbv m x:Nat):Int)){x7:Int}{rec10:Int→Int→Option Int}:∀ (l:List zq) (i:Int) (d:Nat),
 yI.l18 self a x7 rec10 l i (d:Int)=rec10 (x7+1) ((maxD (vbv m) l d:Nat):Int)
 |[],i,d=>rfl
 |x::l,i,d=>by
  rw[yI.l18,Y4 (by omega) (by omega),hs,qj,maxD]
  have e:(if (d:Int)<((vbv m x:Nat):Int) then ((vbv m x:Nat):Int) else (d:Int))=((max d (vbv m x):Nat):Int):=by split<;>omega
  rw[e]; exact rdeep_l18 ha hm hs l _ _
theorem rdeep_l10 {self:zq→Int→Option Int}{m:Nat}{a:Int}(ha:a=100-m)(hm:m≤100)(hs:∀ x,self x (a+1)=some ((vbv m x:Nat):Int)):∀ (l:List zA) (i:Int) (d:Nat),d≤m→
 yI.l10 self a l i (d:Int)=some ((maxD (vbv m) (l.flatMap zA.fTrees) d+1:Nat):Int)
 |[],i,d,hd=>by
  rw[yI.l10,Y4 (by omega) (by omega),qG,maxD,if_neg (by omega)]; rfl
 |e::l,i,d,hd=>by
  rw[yI.l10,rdeep_l18 ha hm hs,rdeep_l10 ha hm hs l _ _ (maxD_le hd fun x _=>depT_le m x),qC,maxD_app]
theorem rdeep_eq : ∀ (m k:Nat) (t:zq) (a:Int),m≤101→m<k→a=101-m→yI k t a=some ((vbv m t:Nat):Int)
 |m,0,t,a,_,h,_=>by omega
 |0,k+1,t,a,_,_,ha=>by
  rw[yI,yI.body,if_pos (by simp only[uk,decide_eq_true_eq]; right; omega)]; rfl
 |m+1,k+1,t,a,hm,hk,ha=>by
  rw[yI,yI.body,vbv]
  by_cases h3:t.fKind=3
  · rw[if_neg (by simp only[h3,decide_true,qw,uM,decide_eq_true_eq]; omega),if_pos h3];exact rdeep_l10 (by omega) (by omega) (fun x=>rdeep_eq m k x _ (by omega) (by omega) (by omega)) t.fEntries 0 0 (qW _)
  rw[if_pos (by simp[h3]),if_neg h3]; rfl
theorem ref09_Depth_eq (t:zq):YU t=some ((vbv 101 t:Nat):Int):=by
 rw[YU,rdeep_eq 101 xG t 0 (by omega) (by have:=Yo; omega) (by omega)]; rfl
theorem rhas_eq {a:Int}:∀ (l:List zA) (i:Int),ZM.l4 a l i=l.any fun e=>decide (e.fTag=a)
 |[],i=>rfl
 |e::l,i=>by
  rw[ZM.l4,List.any_cons]
  by_cases h:e.fTag=a
  · rw[if_pos h,decide_eq_true h,uE]
  rw[if_neg h,decide_eq_false h,uM,rhas_eq]
theorem rrest_l4 {t:zq}(hr:t.fRest.length<4611686018427387904):∀ (l:List yo) (i:Int),wq.l4 t l i=some (l.all (fun r=>xF r && !(t.fEntries.any fun e=>decide (e.fTag=r.fTag)))&&risB t.fRest)
 |[],i=>by rw[wq.l4,vdp,rising_eq hr]; rfl
 |r::l,i=>by
  rw[wq.l4,bnd,qS,vbM]
  cases hc:xF r with
  |false=>rfl
  |true=>
   rw[if_neg (by decide),bnd,ZM,rhas_eq]
   cases ha:t.fEntries.any fun e=>decide (e.fTag=r.fTag) with
   |true=>rfl
   |false=>rw[wq.j10,if_neg (by decide),rrest_l4 hr l]; rfl
theorem vcN {self:zq→Option Bool}{f:zq→Bool}{x3:Int}{rec6:Int→Int→Option Bool}{y:zA}(hy:1≤y.fTrees.length):∀ (l:List zq) (i:Int),(∀ x∈l,self x=some (f x))→
 yf.l18 self x3 rec6 y l i=if (l.all fun x=>decide (x.fKind=(y.fTrees.headD zTree).fKind)&&f x)=true then rec6 (x3+1) y.fTag else some false
 |[],i,_=>by rw[yf.l18]; rfl
 |x::l,i,h=>by
  have e1:YN y.fTrees 0=some (y.fTrees.headD zTree):=by
   cases ht:y.fTrees with
   |nil=>rw[ht] at hy; exact absurd hy (by decide)
   |cons a l=>rfl
  rw[yf.l18,e1,qj,qS]
  by_cases hk:x.fKind=(y.fTrees.headD zTree).fKind
  · rw[if_pos hk,h x (qX ..),qj,decide_eq_true hk,ui]
    cases f x with
    |false=>rfl
    |true=>
     rw[yf.j23,if_neg (by decide),vcN hy l _ fun z hz=>h z (qU _ hz),ui]
  rw[if_neg hk,decide_eq_false hk]; rfl
theorem vdm {self:zq→Option Bool}{f:zq→Bool}:∀ (l:List zA) (i last:Int),(∀ e∈l,∀ x∈e.fTrees,self x=some (f x))→yf.l6 self l i last=some (entB f last l)
 |[],i,last,_=>rfl
 |e::l,i,last,h=>by
  rw[yf.l6,entB]
  by_cases hc:last<e.fTag∧e.fTag≤500∧1≤e.fTrees.length∧e.fTrees.length≤64
  · rw[if_neg (by simp only[uk,decide_eq_true_eq]; omega),vcN hc.2.2.1 e.fTrees 0 (h e (qX ..)),decide_eq_true hc,ui]
    cases ha:e.fTrees.all fun x=>decide (x.fKind=(e.fTrees.headD zTree).fKind)&&f x with
    |false=>rfl
    |true=>rw[if_pos rfl,vdm l _ _ fun y hy=>h y (qU _ hy),ui]
  rw[if_pos (by simp only[uk,decide_eq_true_eq]; omega),decide_eq_false hc]; rfl
theorem rright_eq : ∀ (d m k:Nat) (t:zq),d<m→vbv m t≤d→2*d<k→szT d t→xW k t=some (Yl d t)
 |d,m,0,t,_,_,h,_=>by omega
 |0,m+1,k+1,t,_,hd,_,hz=>by
  have h3:¬ t.fKind=3:=by
   intro h; rw[vbv,if_pos h] at hd; omega
  rw[xW,xW.body,Yl,leafB,if_neg h3]
  split<;>first|rfl|(split<;>rfl)
 |d+1,m+1,k+1,t,hm,hd,hk,hz=>by
  rw[xW,xW.body,Yl]
  by_cases h3:t.fKind=3
  · have hd':maxD (vbv m) (kids t) 0≤d:=by rw[vbv,if_pos h3] at hd; omega
    obtain⟨k',rfl⟩:∃ k',k=k'+1:=⟨k-1,by omega⟩
    have he:yf (k'+1) t.fEntries=some (entB (Yl d) 0 t.fEntries):=by
     rw[yf,yf.body]
     exact vdm t.fEntries 0 0 fun e he x hx=>rright_eq d m k' x (by omega) (uD (maxD_mem (Xs he hx)) hd') (by omega) (hz.2 x (Xs he hx))
    have hr:wq t=some (restB t):=rrest_l4 (by have:=hz.1.2.1; omega) _ _;rw[if_neg (by omega),if_neg (by omega),if_pos h3,if_pos h3,he,hr]
    cases decide (t.fN=0)&&decide (t.fS=[]) with
    |false=>rfl
    |true=>cases entB (Yl d) 0 t.fEntries<;>rfl
  rw[if_neg h3,if_neg h3,leafB]
  split<;>first|rfl|(split<;>rfl)
theorem ref09_Check_eq {t:zq}(hz:szT 10 t):YV t=some (XJ t):=by
 rw[YV,ref09_Depth_eq,qj,XJ]
 by_cases h:vbv 101 t≤10
 · rw[if_pos (by omega),rright_eq 10 101 xG t (by omega) h (by have:=Yo; omega) hz,decide_eq_true h,ui]; rfl
 rw[if_neg (by omega),decide_eq_false h]; rfl
end
section
set_option maxRecDepth 4000
open AM
theorem rraws_l22 {selfE:zq→Option (List UInt8×Int)}{enc:zq→Option (List UInt8)}{x4:Int}{rec8:Int→List yo→Option (List yo×Int)}{y:zA}:∀ (l:List zq) (i:Int) (acc:List yo),(∀ x∈l,(x.fKind=1∨x.fKind=2∨x.fKind=3)∧(x.fKind=3→selfE x=some (vdt (enc x))∧∀ b,enc x=some b→b.length≤4096))→acc.length+l.length<3000000→
 yG.l22 selfE x4 rec8 y l i acc=vaE (rawL enc y.fTag l) fun m=>rec8 (x4+1) (acc++m)
 |[],i,acc,_,_=>by rw[yG.l22,rawL,vaE,qB]
 |x::l,i,acc,h,hl=>by
  rw[qp] at hl;have hx:=h x (qX ..)
  have go:∀ r:yo,rawT enc y.fTag x=some r→r.fB.length≤4096→yG.j37 i acc (yG.l22 selfE x4 rec8 y l) r=vaE (rawL enc y.fTag (x::l)) fun m=>rec8 (x4+1) (acc++m):=by
   intro r hr hb
   rw[yG.j37,if_neg (by omega),ZD (by omega),qj,rraws_l22 l _ _ (fun z hz=>h z (qU _ hz)) (by rw[qk,q9]; omega),rawL,hr,qj]
   cases rawL enc y.fTag l with
   |none=>rfl
   |some m=>simp only[vaE,qj,qu,qF,qE]
  rw[yG.l22]
  by_cases h1:x.fKind=1
  · rw[if_pos h1];exact go _ (by rw[rawT,if_pos h1]) (qW _)
  rw[if_neg h1]
  by_cases h2:x.fKind=2
  · rw[if_pos h2]
    by_cases hb:4096<x.fS.length
    · rw[yG.j37,if_pos (by dsimp only; omega),rawL,rawT,if_neg h1,if_pos h2,if_pos hb]; rfl
    exact go _ (by rw[rawT,if_neg h1,if_pos h2,if_neg hb]) (by dsimp only; omega)
  rw[if_neg h2];obtain⟨he,hl4⟩:=hx.2 (by rcases hx.1 with h|h|h<;>omega);rw[he,qj]
  cases hx':enc x with
  |none=>rw[rawL,rawT,if_neg h1,if_neg h2,hx']; rfl
  |some b=>
   rw[vdt]; dsimp only
   rw[if_pos rfl];exact go _ (by rw[rawT,if_neg h1,if_neg h2,hx',qj]) (hl4 b hx')
theorem rraws_l8 {selfE:zq→Option (List UInt8×Int)}{enc:zq→Option (List UInt8)}{t:zq}(hr:t.fRest.length≤900000):∀ (l:List zA) (i:Int) (acc:List yo),(∀ e∈l,e.fTrees.length≤64∧∀ x∈e.fTrees,(x.fKind=1∨x.fKind=2∨x.fKind=3)∧(x.fKind=3→selfE x=some (vdt (enc x))∧∀ b,enc x=some b→b.length≤4096))→acc.length+64*l.length≤64000→
 yG.l8 selfE t l i acc=vaE (rawE enc l) fun m=>some (srt ((acc++m)++t.fRest),0)
 |[],i,acc,_,hl=>by
  rw[yG.l8,ZD (by simp only[qz] at hl; omega),qj,vdo (by rw[qk]; simp only[qz] at hl; omega),rawE,vaE,qB]; rfl
 |e::l,i,acc,h,hl=>by
  rw[qp] at hl;have he:=h e (qX ..);rw[yG.l8,rraws_l22 e.fTrees 0 acc he.2 (by omega),rawE]
  cases hL:rawL enc e.fTag e.fTrees with
  |none=>rfl
  |some m=>
   have hm:=rawL_len hL;rw[vaE,rraws_l8 hr l _ _ (fun z hz=>h z (qU _ hz)) (by rw[qk]; omega),qj]
   cases rawE enc l with
   |none=>rfl
   |some m'=>simp only[vaE,qj,qu]
theorem vdA {l:List yo}{t:Int}(h:∀ r∈l,r.fTag≠t):l.filter (fun x=>x.fTag=t)=[]:=by
 rw[List.filter_eq_nil_iff]
 intro r hr
 simpa using h r hr
theorem srt_swap {l m:List yo}(h:∀ a∈l,∀ b∈m,a.fTag≠b.fTag):srt (l++m)=srt (m++l):=by
 refine srt_of (srt_sorted _) fun t=>?_
 rw[srt_filter,List.filter_append,List.filter_append]
 by_cases hl:∃ a∈l,a.fTag=t
 · obtain⟨a,ha,rfl⟩:=hl;rw[vdA (l:=m) (t:=a.fTag) fun b hb hc=>h a ha b hb hc.symm,qB,qE]
 rw[vdA (l:=l) (t:=t) fun a ha hc=>hl ⟨a,ha,hc⟩,qB,qE]
theorem rest_apart {d:Nat}{t:zq}{L:List yo}(hr:Yl (d+1) t=true)(h3:t.fKind=3)(hz:szT (d+1) t)(hL:rawE (vbF d) t.fEntries=some L):∀ a∈L,∀ b∈t.fRest,a.fTag≠b.fTag:=by
 obtain⟨_,he,hb,_,_⟩:=vbE hr h3
 intro a ha b hb' hc
 obtain⟨_,e,hm,he'⟩:=rawE_ok (fun e hm=>by
  have:=XN he e hm
  exact⟨by omega,this.2.1,fun x hx=>(szT_own (hz.2 x (Xs hm hx))).1⟩) hL a ha
 exact ((restB_mem hb).1 b hb').2 e hm (he'.symm.trans hc)
theorem rencode_eq : ∀ (d k:Nat) (t:zq),2*d≤k→Yl d t=true→t.fKind=3→szT d t→xN k t=some (vdt (vbF d t))
 |0,k,t,_,hr,h3,_=>by
  rcases vbp hr with h|h<;>omega
 |d+1,k,t,hk,hr,h3,hz=>by
  obtain⟨k',rfl⟩:∃ k',k=k'+2:=⟨k-2,by omega⟩
  obtain⟨hl,he,hb,_,_⟩:=vbE hr h3
  have hs:∀ e∈t.fEntries,e.fTrees.length≤64∧∀ x∈e.fTrees,(x.fKind=1∨x.fKind=2∨x.fKind=3)∧(x.fKind=3→xN k' x=some (vdt (vbF d x))∧∀ b,vbF d x=some b→b.length≤4096):=by
   intro e hm
   have h1:=XN he e hm;refine⟨h1.2.2.2.1,fun x hx=>?_⟩;have hrx:=(h1.2.2.2.2 x hx).2;exact⟨vbC hrx,fun hx3=>⟨rencode_eq d k' x (by omega) hrx hx3 (hz.2 x (Xs hm hx)),fun b=>encT_le⟩⟩
  rw[xN,xN.body,yG,yG.body,rraws_l8 (enc:=vbF d) hz.1.2.1 t.fEntries 0 [] hs (by rw[qz]; omega),vbF]
  cases hL:rawE (vbF d) t.fEntries with
  |none=>rfl
  |some L=>
   have hok:=raws_ok hr h3 hz hL
   rw[vaE,qj,qE,srt_swap (rest_apart hr h3 hz hL)]; dsimp only
   rw[if_pos rfl,vdq fun r hr=>(hok r hr).2,vbU hok,qj,qj]
theorem vdn {t:zq}(hz:szT 10 t):ZL t=some (if XJ t=true∧t.fKind=3 then vdt (vbF 10 t) else ([],1)):=by
 rw[ZL,ref09_Check_eq hz]
 by_cases h3:t.fKind=3
 · rw[if_pos h3,qj,qj]
   by_cases hc:XJ t=true
   · rw[if_neg (by rw[hc]; decide),if_pos ⟨hc,h3⟩,rencode_eq 10 xG t (by have:=Yo; omega) (vbX hc).1 h3 hz,qj]
   rw[if_pos (by simpa using hc),if_neg (fun h=>hc h.1)]
 rw[if_neg h3,qj,if_pos rfl,if_neg (fun h=>h3 h.2)]
end
section
set_option maxRecDepth 4000
open AM

end
section
set_option maxRecDepth 4000
open AM
inductive Shuf : List yo→List yo→Prop
 |refl (l:List yo):Shuf l l
 |cons (a:yo) {l m:List yo}:Shuf l m→Shuf (a::l) (a::m)
 |swap {a b:yo} (h:a.fTag≠b.fTag) (l:List yo):Shuf (a::b::l) (b::a::l)
 |trans {l m n:List yo}:Shuf l m→Shuf m n→Shuf l n
theorem Shuf.app {l m:List yo}(h:Shuf l m)(k:List yo):Shuf (l++k) (m++k):=by
 induction h with
 |refl l=>exact .refl _
 |cons a _ ih=>exact .cons a ih
 |swap h l=>exact .swap h _
 |trans _ _ h1 h2=>exact .trans h1 h2
end
section
set_option maxRecDepth 4000
open AM

end
section
set_option maxRecDepth 4000
open AM
def s1 : zP:=wS 1
def s2 : zP:=wS 2
def vaj : List UInt8:=[109]
def X6 (v:Int):zq:=w5 v
def oneB (v:Int):zq:=⟨3,0,[],[⟨1,[⟨1,v,[],[],[]⟩]⟩],[]⟩
theorem vaV {v:Int}(h:v≠0):X6 v=oneB v:=if_neg h
theorem check1 : yO s1=some 0:=by decide +kernel
theorem check2 : yO s2=some 0:=by decide +kernel
theorem msg1 : yy s1 vaj=(⟨vaj,[⟨[120],1,1,⟨1,[]⟩⟩],[]⟩,true):=by decide +kernel
theorem msg2 : yy s2 vaj=(⟨vaj,[⟨[120],1,1,⟨2,[]⟩⟩],[]⟩,true):=by decide +kernel
theorem meth1 : wh s1 [99]=(⟨[99],vaj,vaj⟩,true):=by decide +kernel
theorem meth2 : wh s2 [99]=(⟨[99],vaj,vaj⟩,true):=by decide +kernel
theorem progK : wt ⟨[[⟨1,1,0⟩]]⟩=true:=by decide +kernel
theorem oneB_sz {v:Int}(h:vb1 v):szT 10 (oneB v):=by
 refine⟨⟨by show vb1 0; unfold vb1; omega,by show (0:Nat)≤900000; omega,fun r hm=>by cases hm⟩,fun x hx=>?_⟩
 have hx':x=⟨1,v,[],[],[]⟩:=by simpa [kids,oneB,zq.fEntries,zA.fTrees] using hx
 subst hx';exact⟨⟨h,by show (0:Nat)≤900000; omega,fun r hm=>by cases hm⟩,fun x hx=>by cases hx⟩
theorem zero_sz : szT 10 (⟨3,0,[],[],[]⟩:zq):=
 ⟨⟨by show vb1 0; unfold vb1; omega,by show (0:Nat)≤900000; omega,fun r hm=>by cases hm⟩,fun x hx=>by cases hx⟩
theorem oneT_sz {v:Int}(h:vb1 v):szT 10 (X6 v):=by
 by_cases h0:v=0
 · subst h0; exact zero_sz
 rw[vaV h0]; exact oneB_sz h
theorem vbD (v:Int):XJ (X6 v)=true:=by
 by_cases h0:v=0
 · subst h0; decide +kernel
 rw[vaV h0]; rfl
theorem vdu (v:Int):(X6 v).fKind=3:=by
 by_cases h0:v=0
 · subst h0; rfl
 rw[vaV h0]; rfl
theorem oneT_enc {v:Int}(h:vb1 v):∃ c,vbF 10 (X6 v)=some c:=by
 by_cases h0:v=0
 · subst h0; exact⟨[],by decide +kernel⟩
 rw[vaV h0];have e:vbF 10 (oneB v)=putB [⟨1,0,v,[]⟩]:=rfl;rw[e,putB];have k1:(vb (keyN ⟨1,0,v,[]⟩)).length≤10:=Y6 (by show ((2*1+0:Int).toNat)<2^64; decide);have k2:(vb (zg v)).length≤10:=Y6 (zg_lt h)
 have hl:(va9 [⟨1,0,v,[]⟩]).length≤20:=by
  show (rawB ⟨1,0,v,[]⟩++[]).length≤20
  rw[qB]
  show (vb (keyN ⟨1,0,v,[]⟩)++vb (zg v)).length≤20
  rw[qk]; omega
 rw[if_neg (by omega)];exact⟨_,rfl⟩
theorem vdv {v:Int}(h:vb1 v){c:List UInt8}(hc:vbF 10 (X6 v)=some c):ZP (X6 v)=some (c,0):=by
 rw[Encode_eq (oneT_sz h),if_pos ⟨vbD v,vdu v⟩,hc]; rfl
theorem oneT_ref {v:Int}(h:vb1 v){c:List UInt8}(hc:vbF 10 (X6 v)=some c):ZL (X6 v)=some (c,0):=by
 rw[vdn (oneT_sz h),if_pos ⟨vbD v,vdu v⟩,hc]; rfl
def KK : Nat:=999999999999999999999
theorem rounds_s : xG=KK+1:=rfl
def KJ : Nat:=999999999999999999998
theorem KK_s : KK=KJ+1:=rfl
theorem num_tree (v:Int):zT xG (.num v)=some ⟨1,v,[],[],[]⟩:=by
 rw[rounds_s,zT,zT.body]; rfl
def keepF (op v:Int):Int:=if op=2 then wx v else v
theorem step_one {op v:Int}(hop:op=1∨op=2)(r:zR):zM KK r ⟨op,1,0⟩ [.num v]=some ([⟨1,keepF op v,[],[],[]⟩],r):=by
 rw[KK_s,zM,zM.body,if_neg (by show ¬ op=4; omega),zM.j2,zM.l12,num_tree,qj,bnd];have hk:Zv (.num v)=.num v:=rfl;rw[hk]
 dsimp only
 have hl:∀ (m:zR) (T:zq),zM.j22 0 ([]:List zq) (zM.l12 (zZ KJ) ⟨op,1,0⟩ []) m T=some ([T],m):=fun m T=>by
  rw[zM.j22,ZD (by simp),qj,zM.l12]; rfl
 rcases hop with rfl|rfl
 · rw[if_neg (by decide),if_neg (by decide)]
   show zM.j36 _ _ _ _ _ _ _ _ (decide ((1:Int)=4))=_
   unfold zM.j36;rw[if_neg (by decide)];exact hl _ _
 rw[if_pos rfl,bnd];exact hl _ _
theorem part_one {op v:Int}(hop:op=1∨op=2):∃ r,zZ xG ⟨⟨[[⟨op,1,0⟩]]⟩,0⟩ 0 ⟨[⟨1,[.num v]⟩],[]⟩=some (oneB (keepF op v),r):=by
 rw[rounds_s,zZ,zZ.body];have hi:YN (zR.fp ⟨⟨[[⟨op,1,0⟩]]⟩,0⟩).fParts 0=some [⟨op,1,0⟩]:=rfl;rw[hi,qj,zZ.l13]
 have hg:xx ⟨[⟨1,[.num v]⟩],[]⟩ 1=some [.num v]:=by
  rw[xx,xx.l4,if_pos (show (yJ.mk 1 [zs.num v]).ftag=1 from rfl)]
  show ((Za [.num v]).bind fun r12=>some r12)=_
  rw[Za,ZD (by simp)]; rfl
 dsimp only [yg.fentries]
 rw[hg,qj,if_neg (by simp),step_one hop,qj,if_pos (by simp),ZD (by simp),qj,zZ.j19,zZ.l13];exact⟨_,rfl⟩
def treeB (t:zq):Bool:=match t with
 |⟨k,n,s,es,rs⟩=>decide (k=3)&&decide (n=0)&&decide (s=[])&&es.isEmpty&&rs.isEmpty
theorem treeB_eq {t:zq}(h:treeB t=true):t=X6 0:=by
 obtain⟨k,n,s,es,rs⟩:=t;simp only[treeB,qK,decide_eq_true_eq,List.isEmpty_iff] at h;obtain⟨⟨⟨⟨rfl,rfl⟩,rfl⟩,rfl⟩,rfl⟩:=h
 rfl
theorem run_z {P:wg}(h:(Zs P (X6 0)).any (fun r=>treeB r.1&&decide (r.2=0))=true):Zs P (X6 0)=some (X6 0,0):=by
 cases hr:Zs P (X6 0) with
 |none=>rw[hr] at h; cases h
 |some r=>
  rw[hr] at h;simp only[Option.any_some,qK,decide_eq_true_eq] at h;obtain⟨a,b⟩:=r;obtain⟨h1,h2⟩:=h;have e1:a=X6 0:=treeB_eq h1;have e2:b=0:=h2;rw[e1,e2]
theorem keepF_ne {op v:Int}(h0:v≠0):keepF op v≠0:=by
 unfold keepF wx
 split
 · split<;>split<;>omega
 exact h0
theorem run_one {op v:Int}(hop:op=1∨op=2)(h:vb1 v)(hp:wt ⟨[[⟨op,1,0⟩]]⟩=true):Zs ⟨[[⟨op,1,0⟩]]⟩ (X6 v)=some (X6 (keepF op v),0):=by
 by_cases h0:v=0
 · subst h0
   have hk:keepF op 0=0:=by rcases hop with rfl|rfl<;>decide
   rw[hk]
   rcases hop with rfl|rfl
   · exact run_z (by decide +kernel)
   exact run_z (by decide +kernel)
 have hv:Xq (oneB v)=some (.node [⟨1,[.num v]⟩] [],true):=by
  have:=of_eq (oneB_sz h);have hc:=vbD v;rw[vaV h0] at hc
  rw[this,if_pos hc]; rfl
 obtain⟨r,hr⟩:=part_one (v:=v) hop;rw[vaV h0,vaV (keepF_ne h0),Zs,Y3,bnd,hp,if_neg (show ¬ (!true || !decide ((oneB v).fKind=3))=true from fun h=>Bool.noConfusion h),hv,qj,if_neg (show ¬ (!(zs.node [⟨1,[.num v]⟩] [],true).2)=true from fun h=>Bool.noConfusion h)]
 show (uH (uH (some (⟨[⟨1,[.num v]⟩],[]⟩:yg)) _) _)=_
 rw[qj,hr,qj,qj]
theorem clamp_in (n:Int):vb1 (wx n):=by
 unfold wx vb1
 split<;>(try split)<;>omega
theorem make11 : xH s1 s1 vaj vaj=some (⟨[[⟨1,1,0⟩]]⟩,0):=by decide +kernel
theorem make22 : xH s2 s2 vaj vaj=some (⟨[[⟨1,1,0⟩]]⟩,0):=by decide +kernel
def vdr (k v:Int):Int:=if k=1 then wx v else v
theorem projF_ne {k v:Int}(h0:v≠0):vdr k v≠0:=by
 unfold vdr wx
 split
 · split<;>split<;>omega
 exact h0
theorem proj_field {s:zP}{k v:Int}(hk:k=1∨k=2)(h0:v≠0):zS KK s ⟨[120],1,1,⟨k,[]⟩⟩ [⟨1,v,[],[],[]⟩]=some ([⟨1,vdr k v,[],[],[]⟩],true):=by
 have hf:wv ⟨k,[]⟩ ⟨1,v,[],[],[]⟩=some true:=by rcases hk with rfl|rfl<;>rfl
 have hz:YH ⟨1,vdr k v,[],[],[]⟩=false:=by
  unfold YH
  simp[projF_ne h0,zq.fKind,zq.fN]
 rw[KK_s,zS,zS.body,zS.l4]
 show (uH (wv ⟨k,[]⟩ ⟨1,v,[],[],[]⟩) _)=_
 rw[hf,qj,if_neg (by decide),zS.l4,if_neg (show ¬ (1:Int)=3 by decide)];have hg:grd ((0:Int)≤IntKind.i64.wrap ((qg [(⟨1,v,[],[],[]⟩:zq)]:Int)-1)∧IntKind.i64.wrap ((qg [(⟨1,v,[],[],[]⟩:zq)]:Int)-1)≤(qg [(⟨1,v,[],[],[]⟩:zq)]:Int)∧(qg [(⟨1,v,[],[],[]⟩:zq)]:Int)≤(qg [(⟨1,v,[],[],[]⟩:zq)]:Int))=some ():=if_pos (show (0:Int)≤IntKind.i64.wrap (1-1)∧IntKind.i64.wrap (1-1)≤(1:Int)∧(1:Int)≤1 by decide);rw[hg,qj,zS.j7]
 show zS.l15 _ _ _ [⟨1,v,[],[],[]⟩] 0 []=_
 rw[zS.l15]
 have hend:∀ (T:zq),T=⟨1,vdr k v,[],[],[]⟩→zS.j29 0 ([]:List zq) (zS.l15 (z7 KJ) s ⟨[120],1,1,⟨k,[]⟩⟩ []) T=some ([T],true):=fun T hT=>by
  rw[zS.j29,ZD (by simp),qj,zS.l15,if_pos rfl]
  show (uH (uH (some T) _) _)=_
  rw[qj,bnd,hT,hz,qj]
  rfl
 rcases hk with rfl|rfl
 · rw[if_pos rfl,bnd];exact hend _ rfl
 rw[if_neg (by decide),if_neg (by decide)];exact hend _ rfl
theorem vcP {s:zP}{k v:Int}(hs:yO s=some 0)(hm:yy s vaj=(⟨vaj,[⟨[120],1,1,⟨k,[]⟩⟩],[]⟩,true))(hk:k=1∨k=2)(h:vb1 v):wC s vaj (X6 v)=some (X6 (vdr k v),true):=by
 rw[wC,bnd,hm]
 dsimp only
 rw[if_neg (by decide),hs,qj,qj,if_neg (by rw[vdu]; decide),check_eq (oneT_sz h),vbD,qj,qj,if_neg (by decide)]
 by_cases h0:v=0
 · subst h0
   have:vdr k 0=0:=by rcases hk with rfl|rfl<;>decide
   rw[this]
   rfl
 rw[vaV h0,vaV (projF_ne h0),rounds_s,z7,z7.body]
 show (uH (z7.l8 _ _ _ [⟨1,[⟨1,v,[],[],[]⟩]⟩] 0 []) _)=_
 rw[z7.l8,bnd]
 show (uH (if (!true)=true then _ else uH (zS KK s ⟨[120],1,1,⟨k,[]⟩⟩ [⟨1,v,[],[],[]⟩]) _) _)=_
 rw[if_neg (by decide),proj_field hk h0,qj,if_pos rfl,ZD (by simp),qj,z7.j13,z7.l8]
 rfl
end
section
set_option maxRecDepth 4000
open AM
theorem awake24 : Xm=some true:=by decide +kernel
def mthC : Zn:=⟨[99],vaj,vaj⟩
def rowsD (v:Int):List GRow:=[⟨[99],X6 0,X6 v⟩]
def cch0 : wY:=⟨4,[],0,⟨[],[],0⟩,⟨[],[],0⟩⟩
def vbw (k:Int)(r:xo):wY:=⟨4,[⟨1,k⟩],1,⟨[(⟨1,k⟩,r)],[0],1⟩,⟨[(1,k)],[0],1⟩⟩
def dS (ns:List Int)(ss:List zP)(v:Int)(c:wY)(e:List xp)(n:Nat):xM:=⟨0,ns,ss,s2,rowsD v,c,e,n⟩
theorem dNew (v:Int):ZJ 0 [1] [s1] s2 (rowsD v) 4=some (some (dS [1] [s1] v cch0 [] 0),0):=by kernel_rfl
theorem dReady1 (v k:Int)(c e n):wW (dS [1] [s1] v c e n) ⟨3,1,0,k,1,[99],0,[]⟩=some (⟨s1,mthC,mthC,X6 0⟩,0):=by kernel_rfl
theorem dReady2 (v k:Int)(c e n):wW (dS [1,2] [s1,s2] v c e n) ⟨3,1,0,k,2,[99],0,[]⟩=some (⟨s2,mthC,mthC,X6 0⟩,0):=by kernel_rfl
theorem sameZ : wF xG (X6 0) (X6 0)=some true:=by decide +kernel
theorem dAnswer {s:zP}{k v:Int}(hs:yO s=some 0)(hm:yy s vaj=(⟨vaj,[⟨[120],1,1,⟨k,[]⟩⟩],[]⟩,true))(hme:wh s [99]=(mthC,true))(hk:k=1∨k=2)(h:vb1 v)(s':zP):
 xz s s' (rowsD v) [99] (X6 0)=some (X6 (vdr k v)):=by
 have h0:vb1 0:=by unfold vb1; omega
 have p0:vdr k 0=0:=by rcases hk with rfl|rfl<;>decide
 have e0:wC s vaj (X6 0)=some (X6 0,true):=by rw[vcP hs hm hk h0,p0]
 rw[xz,bnd,hme]
 dsimp only
 rw[if_neg (by decide),rowsD,xz.l7]
 show (if ([99]:List UInt8)=[99] then uH (wC s vaj (X6 0)) _ else _)=_
 rw[if_pos rfl,e0,qj]
 show (uH (wC s vaj (X6 v)) _)=_
 rw[vcP hs hm hk h,qj];simp only[qJ,if_true,sameZ,qj]
theorem dAdd0 (k:Int)(r:xo):xL cch0 1 k r=some (0,vbw k r):=by kernel_rfl
theorem dLook1 (k:Int)(r:xo):xK (vbw k r) 1 k=(r,2):=by
 unfold xK
 simp[vbw,XZ]
theorem dLook2 (k:Int)(r:xo):xK (vbw k r) 1 (k+1)=(⟨0,0,0,0,0,[],0,[]⟩,1):=by
 unfold xK
 have h:¬ k+1=k:=by omega
 simp[vbw,XZ,xi.mk.injEq,h]
 omega
theorem dAdd1 (k:Int)(r r':xo):∃ c,xL (vbw k r) 1 (k+1) r'=some (0,c):=by
 have h:¬ k+1=k:=by omega
 unfold xL;rw[bnd,dLook2]
 dsimp only
 rw[if_pos rfl,ZD (by simp[vbw]),qj]
 have e1:((vbw k r).freplies.ent ⟨0,0,0,0,0,[],0,[]⟩ ⟨1,k+1⟩).sto ((vbw k r).freplies.stamp ⟨1,k+1⟩) r'=some ⟨[(⟨1,k⟩,r),(⟨1,k+1⟩,r')],[0,1],2⟩:=by
  simp[vbw,XX.ent,XX.stamp,XX.sto,idxK,xi.mk.injEq,h,List.findIdx?_cons]
 have e2:((vbw k r).flast.ent 0 1).sto ((vbw k r).flast.stamp 1) (k+1)=some ⟨[(1,k+1)],[0],1⟩:=by
  simp[vbw,XX.ent,XX.stamp,XX.sto,idxK,List.findIdx?_cons]
 have e3:YN ((vbw k r).forder++[(⟨1,k+1⟩:xi)]) 0=some ⟨1,k⟩:=rfl;rw[show XX.sto (XX.ent (⟨0,0,0,0,0,[],0,[]⟩:xo) (vbw k r).freplies (⟨1,k+1⟩:xi)) (XX.stamp (vbw k r).freplies (⟨1,k+1⟩:xi)) r'=_ from e1,qj,e2,qj,e3,qj];rw[if_neg (by simp[vbw]),xL.j19,if_neg (by decide)];exact⟨_,rfl⟩
def rep1 (k:Int)(c:List UInt8):xo:=⟨4,0,1,k,1,[99],0,c⟩
theorem dHear1 {v k:Int}(h:vb1 v){c:List UInt8}(hc:vbF 10 (X6 (wx v))=some c):yQ (dS [1] [s1] v cch0 [] 0) ⟨3,1,0,k,1,[99],0,[]⟩=some (rep1 k c,true,dS [1] [s1] v (vbw k (rep1 k c)) [⟨1,k,[99],X6 0⟩] 1):=by
 have hl:xK cch0 1 k=(⟨0,0,0,0,0,[],0,[]⟩,1):=rfl;have hi:YN (dS [1] [s1] v cch0 [] 0).fschemas (IntKind.i64.wrap ((qg (dS [1] [s1] v cch0 [] 0).fschemas:Int)-1))=some s1:=rfl;have ha:=dAnswer check1 msg1 meth1 (.inl rfl) h s2;have hr:Zs ⟨[[⟨1,1,0⟩]]⟩ (X6 (vdr 1 v))=some (X6 (wx v),0):=run_one (.inl rfl) (clamp_in v) progK
 have hcal:yr (dS [1] [s1] v cch0 [] 0) ⟨3,1,0,k,1,[99],0,[]⟩=some (rep1 k c,dS [1] [s1] v (vbw k (rep1 k c)) [⟨1,k,[99],X6 0⟩] 1):=by
  unfold yr;rw[bnd,show xK (dS [1] [s1] v cch0 [] 0).fcache (xo.fFrom ⟨3,1,0,k,1,[99],0,[]⟩) (xo.fID ⟨3,1,0,k,1,[99],0,[]⟩)=_ from hl]
  dsimp only
  rw[if_neg (by decide),if_neg (by decide),dReady1,qj,if_pos rfl,hi,qj,ZD (by simp[dS]),qj];rw[show xz s1 (dS [1] [s1] v cch0 [] 0).fnewest (dS [1] [s1] v cch0 [] 0).frows [99] (X6 0)=_ from ha,qj];rw[show xH s1 s1 (Zn.fOut mthC) (Zn.fOut mthC)=_ from make11,qj,hr,qj,if_pos rfl,vdv (clamp_in v) hc,qj];unfold yr.j24
  show (uH (xL cch0 1 k (rep1 k c)) _)=_
  rw[dAdd0]
  rfl
 unfold yQ
 show (if (0:Int)=0 then (if (3:Int)=1 then none else (if (3:Int)=3 then uH (yr _ _) _ else _)) else _)=_
 rw[if_pos rfl,if_neg (by decide),if_pos rfl,hcal]
 rfl
theorem dDeploy (v:Int)(c:wY)(e n):xT (dS [1] [s1] v c e n) [1,2] [s1,s2]=some (0,dS [1,2] [s1,s2] v c e n):=by kernel_rfl
theorem dNil (v:Int)(c:wY)(e n):xT (dS [1,2] [s1,s2] v c e n) [] []=some (1,dS [1,2] [s1,s2] v c e n):=by kernel_rfl
theorem dHear2 {v k:Int}(r:xo)(e n):yQ (dS [1,2] [s1,s2] v (vbw k r) e n) ⟨3,1,0,k,1,[99],0,[]⟩=some (r,true,dS [1,2] [s1,s2] v (vbw k r) e n):=by
 have hcal:yr (dS [1,2] [s1,s2] v (vbw k r) e n) ⟨3,1,0,k,1,[99],0,[]⟩=some (r,dS [1,2] [s1,s2] v (vbw k r) e n):=by
  unfold yr;rw[bnd,show xK (dS [1,2] [s1,s2] v (vbw k r) e n).fcache (xo.fFrom ⟨3,1,0,k,1,[99],0,[]⟩) (xo.fID ⟨3,1,0,k,1,[99],0,[]⟩)=_ from dLook1 k r]
  rfl
 unfold yQ
 show (if (0:Int)=0 then (if (3:Int)=1 then none else (if (3:Int)=3 then uH (yr _ _) _ else _)) else _)=_
 rw[if_pos rfl,if_neg (by decide),if_pos rfl,hcal]
 rfl
theorem dHear3 {v k:Int}(h:vb1 v){c:List UInt8}(hc:vbF 10 (X6 v)=some c)(r:xo)(x:xp):∃ q y,yQ (dS [1,2] [s1,s2] v (vbw k r) [x] 1) ⟨3,1,0,k+1,2,[99],0,[]⟩=some (q,true,y)∧q.fBody=c∧y.feffects.length=2:=by
 have hi:YN (dS [1,2] [s1,s2] v (vbw k r) [x] 1).fschemas (IntKind.i64.wrap ((qg (dS [1,2] [s1,s2] v (vbw k r) [x] 1).fschemas:Int)-1))=some s2:=rfl;have ha:=dAnswer check2 msg2 meth2 (.inr rfl) h s2;have hp:vdr 2 v=v:=rfl;rw[hp] at ha;have hr:Zs ⟨[[⟨1,1,0⟩]]⟩ (X6 v)=some (X6 v,0):=run_one (.inl rfl) h progK;obtain⟨c2,hadd⟩:=dAdd1 k r ⟨4,0,1,k+1,2,[99],0,c⟩
 have hcal:∃ q y,yr (dS [1,2] [s1,s2] v (vbw k r) [x] 1) ⟨3,1,0,k+1,2,[99],0,[]⟩=some (q,y)∧q.fBody=c∧y.feffects.length=2:=by
  unfold yr;rw[bnd,show xK (dS [1,2] [s1,s2] v (vbw k r) [x] 1).fcache (xo.fFrom ⟨3,1,0,k+1,2,[99],0,[]⟩) (xo.fID ⟨3,1,0,k+1,2,[99],0,[]⟩)=_ from dLook2 k r]
  dsimp only
  rw[if_neg (by decide),if_neg (by decide),dReady2,qj,if_pos rfl,hi,qj,ZD (by simp[dS]),qj];rw[show xz s2 (dS [1,2] [s1,s2] v (vbw k r) [x] 1).fnewest (dS [1,2] [s1,s2] v (vbw k r) [x] 1).frows [99] (X6 0)=_ from ha,qj];rw[show xH s2 s2 (Zn.fOut mthC) (Zn.fOut mthC)=_ from make22,qj,hr,qj,if_pos rfl,vdv h hc,qj];unfold yr.j24;refine⟨⟨4,0,1,k+1,2,[99],0,c⟩,⟨0,[1,2],[s1,s2],s2,rowsD v,c2,[x]++[⟨1,k+1,[99],X6 0⟩],2⟩,?_,rfl,rfl⟩
  show (uH (xL (vbw k r) 1 (k+1) ⟨4,0,1,k+1,2,[99],0,c⟩) _)=_
  rw[hadd]
  rfl
 obtain⟨q,y,h1,h2,h3⟩:=hcal;refine⟨q,y,?_,h2,h3⟩;unfold yQ
 show (if (0:Int)=0 then (if (3:Int)=1 then none else (if (3:Int)=3 then uH (yr _ _) _ else _)) else _)=_
 rw[if_pos rfl,if_neg (by decide),if_pos rfl,h1]
 rfl
theorem place_ok (a:Int){n:Int}(h0:0<n)(h1:n≤1000):∃ k,Zb a n=some k∧0≤k∧k<n:=by
 unfold Zb;rw[show grd (n≠0)=some () from if_pos (by omega),qj];have hm:=Int.tmod_lt_of_pos a h0
 have hl : -n<a.tmod n:=by
  have:=Int.lt_tmod_of_pos a h0
  omega
 split
 · refine⟨a.tmod n+n,?_,by omega,by omega⟩
   show some (IntKind.i64.wrap _)=_
   rw[Y4 (by omega) (by omega)]
 exact⟨a.tmod n,rfl,by omega,by omega⟩
theorem law24_ServerDeploys_true {v:Int}(h:vb1 v)(b:Int):law24_ServerDeploys v b=some true:=by
 obtain⟨c1,hc1⟩:=oneT_enc (clamp_in v);obtain⟨c2,hc2⟩:=oneT_enc h;obtain⟨k,hk,hk0,hk1⟩:=place_ok b (n:=1000) (by decide) (by decide);have w:IntKind.i64.wrap (k+1)=k+1:=Y4 (by omega) (by omega);unfold law24_ServerDeploys;simp only[bnd];have h0:ZJ 0 [1] [wS 1] (wS 2) [(⟨[99],w5 0,w5 v⟩:GRow)] 4=some (some (dS [1] [s1] v cch0 [] 0),0):=dNew v;have h1:=dHear1 (k:=k) h hc1;have h2:xT (dS [1] [s1] v (vbw k (rep1 k c1)) [⟨1,k,[99],X6 0⟩] 1) [1,2] [wS 1,wS 2]=some (0,dS [1,2] [s1,s2] v (vbw k (rep1 k c1)) [⟨1,k,[99],X6 0⟩] 1):=dDeploy v _ _ _;have h3:=dNil v (vbw k (rep1 k c1)) [⟨1,k,[99],X6 0⟩] 1;have h4:=dHear2 (v:=v) (k:=k) (rep1 k c1) [⟨1,k,[99],X6 0⟩] 1;obtain⟨q,y,h5,h6,h7⟩:=dHear3 (k:=k) h hc2 (rep1 k c1) ⟨1,k,[99],X6 0⟩;have h8:ZL (w5 v)=some (c2,0):=oneT_ref h hc2
 have h9:wb y=some y.feffects:=by
  unfold wb
  rw[ZC,ZD (by rw[h7]; decide)]; rfl
 rw[h0,qj]
 dsimp only
 rw[if_pos rfl,hk,qj,h1,qj]
 dsimp only
 rw[h2,qj,h3,qj,h4,qj,w]
 dsimp only
 rw[h5,qj,h8,qj];simp only[decide_true,qJ,h6,if_true,h9,qj,h7,awake24]
 rfl
end
section
open Go.ChangeShapes Go.WideShapes Go.ChangeAt Go.RowKit Go.Shelf Go.Lib AM
theorem own : ownKnob Tryz.prog.godebug=none:=by kernel_rfl
def listed : List (String×DataW Unit):=[("unicode/utf8.acceptRanges",Rows.laid_unicode_utf8_acceptRanges),("unicode/utf8.first",Rows.laid_unicode_utf8_first)]
noncomputable def laidWorld (os:Os):World:=
 let w0:=World.holding qi os ⟨#[],#[],[]⟩
 let put (h:Array Obj) (g:Nat) (cs:Array Value):Array Obj:=h.modify g fun
  |.cells _ t frozen=>.cells cs t frozen
  |o=>o
 let h1:=put w0.heap (vcs.g 3) (Lib.firstTab.map fun z=>Value.int .u8 z).toArray
 let h2:=put h1 (vcs.g 4) ((uG 16).flatMap fun i=>[Value.int .u8 (Lib.accLo i),Value.int .u8 (Lib.accHi i)]).toArray
 { w0 with heap:=h2 }
theorem laid_met (os:Os)(args:Array Value):laidMet qi listed ((laidWorld os).forCall (fun _ _=>0) ⟨#[],args,[]⟩).memory:=
 (LaidIn.of_run (l:=listed) [0,1] 8 (by kernel_rfl) (by kernel_rfl) (by kernel_rfl) (by kernel_rfl)).met
theorem laid_metH (os:Os)(args:Array Value):laidMetH qi listed ((laidWorld os).forCall (fun _ _=>0) ⟨#[],args,[]⟩).memory:=laid_met os args
theorem firstD : Rows.laid_unicode_utf8_first=Lib.firstData:=by kernel_rfl
theorem acceptD : (Rows.laid_unicode_utf8_acceptRanges:DataW Unit)=Lib.acceptData:=by kernel_rfl
theorem u8types : U8Types qi vcs:=⟨vb4.t5,vb4.t119,vb4.t138,vb4.t139⟩
theorem glb_of_laid {W:World}(hL:laidMetH qi listed W):Glb W fun b=>b<W.heap.size:=by
 have h':laidMet qi listed W:=hL;have r1:=Lib.laidMet.reads h' (.tail _ (.head _));have r2:=Lib.laidMet.reads h' (.head _);rw[firstD] at r1;rw[acceptD] at r2;have ht:Lib.Utf8Tabs (vcs.g 3) (vcs.g 4) W:=utf8Tabs_of_readsT u8types ⟨by kernel_rfl,by kernel_rfl,by kernel_rfl,by kernel_rfl,by kernel_rfl,by kernel_rfl,by kernel_rfl⟩ r1 r2;obtain⟨t1,t2⟩:=ht
 have lt:∀ {g o:Nat} {v:Value},W.cell? ⟨g,o,none⟩=some v→g<W.heap.size:=by
  intro g o v h
  refine Nat.lt_of_not_le fun hle=>?_
  unfold World.cell? at h;rw[Array.getElem?_eq_none hle] at h;cases h
 refine⟨fun g vs hm=>?_,fun g vs hm i v hv=>?_⟩
 · rcases q5.1 hm with e|hm
   · cases e; exact lt (t1 0 (by decide))
   rcases q5.1 hm with e|hm
   · cases e; exact lt (t2 0 (by decide)).1
   cases hm
 rcases q5.1 hm with e|hm
 · cases e
   have hi:i<256:=by
    have:=(qR.1 hv).1; simpa using this
   rw[List.getElem?_map,List.getElem?_range hi] at hv;cases hv;exact t1 i hi
 rcases q5.1 hm with e|hm
 · cases e
   have hi:i<32:=by
    have:=(qR.1 hv).1; simpa using this
   rw[List.getElem?_map,List.getElem?_range hi] at hv;cases hv;have h1:=t2 (i / 2) (by omega)
   have:i % 2=0∨i % 2=1:=by omega
   rcases this with h|h
   · have e:2*(i / 2)=i:=by omega
     rw[e] at h1
     simp only[h,if_true]; exact h1.1
   have e:2*(i / 2)+1=i:=by omega
   rw[e] at h1
   simp only[h]; exact h1.2
 cases hm
end
section
namespace AM
open Go.RowKit Go.ChangeShapes Go.WideShapes Go.Deep
section
variable {H:Type} {enc:TypeId×Value→H} {P:Program} {w:World} {base:Nat} {spare:Nat→Bool} {held:Bool}
def OpensS (enc:TypeId×Value→H)(P:Program)(w:World)(base:Nat)(spare:Nat→Bool)(held:Bool)(N:Nat)(t:TypeId)(A:List AV→Prop):Prop:=
 ∀ n cs y,DataW.trod enc P w base spare held n t cs=some y→SizeOf.sizeOf y.1<N→(∀ x∈y.1.weights P t,x≤reachBytes)→∃ avs,avs.length=cs.length∧A avs∧∀ i,i<avs.length→VR (Env.start w) (gc avs i) (cs.getD i undef)
variable {N:Nat}
theorem OpensS.mono {t:TypeId}{A B:List AV→Prop}(h:OpensS enc P w base spare held N t A)(k:∀ l,A l→B l):OpensS enc P w base spare held N t B:=fun n cs y hy hN hs=>by
 obtain⟨avs,h1,h2,h3⟩:=h n cs y hy hN hs;exact⟨avs,h1,k _ h2,h3⟩
theorem Opens.sized {t:TypeId}{A:List AV→Prop}(h:Opens enc P w base spare held t A):OpensS enc P w base spare held N t A:=fun n cs y hy _ _=>h n cs y hy
theorem OpensS.agg {t:TypeId}{A:List AV→Prop}(h:∀ N,OpensS enc P w base spare held N t A){vs:Array Value}{d:DataW H}{p:List MemPlace}(hv:DataW.Trod enc P w base spare held t (.agg vs) d p)(hw:∀ x∈d.weights P t,x≤reachBytes):∃ l,A l∧VR (Env.start w) (.agg l) (.agg vs):=by
 obtain⟨n,hn⟩:=hv;obtain⟨avs,e1,e2,e3⟩:=h _ _ _ _ hn (qH _) hw;refine⟨avs,e2,.agg _ _ (by simpa [Value.cells] using e1.symm) fun i hi=>?_⟩;have:=e3 i hi
 simpa [Value.cells,qL,uw] using this
end
end AM
open AM
def in64 (n:Int):Prop := -9223372036854775808≤n∧n<9223372036854775808
theorem wf64 {n:Int}(h:(Lit.int .i64 n).wf=true):in64 n:=by
 simp only[Lit.wf,IntKind.min,IntKind.max,IntKind.signed,IntKind.bits,qK,decide_eq_true_eq,if_true] at h
 unfold in64; omega
section
variable {H:Type} {enc:TypeId×Value→H} {w:World} {base:Nat} {spare:Nat→Bool} {held:Bool} {N:Nat}
end
end
end Go.Proofs.YtaahlckibpiphaaGreatDoor
