/- Parts of the proof, cut down to what it needs. -/
import Derived.Test.YtaahlckibpiphaaGreatDoorVFB
set_option linter.constructorNameAsVariable false
set_option linter.unusedSimpArgs false
set_option linter.unusedVariables false
namespace Go.Proofs.YtaahlckibpiphaaGreatDoor
open _root_.List renaming length → qa, flatMap → qb, length_cons → qk, length_nil → qp, map_nil → qq, length_append → qt, drop_zero → qw, getD_eq_getElem?_getD → qx, map_cons → qy, mem_cons_of_mem → qB, nil_append → qC, map_append → qE, mem_cons_self → qG, length_eq_zero_iff → qH, cons_append → qK, range_zero → qL, replicate → qN, append_assoc → qP, all_cons → qQ, getElem?_append_left → qR, append_nil → qT, range_succ → qV, all_nil → qW, getElem?_eq_getElem → qY, length_singleton → qZ, eq_nil_of_length_eq_zero → q1, flatMap_cons → ua, mem_cons → uc, length_map → ud, getElem?_set_ne → ue, take_length → uh, getElem?_append_right → uj, all_eq_true → uk, flatMap_append → um, flatMap_nil → uo, getElem?_set_self → uu, take_append_drop → uz, getElem?_eq_none → uA, mem_map → uB, take_succ_cons → uC, drop_succ_cons → uD, range → uG, getElem?_cons_zero → uH, mem_append_left → uL, take_zero → uO, set_cons_zero → uP, set_cons_succ → uQ, mem_append_right → uR, length_drop → uT, drop_eq_getElem_cons → uU, length_take → u0, mem_append → u4, drop_drop → u7
open _root_.Option renaming bind_some → qh
open _root_.Nat renaming reduceEqDiff → qc, reduceLT → qd, reduceAdd → qe, reduceLeDiff → qg, reduceMul → qj, zero_add → ql, lt_succ_self → qo, reduceSub → qr, le_refl → qA, add_zero → qF, reduceMod → q5, mul_le_mul_right → uf, lt_of_lt_of_le → un, zero_mul → uq, zero_le → ux, sub_zero → uK, sub_self → uV, add_mul → u6
open _root_.Bool renaming not_false → qn, not_true → qu, or_true → qv, and_false → qz, and_self → qD, and_true → qI, or_false → qM, false_eq_true → qU, true_and → qX, false_and → ub, true_or → ug, false_or → ur
open _root_.Int renaming toNat → q2, toNat_natCast → uw
open _root_.BitVec renaming ofInt → q3, toNat → uX

open Result renaming andThen_ok → qi
open Sem renaming run_bind → qm, run_pure → qJ
open _root_.Go.Proofs.Tryz renaming prog → qf
section
set_option maxRecDepth 4000
set_option maxHeartbeats 1000000
open AM
def wI.l4 (a0:List xF):Nat→Int→Option Bool
 |0,_=>none
 |k4+1,x2=>(if x2<(qa a0:Int) then (Yl a0 x2).bind fun y9=>(Yl a0 (IntKind.i64.wrap (x2-1))).bind fun y12=>(if y9.fTag<y12.fTag then some false else ((wI.l4 a0 k4) (IntKind.i64.wrap (x2+1)))) else some true)
def wI (a0:List xF):Option Bool:=
 (wI.l4 a0 yp 1)
theorem wI.ok {a0 r}(h:wI a0=some r):ACalls qf 223 [.ds true (qb zA a0) (qa a0) false] [] (fun r' _=>r'=.bool r):=by
 refine zk (rs:=[.tmp 2]) U Tryz.func223 rfl Tryz.ntmps223 rfl Tryz.call223 (by simp) ?_;refine zu [(0,.ds true (qb zA a0) (qa a0) false)] ⟨rfl,trivial⟩ ?_;unfold wI at h;refine O [0] ?_
 refine za fun Z1 hZ1=>?_
 refine O [0,3] ?_;apply zj;refine zG (fun m L τ=>∃ (k4:Nat) (x2:Int),m=0+k4∧L=[(0,.ds true (qb zA a0) (qa a0) false),(3,.int .i64 x2)]∧τ=([]:zf)∧wI.l4 a0 k4 x2=some r) _ ⟨yp,1,rfl,rfl,rfl,h⟩ .s ?_;rintro m L τ ⟨k4,x2,rfl,rfl,rfl,h⟩
 rcases k4 with _|k4
 · cases h
 simp only[wI.l4] at h
 refine za fun Z5 hZ5=>?_
 refine O [0,3,7] ?_;refine zR rfl (fun hc6=>?_) (fun hc6=>?_)
 · rw[if_pos hc6] at h;have t7:=eq_true hc6;apply zg;apply hZ5
   refine za fun Z8 hZ8=>?_
   apply zj;obtain⟨y9,hy9,h⟩:=bind_some h;have f10:=E35.idxS hy9;have f11:=E35.fldS0 (f:=3) rfl rfl hy9;obtain⟨y12,hy12,h⟩:=bind_some h;have f13:=E35.idxS hy12;have f14:=E35.fldS0 (f:=3) rfl rfl hy12
   refine rd [0,3,21] fun K J=>?_
   refine DW.start (T:=tab) [.any,.any,.any,.any,.at [],.any,.any,.any,.any,.any,.at [],.any] [] ?_;refine DW.runN U 8 ?_;simp only[go_sem,qd,qc,reduceCtorEq,zA,t7,f10,f11];refine DW.runN U 4 ?_;simp only[go_sem,qd,qc,reduceCtorEq,zA,f13,f14];refine DW.fin U (by decide +kernel) rfl ?_;simp only[zq,upd,qc,reduceIte,yD,xj];apply J
   refine zR rfl (fun hc15=>?_) (fun hc15=>?_)
   · rw[if_pos hc15] at h;have t16:=eq_true hc15;refine rgW [2] t16 ?_;cases h;exact rtA
   rw[if_neg hc15] at h;have t17:=eq_false hc15;apply zg;apply hZ8
   refine rgE U [0,3] fun K J=>?_
   simp only[go_sem,qd,qc,reduceCtorEq,t17];apply J
   exact⟨_,_,_,qo (0+k4),⟨k4,IntKind.i64.wrap (x2+1),rfl,rfl,rfl,h⟩,.s⟩
 rw[if_neg hc6] at h;have t18:=eq_false hc6;apply zJ;apply hZ1;refine rgW [2] t18 ?_;cases h;exact rtA
def xV.l16 (x2:Int)(rec4:Int→Option Bool)(y4:xF):List zp→Int→Option Bool
 |[],x14=>(rec4 (x2+1))
 |y16::q16,x14=>(if y16.fTag=y4.fTag then some false else ((xV.l16 x2 rec4 y4 q16) (x14+1)))
def xV.l4 (a0:zi):List xF→Int→Option Bool
 |[],x2=>(wI a0.fRest).bind fun r6=>some r6
 |y4::q4,x2=>bnd (Zl y4) fun r12=>(if (!r12)=true then some false else (xV.l16 x2 (xV.l4 a0 q4) y4 a0.fEntries 0))
def xV (a0:zi):Option Bool:=
 (xV.l4 a0 a0.fRest 0)
theorem xV.ok {a0 r}(h:xV a0=some r):ACalls qf 181 [.agg (zb a0)] [] (fun r' _=>r'=.bool r):=by
 refine zk (rs:=[.tmp 2]) U Tryz.func181 rfl Tryz.ntmps181 rfl Tryz.call181 (by simp) ?_;refine zu [(0,.agg (zb a0))] ⟨rfl,trivial⟩ ?_;unfold xV at h;refine rgW [1] @zb.eq_1 ?_
 refine za fun Z1 hZ1=>?_
 refine O [1,8,9,10] ?_;apply zj
 refine xq 8 fun hb4=>?_
 replace hb4:qa a0.fRest≤9223372036854775807:=hb4.1;refine zG (fun m L τ=>∃ (p4 q4:List xF) (x2:Int),m=qa q4∧L=[(1,.op 0 0 0),(8,.ds true (qb zA a0.fRest) (qa a0.fRest) false),(9,.int .i64 (qa a0.fRest:Int)),(10,.int .i64 x2)]∧τ=([.cells 0 (zb a0)]:zf)∧a0.fRest=p4++q4∧x2=(qa p4:Int)∧xV.l4 a0 q4 x2=some r) _ ⟨[],a0.fRest,0,rfl,rfl,rfl,rfl,rfl,h⟩ .s ?_;rintro m L τ ⟨p4,q4,x2,rfl,rfl,rfl,hE4,hi4,h⟩
 rcases q4 with _|⟨y4,q4⟩
 · have hz4:=yH hE4 hi4;simp only[xV.l4] at h;refine rgW [1,8,9,10,11] hz4 ?_
   refine za fun Z5 hZ5=>?_
   refine zD rfl ?_;apply zJ;apply hZ1
   refine rc [2] fun K J=>?_
   obtain⟨r6,hr6,h⟩:=bind_some h;refine κ 2 ?_;refine clN rfl rfl rfl ((wI.ok hr6).c _) ?_;refine κ 1 ?_;refine nkN J ?_;cases h;exact rtA
 obtain⟨hz4,hw4,hx4,hE'4,hi'4⟩:=yo hE4 hi4 hb4;simp only[xV.l4] at h;refine rgW [1,8,9,10,11] hz4 ?_
 refine za fun Z7 hZ7=>?_
 refine zE rfl ?_;apply zg;apply hZ7
 refine za fun Z8 hZ8=>?_
 apply zj;have f9:=E35.idxS hx4;have f10:=E35.loadS rfl rfl hx4;refine rgW [1,4,8,9,10] (aI @zA.eq_1 (aI f9 f10)) ?_
 refine za fun Z11 hZ11=>?_
 refine rc [1,4,8,9,10,16] fun K J=>?_
 obtain⟨r12,hr12,h⟩:=yb h;refine κ 1 ?_;refine clN rfl rfl rfl ((Zl.ok hr12).c _) ?_;refine κ 1 ?_;refine nkN J ?_;refine zB (b:=(!r12)) rfl (fun hc13=>?_) (fun hc13=>?_)
 · rw[if_pos hc13] at h;refine O [2] ?_;cases h;exact rtA
 rw[wn hc13] at h;apply zg;apply hZ11;refine O [1,4,8,9,10,18,19,20] ?_;apply zj
 refine xq 18 fun hb16=>?_
 replace hb16:qa a0.fEntries≤9223372036854775807:=hb16.1;refine zG (fun m L τ=>∃ (p16 q16:List zp) (x14:Int),m=qa q16∧L=[(1,.op 0 0 0),(4,.op 1 0 0),(8,.ds true (qb zA a0.fRest) (qa a0.fRest) false),(9,.int .i64 (qa a0.fRest:Int)),(10,.int .i64 x2),(18,.ds true (qb zx a0.fEntries) (qa a0.fEntries) false),(19,.int .i64 (qa a0.fEntries:Int)),(20,.int .i64 x14)]∧τ=([.cells 0 (zb a0),.cells 0 [.int .i64 y4.fTag,.int .i64 y4.fWire,.int .i64 y4.fN,.str y4.fB]]:zf)∧a0.fEntries=p16++q16∧x14=(qa p16:Int)∧xV.l16 x2 (xV.l4 a0 q4) y4 q16 x14=some r) _ ⟨[],a0.fEntries,0,rfl,rfl,rfl,rfl,rfl,h⟩ .s ?_;rintro m L τ ⟨p16,q16,x14,rfl,rfl,rfl,hE16,hi16,h⟩
 rcases q16 with _|⟨y16,q16⟩
 · have hz16:=yH hE16 hi16;simp only[xV.l16] at h;refine rgW [1,4,8,9,10,18,19,20,21] hz16 ?_
   refine za fun Z17 hZ17=>?_
   refine zD rfl ?_;apply zJ;apply hZ8
   refine rgE U [1,8,9,10] fun K J=>?_
   simp only[go_sem,qd,qc,hw4];apply J
   exact⟨_,_,_,qo q4.length,⟨p4++[y4],q4,x2+1,rfl,rfl,rfl,hE'4,hi'4,h⟩,(.t [0] false)⟩
 obtain⟨hz16,hw16,hx16,hE'16,hi'16⟩:=yo hE16 hi16 hb16;simp only[xV.l16] at h;refine rgW [1,4,8,9,10,18,19,20,21] hz16 ?_
 refine za fun Z18 hZ18=>?_
 refine zE rfl ?_;apply zg;apply hZ18
 refine za fun Z19 hZ19=>?_
 apply zj;have f20:=E34.idxS hx16;have f21:=E34.loadS rfl rfl hx16;refine rgW [1,4,6,8,9,10,18,19,20] (aI @zK.eq_1 (aI @yh (aI f20 f21))) ?_;refine O [1,4,8,9,10,18,19,20,28] ?_;refine zR rfl (fun hc22=>?_) (fun hc22=>?_)
 · rw[if_pos hc22] at h;have t23:=eq_true hc22;refine rgW [2] t23 ?_;cases h;exact rtA
 rw[if_neg hc22] at h;have t24:=eq_false hc22;apply zg;apply hZ19
 refine rgE U [1,4,8,9,10,18,19,20] fun K J=>?_
 simp only[go_sem,qd,qc,hw16,t24];apply J
 exact⟨_,_,_,qo q16.length,⟨p16++[y16],q16,x14+1,rfl,rfl,rfl,hE'16,hi'16,h⟩,(.t [0,1] false)⟩
def z8.j25 (x16:Int)(rec18:Int→Option Bool)(x24:Bool):Option Bool:=
 (if x24=true then some false else (rec18 (x16+1)))
def z8.l18 (yS:zi→Option Bool)(x3:Int)(rec6:Int→Int→Option Bool)(y6:zp):List zi→Int→Option Bool
 |[],x16=>(rec6 (x3+1) y6.fTag)
 |y18::q18,x16=>(Yl y6.fTrees 0).bind fun y27=>(if y18.fKind=y27.fKind then (yS y18).bind fun r32=>(z8.j25 x16 (z8.l18 yS x3 rec6 y6 q18) (!r32)) else (z8.j25 x16 (z8.l18 yS x3 rec6 y6 q18) true))
def z8.l6 (yS:zi→Option Bool):List zp→Int→Int→Option Bool
 |[],x3,x2=>some true
 |y6::q6,x3,x2=>(if ((((decide (y6.fTag≤x2))||(decide (500<y6.fTag)))||(decide ((qa y6.fTrees:Int)<1)))||(decide (64<(qa y6.fTrees:Int))))=true then some false else (z8.l18 yS x3 (z8.l6 yS q6) y6 y6.fTrees 0))
def z8.body (wW:zi→Option Bool)(yS:zi→Option Bool)(a0:zi):Option Bool:=
 (z8.l6 yS a0.fEntries 0 0)
theorem z8.step (wW:zi→Option Bool)(yS:zi→Option Bool)(X2:∀ (a0:zi) (r:Bool),wW a0=some r→ACalls qf 180 [.agg (zb a0)] [] (fun r' _=>r'=.bool r))(vaJ:∀ (a0:zi) (r:Bool),yS a0=some r→ACalls qf 140 [.agg (zb a0)] [] (fun r' _=>r'=.bool r))(a0:zi)(r:Bool)(h:z8.body wW yS a0=some r):ACalls qf 180 [.agg (zb a0)] [] (fun r' _=>r'=.bool r):=by
 have ev_value_entries:=fun a0 r h σ=>(X2 a0 r h).c σ
 have ev_value_right:=fun a0 r h σ=>(vaJ a0 r h).c σ
 refine zk (rs:=[.tmp 2]) U Tryz.func180 rfl Tryz.ntmps180 rfl Tryz.call180 (by simp) ?_;refine zu [(0,.agg (zb a0))] ⟨rfl,trivial⟩ ?_;unfold z8.body at h;refine rgW [1] @zb.eq_1 ?_;refine O [1,3] ?_
 refine za fun Z1 hZ1=>?_
 refine O [3,9,10,11] ?_;apply zj
 refine xq 9 fun hb6=>?_
 replace hb6:qa a0.fEntries≤9223372036854775807:=hb6.1;refine zG (fun m L τ=>∃ (p6 q6:List zp) (x3:Int) (x2:Int),m=qa q6∧L=[(3,.int .i64 x2),(9,.ds true (qb zx a0.fEntries) (qa a0.fEntries) false),(10,.int .i64 (qa a0.fEntries:Int)),(11,.int .i64 x3)]∧τ=([]:zf)∧a0.fEntries=p6++q6∧x3=(qa p6:Int)∧z8.l6 yS q6 x3 x2=some r) _ ⟨[],a0.fEntries,0,0,rfl,rfl,rfl,rfl,rfl,h⟩ (.t [] false) ?_;rintro m L τ ⟨p6,q6,x3,x2,rfl,rfl,rfl,hE6,hi6,h⟩
 rcases q6 with _|⟨y6,q6⟩
 · have hz6:=yH hE6 hi6;simp only[z8.l6] at h;refine rgW [3,9,10,11,12] hz6 ?_
   refine za fun Z7 hZ7=>?_
   refine zD rfl ?_;apply zJ;apply hZ1;refine O [2] ?_;cases h;exact rtA
 obtain⟨hz6,hw6,hx6,hE'6,hi'6⟩:=yo hE6 hi6 hb6;simp only[z8.l6] at h;refine rgW [3,9,10,11,12] hz6 ?_
 refine za fun Z8 hZ8=>?_
 refine zE rfl ?_;apply zg;apply hZ8
 refine za fun Z9 hZ9=>?_
 apply zj;have f10:=E34.idxS hx6;have f11:=E34.loadS rfl rfl hx6;refine rgW [3,5,9,10,11] (aI @zK.eq_1 (aI @yh (aI f10 f11))) ?_
 refine za fun Z12 hZ12=>?_
 refine rc [5,9,10,11,35] fun K J=>?_
 refine κ 5 ?_;refine cut 4 19 23 [5,9,10,11] ((decide (y6.fTag≤x2))||(decide (500<y6.fTag))) (aI hz6 hw6) rfl ?_;refine κ 1 ?_;refine cut (b:=((decide (y6.fTag≤x2))||(decide (500<y6.fTag)))) (hb:=boolP_eq _) 5 24 29 [5,9,10,11] (((decide (y6.fTag≤x2))||(decide (500<y6.fTag)))||(decide ((qa y6.fTrees:Int)<1))) (aI hz6 hw6) rfl ?_;refine κ 1 ?_;refine cut (b:=(((decide (y6.fTag≤x2))||(decide (500<y6.fTag)))||(decide ((qa y6.fTrees:Int)<1)))) (hb:=boolP_eq _) 5 30 35 [5,9,10,11] ((((decide (y6.fTag≤x2))||(decide (500<y6.fTag)))||(decide ((qa y6.fTrees:Int)<1)))||(decide (64<(qa y6.fTrees:Int)))) (aI hz6 hw6) rfl ?_;refine nkN J ?_;refine zB (b:=((((decide (y6.fTag≤x2))||(decide (500<y6.fTag)))||(decide ((qa y6.fTrees:Int)<1)))||(decide (64<(qa y6.fTrees:Int))))) rfl (fun hc15=>?_) (fun hc15=>?_)
 · rw[if_pos hc15] at h;refine O [2] ?_;cases h;exact rtA
 rw[wn hc15] at h;apply zg;apply hZ12;refine O [3,5,9,10,11] ?_;refine O [3,5,9,10,11,39,40,41] ?_;apply zj
 refine xq 39 fun hb18=>?_
 replace hb18:qa y6.fTrees≤9223372036854775807:=hb18.1;refine zG (fun m L τ=>∃ (p18 q18:List zi) (x16:Int),m=qa q18∧L=[(3,.int .i64 y6.fTag),(5,.op 0 0 0),(9,.ds true (qb zx a0.fEntries) (qa a0.fEntries) false),(10,.int .i64 (qa a0.fEntries:Int)),(11,.int .i64 x3),(39,.ds true (qb ya y6.fTrees) (qa y6.fTrees) false),(40,.int .i64 (qa y6.fTrees:Int)),(41,.int .i64 x16)]∧τ=([.cells 0 (zK y6)]:zf)∧y6.fTrees=p18++q18∧x16=(qa p18:Int)∧z8.l18 yS x3 (z8.l6 yS q6) y6 q18 x16=some r) _ ⟨[],y6.fTrees,0,rfl,rfl,rfl,rfl,rfl,h⟩ .s ?_;rintro m L τ ⟨p18,q18,x16,rfl,rfl,rfl,hE18,hi18,h⟩
 rcases q18 with _|⟨y18,q18⟩
 · have hz18:=yH hE18 hi18;simp only[z8.l18] at h;refine rgW [3,5,9,10,11,39,40,41,42] hz18 ?_
   refine za fun Z19 hZ19=>?_
   refine zD rfl ?_;apply zJ;apply hZ9
   refine rgE U [3,9,10,11] fun K J=>?_
   simp only[go_sem,qd,qc,hw6];apply J
   exact⟨_,_,_,qo q6.length,⟨p6++[y6],q6,x3+1,y6.fTag,rfl,rfl,rfl,hE'6,hi'6,h⟩,(.t [] false)⟩
 obtain⟨hz18,hw18,hx18,hE'18,hi'18⟩:=yo hE18 hi18 hb18;simp only[z8.l18] at h;refine rgW [3,5,9,10,11,39,40,41,42] hz18 ?_
 refine za fun Z20 hZ20=>?_
 refine zE rfl ?_;apply zg;apply hZ20
 refine za fun Z21 hZ21=>?_
 apply zj;have f22:=E38.idxS hx18;have f23:=E38.loadS rfl rfl hx18;refine rgW [3,5,7,9,10,11,39,40,41] (aI @zb.eq_1 (aI @yC (aI f22 f23))) ?_;refine we (fun L τ=>∃ (x24:Bool),L=[(3,.int .i64 y6.fTag),(5,.op 0 0 0),(9,.ds true (qb zx a0.fEntries) (qa a0.fEntries) false),(10,.int .i64 (qa a0.fEntries:Int)),(11,.int .i64 x3),(39,.ds true (qb ya y6.fTrees) (qa y6.fTrees) false),(40,.int .i64 (qa y6.fTrees:Int)),(41,.int .i64 x16),(57,.bool x24)]∧τ=([.cells 0 (zK y6)]:zf)∧z8.j25 x16 (z8.l18 yS x3 (z8.l6 yS q6) y6 q18) x24=some r) ?_ ?_
 · refine rdE [3,5,9,10,11,39,40,41,57] fun K J=>?_
   refine DW.start (T:=tab) [.any,.at [],.any,.at [],.any,.any,.at [],.any,.any,.at [],.eff,.any,.any] [] ?_;obtain⟨y27,hy27,h⟩:=bind_some h;have f28:=E38.idxS hy27;have f29:=E38.fldS0 (f:=3) rfl rfl hy27;refine DW.runN U 8 ?_;simp only[go_sem,qd,qc,qe,zb,yC,f28,f29];refine DW.runN U 1 ?_;simp only[go_sem,qd,qc]
   refine DW.if 53 rfl (fun hg53=>?_) (fun hg53=>?_)
   · rw[if_neg hg53] at h;have t30:=eq_false hg53;refine DW.runN U 4 ?_;simp only[go_sem,qd,qc,t30];refine DW.fin U (by decide +kernel) rfl ?_;simp only[zq,upd,qc,reduceIte,yD,xj];apply J
     exact⟨_,_,⟨true,rfl,rfl,h⟩,(.t [0] false)⟩
   rw[if_pos hg53] at h;have t31:=eq_true hg53;obtain⟨r32,hr32,h⟩:=bind_some h;refine DW.runN U 1 ?_;simp only[go_sem,qd,qg,qc,qe,t31];refine DW.call rfl rfl rfl (ev_value_right y18 r32 hr32 _) ?_;refine DW.runN U 2 ?_;simp only[go_sem,qd,qc];refine DW.fin U (by decide +kernel) rfl ?_;simp only[zq,upd,qc,reduceIte,yD,xj];apply J
   exact⟨_,_,⟨!r32,rfl,rfl,h⟩,(.t [0] false)⟩
 rintro _ _ ⟨x24,rfl,rfl,h⟩;unfold z8.j25 at h;refine zB (b:=x24) rfl (fun hc26=>?_) (fun hc26=>?_)
 · rw[if_pos hc26] at h;refine O [2] ?_;cases h;exact rtA
 rw[wn hc26] at h;apply zg;apply hZ21
 refine rgE U [3,5,9,10,11,39,40,41] fun K J=>?_
 simp only[go_sem,qd,qc,hw18];apply J
 exact⟨_,_,_,qo q18.length,⟨p18++[y18],q18,x16+1,rfl,rfl,rfl,hE'18,hi'18,h⟩,.s⟩
def wh.body (wW:zi→Option Bool)(yS:zi→Option Bool)(a0:zi):Option Bool:=
 (if a0.fKind=1 then some (((decide (a0.fS=[]))&&(decide ((qa a0.fEntries:Int)=0)))&&(decide ((qa a0.fRest:Int)=0))) else (if a0.fKind=2 then some (((decide (a0.fN=0))&&(decide ((qa a0.fEntries:Int)=0)))&&(decide ((qa a0.fRest:Int)=0))) else (if a0.fKind=3 then (if ((decide (a0.fN=0))&&(decide (a0.fS=[])))=true then (wW a0).bind fun r16=>some r16 else some false).bind fun c16=>(if c16=true then (xV a0).bind fun r18=>some r18 else some false).bind fun c18=>some c18 else some false)))
theorem wh.step (wW:zi→Option Bool)(yS:zi→Option Bool)(X2:∀ (a0:zi) (r:Bool),wW a0=some r→ACalls qf 180 [.agg (zb a0)] [] (fun r' _=>r'=.bool r))(vaJ:∀ (a0:zi) (r:Bool),yS a0=some r→ACalls qf 140 [.agg (zb a0)] [] (fun r' _=>r'=.bool r))(a0:zi)(r:Bool)(h:wh.body wW yS a0=some r):ACalls qf 140 [.agg (zb a0)] [] (fun r' _=>r'=.bool r):=by
 have ev_value_entries:=fun a0 r h σ=>(X2 a0 r h).c σ
 have ev_value_right:=fun a0 r h σ=>(vaJ a0 r h).c σ
 refine zk (rs:=[.tmp 2]) U Tryz.func140 rfl Tryz.ntmps140 rfl Tryz.call140 (by simp) ?_;refine zu [(0,.agg (zb a0))] ⟨rfl,trivial⟩ ?_;unfold wh.body at h;refine rgW [1] @zb.eq_1 ?_
 refine za fun Z1 hZ1=>?_
 refine O [1,4] ?_;apply zj;refine O [1,4,5] ?_;refine zR rfl (fun hc2=>?_) (fun hc2=>?_)
 · rw[if_pos hc2] at h;have t3:=eq_true hc2
   refine rc [2] fun K J=>?_
   refine rnW 4 t3 ?_;refine cut 5 10 15 [1] ((decide (a0.fS=[]))&&(decide ((qa a0.fEntries:Int)=0))) t3 rfl ?_;refine κ 1 ?_;refine cut (b:=((decide (a0.fS=[]))&&(decide ((qa a0.fEntries:Int)=0)))) (hb:=boolP_eq _) 5 16 21 [] (((decide (a0.fS=[]))&&(decide ((qa a0.fEntries:Int)=0)))&&(decide ((qa a0.fRest:Int)=0))) t3 rfl ?_;refine κ 1 ?_;refine nkN J ?_;cases h;exact rtA
 rw[if_neg hc2] at h;have t6:=eq_false hc2;refine rgW [1,4,22] t6 ?_;refine zR rfl (fun hc7=>?_) (fun hc7=>?_)
 · rw[if_pos hc7] at h;have t8:=eq_true hc7
   refine rc [2] fun K J=>?_
   refine rnW 4 t8 ?_;refine cut 5 27 32 [1] ((decide (a0.fN=0))&&(decide ((qa a0.fEntries:Int)=0))) (aI t6 t8) rfl ?_;refine κ 1 ?_;refine cut (b:=((decide (a0.fN=0))&&(decide ((qa a0.fEntries:Int)=0)))) (hb:=boolP_eq _) 5 33 38 [] (((decide (a0.fN=0))&&(decide ((qa a0.fEntries:Int)=0)))&&(decide ((qa a0.fRest:Int)=0))) (aI t6 t8) rfl ?_;refine κ 1 ?_;refine nkN J ?_;cases h;exact rtA
 rw[if_neg hc7] at h;have t11:=eq_false hc7;refine rgW [1,39] t11 ?_;refine zR rfl (fun hc12=>?_) (fun hc12=>?_)
 · rw[if_pos hc12] at h;have t13:=eq_true hc12
   refine rc [2] fun K J=>?_
   refine rnW 4 t13 ?_;refine cut 4 44 48 [1] ((decide (a0.fN=0))&&(decide (a0.fS=[]))) (aI t6 (aI t11 t13)) rfl ?_;refine κ 1 ?_;obtain⟨c16,hc16,h⟩:=bind_some h;refine yv 3 (fun L τ=>L=[(1,.op 0 0 0),(52,.bool c16)]∧τ=([.cells 0 (zb a0)]:zf)) ?_ ?_
   · refine xm (b:=((decide (a0.fN=0))&&(decide (a0.fS=[])))) 49 rfl (fun hg49=>?_) (fun hg49=>?_)
     · rw[if_pos hg49] at hc16;obtain⟨r17,hr17,hc16⟩:=bind_some hc16;refine κ 1 ?_;refine clN rfl rfl rfl (ev_value_entries a0 r17 hr17 _) ?_;refine κ 1 ?_;cases hc16;refine zl ⟨rfl,_,_,⟨rfl,rfl⟩,.b hg49⟩
     rw[wn hg49] at hc16;refine κ 3 ?_;cases hc16;refine zl ⟨rfl,_,_,⟨rfl,rfl⟩,.b hg49⟩
   rintro _ _ ⟨rfl,rfl⟩;refine κ 1 ?_;obtain⟨c18,hc18,h⟩:=bind_some h;refine yv 3 (fun L τ=>L=[(56,.bool c18)]∧τ=([.cells 0 (zb a0)]:zf)) ?_ ?_
   · refine xm (b:=c16) 53 rfl (fun hg53=>?_) (fun hg53=>?_)
     · rw[if_pos hg53] at hc18;obtain⟨r19,hr19,hc18⟩:=bind_some hc18;refine κ 1 ?_;refine clN rfl rfl rfl ((xV.ok hr19).c _) ?_;refine κ 1 ?_;cases hc18;refine zl ⟨rfl,_,_,⟨rfl,rfl⟩,.b hg53⟩
     rw[wn hg53] at hc18;refine κ 3 ?_;cases hc18;refine zl ⟨rfl,_,_,⟨rfl,rfl⟩,.b hg53⟩
   rintro _ _ ⟨rfl,rfl⟩;refine κ 1 ?_;refine nkN J ?_;cases h;exact rtA
 rw[if_neg hc12] at h;have t20:=eq_false hc12;apply zg;apply hZ1;refine rgW [2] t20 ?_;cases h;exact rtA
mutual
def z8 : Nat→zi→Option Bool
 |0,_=>none
 |k+1,a0=>z8.body (z8 k) (wh k) a0
def wh : Nat→zi→Option Bool
 |0,_=>none
 |k+1,a0=>wh.body (z8 k) (wh k) a0
end
theorem z8.all (k:Nat):(∀ (a0:zi) (r:Bool),z8 k a0=some r→ACalls qf 180 [.agg (zb a0)] [] (fun r' _=>r'=.bool r))∧(∀ (a0:zi) (r:Bool),wh k a0=some r→ACalls qf 140 [.agg (zb a0)] [] (fun r' _=>r'=.bool r)):=by
 induction k with
 |zero=>exact⟨(fun a0 r h=>by simp only[z8] at h; cases h),(fun a0 r h=>by simp only[wh] at h; cases h)⟩
 |succ k ih=>exact⟨(fun a0 r h=>z8.step _ _ ih.1 ih.2 a0 r (by simpa only [z8] using h)),(fun a0 r h=>wh.step _ _ ih.1 ih.2 a0 r (by simpa only [wh] using h))⟩
theorem wh.ev (k:Nat)(a0:zi)(r:Bool)(h:wh k a0=some r)(σ:zf):ACalls qf 140 [.agg (zb a0)] σ (fun r' σ'=>r'=.bool r∧σ'=σ):=
 ((z8.all k).2 a0 r h).c σ
def Yn (a0:zi):Option Bool:=
 (Xe a0).bind fun r1=>(if r1≤10 then (wh yp a0).bind fun r2=>some r2 else some false).bind fun c2=>some c2
theorem Yn.ok {a0 r}(h:Yn a0=some r):ACalls qf 93 [.agg (zb a0)] [] (fun r' _=>r'=.bool r):=by
 refine zk (rs:=[.tmp 2]) U Tryz.func93 rfl Tryz.ntmps93 rfl Tryz.call93 (by simp) ?_;refine zu [(0,.agg (zb a0))] ⟨rfl,trivial⟩ ?_;unfold Yn at h;refine rgW [1] @zb.eq_1 ?_
 refine rc [2] fun K J=>?_
 obtain⟨r1,hr1,h⟩:=bind_some h;refine κ 1 ?_;refine clN rfl rfl rfl ((Xe.ok hr1).c _) ?_;refine κ 2 ?_;obtain⟨c2,hc2,h⟩:=bind_some h;refine yv 3 (fun L τ=>L=[(9,.bool c2)]∧τ=([.cells 0 (zb a0)]:zf)) ?_ ?_
 · refine Yz 6 rfl (fun hg6=>?_) (fun hg6=>?_)
   · have t3:=eq_true hg6;rw[if_pos hg6] at hc2;obtain⟨r4,hr4,hc2⟩:=bind_some hc2;refine κ 1 ?_;refine clN rfl rfl rfl (wh.ev yp a0 r4 hr4 _) ?_;refine κ 1 ?_;cases hc2;refine zl ⟨rfl,_,_,⟨rfl,rfl⟩,.p t3⟩
   have t5:=eq_false hg6;rw[if_neg hg6] at hc2;refine κ 3 ?_;cases hc2;refine zl ⟨rfl,_,_,⟨rfl,rfl⟩,.p t5⟩
 rintro _ _ ⟨rfl,rfl⟩;refine κ 1 ?_;refine nkN J ?_;cases h;exact rtA
def vbt (a0:Int):zt:=
 (zt.num a0)
theorem vbt.ok {a0 r}(h:vbt a0=r):ACalls qf 225 [.int .i64 a0] [] (fun r' _=>r'=.agg (zn r)):=by
 refine zk (rs:=[.cell 2 228]) U Tryz.func225 rfl Tryz.ntmps225 rfl Tryz.call225 (by simp) ?_;refine zu [(0,.int .i64 a0)] ⟨rfl,trivial⟩ ?_;unfold vbt at h;refine O [0,2] ?_;refine O [2] ?_;cases h;exact rtA
def wy (a0:List xF):Option (List xF):=(vao (qa a0) 40).bind fun _=>some a0
theorem wy.ok (a0 r:List xF)(h:wy a0=some r):ACalls qf 227 [.ds true (qb zA a0) (qa a0) false] [] (fun r' _=>r'=.ds true (qb zA r) (qa r) false):=by
 obtain⟨_u,hu,h⟩:=bind_some h;have gu:=yR hu;cases h
 have f1:=fun nl tt σ=>Ze E35.len a0 nl tt σ
 have f2:=zU E35.len a0;have f3:=Xd zA a0
 have fin:∀ σ id ver tt,zf.at σ id ver=some (qb zA a0)→tell σ [] true 12 (.os true 4 id ver 0 (qa a0) tt)=.ds true (qb zA a0) (qa a0) false:=by
  intro σ id ver tt hs
  simp only[ZS,Zp,hs,qw,ql];rw[if_pos (by rw[f2]; exact qA _),← f2,uh,zL]
 refine zk (rs:=[.tmp 2]) U Tryz.func227 rfl Tryz.ntmps227 rfl Tryz.call227 (by simp) ?_;refine zu [(0,.ds true (qb zA a0) (qa a0) false)] ⟨rfl,trivial⟩ ?_;refine O [0] ?_
 refine za fun Z1 hZ1=>?_
 refine rc [0,4] fun K J=>?_
 refine κ 1 ?_
 refine XK U rfl rfl rfl rfl rfl rfl fun b hnil=>?_
 have hb:b=true→a0=[]:=fun hb=>by
  have:=hnil hb;simp only[yJ,go_sem,reduceCtorEq] at this;exact q1 this
 clear hnil
 refine nkN J ?_;cases b
 · refine zD rfl ?_;apply zg;apply hZ1
   refine rg U [2] fun K J=>?_
   by_cases h0:qa a0=0
   · obtain rfl:=q1 h0;simp only[go_sem,qd,qc,qe,reduceCtorEq,zM,yz,qL,ux,yG,yf,yJ,y0,uo,qp,uq,qW];apply J
     apply yE;simp only[Yk,xg,xw,wu,exists_eq_left',go_sem]
     first|rfl|(simp only[go_sem,qd,qg,qc,qe,qj,qr,reduceIte,reduceCtorEq,ZS,Zp,qq]<;>rfl)
   have h1:=eq_false h0;simp only[go_sem,qd,qc,qe,reduceCtorEq,zM,yz,qL,ux,yG,yf,yJ,f1,f3,h1,gu,yZ,qq,qC,uq];apply J
   apply yE;simp only[Yk,xg,xw,wu,exists_eq_left',go_sem];exact fin _ _ _ _ (by simp only[zf.at_hd,zf.at_tl,if_true])
 obtain rfl:=hb rfl;refine zE rfl ?_;refine O [2] ?_;apply yE;simp only[Yk,xg,xw,wu,exists_eq_left',go_sem]
 first|rfl|(simp only[go_sem,qd,qg,qc,qe,qj,qr,reduceIte,reduceCtorEq,XF,qq,qv,qu,qz]<;>rfl)
theorem wy.own (a0 r:List xF)(h:wy a0=some r):ACalls qf 227 [.ds true (qb zA a0) (qa a0) false] [] (fun r' σ'=>r'=.os true 4 0 0 0 (qa r) false∧σ'=[.cells 0 (qb zA r)]):=by
 obtain⟨_u,hu,h⟩:=bind_some h;have gu:=yR hu;cases h
 have f1:=fun nl tt σ=>Ze E35.len a0 nl tt σ
 have f2:=zU E35.len a0;have f3:=Xd zA a0;refine veg (rs:=[.tmp 2]) U Tryz.func227 rfl Tryz.ntmps227 rfl Tryz.call227 (by simp) ?_;refine zu [(0,.ds true (qb zA a0) (qa a0) false)] ⟨rfl,trivial⟩ ?_;refine O [0] ?_
 refine za fun Z1 hZ1=>?_
 refine rc [0,4] fun K J=>?_
 refine κ 1 ?_
 refine XK U rfl rfl rfl rfl rfl rfl fun b hnil=>?_
 have hb:b=true→a0=[]:=fun hb=>by
  have:=hnil hb;simp only[yJ,go_sem,reduceCtorEq] at this;exact q1 this
 clear hnil
 refine nkN J ?_;cases b
 · refine zD rfl ?_;apply zg;apply hZ1
   refine rg U [2] fun K J=>?_
   by_cases h0:qa a0=0
   · obtain rfl:=q1 h0;simp only[go_sem,qd,qc,qe,reduceCtorEq,zM,yz,qL,ux,yG,yf,yJ,y0,uo,qp,uq,qW];apply J
     apply yE;simp only[Yk,xg,xw,wu,exists_eq_left',go_sem];refine .inl ⟨0,true,by simp,?_,?_⟩
     · first|rfl|(simp only[go_sem,qd,qg,qc,qe,qj,qr,reduceIte,reduceCtorEq,ZS,YG,if_true]<;>rfl)
     first|rfl|(simp only[go_sem,qd,qg,qc,qe,qj,qr,reduceIte,reduceCtorEq,Xl,vbu,YO,Xm,XG,qq]<;>rfl)
   have h1:=eq_false h0;simp only[go_sem,qd,qc,qe,reduceCtorEq,zM,yz,qL,ux,yG,yf,yJ,f1,f3,h1,gu,yZ,qq,qC,uq];apply J
   apply yE;simp only[Yk,xg,xw,wu,exists_eq_left',go_sem,qe];refine .inl ⟨1,false,by simp,?_,?_⟩
   · first|rfl|(simp only[go_sem,qd,qg,qc,qe,qj,qr,reduceIte,reduceCtorEq,ZS,YG,if_true]<;>rfl)
   first|rfl|(simp only[go_sem,Xl,YO,Xm,XG,zL]<;>rfl)
 obtain rfl:=hb rfl;refine zE rfl ?_;refine O [2] ?_;apply yE;simp only[Yk,xg,xw,wu,exists_eq_left',go_sem];refine .inr ?_
 first|rfl|(simp only[go_sem,qd,qg,qc,qe,qj,qr,reduceIte,reduceCtorEq,XF,qq,qv,qM,qn,qI]<;>rfl)
theorem wy.ev (a0 r:List xF)(h:wy a0=some r)(σ:zf):ACalls qf 227 [.ds true (qb zA a0) (qa a0) false] σ (fun r' σ'=>r'=.ds true (qb zA r) (qa r) false∧σ'=σ):=
 (wy.ok a0 r h).pureAt (by simp only[AV.canon,xo,xA,qD,qn,ug]) (by simp only[AV.canon,xA,qD,qn,ug]) σ
def xh.l33 (xz:zi→Option zt)(l12:List xE)(x14:Int)(rec18:List xE→Int→Option zt)(y23:zp):List zi→Int→List zt→Option zt
 |[],x29,l27=>(vao (qa l12+1) 32).bind fun _u35=>(rec18 (l12++[(⟨y23.fTag,l27⟩:xE)]) (IntKind.i64.wrap (x14+1)))
 |y33::q33,x29,l27=>(xz y33).bind fun r41=>(vao (qa l27+1) 16).bind fun _u43=>((xh.l33 xz l12 x14 rec18 y23 q33) (x29+1) (l27++[r41]))
def xh.l18 (xz:zi→Option zt)(a0:zi)(r10:List xF):Nat→List xE→Int→Option zt
 |0,_,_=>none
 |k18+1,l12,x14=>(if x14<(qa a0.fEntries:Int) then (Yl a0.fEntries x14).bind fun y23=>(xh.l33 xz l12 x14 (xh.l18 xz a0 r10 k18) y23 y23.fTrees 0 ([]:List zt)) else some (zt.node l12 r10))
def xh.l60 (xz:zi→Option zt)(a0:zi)(r10:List xF)(y50:zp):List zi→Int→List zt→Option zt
 |[],x56,l54=>(xh.l18 xz a0 r10 yp [(⟨y50.fTag,l54⟩:xE)] (IntKind.i64.wrap (0+1)))
 |y60::q60,x56,l54=>(xz y60).bind fun r66=>(vao (qa l54+1) 16).bind fun _u68=>((xh.l60 xz a0 r10 y50 q60) (x56+1) (l54++[r66]))
def xh.body (xz:zi→Option zt)(a0:zi):Option zt:=
 (if a0.fKind=1 then bnd (vbt a0.fN) fun r4=>some r4 else (if a0.fKind=2 then none else (wy a0.fRest).bind fun r10=>(if 0<(qa a0.fEntries:Int) then (Yl a0.fEntries 0).bind fun y50=>(xh.l60 xz a0 r10 y50 y50.fTrees 0 ([]:List zt)) else some (zt.node ([]:List xE) r10))))
theorem xh.step (xz:zi→Option zt)(ih_value_made:∀ (a0:zi) (r:zt),xz a0=some r→ACalls qf 185 [.agg (zb a0)] [] (fun r' _=>r'=.agg (zn r)))(a0:zi)(r:zt)(h:xh.body xz a0=some r):ACalls qf 185 [.agg (zb a0)] [] (fun r' _=>r'=.agg (zn r)):=by
 have ev_value_made:=fun a0 r h σ=>(ih_value_made a0 r h).c σ
 refine zk (rs:=[.cell 2 228]) U Tryz.func185 rfl Tryz.ntmps185 rfl Tryz.call185 (by simp) ?_;refine zu [(0,.agg (zb a0))] ⟨rfl,trivial⟩ ?_;unfold xh.body at h;refine rgW [1,2] @zb.eq_1 ?_
 refine za fun Z1 hZ1=>?_
 refine O [1,2,10] ?_;apply zj;refine O [1,2,10,11] ?_;refine zR rfl (fun hc2=>?_) (fun hc2=>?_)
 · rw[if_pos hc2] at h;have t3:=eq_true hc2
   refine rc [2] fun K J=>?_
   obtain⟨r4,hr4,h⟩:=yb h;refine rnW 2 t3 ?_;refine clN rfl rfl rfl ((vbt.ok hr4).c _) ?_;have f5:=Xb r4;unfold AV.one at f5;refine rnW 1 (aI @zn.eq_1 f5) ?_;refine nkN J ?_;cases h;exact rtA
 rw[if_neg hc2] at h;have t6:=eq_false hc2;refine rgW [1,2,16] t6 ?_;refine zR rfl (fun hc7=>?_) (fun hc7=>?_)
 · rw[if_pos hc7] at h;have t8:=eq_true hc7;cases h
 rw[if_neg hc7] at h;have t9:=eq_false hc7;apply zg;apply hZ1
 refine rc [1,2,3] fun K J=>?_
 obtain⟨r10,hr10,h⟩:=bind_some h;refine rnW 2 t9 ?_;refine clN rfl rfl rfl (wy.ev a0.fRest r10 hr10 _) ?_;refine κ 3 ?_;refine nkN J ?_
 refine za fun Z11 hZ11=>?_
 refine O [2,3,27,28,29] ?_;apply zj;refine awp_loopS1 (fun m L τ=>∃ (k18:Nat) (l12:List xE) (x14:Int) (v13:Nat),m=0+k18∧L=[(2,.op 0 0 0),(3,.op 1 0 0),(27,.ds true (qb zx a0.fEntries) (qa a0.fEntries) false),(28,.int .i64 (qa a0.fEntries:Int)),(29,.int .i64 x14)]∧τ=([.cells 0 [.nilI],.cells 0 [.os true 2 2 v13 0 (qa l12) false,.ds true (qb zA r10) (qa r10) false],.cells v13 (qb xG l12)]:zf)∧xh.l18 xz a0 r10 k18 l12 x14=some r) (yp+1) ?_ ?_
 · refine O [2,3,27,28,29,30] ?_
   refine za fun Z46 hZ46=>?_
   refine zR rfl (fun hc47=>?_) (fun hc47=>?_)
   · rw[if_pos hc47] at h;have t48:=eq_true hc47;apply zg;apply hZ46
     refine za fun Z49 hZ49=>?_
     apply zj;obtain⟨y50,hy50,h⟩:=bind_some h;have f51:=E34.idxS hy50;have f52:=E34.loadS rfl rfl hy50;refine rgW [2,3,5,27,28,29] (aI @zK.eq_1 (aI @yh (aI t48 (aI f51 f52)))) ?_;refine O [2,3,5,6,27,28,29] ?_;refine wV 4 1 1 rfl (by simp) rfl (L:=[(2,.op 1 0 0),(3,.op 2 0 0),(5,.op 3 0 0),(6,.op 4 0 0),(27,.ds true (qb zx a0.fEntries) (qa a0.fEntries) false),(28,.int .i64 (qa a0.fEntries:Int)),(29,.int .i64 0)]) (τ:=[.cells 0 (zb a0),.cells 0 [.nilI],.cells 0 [.ds true [] 0 true,.ds true (qb zA r10) (qa r10) false],.cells 0 (zK y50),.cells 0 [.int .i64 y50.fTag,.os true 1 5 0 0 (qa ([]:List zt)) false],.cells 0 (qb zn ([]:List zt))]) .s ?_
     refine za fun Z53 hZ53=>?_
     refine O [2,3,6,27,28,29,37,38,39] ?_;apply zj
     refine xq 37 fun hb60=>?_
     replace hb60:qa y50.fTrees≤9223372036854775807:=hb60.1;refine zG (fun m L τ=>∃ (p60 q60:List zi) (x56:Int) (l54:List zt) (v55:Nat),m=qa q60∧L=[(2,.op 0 0 0),(3,.op 1 0 0),(6,.op 2 0 0),(27,.ds true (qb zx a0.fEntries) (qa a0.fEntries) false),(28,.int .i64 (qa a0.fEntries:Int)),(29,.int .i64 0),(37,.ds true (qb ya y50.fTrees) (qa y50.fTrees) false),(38,.int .i64 (qa y50.fTrees:Int)),(39,.int .i64 x56)]∧τ=([.cells 0 [.nilI],.cells 0 [.ds true [] 0 true,.ds true (qb zA r10) (qa r10) false],.cells 0 [.int .i64 y50.fTag,.os true 1 3 v55 0 (qa l54) false],.cells v55 (qb zn l54)]:zf)∧y50.fTrees=p60++q60∧x56=(qa p60:Int)∧xh.l60 xz a0 r10 y50 q60 x56 l54=some r) _ ⟨[],y50.fTrees,0,([]:List zt),0,rfl,rfl,rfl,rfl,rfl,h⟩ (.t [1,2,4,5] false) ?_;rintro m L τ ⟨p60,q60,x56,l54,v55,rfl,rfl,rfl,hE60,hi60,h⟩
     rcases q60 with _|⟨y60,q60⟩
     · have hz60:=yH hE60 hi60;simp only[xh.l60] at h;refine rgW [2,3,6,27,28,29,37,38,39,40] hz60 ?_
       refine za fun Z61 hZ61=>?_
       refine zD rfl ?_;apply zJ;apply hZ53
       refine rdE [2,3,27,28,29] fun K J=>?_
       refine DW.start (T:=tab) [.any,.any,.any,.any,.own 1 [],.at [],.eff,.eff,.any,.any,.eff] [(1,[])] ?_;refine DW.runN U 8 ?_;simp only[go_sem,qd,qg,qc,qe,qj,reduceCtorEq,zM,yz,qV,qL,true_and,q5,yG,yf,yJ,yZ,qW,qQ,AV.one,qD,qC,qk,qp,ql,qK];refine DW.runN U 3 ?_;simp only[go_sem,qd,qg,qc,qe,qk,qp,ql];refine DW.fin U (by decide +kernel) rfl ?_;simp only[zq,upd,qc,reduceIte,yD,xj];apply J
       apply hZ49
       refine rgE U [2,3,27,28,29] fun K J=>?_
       simp only[go_sem,qd,qc];apply J
       exact⟨_,_,_,(Nat.lt_succ_of_le (Nat.le_of_eq (ql yp))),⟨yp,[(⟨y50.fTag,l54⟩:xE)],IntKind.i64.wrap (0+1),0,rfl,rfl,rfl,h⟩,(.t [0,1,5] false)⟩
     obtain⟨hz60,hw60,hx60,hE'60,hi'60⟩:=yo hE60 hi60 hb60;simp only[xh.l60] at h;refine rgW [2,3,6,27,28,29,37,38,39,40] hz60 ?_
     refine za fun Z62 hZ62=>?_
     refine zE rfl ?_;apply zg;apply hZ62
     refine za fun Z63 hZ63=>?_
     apply zj;have f64:=E38.idxS hx60;have f65:=E38.loadS rfl rfl hx60;refine rgW [2,3,6,8,27,28,29,37,38,39] (aI @zb.eq_1 (aI @yC (aI f64 f65))) ?_;obtain⟨r66,hr66,h⟩:=bind_some h;have f67:=Xb r66;unfold AV.one at f67;obtain⟨_u68,hu68,h⟩:=bind_some h;have gu68:=yR hu68;have f69:=(zU E282.len l54)
     refine rdE [2,3,6,27,28,29,37,38,39] fun K J=>?_
     refine DW.start (T:=tab) [.any,.own 2 [],.at [],.eff,.eff,.eff,.any,.eff] [(2,[])] ?_;refine DW.runN U 3 ?_;simp only[go_sem,qd,qg,qc,qe,zn,qk,qp,ql];refine DW.call rfl rfl rfl (ev_value_made y60 r66 hr66 _) ?_;refine DW.runN U 4 ?_;simp only[go_sem,qd,qg,qc,qe,qj,zM,yz,qV,qL,true_and,q5,yG,yf,yJ,zn,f67,gu68,f69,yZ,qW,qQ,AV.one,qD,qC,qk,qp,ql,qK];refine DW.fin U (by decide +kernel) rfl ?_;simp only[zq,upd,qc,reduceIte,yD,xj];apply J
     apply hZ63
     refine rgE U [2,3,6,27,28,29,37,38,39] fun K J=>?_
     simp only[go_sem,qd,qc,hw60];apply J
     exact⟨_,_,_,qo q60.length,⟨p60++[y60],q60,x56+1,l54++[r66],v55+1,rfl,rfl,rfl,hE'60,hi'60,h⟩,(.t [0,1,2,3] false)⟩
   rw[if_neg hc47] at h;have t70:=eq_false hc47;apply zJ;apply hZ11;refine rgW [2] t70 ?_;cases h;exact rtA
 clear h
 rintro m L τ ⟨k18,l12,x14,v13,rfl,rfl,rfl,h⟩
 rcases k18 with _|k18
 · cases h
 simp only[xh.l18] at h;refine O [2,3,27,28,29,30] ?_
 refine za fun Z19 hZ19=>?_
 refine zR rfl (fun hc20=>?_) (fun hc20=>?_)
 · rw[if_pos hc20] at h;have t21:=eq_true hc20;apply zg;apply hZ19
   refine za fun Z22 hZ22=>?_
   apply zj;obtain⟨y23,hy23,h⟩:=bind_some h;have f24:=E34.idxS hy23;have f25:=E34.loadS rfl rfl hy23;refine rgW [2,3,5,27,28,29] (aI @zK.eq_1 (aI @yh (aI t21 (aI f24 f25)))) ?_;refine O [2,3,5,6,27,28,29] ?_;refine wV 4 1 1 rfl (by simp) rfl (L:=[(2,.op 0 0 0),(3,.op 1 0 0),(5,.op 3 0 0),(6,.op 4 0 0),(27,.ds true (qb zx a0.fEntries) (qa a0.fEntries) false),(28,.int .i64 (qa a0.fEntries:Int)),(29,.int .i64 x14)]) (τ:=[.cells 0 [.nilI],.cells 0 [.os true 2 2 v13 0 (qa l12) false,.ds true (qb zA r10) (qa r10) false],.cells v13 (qb xG l12),.cells 0 (zK y23),.cells 0 [.int .i64 y23.fTag,.os true 1 5 0 0 (qa ([]:List zt)) false],.cells 0 (qb zn ([]:List zt))]) .s ?_
   refine za fun Z26 hZ26=>?_
   refine O [2,3,6,27,28,29,37,38,39] ?_;apply zj
   refine xq 37 fun hb33=>?_
   replace hb33:qa y23.fTrees≤9223372036854775807:=hb33.1;refine zG (fun m L τ=>∃ (p33 q33:List zi) (x29:Int) (l27:List zt) (v28:Nat),m=qa q33∧L=[(2,.op 0 0 0),(3,.op 1 0 0),(6,.op 3 0 0),(27,.ds true (qb zx a0.fEntries) (qa a0.fEntries) false),(28,.int .i64 (qa a0.fEntries:Int)),(29,.int .i64 x14),(37,.ds true (qb ya y23.fTrees) (qa y23.fTrees) false),(38,.int .i64 (qa y23.fTrees:Int)),(39,.int .i64 x29)]∧τ=([.cells 0 [.nilI],.cells 0 [.os true 2 2 v13 0 (qa l12) false,.ds true (qb zA r10) (qa r10) false],.cells v13 (qb xG l12),.cells 0 [.int .i64 y23.fTag,.os true 1 4 v28 0 (qa l27) false],.cells v28 (qb zn l27)]:zf)∧y23.fTrees=p33++q33∧x29=(qa p33:Int)∧xh.l33 xz l12 x14 (xh.l18 xz a0 r10 k18) y23 q33 x29 l27=some r) _ ⟨[],y23.fTrees,0,([]:List zt),0,rfl,rfl,rfl,rfl,rfl,h⟩ (.t [0,1,2,4,5] false) ?_;rintro m L τ ⟨p33,q33,x29,l27,v28,rfl,rfl,rfl,hE33,hi33,h⟩
   rcases q33 with _|⟨y33,q33⟩
   · have hz33:=yH hE33 hi33;simp only[xh.l33] at h;refine rgW [2,3,6,27,28,29,37,38,39,40] hz33 ?_
     refine za fun Z34 hZ34=>?_
     refine zD rfl ?_;apply zJ;apply hZ26;obtain⟨_u35,hu35,h⟩:=bind_some h;have gu35:=yR hu35;have f36:=(zU E324.len l12)
     refine rdE [2,3,27,28,29] fun K J=>?_
     refine DW.start (T:=tab) [.any,.any,.any,.any,.own 1 [],.at [],.eff,.eff,.any,.any,.eff] [(1,[])] ?_;refine DW.runN U 8 ?_;simp only[go_sem,qd,qg,qc,qe,qj,zM,yz,qV,qL,true_and,q5,yG,yf,yJ,gu35,f36,yZ,qW,qQ,AV.one,qD,qC,qk,qp,ql,qK];refine DW.runN U 3 ?_;simp only[go_sem,qd,qg,qc,qe,qk,qp,ql];refine DW.fin U (by decide +kernel) rfl ?_;simp only[zq,upd,qc,reduceIte,yD,xj];apply J
     apply hZ22
     refine rgE U [2,3,27,28,29] fun K J=>?_
     simp only[go_sem,qd,qc];apply J
     exact⟨_,_,_,qo (0+k18),⟨k18,l12++[(⟨y23.fTag,l27⟩:xE)],IntKind.i64.wrap (x14+1),v13+1,rfl,rfl,rfl,h⟩,(.t [0,1,2] false)⟩
   obtain⟨hz33,hw33,hx33,hE'33,hi'33⟩:=yo hE33 hi33 hb33;simp only[xh.l33] at h;refine rgW [2,3,6,27,28,29,37,38,39,40] hz33 ?_
   refine za fun Z37 hZ37=>?_
   refine zE rfl ?_;apply zg;apply hZ37
   refine za fun Z38 hZ38=>?_
   apply zj;have f39:=E38.idxS hx33;have f40:=E38.loadS rfl rfl hx33;refine rgW [2,3,6,8,27,28,29,37,38,39] (aI @zb.eq_1 (aI @yC (aI f39 f40))) ?_;obtain⟨r41,hr41,h⟩:=bind_some h;have f42:=Xb r41;unfold AV.one at f42;obtain⟨_u43,hu43,h⟩:=bind_some h;have gu43:=yR hu43;have f44:=(zU E282.len l27)
   refine rdE [2,3,6,27,28,29,37,38,39] fun K J=>?_
   refine DW.start (T:=tab) [.any,.own 2 [],.at [],.eff,.eff,.eff,.any,.eff] [(2,[])] ?_;refine DW.runN U 3 ?_;simp only[go_sem,qd,qg,qc,qe,zn,qk,qp,ql];refine DW.call rfl rfl rfl (ev_value_made y33 r41 hr41 _) ?_;refine DW.runN U 4 ?_;simp only[go_sem,qd,qg,qc,qe,qj,zM,yz,qV,qL,true_and,q5,yG,yf,yJ,zn,f42,gu43,f44,yZ,qW,qQ,AV.one,qD,qC,qk,qp,ql,qK];refine DW.fin U (by decide +kernel) rfl ?_;simp only[zq,upd,qc,reduceIte,yD,xj];apply J
   apply hZ38
   refine rgE U [2,3,6,27,28,29,37,38,39] fun K J=>?_
   simp only[go_sem,qd,qc,hw33];apply J
   exact⟨_,_,_,qo q33.length,⟨p33++[y33],q33,x29+1,l27++[r41],v28+1,rfl,rfl,rfl,hE'33,hi'33,h⟩,(.t [0,1,2,3,4] false)⟩
 rw[if_neg hc20] at h;have t45:=eq_false hc20;apply zJ;apply hZ11;refine rgW [2] t45 ?_;cases h;exact rtA
end
section
set_option maxRecDepth 4000
set_option maxHeartbeats 1000000
open AM
def xh : Nat→zi→Option zt
 |0,_=>none
 |k+1,a0=>xh.body (xh k) a0
theorem xh.all (k:Nat):(∀ (a0:zi) (r:zt),xh k a0=some r→ACalls qf 185 [.agg (zb a0)] [] (fun r' _=>r'=.agg (zn r))):=by
 induction k with
 |zero=>exact (fun a0 r h=>by simp only[xh] at h; cases h)
 |succ k ih=>exact (fun a0 r h=>xh.step _ ih a0 r (by simpa only [xh] using h))
theorem xh.ev (k:Nat)(a0:zi)(r:zt)(h:xh k a0=some r)(σ:zf):ACalls qf 185 [.agg (zb a0)] σ (fun r' σ'=>r'=.agg (zn r)∧σ'=σ):=
 ((xh.all k) a0 r h).c σ
def vbb (a0:zi):Option (zt×Bool):=
 (Yn a0).bind fun r2=>(if (!r2)=true then none else (xh yp a0).bind fun r4=>some (r4,true))
theorem vbb.ok {a0 r}(h:vbb a0=some r):ACalls qf 144 [.agg (zb a0)] [] (fun r' _=>r'=.tup [.agg (zn r.1),.bool r.2]):=by
 refine zk (rs:=[.cell 2 228,.tmp 3]) U Tryz.func144 rfl Tryz.ntmps144 rfl Tryz.call144 (by simp) ?_;refine zu [(0,.agg (zb a0))] ⟨rfl,trivial⟩ ?_;unfold vbb at h;refine rgW [1,2] @zb.eq_1 ?_
 refine za fun Z1 hZ1=>?_
 refine rc [1,2,6] fun K J=>?_
 obtain⟨r2,hr2,h⟩:=bind_some h;refine κ 1 ?_;refine clN rfl rfl rfl ((Yn.ok hr2).c _) ?_;refine κ 1 ?_;refine nkN J ?_;refine zB (b:=(!r2)) rfl (fun hc3=>?_) (fun hc3=>?_)
 · rw[if_pos hc3] at h;cases h
 rw[wn hc3] at h;apply zg;apply hZ1
 refine rc [2,3] fun K J=>?_
 obtain⟨r4,hr4,h⟩:=bind_some h;refine κ 1 ?_;refine clN rfl rfl rfl (xh.ev yp a0 r4 hr4 _) ?_;have f5:=Xb r4;unfold AV.one at f5;refine rnW 2 (aI @zn.eq_1 f5) ?_;refine nkN J ?_;cases h;exact rtA
def wT (a0:zt):Option yA:=
 (match a0 with|.nil=>none|.num n2=>none|.str s2=>none|.node e2 r2=>some (⟨e2,r2⟩:yA))
theorem wT.ok {a0 r}(h:wT a0=some r):ACalls qf 146 [.agg (zn a0)] [] (fun r' _=>r'=.dp (zO r) 0):=by
 refine zk (rs:=[.tmp 2]) U Tryz.func146 rfl Tryz.ntmps146 rfl Tryz.call146 (by simp) ?_;refine zu [(0,.agg (zn a0))] ⟨rfl,trivial⟩ ?_;unfold wT at h;have f1:=Xb a0;unfold AV.one at f1;refine rgW [1] (aI @zn.eq_1 f1) ?_
 rcases a0 with _|n2|s2|⟨e2,r2⟩
 · dsimp only at h
   try simp only[vcK]
   cases h
 · dsimp only at h
   try simp only[vcJ]
   cases h
 · dsimp only at h
   try simp only[vcI]
   cases h
 dsimp only at h
 try simp only[vaV]
 refine rg U [2] fun K J=>?_
 simp only[go_sem,qd,qc,Yc,Yv,TypeDesc.isIface];apply J
 cases h;exact rtA
def YN (a0:yA):Option (List xF):=
 (wy a0.frest).bind fun r1=>some r1
theorem YN.own {a0 r}(h:YN a0=some r):ACalls qf 186 [.dp (zO a0) 0] [] (fun r' σ'=>r'=.os true 4 0 0 0 (qa r) false∧σ'=[.cells 0 (qb zA r)]):=by
 refine ACalls.own0 (by simp only[push_cast]) ?_;refine XT (rs:=[.tmp 2]) U Tryz.func186 rfl Tryz.ntmps186 rfl Tryz.call186 (by simp) ?_;refine zu [(0,.dp (zO a0) 0)] ⟨rfl,trivial⟩ ?_;unfold YN at h;refine O [0] ?_
 refine rc [2] fun K J=>?_
 obtain⟨r1,hr1,h⟩:=bind_some h;refine xO U 4 ?_;simp only[go_sem,qd,qc,qe,reduceCtorEq,zO,vcO];refine clN rfl rfl rfl (@id (ACalls qf 227 [.ds true (qb zA a0.frest) (qa a0.frest) false] [] (fun r' σ'=>r'=.os true 4 0 0 0 (qa r1) false∧σ'=[.cells 0 (qb zA r1)])) ((wy.own a0.frest r1 hr1).ownAt0 (by simp only[push_cast]) (by simp only[push_cast]) _)) ?_;refine κ 1 ?_;refine nkN J ?_;apply yE;cases h;simp only[Yk,xg,xw,wu,exists_eq_left',go_sem];refine⟨0,0,by simp,?_,?_⟩
 · first|rfl|(simp only[go_sem,qd,qg,qc,qe,qj,qr,reduceIte,reduceCtorEq,push_cast,if_true,qw,ql,qy,qq,qE,qv,qM,qI,qz,qu,qn,zL,zA]<;>rfl)
 first|rfl|(simp only[go_sem,push_cast,qq,zL]<;>rfl)
def xY.l8 : List xE→Int→List Int→Option (List Int)
 |[],x4,l2=>some l2
 |y8::q8,x4,l2=>(vao (qa l2+1) 8).bind fun _u14=>((xY.l8 q8) (x4+1) (l2++[y8.ftag]))
def xY (a0:yA):Option (List Int):=
 (xY.l8 a0.fentries 0 ([]:List Int))
theorem xY.own {a0 r}(h:xY a0=some r):ACalls qf 187 [.dp (zO a0) 0] [] (fun r' σ'=>r'=.os true 1 0 0 0 (qa r) false∧σ'=[.cells 0 (qb ZC r)]):=by
 refine ACalls.own0 (by simp only[push_cast]) ?_;refine XT (rs:=[.tmp 2]) U Tryz.func187 rfl Tryz.ntmps187 rfl Tryz.call187 (by simp) ?_;refine zu [(0,.dp (zO a0) 0)] ⟨rfl,trivial⟩ ?_;unfold xY at h;refine O [0] ?_;refine O [0,3] ?_;refine YA 3 1 rfl ?_;refine yX (L:=[(0,.dp (zO a0) 0),(3,.os true 1 0 0 0 (qa ([]:List Int)) false)]) (τ:=[.cells 0 (qb ZC ([]:List Int))]) .s ?_
 refine za fun Z1 hZ1=>?_
 refine rg U [3,9,10,11] fun K J=>?_
 simp only[go_sem,qd,qc,qe,reduceCtorEq,zO,vcO];apply J
 apply zj
 refine xq 9 fun hb8=>?_
 replace hb8:qa a0.fentries≤9223372036854775807:=hb8.1;refine zG (fun m L τ=>∃ (p8 q8:List xE) (x4:Int) (l2:List Int) (v3:Nat),m=qa q8∧L=[(3,.os true 1 0 v3 0 (qa l2) false),(9,.ds true (qb xG a0.fentries) (qa a0.fentries) false),(10,.int .i64 (qa a0.fentries:Int)),(11,.int .i64 x4)]∧τ=([.cells v3 (qb ZC l2)]:zf)∧a0.fentries=p8++q8∧x4=(qa p8:Int)∧xY.l8 q8 x4 l2=some r) _ ⟨[],a0.fentries,0,([]:List Int),0,rfl,rfl,rfl,rfl,rfl,h⟩ .s ?_;rintro m L τ ⟨p8,q8,x4,l2,v3,rfl,rfl,rfl,hE8,hi8,h⟩
 rcases q8 with _|⟨y8,q8⟩
 · have hz8:=yH hE8 hi8;simp only[xY.l8] at h;refine rgW [3,9,10,11,12] hz8 ?_
   refine za fun Z9 hZ9=>?_
   refine zD rfl ?_;apply zJ;apply hZ1;refine O [2] ?_;apply yE;cases h;simp only[Yk,xg,xw,wu,exists_eq_left',go_sem];refine⟨0,v3,by simp,?_,?_⟩
   · first|rfl|(simp only[go_sem,qd,qg,qc,qe,qj,qr,reduceIte,reduceCtorEq,push_cast,if_true,qw,ql,qy,qq,qE,qv,qM,qI,qz,qu,qn,zL]<;>rfl)
   first|rfl|(simp only[go_sem,push_cast,qq,zL]<;>rfl)
 obtain⟨hz8,hw8,hx8,hE'8,hi'8⟩:=yo hE8 hi8 hb8;simp only[xY.l8] at h;refine rgW [3,9,10,11,12] hz8 ?_
 refine za fun Z10 hZ10=>?_
 refine zE rfl ?_;apply zg;apply hZ10
 refine za fun Z11 hZ11=>?_
 apply zj;have f12:=E324.idxS hx8;have f13:=E324.loadS rfl rfl hx8;refine rgW [3,5,9,10,11] (aI @wA.eq_1 (aI @wo (aI f12 f13))) ?_;obtain⟨_u14,hu14,h⟩:=bind_some h;have gu14:=yR hu14;have f15:=(zU E26.len l2)
 refine rgE U [3,9,10,11] fun K J=>?_
 simp only[go_sem,qd,qg,qc,qe,qj,zM,yz,qV,qL,true_and,q5,yG,yf,yJ,gu14,f15,yZ,qW,qQ,AV.one,qD,qC,qk,qp,ql,qK];apply J
 apply hZ11
 refine rgE U [3,9,10,11] fun K J=>?_
 simp only[go_sem,qd,qc,hw8];apply J
 exact⟨_,_,_,qo q8.length,⟨p8++[y8],q8,x4+1,l2++[y8.ftag],v3+1,rfl,rfl,rfl,hE'8,hi'8,h⟩,(.t [0] false)⟩
theorem xY.ok {a0 r}(h:xY a0=some r):ACalls qf 187 [.dp (zO a0) 0] [] (fun r' _=>r'=.ds true (qb ZC r) (qa r) false):=
 (xY.own h).ownData (zU E26.len r) (by simp only[push_cast])
def YI (a0:List zt):Option (List zt):=(vao (qa a0) 16).bind fun _=>some a0
theorem YI.own (a0 r:List zt)(h:YI a0=some r):ACalls qf 228 [.ds true (qb zn a0) (qa a0) false] [] (fun r' σ'=>r'=.os true 1 0 0 0 (qa r) false∧σ'=[.cells 0 (qb zn r)]):=by
 obtain⟨_u,hu,h⟩:=bind_some h;have gu:=yR hu;cases h
 have f1:=fun nl tt σ=>Ze E282.len a0 nl tt σ
 have f2:=zU E282.len a0;have f3:=Xd zn a0;refine veg (rs:=[.tmp 2]) U Tryz.func228 rfl Tryz.ntmps228 rfl Tryz.call228 (by simp) ?_;refine zu [(0,.ds true (qb zn a0) (qa a0) false)] ⟨rfl,trivial⟩ ?_;refine O [0] ?_
 refine za fun Z1 hZ1=>?_
 refine rc [0,4] fun K J=>?_
 refine κ 1 ?_
 refine XK U rfl rfl rfl rfl rfl rfl fun b hnil=>?_
 have hb:b=true→a0=[]:=fun hb=>by
  have:=hnil hb;simp only[yJ,go_sem,reduceCtorEq] at this;exact q1 this
 clear hnil
 refine nkN J ?_;cases b
 · refine zD rfl ?_;apply zg;apply hZ1
   refine rg U [2] fun K J=>?_
   by_cases h0:qa a0=0
   · obtain rfl:=q1 h0;simp only[go_sem,qd,qc,reduceCtorEq,zM,yz,qL,ux,yG,yf,yJ,y0,uo,qp,uq,qW];apply J
     apply yE;simp only[Yk,xg,xw,wu,exists_eq_left',go_sem];refine .inl ⟨0,true,by simp,?_,?_⟩
     · first|rfl|(simp only[go_sem,qd,qg,qc,qe,qj,qr,reduceIte,reduceCtorEq,ZS,YG,if_true]<;>rfl)
     first|rfl|(simp only[go_sem,qd,qg,qc,qe,qj,qr,reduceIte,reduceCtorEq,Xl,vbu,YO,Xm,XG,qq]<;>rfl)
   have h1:=eq_false h0;simp only[go_sem,qd,qc,reduceCtorEq,zM,yz,qL,ux,yG,yf,yJ,f1,f3,h1,gu,yZ,qq,qC,uq];apply J
   apply yE;simp only[Yk,xg,xw,wu,exists_eq_left',go_sem,qe];refine .inl ⟨1,false,by simp,?_,?_⟩
   · first|rfl|(simp only[go_sem,qd,qg,qc,qe,qj,qr,reduceIte,reduceCtorEq,ZS,YG,if_true]<;>rfl)
   first|rfl|(simp only[go_sem,Xl,YO,Xm,XG,zL]<;>rfl)
 obtain rfl:=hb rfl;refine zE rfl ?_;refine O [2] ?_;apply yE;simp only[Yk,xg,xw,wu,exists_eq_left',go_sem];refine .inr ?_
 first|rfl|(simp only[go_sem,qd,qg,qc,qe,qj,qr,reduceIte,reduceCtorEq,XF,qq,qv,qM,qn,qI]<;>rfl)
def wp.l2 (a0:yA)(a1:Int):Nat→Option (List zt)
 |0=>none
 |k2+1=>(if 0<(qa a0.fentries:Int) then (Yl a0.fentries 0).bind fun y7=>(if y7.ftag=a1 then (YI y7.fl).bind fun r12=>some r12 else none) else none)
def wp (a0:yA)(a1:Int):Option (List zt):=
 (wp.l2 a0 a1 yp)
theorem wp.own {a0 a1 r}(h:wp a0 a1=some r):ACalls qf 188 [.dp (zO a0) 0,.int .i64 a1] [] (fun r' σ'=>r'=.os true 1 0 0 0 (qa r) false∧σ'=[.cells 0 (qb zn r)]):=by
 refine ACalls.own0 (by simp only[push_cast]) ?_;refine XT (rs:=[.tmp 4]) U Tryz.func188 rfl Tryz.ntmps188 rfl Tryz.call188 (by simp) ?_;refine zu [(0,.dp (zO a0) 0),(1,.int .i64 a1)] ⟨rfl,rfl,trivial⟩ ?_;unfold wp at h;refine O [0,1] ?_
 refine za fun Z1 hZ1=>?_
 refine rg U [1,10,11,12] fun K J=>?_
 simp only[go_sem,qd,qc,qe,reduceCtorEq,zO,vcO];apply J
 apply zj;refine zG (fun m L τ=>∃ (k2:Nat),m=0+k2∧L=[(1,.int .i64 a1),(10,.ds true (qb xG a0.fentries) (qa a0.fentries) false),(11,.int .i64 (qa a0.fentries:Int)),(12,.int .i64 0)]∧τ=([]:zf)∧wp.l2 a0 a1 k2=some r) _ ⟨yp,rfl,rfl,rfl,h⟩ .s ?_;rintro m L τ ⟨k2,rfl,rfl,rfl,h⟩
 rcases k2 with _|k2
 · cases h
 simp only[wp.l2] at h;refine O [1,10,11,12,13] ?_
 refine za fun Z3 hZ3=>?_
 refine zR rfl (fun hc4=>?_) (fun hc4=>?_)
 · rw[if_pos hc4] at h;have t5:=eq_true hc4;apply zg;apply hZ3
   refine za fun Z6 hZ6=>?_
   apply zj;obtain⟨y7,hy7,h⟩:=bind_some h;have f8:=E324.idxS hy7;have f9:=E324.loadS rfl rfl hy7;refine rgW [1,6,10,11,12] (aI @wA.eq_1 (aI @wo (aI t5 (aI f8 f9)))) ?_;refine O [1,6,10,11,12,19] ?_;refine zR rfl (fun hc10=>?_) (fun hc10=>?_)
   · rw[if_pos hc10] at h;have t11:=eq_true hc10
     refine rc [4] fun K J=>?_
     obtain⟨r12,hr12,h⟩:=bind_some h;refine rnW 2 t11 ?_;refine clN rfl rfl rfl (@id (ACalls qf 228 [.ds true (qb zn y7.fl) (qa y7.fl) false] [.cells 0 (wA y7)] (fun r' σ'=>r'=.os true 1 1 0 0 (qa r12) false∧σ'=[.cells 0 (wA y7),.cells 0 (qb zn r12)])) ((YI.own y7.fl r12 hr12).ownAt0 (by simp only[push_cast]) (by simp only[push_cast]) _)) ?_;refine κ 1 ?_;refine nkN J ?_;apply yE;cases h;simp only[Yk,xg,xw,wu,exists_eq_left',go_sem,qe];refine⟨1,0,by simp,?_,?_⟩
     · first|rfl|(simp only[go_sem,qd,qg,qc,qe,qj,qr,reduceIte,reduceCtorEq,push_cast,if_true,qw,ql,qy,qq,qE,qv,qM,qI,qz,qu,qn,zL,zn]<;>rfl)
     first|rfl|(simp only[go_sem,push_cast,qq,zL]<;>rfl)
   rw[if_neg hc10] at h;have t13:=eq_false hc10;apply zg;apply hZ6;cases h
 rw[if_neg hc4] at h;have t14:=eq_false hc4;apply zJ;apply hZ1;cases h
theorem wp.ok {a0 a1 r}(h:wp a0 a1=some r):ACalls qf 188 [.dp (zO a0) 0,.int .i64 a1] [] (fun r' _=>r'=.ds true (qb zn r) (qa r) false):=
 (wp.own h).ownData (zU E282.len r) (by simp only[push_cast])
def Zr (a0:zt):Int×Bool:=
 (match a0 with|.nil=>(0,false)|.num n2=>(n2,true)|.str s2=>(0,false)|.node e2 r2=>(0,false))
theorem Zr.ok {a0 r}(h:Zr a0=r):ACalls qf 243 [.agg (zn a0)] [] (fun r' _=>r'=.tup [.int .i64 r.1,.bool r.2]):=by
 refine zk (rs:=[.tmp 2,.tmp 3]) U Tryz.func243 rfl Tryz.ntmps243 rfl Tryz.call243 (by simp) ?_;refine zu [(0,.agg (zn a0))] ⟨rfl,trivial⟩ ?_;unfold Zr at h;have f1:=Xb a0;unfold AV.one at f1;refine rgW [1] (aI @zn.eq_1 f1) ?_
 rcases a0 with _|n2|s2|⟨e2,r2⟩
 · dsimp only at h
   try simp only[vcK]
   refine rg U [4,5] fun K J=>?_
   simp only[go_sem,qd,qc,qe,Yc,Yv,TypeDesc.isIface];apply J
   refine O [2,3] ?_;cases h;exact rtA
 · dsimp only at h
   try simp only[vcJ]
   refine rg U [4,5] fun K J=>?_
   simp only[go_sem,qd,qc,qe,Yc,Yv,TypeDesc.isIface];apply J
   refine O [2,3] ?_;cases h;exact rtA
 · dsimp only at h
   try simp only[vcI]
   refine rg U [4,5] fun K J=>?_
   simp only[go_sem,qd,qc,qe,Yc,Yv,TypeDesc.isIface];apply J
   refine O [2,3] ?_;cases h;exact rtA
 dsimp only at h
 try simp only[vaV]
 refine rg U [4,5] fun K J=>?_
 simp only[go_sem,qd,qc,qe,Yc,Yv,TypeDesc.isIface];apply J
 refine O [2,3] ?_;cases h;exact rtA
def vat (a0:zt):Option zt:=
 bnd (Zr a0) fun r3=>(if r3.2=true then some (zt.num r3.1) else none)
theorem vat.ok {a0 r}(h:vat a0=some r):ACalls qf 229 [.agg (zn a0)] [] (fun r' _=>r'=anyV r):=by
 refine zk (rs:=[.tmp 2]) U Tryz.func229 rfl Tryz.ntmps229 rfl Tryz.call229 (by simp) ?_;refine zu [(0,.agg (zn a0))] ⟨rfl,trivial⟩ ?_;unfold vat at h;have f1:=Xb a0;unfold AV.one at f1;refine rgW [1] (aI @zn.eq_1 f1) ?_
 refine za fun Z2 hZ2=>?_
 refine rc [1,3,4] fun K J=>?_
 obtain⟨r3,hr3,h⟩:=yb h;refine κ 1 ?_;refine clN rfl rfl rfl ((Zr.ok hr3).c _) ?_;refine κ 5 ?_;refine nkN J ?_;refine O [1,3,12] ?_;refine zB (b:=r3.2) rfl (fun hc4=>?_) (fun hc4=>?_)
 · rw[if_pos hc4] at h;refine O [2] ?_;cases h;exact rtA
 rw[wn hc4] at h;apply zg;apply hZ2
 refine za fun Z5 hZ5=>?_
 cases h
def YH.l3 (a0:List UInt8)(a1:Int):Nat→Option (List UInt8)
 |0=>none
 |k3+1=>(if 128≤a1 then none else (vao (qa a0+1) 1).bind fun _u9=>some (a0++[UInt8.ofNat (q2 (IntKind.u8.wrap a1))]))
def YH (a0:List UInt8)(a1:Int):Option (List UInt8):=
 (YH.l3 a0 a1 yp)
theorem YH.own {a0 a1 r}(h:YH a0 a1=some r):ACalls qf 191 [.ds true (qb XD a0) (qa a0) false,.int .u64 a1] [] (fun r' σ'=>r'=.os true 1 0 0 0 (qa r) false∧σ'=[.cells 0 (qb XD r)]):=by
 refine ACalls.own0 (by simp only[push_cast]) ?_;refine XT (rs:=[.tmp 4]) U Tryz.func191 rfl Tryz.ntmps191 rfl Tryz.call191 (by simp) ?_;refine zu [(0,.ds true (qb XD a0) (qa a0) false),(1,.int .u64 a1)] ⟨rfl,rfl,trivial⟩ ?_;unfold YH at h;refine O [0,1] ?_;have f1:=E48.sl_tight a0 .i64 .i64;refine rgW [0,1] f1 ?_
 refine za fun Z2 hZ2=>?_
 apply zj;refine zG (fun m L τ=>∃ (k3:Nat),m=0+k3∧L=[(0,.ds true (qb XD a0) (qa a0) true),(1,.int .u64 a1)]∧τ=([]:zf)∧YH.l3 a0 a1 k3=some r) _ ⟨yp,rfl,rfl,rfl,h⟩ .s ?_;rintro m L τ ⟨k3,rfl,rfl,rfl,h⟩
 rcases k3 with _|k3
 · cases h
 simp only[YH.l3] at h
 refine za fun Z4 hZ4=>?_
 refine O [0,1,12] ?_;refine zR rfl (fun hc5=>?_) (fun hc5=>?_)
 · rw[if_pos hc5] at h;have t6:=eq_true hc5;apply zg;apply hZ4;apply zj;cases h
 rw[if_neg hc5] at h;have t7:=eq_false hc5;apply zJ;apply hZ2;have f8:=ZY (T:=tab) (src:=287) (dst:=5) rfl rfl rfl;obtain⟨_u9,hu9,h⟩:=bind_some h;have gu9:=yR hu9;have f10:=app_tight E48.len a0 (m:=1) (by decide)
 refine rg U [4] fun K J=>?_
 simp only[go_sem,qd,qg,qc,qj,reduceCtorEq,zM,yz,qV,qL,true_and,q5,yG,yJ,t7,f8,gu9,f10,yZ,qW,qQ,AV.one,qD,qC,qk,qp,ql,qK];apply J
 refine yX (L:=[(4,.os true 1 1 0 0 (qa (a0++[UInt8.ofNat (q2 (IntKind.u8.wrap a1))])) false)]) (τ:=[.cells 0 [.int .u8 (IntKind.u8.wrap a1)],.cells 0 (qb XD (a0++[UInt8.ofNat (q2 (IntKind.u8.wrap a1))]))]) (.same (by first|exact⟨rfl,trivial⟩|rfl|(simp only[go_sem,vdh,qt,qk,qp,ql,and_self]<;>rfl)) (by first|exact⟨rfl,trivial⟩|rfl|(simp only[go_sem,XD,um,ua,uo,qT,u8_wrap]<;>rfl))) ?_;apply yE;cases h;simp only[Yk,xg,xw,wu,exists_eq_left',go_sem,qe];refine⟨1,0,by simp,?_,?_⟩
 · first|rfl|(simp only[go_sem,qd,qg,qc,qe,qj,qr,reduceIte,reduceCtorEq,push_cast,if_true,qw,ql,qy,qq,qE,qv,qM,qI,qz,qu,qn,zL]<;>rfl)
 first|rfl|(simp only[go_sem,push_cast,qq,zL]<;>rfl)
theorem YH.ok {a0 a1 r}(h:YH a0 a1=some r):ACalls qf 191 [.ds true (qb XD a0) (qa a0) false,.int .u64 a1] [] (fun r' _=>r'=.ds true (qb XD r) (qa r) false):=
 (YH.own h).ownData (zU E48.len r) (by simp only[push_cast])
def vcn (a0:Int):Int:=
 IntKind.u64.wrap ((uX (q3 64 (IntKind.u64.wrap ((IntKind.u64.wrap a0)*2^(min (q2 1) 64))) ^^^ q3 64 (IntKind.u64.wrap (Int.fdiv a0 (2^(min (q2 63) 64))))):Nat):Int)
theorem vcn.ok {a0 r}(h:vcn a0=r):ACalls qf 192 [.int .i64 a0] [] (fun r' _=>r'=.int .u64 r):=by
 refine zk (rs:=[.tmp 2]) U Tryz.func192 rfl Tryz.ntmps192 rfl Tryz.call192 (by simp) ?_;refine zu [(0,.int .i64 a0)] ⟨rfl,trivial⟩ ?_;unfold vcn at h;refine O [0] ?_;have f1:=ZY (T:=tab) (src:=3) (dst:=287) rfl rfl rfl;have f2:=ZY (T:=tab) (src:=3) (dst:=287) rfl rfl rfl
 refine rg U [2] fun K J=>?_
 simp only[go_sem,qd,qc,reduceCtorEq,f1,vbH,Int.reduceLT];apply J
 cases h;exact rtA
def vcm (a0:List UInt8)(a1:xF):Option (List UInt8×Bool):=
 bnd (Zl a1) fun r2=>(if (!r2)=true then none else (YH a0 (IntKind.u64.wrap (IntKind.i64.wrap ((IntKind.i64.wrap (2*a1.fTag))+a1.fWire)))).bind fun r5=>(if a1.fWire=0 then bnd (vcn a1.fN) fun r9=>(YH r5 r9).bind fun r10=>some (r10,true) else none))
theorem vcm.ok {a0 a1 r}(h:vcm a0 a1=some r):ACalls qf 148 [.ds true (qb XD a0) (qa a0) false,.agg (zA a1)] [] (fun r' _=>r'=.tup [.ds true (qb XD r.1) (qa r.1) false,.bool r.2]):=by
 refine zk (rs:=[.tmp 4,.tmp 5]) U Tryz.func148 rfl Tryz.ntmps148 rfl Tryz.call148 (by simp) ?_;refine zu [(0,.ds true (qb XD a0) (qa a0) false),(1,.agg (zA a1))] ⟨rfl,rfl,trivial⟩ ?_;unfold vcm at h;refine rgW [0,3] @zA.eq_1 ?_
 refine za fun Z1 hZ1=>?_
 refine rc [0,3,9] fun K J=>?_
 obtain⟨r2,hr2,h⟩:=yb h;refine κ 1 ?_;refine clN rfl rfl rfl ((Zl.ok hr2).c _) ?_;refine κ 1 ?_;refine nkN J ?_;refine zB (b:=(!r2)) rfl (fun hc3=>?_) (fun hc3=>?_)
 · rw[if_pos hc3] at h;cases h
 rw[wn hc3] at h;apply zg;apply hZ1
 refine rc [3,6] fun K J=>?_
 have f4:=ZY (T:=tab) (src:=3) (dst:=287) rfl rfl rfl;obtain⟨r5,hr5,h⟩:=bind_some h;refine rnW 8 f4 ?_;refine clN rfl rfl rfl ((YH.ok hr5).c _) ?_;refine κ 1 ?_;refine nkN J ?_
 refine za fun Z6 hZ6=>?_
 refine O [3,6,22] ?_;refine zR rfl (fun hc7=>?_) (fun hc7=>?_)
 · rw[if_pos hc7] at h;have t8:=eq_true hc7
   refine rc [4,5] fun K J=>?_
   obtain⟨r9,hr9,h⟩:=yb h;refine rnW 3 t8 ?_;refine clN rfl rfl rfl ((vcn.ok hr9).c _) ?_;obtain⟨r10,hr10,h⟩:=bind_some h;refine clN rfl rfl rfl ((YH.ok hr10).c _) ?_;refine κ 2 ?_;refine nkN J ?_;cases h;exact rtA
 rw[if_neg hc7] at h;have t11:=eq_false hc7;apply zg;apply hZ6;cases h
def wJ.l11 : List xF→Int→List UInt8→Option (List UInt8×Int)
 |[],x8,x7=>some (x7,0)
 |y11::q11,x8,x7=>(vcm x7 y11).bind fun r17=>(if 4096<(qa r17.1:Int) then none else ((wJ.l11 q11) (x8+1) r17.1))
def wJ.l4 (a0:List xF):List xF→Int→Option (List UInt8×Int)
 |[],x2=>(wJ.l11 a0 0 ([]:List UInt8))
 |y4::q4,x2=>bnd (Zl y4) fun r25=>(if (!r25)=true then none else ((wJ.l4 a0 q4) (x2+1)))
def wJ (a0:List xF):Option (List UInt8×Int):=
 (wJ.l4 a0 a0 0)
theorem wJ.ok {a0 r}(h:wJ a0=some r):ACalls qf 96 [.ds true (qb zA a0) (qa a0) false] [] (fun r' _=>r'=.tup [.ds true (qb XD r.1) (qa r.1) false,.int .i64 r.2]):=by
 refine zk (rs:=[.tmp 2,.tmp 3]) U Tryz.func96 rfl Tryz.ntmps96 rfl Tryz.call96 (by simp) ?_;refine zu [(0,.ds true (qb zA a0) (qa a0) false)] ⟨rfl,trivial⟩ ?_;unfold wJ at h;refine O [0] ?_
 refine za fun Z1 hZ1=>?_
 refine O [0,9,10,11] ?_;apply zj
 refine xq 0 fun hb4=>?_
 replace hb4:qa a0≤9223372036854775807:=hb4.1;refine zG (fun m L τ=>∃ (p4 q4:List xF) (x2:Int),m=qa q4∧L=[(0,.ds true (qb zA a0) (qa a0) false),(9,.ds true (qb zA a0) (qa a0) false),(10,.int .i64 (qa a0:Int)),(11,.int .i64 x2)]∧τ=([]:zf)∧a0=p4++q4∧x2=(qa p4:Int)∧wJ.l4 a0 q4 x2=some r) _ ⟨[],a0,0,rfl,rfl,rfl,rfl,rfl,h⟩ .s ?_;rintro m L τ ⟨p4,q4,x2,rfl,rfl,rfl,hE4,hi4,h⟩
 rcases q4 with _|⟨y4,q4⟩
 · have hz4:=yH hE4 hi4;simp only[wJ.l4] at h;refine rgW [0,9,10,11,12] hz4 ?_
   refine za fun Z5 hZ5=>?_
   refine zD rfl ?_;apply zJ;apply hZ1;refine O [0,6] ?_
   refine za fun Z6 hZ6=>?_
   refine O [6,19,20,21] ?_;apply zj
   refine xq 19 fun hb11=>?_
   replace hb11:qa a0≤9223372036854775807:=hb11.1;refine zG (fun m L τ=>∃ (p11 q11:List xF) (x8:Int) (x7:List UInt8),m=qa q11∧L=[(6,.ds true (qb XD x7) (qa x7) false),(19,.ds true (qb zA a0) (qa a0) false),(20,.int .i64 (qa a0:Int)),(21,.int .i64 x8)]∧τ=([]:zf)∧a0=p11++q11∧x8=(qa p11:Int)∧wJ.l11 q11 x8 x7=some r) _ ⟨[],a0,0,([]:List UInt8),rfl,rfl,rfl,rfl,rfl,h⟩ (.t [] true) ?_;rintro m L τ ⟨p11,q11,x8,x7,rfl,rfl,rfl,hE11,hi11,h⟩
   rcases q11 with _|⟨y11,q11⟩
   · have hz11:=yH hE11 hi11;simp only[wJ.l11] at h;refine rgW [6,19,20,21,22] hz11 ?_
     refine za fun Z12 hZ12=>?_
     refine zD rfl ?_;apply zJ;apply hZ6;refine O [2,3] ?_;cases h;exact rtA
   obtain⟨hz11,hw11,hx11,hE'11,hi'11⟩:=yo hE11 hi11 hb11;simp only[wJ.l11] at h;refine rgW [6,19,20,21,22] hz11 ?_
   refine za fun Z13 hZ13=>?_
   refine zE rfl ?_;apply zg;apply hZ13
   refine za fun Z14 hZ14=>?_
   apply zj;have f15:=E35.idxS hx11;have f16:=E35.loadS rfl rfl hx11;refine rgW [6,8,19,20,21] (aI @zA.eq_1 (aI f15 f16)) ?_
   refine rc [6,19,20,21] fun K J=>?_
   obtain⟨r17,hr17,h⟩:=bind_some h;refine κ 2 ?_;refine clN rfl rfl rfl ((vcm.ok hr17).c _) ?_;refine κ 4 ?_;refine nkN J ?_;refine O [6,19,20,21,33] ?_;refine zR rfl (fun hc18=>?_) (fun hc18=>?_)
   · rw[if_pos hc18] at h;have t19:=eq_true hc18;cases h
   rw[if_neg hc18] at h;have t20:=eq_false hc18;apply zg;apply hZ14
   refine rgE U [6,19,20,21] fun K J=>?_
   simp only[go_sem,qd,qc,hw11,t20];apply J
   exact⟨_,_,_,qo q11.length,⟨p11++[y11],q11,x8+1,r17.1,rfl,rfl,rfl,hE'11,hi'11,h⟩,(.t [] false)⟩
 obtain⟨hz4,hw4,hx4,hE'4,hi'4⟩:=yo hE4 hi4 hb4;simp only[wJ.l4] at h;refine rgW [0,9,10,11,12] hz4 ?_
 refine za fun Z21 hZ21=>?_
 refine zE rfl ?_;apply zg;apply hZ21
 refine za fun Z22 hZ22=>?_
 apply zj;have f23:=E35.idxS hx4;have f24:=E35.loadS rfl rfl hx4;refine rgW [0,5,9,10,11] (aI @zA.eq_1 (aI f23 f24)) ?_
 refine rc [0,9,10,11,17] fun K J=>?_
 obtain⟨r25,hr25,h⟩:=yb h;refine κ 1 ?_;refine clN rfl rfl rfl ((Zl.ok hr25).c _) ?_;refine κ 1 ?_;refine nkN J ?_;refine zB (b:=(!r25)) rfl (fun hc26=>?_) (fun hc26=>?_)
 · rw[if_pos hc26] at h;cases h
 rw[wn hc26] at h;apply zg;apply hZ22
 refine rgE U [0,9,10,11] fun K J=>?_
 simp only[go_sem,qd,qc,reduceCtorEq,hw4];apply J
 exact⟨_,_,_,qo q4.length,⟨p4++[y4],q4,x2+1,rfl,rfl,rfl,hE'4,hi'4,h⟩,(.t [] false)⟩
def w6.body (wk:yA→Option (List UInt8×Int))(y1:Int→zt→Option (xF×Int))(wz:yA→Option (List xF×Int))(a0:yA):Option (List UInt8×Int):=
 none
theorem w6.step (wk:yA→Option (List UInt8×Int))(y1:Int→zt→Option (xF×Int))(wz:yA→Option (List xF×Int))(YW:∀ (a0:yA) (r:List UInt8×Int),wk a0=some r→ACalls qf 230 [.dp (zO a0) 0] [] (fun r' _=>r'=.tup [.ds true (qb XD r.1) (qa r.1) false,.int .i64 r.2]))(Xu:∀ (a0:Int) (a1:zt) (r:xF×Int),y1 a0 a1=some r→ACalls qf 189 [.int .i64 a0,.agg (zn a1)] [] (fun r' _=>r'=.tup [.agg (zA r.1),.int .i64 r.2]))(Xc:∀ (a0:yA) (r:List xF×Int),wz a0=some r→ACalls qf 145 [.dp (zO a0) 0] [] (fun r' _=>r'=.tup [.ds true (qb zA r.1) (qa r.1) false,.int .i64 r.2]))(a0:yA)(r:List UInt8×Int)(h:w6.body wk y1 wz a0=some r):ACalls qf 230 [.dp (zO a0) 0] [] (fun r' _=>r'=.tup [.ds true (qb XD r.1) (qa r.1) false,.int .i64 r.2]):=by
 have ev_encode_bytes:=fun a0 r h σ=>(YW a0 r h).c σ
 have ev_encode_raw:=fun a0 a1 r h σ=>(Xu a0 a1 r h).c σ
 have ev_encode_raws:=fun a0 r h σ=>(Xc a0 r h).c σ
 refine zk (rs:=[.tmp 2,.tmp 3]) U Tryz.func230 rfl Tryz.ntmps230 rfl Tryz.call230 (by simp) ?_;refine zu [(0,.dp (zO a0) 0)] ⟨rfl,trivial⟩ ?_;unfold w6.body at h;cases h
def ZT.body (wk:yA→Option (List UInt8×Int))(y1:Int→zt→Option (xF×Int))(wz:yA→Option (List xF×Int))(a0:Int)(a1:zt):Option (xF×Int):=
 (vat a1).bind fun r3=>(match r3 with|.nil=>none|.num n4=>some ((⟨a0,0,n4,[]⟩:xF),0)|.str s4=>none|.node e4 r4=>none)
theorem ZT.step (wk:yA→Option (List UInt8×Int))(y1:Int→zt→Option (xF×Int))(wz:yA→Option (List xF×Int))(YW:∀ (a0:yA) (r:List UInt8×Int),wk a0=some r→ACalls qf 230 [.dp (zO a0) 0] [] (fun r' _=>r'=.tup [.ds true (qb XD r.1) (qa r.1) false,.int .i64 r.2]))(Xu:∀ (a0:Int) (a1:zt) (r:xF×Int),y1 a0 a1=some r→ACalls qf 189 [.int .i64 a0,.agg (zn a1)] [] (fun r' _=>r'=.tup [.agg (zA r.1),.int .i64 r.2]))(Xc:∀ (a0:yA) (r:List xF×Int),wz a0=some r→ACalls qf 145 [.dp (zO a0) 0] [] (fun r' _=>r'=.tup [.ds true (qb zA r.1) (qa r.1) false,.int .i64 r.2]))(a0:Int)(a1:zt)(r:xF×Int)(h:ZT.body wk y1 wz a0 a1=some r):ACalls qf 189 [.int .i64 a0,.agg (zn a1)] [] (fun r' _=>r'=.tup [.agg (zA r.1),.int .i64 r.2]):=by
 have ev_encode_bytes:=fun a0 r h σ=>(YW a0 r h).c σ
 have ev_encode_raw:=fun a0 a1 r h σ=>(Xu a0 a1 r h).c σ
 have ev_encode_raws:=fun a0 r h σ=>(Xc a0 r h).c σ
 refine zk (rs:=[.cell 4 139,.tmp 5]) U Tryz.func189 rfl Tryz.ntmps189 rfl Tryz.call189 (by simp) ?_;refine zu [(0,.int .i64 a0),(1,.agg (zn a1))] ⟨rfl,rfl,trivial⟩ ?_;unfold ZT.body at h;have f1:=Xb a1;unfold AV.one at f1;refine rgW [0,3,4] (aI @zn.eq_1 f1) ?_;refine O [0,3,4,6] ?_
 refine za fun Z2 hZ2=>?_
 refine rc [0,4,6,15] fun K J=>?_
 obtain⟨r3,hr3,h⟩:=bind_some h;refine κ 1 ?_;refine clN rfl rfl rfl ((vat.ok hr3).c _) ?_;refine nkN J ?_;apply zj
 rcases r3 with _|n4|s4|⟨e4,r4⟩
 · dsimp only at h
   try simp only[anyV_nil]
   refine rg U [0,4,6,15,17,18] fun K J=>?_
   simp only[go_sem,qd,qc,qe,reduceCtorEq,Yc,Yv,TypeDesc.isIface];apply J
   refine zD rfl ?_;cases h
 · dsimp only at h
   try simp only[anyV_num]
   refine rg U [0,4,6,15,17,18] fun K J=>?_
   simp only[go_sem,qd,qc,qe,reduceCtorEq,Yc,Yv,TypeDesc.isIface];apply J
   refine zE rfl ?_;refine O [0,4,7] ?_;refine O [4,5] ?_;cases h;exact rtA
 · dsimp only at h
   try simp only[anyV_str]
   refine rg U [0,4,6,15,17,18] fun K J=>?_
   simp only[go_sem,qd,qc,qe,reduceCtorEq,Yc,Yv,TypeDesc.isIface];apply J
   refine zD rfl ?_;cases h
 dsimp only at h
 try simp only[anyV_node]
 refine rg U [0,4,6,15,17,18] fun K J=>?_
 simp only[go_sem,qd,qc,qe,reduceCtorEq,Yc,Yv,TypeDesc.isIface];apply J
 refine zD rfl ?_;cases h
def xn.l24 (y1:Int→zt→Option (xF×Int))(x6:Int)(rec10:Int→List xF→Option (List xF×Int))(y10:Int):List zt→Int→List xF→Option (List xF×Int)
 |[],x20,l18=>(rec10 (x6+1) l18)
 |y24::q24,x20,l18=>(y1 y10 y24).bind fun r31=>(if r31.2=0 then (vao (qa l18+1) 40).bind fun _u36=>((xn.l24 y1 x6 rec10 y10 q24) (x20+1) (l18++[r31.1])) else none)
def xn.l10 (y1:Int→zt→Option (xF×Int))(a0:yA):List Int→Int→List xF→Option (List xF×Int)
 |[],x6,l4=>(xu l4).bind fun r12=>some (r12,0)
 |y10::q10,x6,l4=>(wp a0 y10).bind fun r17=>(xn.l24 y1 x6 (xn.l10 y1 a0 q10) y10 r17 0 l4)
def xn.body (wk:yA→Option (List UInt8×Int))(y1:Int→zt→Option (xF×Int))(wz:yA→Option (List xF×Int))(a0:yA):Option (List xF×Int):=
 (YN a0).bind fun r1=>(xY a0).bind fun r3=>(xn.l10 y1 a0 r3 0 r1)
theorem xn.step (wk:yA→Option (List UInt8×Int))(y1:Int→zt→Option (xF×Int))(wz:yA→Option (List xF×Int))(YW:∀ (a0:yA) (r:List UInt8×Int),wk a0=some r→ACalls qf 230 [.dp (zO a0) 0] [] (fun r' _=>r'=.tup [.ds true (qb XD r.1) (qa r.1) false,.int .i64 r.2]))(Xu:∀ (a0:Int) (a1:zt) (r:xF×Int),y1 a0 a1=some r→ACalls qf 189 [.int .i64 a0,.agg (zn a1)] [] (fun r' _=>r'=.tup [.agg (zA r.1),.int .i64 r.2]))(Xc:∀ (a0:yA) (r:List xF×Int),wz a0=some r→ACalls qf 145 [.dp (zO a0) 0] [] (fun r' _=>r'=.tup [.ds true (qb zA r.1) (qa r.1) false,.int .i64 r.2]))(a0:yA)(r:List xF×Int)(h:xn.body wk y1 wz a0=some r):ACalls qf 145 [.dp (zO a0) 0] [] (fun r' _=>r'=.tup [.ds true (qb zA r.1) (qa r.1) false,.int .i64 r.2]):=by
 have ev_encode_bytes:=fun a0 r h σ=>(YW a0 r h).c σ
 have ev_encode_raw:=fun a0 a1 r h σ=>(Xu a0 a1 r h).c σ
 have ev_encode_raws:=fun a0 r h σ=>(Xc a0 r h).c σ
 refine zk (rs:=[.tmp 2,.tmp 3]) U Tryz.func145 rfl Tryz.ntmps145 rfl Tryz.call145 (by simp) ?_;refine zu [(0,.dp (zO a0) 0)] ⟨rfl,trivial⟩ ?_;unfold xn.body at h;refine O [0] ?_
 refine rc [0,4] fun K J=>?_
 obtain⟨r1,hr1,h⟩:=bind_some h;refine κ 1 ?_;refine clN rfl rfl rfl (@id (ACalls qf 186 [.dp (zO a0) 0] [] (fun r' σ'=>r'=.os true 4 0 0 0 (qa r1) false∧σ'=[.cells 0 (qb zA r1)])) ((YN.own hr1).ownAt0 (by simp only[push_cast]) (by simp only[push_cast]) _)) ?_;refine κ 1 ?_;refine nkN J ?_
 refine za fun Z2 hZ2=>?_
 refine rc [0,4,14,15,16] fun K J=>?_
 obtain⟨r3,hr3,h⟩:=bind_some h;refine κ 1 ?_;refine clN rfl rfl rfl ((xY.ok hr3).c _) ?_;refine κ 2 ?_;refine nkN J ?_;apply zj
 refine xq 14 fun hb10=>?_
 replace hb10:qa r3≤9223372036854775807:=hb10.1;refine zG (fun m L τ=>∃ (p10 q10:List Int) (x6:Int) (l4:List xF) (v5:Nat),m=qa q10∧L=[(0,.dp (zO a0) 0),(4,.os true 4 0 v5 0 (qa l4) false),(14,.ds true (qb ZC r3) (qa r3) false),(15,.int .i64 (qa r3:Int)),(16,.int .i64 x6)]∧τ=([.cells v5 (qb zA l4)]:zf)∧r3=p10++q10∧x6=(qa p10:Int)∧xn.l10 y1 a0 q10 x6 l4=some r) _ ⟨[],r3,0,r1,0,rfl,rfl,rfl,rfl,rfl,h⟩ .s ?_;rintro m L τ ⟨p10,q10,x6,l4,v5,rfl,rfl,rfl,hE10,hi10,h⟩
 rcases q10 with _|⟨y10,q10⟩
 · have hz10:=yH hE10 hi10;simp only[xn.l10] at h;refine rgW [0,4,14,15,16,17] hz10 ?_
   refine za fun Z11 hZ11=>?_
   refine zD rfl ?_;apply zJ;apply hZ2
   refine rc [2,3] fun K J=>?_
   obtain⟨r12,hr12,h⟩:=bind_some h;refine κ 1 ?_;refine vcz (L:=[(43,.ds true (qb zA l4) (qa l4) false)]) (τ:=[]) (.t [] false) ?_;refine clN rfl rfl rfl ((xu.ok hr12).c _) ?_;refine κ 2 ?_;refine nkN J ?_;cases h;exact rtA
 obtain⟨hz10,hw10,hx10,hE'10,hi'10⟩:=yo hE10 hi10 hb10;simp only[xn.l10] at h;refine rgW [0,4,14,15,16,17] hz10 ?_
 refine za fun Z13 hZ13=>?_
 refine zE rfl ?_;apply zg;apply hZ13
 refine za fun Z14 hZ14=>?_
 apply zj;have f15:=E26.idxS hx10;have f16:=E26.fldS0 (f:=3) rfl rfl hx10
 refine rg U [0,4,6,14,15,16] fun K J=>?_
 simp only[go_sem,qd,qc,reduceCtorEq,ZC,f15,f16];apply J
 refine rc [0,4,6,14,15,16,22,23,24] fun K J=>?_
 obtain⟨r17,hr17,h⟩:=bind_some h;refine κ 2 ?_;refine clN rfl rfl rfl ((wp.ok hr17).c _) ?_;refine κ 2 ?_;refine nkN J ?_;apply zj
 refine xq 22 fun hb24=>?_
 replace hb24:qa r17≤9223372036854775807:=hb24.1;refine zG (fun m L τ=>∃ (p24 q24:List zt) (x20:Int) (l18:List xF) (v19:Nat),m=qa q24∧L=[(0,.dp (zO a0) 0),(4,.os true 4 0 v19 0 (qa l18) false),(6,.int .i64 y10),(14,.ds true (qb ZC r3) (qa r3) false),(15,.int .i64 (qa r3:Int)),(16,.int .i64 x6),(22,.ds true (qb zn r17) (qa r17) false),(23,.int .i64 (qa r17:Int)),(24,.int .i64 x20)]∧τ=([.cells v19 (qb zA l18)]:zf)∧r17=p24++q24∧x20=(qa p24:Int)∧xn.l24 y1 x6 (xn.l10 y1 a0 q10) y10 q24 x20 l18=some r) _ ⟨[],r17,0,l4,v5,rfl,rfl,rfl,rfl,rfl,h⟩ .s ?_;rintro m L τ ⟨p24,q24,x20,l18,v19,rfl,rfl,rfl,hE24,hi24,h⟩
 rcases q24 with _|⟨y24,q24⟩
 · have hz24:=yH hE24 hi24;simp only[xn.l24] at h;refine rgW [0,4,6,14,15,16,22,23,24,25] hz24 ?_
   refine za fun Z25 hZ25=>?_
   refine zD rfl ?_;apply zJ;apply hZ14
   refine rgE U [0,4,14,15,16] fun K J=>?_
   simp only[go_sem,qd,qc,reduceCtorEq,hw10];apply J
   exact⟨_,_,_,qo q10.length,⟨p10++[y10],q10,x6+1,l18,v19,rfl,rfl,rfl,hE'10,hi'10,h⟩,.s⟩
 obtain⟨hz24,hw24,hx24,hE'24,hi'24⟩:=yo hE24 hi24 hb24;simp only[xn.l24] at h;refine rgW [0,4,6,14,15,16,22,23,24,25] hz24 ?_
 refine za fun Z26 hZ26=>?_
 refine zE rfl ?_;apply zg;apply hZ26
 refine za fun Z27 hZ27=>?_
 apply zj;have f28:=E282.idxS hx24;have f29:=E282.loadS rfl rfl hx24;have f30:=Xb y24;unfold AV.one at f30;refine rgW [0,4,6,8,14,15,16,22,23,24] (aI @zn.eq_1 (aI f28 (aI f29 f30))) ?_
 refine rc [0,4,6,9,10,14,15,16,22,23,24] fun K J=>?_
 obtain⟨r31,hr31,h⟩:=bind_some h;refine κ 2 ?_;refine clN rfl rfl rfl (ev_encode_raw y10 y24 r31 hr31 _) ?_;refine rnW 6 @zA.eq_1 ?_;refine nkN J ?_
 refine za fun Z32 hZ32=>?_
 refine O [0,4,6,9,10,14,15,16,22,23,24,35] ?_;refine zR rfl (fun hc33=>?_) (fun hc33=>?_)
 · rw[if_neg hc33] at h;have t34:=eq_false hc33;cases h
 rw[if_pos hc33] at h;have t35:=eq_true hc33;apply zg;apply hZ32;obtain⟨_u36,hu36,h⟩:=bind_some h;have gu36:=yR hu36;have f37:=(zU E35.len l18)
 refine rgE U [0,4,6,14,15,16,22,23,24] fun K J=>?_
 simp only[go_sem,qd,qg,qc,qe,qj,reduceCtorEq,zM,yz,qV,qL,true_and,q5,yG,yf,yJ,t35,gu36,f37,yZ,qW,qQ,AV.one,qD,qC,qk,qp,ql,qK];apply J
 apply hZ27
 refine rgE U [0,4,6,14,15,16,22,23,24] fun K J=>?_
 simp only[go_sem,qd,qc,reduceCtorEq,hw24];apply J
 exact⟨_,_,_,qo q24.length,⟨p24++[y24],q24,x20+1,l18++[r31.1],v19+1,rfl,rfl,rfl,hE'24,hi'24,h⟩,(.t [0] false)⟩
mutual
def w6 : Nat→yA→Option (List UInt8×Int)
 |0,_=>none
 |k+1,a0=>w6.body (w6 k) (ZT k) (xn k) a0
def ZT : Nat→Int→zt→Option (xF×Int)
 |0,_,_=>none
 |k+1,a0,a1=>ZT.body (w6 k) (ZT k) (xn k) a0 a1
def xn : Nat→yA→Option (List xF×Int)
 |0,_=>none
 |k+1,a0=>xn.body (w6 k) (ZT k) (xn k) a0
end
theorem w6.all (k:Nat):(∀ (a0:yA) (r:List UInt8×Int),w6 k a0=some r→ACalls qf 230 [.dp (zO a0) 0] [] (fun r' _=>r'=.tup [.ds true (qb XD r.1) (qa r.1) false,.int .i64 r.2]))∧(∀ (a0:Int) (a1:zt) (r:xF×Int),ZT k a0 a1=some r→ACalls qf 189 [.int .i64 a0,.agg (zn a1)] [] (fun r' _=>r'=.tup [.agg (zA r.1),.int .i64 r.2]))∧(∀ (a0:yA) (r:List xF×Int),xn k a0=some r→ACalls qf 145 [.dp (zO a0) 0] [] (fun r' _=>r'=.tup [.ds true (qb zA r.1) (qa r.1) false,.int .i64 r.2])):=by
 induction k with
 |zero=>exact⟨(fun a0 r h=>by simp only[w6] at h; cases h),(fun a0 a1 r h=>by simp only[ZT] at h; cases h),(fun a0 r h=>by simp only[xn] at h; cases h)⟩
 |succ k ih=>exact⟨(fun a0 r h=>w6.step _ _ _ ih.1 ih.2.1 ih.2.2 a0 r (by simpa only [w6] using h)),(fun a0 a1 r h=>ZT.step _ _ _ ih.1 ih.2.1 ih.2.2 a0 a1 r (by simpa only [ZT] using h)),(fun a0 r h=>xn.step _ _ _ ih.1 ih.2.1 ih.2.2 a0 r (by simpa only [xn] using h))⟩
end
section
set_option maxRecDepth 4000
set_option maxHeartbeats 1000000
open AM
theorem xn.ev (k:Nat)(a0:yA)(r:List xF×Int)(h:xn k a0=some r)(σ:zf):ACalls qf 145 [.dp (zO a0) 0] σ (fun r' σ'=>r'=.tup [.ds true (qb zA r.1) (qa r.1) false,.int .i64 r.2]∧σ'=σ):=
 ((w6.all k).2.2 a0 r h).c σ
def vau (a0:zi):Option (List xF×Int):=
 (vbb a0).bind fun r1=>(if ((!r1.2)||(!(decide (a0.fKind=3))))=true then none else (wT r1.1).bind fun r5=>(xn yp r5).bind fun r6=>some (r6.1,r6.2))
theorem vau.ok {a0 r}(h:vau a0=some r):ACalls qf 95 [.agg (zb a0)] [] (fun r' _=>r'=.tup [.ds true (qb zA r.1) (qa r.1) false,.int .i64 r.2]):=by
 refine zk (rs:=[.tmp 2,.tmp 3]) U Tryz.func95 rfl Tryz.ntmps95 rfl Tryz.call95 (by simp) ?_;refine zu [(0,.agg (zb a0))] ⟨rfl,trivial⟩ ?_;unfold vau at h;refine rgW [1] @zb.eq_1 ?_
 refine rc [1,4,5] fun K J=>?_
 obtain⟨r1,hr1,h⟩:=bind_some h;refine κ 1 ?_;refine clN rfl rfl rfl ((vbb.ok hr1).c _) ?_;have f2:=Xb r1.1;unfold AV.one at f2;refine rnW 6 (aI @zn.eq_1 f2) ?_;refine nkN J ?_
 refine za fun Z3 hZ3=>?_
 refine rc [4,17] fun K J=>?_
 refine κ 3 ?_;refine cut (b:=(!r1.2)) (hb:=boolP_eq _) 4 13 17 [4] ((!r1.2)||(!(decide (a0.fKind=3)))) qF rfl ?_;refine nkN J ?_;refine zB (b:=((!r1.2)||(!(decide (a0.fKind=3))))) rfl (fun hc4=>?_) (fun hc4=>?_)
 · rw[if_pos hc4] at h;cases h
 rw[wn hc4] at h;apply zg;apply hZ3
 refine rc [2,3] fun K J=>?_
 obtain⟨r5,hr5,h⟩:=bind_some h;refine κ 1 ?_;refine clN rfl rfl rfl ((wT.ok hr5).c _) ?_;obtain⟨r6,hr6,h⟩:=bind_some h;refine clN rfl rfl rfl (xn.ev yp r5 r6 hr6 _) ?_;refine κ 4 ?_;refine nkN J ?_;cases h;exact rtA
def Xy (a0:zi):Option (List UInt8×Int):=
 (vau a0).bind fun r1=>(if r1.2=0 then (wJ r1.1).bind fun r6=>some (r6.1,r6.2) else none)
theorem Xy.ok {a0 r}(h:Xy a0=some r):ACalls qf 62 [.agg (zb a0)] [] (fun r' _=>r'=.tup [.ds true (qb XD r.1) (qa r.1) false,.int .i64 r.2]):=by
 refine zk (rs:=[.tmp 2,.tmp 3]) U Tryz.func62 rfl Tryz.ntmps62 rfl Tryz.call62 (by simp) ?_;refine zu [(0,.agg (zb a0))] ⟨rfl,trivial⟩ ?_;unfold Xy at h;refine rgW [1] @zb.eq_1 ?_
 refine rc [4,5] fun K J=>?_
 obtain⟨r1,hr1,h⟩:=bind_some h;refine κ 1 ?_;refine clN rfl rfl rfl ((vau.ok hr1).c _) ?_;refine κ 5 ?_;refine nkN J ?_
 refine za fun Z2 hZ2=>?_
 refine O [4,5,12] ?_;refine zR rfl (fun hc3=>?_) (fun hc3=>?_)
 · rw[if_neg hc3] at h;have t4:=eq_false hc3;cases h
 rw[if_pos hc3] at h;have t5:=eq_true hc3;apply zg;apply hZ2
 refine rc [2,3] fun K J=>?_
 obtain⟨r6,hr6,h⟩:=bind_some h;refine rnW 1 t5 ?_;refine clN rfl rfl rfl ((wJ.ok hr6).c _) ?_;refine κ 4 ?_;refine nkN J ?_;cases h;exact rtA
def wO.j6 (a0:Yx)(l2:List wQ)(v3:Nat)(l4:List (wQ×Int))(x5:Int):Option (Int×Yx):=
 some (x5,(⟨a0.ffrom,a0.fto,l2,v3,l4⟩:Yx))
def wO (a0:Yx)(a1:wQ):Option (Int×Yx):=
 (if (!((vax a0.fplace a1).isSome))=true then (vao (qa a0.fl+1) 32).bind fun _u9=>(wO.j6 a0 (a0.fl++[a1]) (a0.vl+1) (vcY a0.fplace a1 (qa a0.fl:Int)) (qa a0.fl:Int)) else (wO.j6 a0 a0.fl a0.vl a0.fplace ((vax a0.fplace a1).getD 0)))
theorem wO.ok {a0 a1 r}(h:wO a0 a1=some r):ACalls qf 150 [.op 0 0 0,.agg (yk a1)] [.cells 0 [.str a0.ffrom.fName,.ds true (qb ze a0.ffrom.fMessages) (qa a0.ffrom.fMessages) false,.ds true (qb zh a0.ffrom.fEnums) (qa a0.ffrom.fEnums) false,.ds true (qb zv a0.ffrom.fMethods) (qa a0.ffrom.fMethods) false,.str a0.fto.fName,.ds true (qb ze a0.fto.fMessages) (qa a0.fto.fMessages) false,.ds true (qb zh a0.fto.fEnums) (qa a0.fto.fEnums) false,.ds true (qb zv a0.fto.fMethods) (qa a0.fto.fMethods) false,.os true 2 1 (a0.vl) 0 (qa a0.fl) false,.mp 2],.cells (a0.vl) (qb yk a0.fl),.map (xp xi (AV.int .i64) a0.fplace)] (fun r' σ'=>r'=.int .i64 r.1∧σ'=[.cells 0 [.str r.2.ffrom.fName,.ds true (qb ze r.2.ffrom.fMessages) (qa r.2.ffrom.fMessages) false,.ds true (qb zh r.2.ffrom.fEnums) (qa r.2.ffrom.fEnums) false,.ds true (qb zv r.2.ffrom.fMethods) (qa r.2.ffrom.fMethods) false,.str r.2.fto.fName,.ds true (qb ze r.2.fto.fMessages) (qa r.2.fto.fMessages) false,.ds true (qb zh r.2.fto.fEnums) (qa r.2.fto.fEnums) false,.ds true (qb zv r.2.fto.fMethods) (qa r.2.fto.fMethods) false,.os true 2 1 (r.2.vl) 0 (qa r.2.fl) false,.mp 2],.cells (r.2.vl) (qb yk r.2.fl),.map (xp xi (AV.int .i64) r.2.fplace)]):=by
 refine ZH [0,1,2] (rs:=[.tmp 4]) U Tryz.func150 rfl Tryz.ntmps150 rfl Tryz.call150 (by simp) rfl ?_;refine zu [(0,.op 0 0 0),(1,.agg (yk a1))] ⟨rfl,rfl,trivial⟩ ?_;unfold wO at h;refine rgW [0,3] @yk.eq_1 ?_
 have f1:=fun (o0:Y3) (o1:Y3) (x:zf)=>vbe (T:=tab) (t:=239) (ek:=xi) (ev:=(AV.int .i64)) (z:=0) KA245 rfl rfl rfl rfl a0.fplace a1 true (o0::o1::.map (xp xi (AV.int .i64) a0.fplace)::x) 2 rfl
 simp only[xi,yk] at f1
 refine rd [0,3,5,6] fun K J=>?_
 refine DW.start (T:=tab) [.any,.any,.any,.at [],.at [],.at [],.any,.any,.any,.any,.any] [] ?_;refine DW.runN U 8 ?_;simp only[go_sem,qd,qg,qc,qe,reduceCtorEq,vaT,if_false,if_true,f1];refine DW.runN U 3 ?_;simp only[go_sem,qd,qc,qe,reduceCtorEq];refine DW.fin U (by decide +kernel) rfl ?_;simp only[zq,upd,qc,reduceIte,yD,xj];apply J
 refine we (fun L τ=>∃ (l2:List wQ) (v3:Nat) (l4:List (wQ×Int)) (x5:Int),L=[(5,.int .i64 x5)]∧τ=([.cells 0 [.str a0.ffrom.fName,.ds true (qb ze a0.ffrom.fMessages) (qa a0.ffrom.fMessages) false,.ds true (qb zh a0.ffrom.fEnums) (qa a0.ffrom.fEnums) false,.ds true (qb zv a0.ffrom.fMethods) (qa a0.ffrom.fMethods) false,.str a0.fto.fName,.ds true (qb ze a0.fto.fMessages) (qa a0.fto.fMessages) false,.ds true (qb zh a0.fto.fEnums) (qa a0.fto.fEnums) false,.ds true (qb zv a0.fto.fMethods) (qa a0.fto.fMethods) false,.os true 2 1 v3 0 (qa l2) false,.mp 2],.cells v3 (qb yk l2),.map (xp xi (AV.int .i64) l4)]:zf)∧wO.j6 a0 l2 v3 l4 x5=some r) ?_ ?_
 · refine O [0,3,5,17] ?_;refine zB (b:=(!((vax a0.fplace a1).isSome))) rfl (fun hc7=>?_) (fun hc7=>?_)
   · rw[if_pos hc7] at h;refine O [0,3,5] ?_
     have f8:=fun (o0:Y3) (o1:Y3) (x:zf)=>vcq (T:=tab) (t:=239) (ek:=xi) (ev:=(AV.int .i64)) KA245 rfl rfl a0.fplace a1 (qa a0.fl:Int) (o0::o1::.map (xp xi (AV.int .i64) a0.fplace)::x) 2 rfl
     simp only[xi,yk] at f8
     refine rd [0,3,5] fun K J=>?_
     refine DW.start (T:=tab) [.any,.any,.any,.at [],.at [],.any,.eff] [] ?_;refine DW.runN U 7 ?_;simp only[go_sem,qd,qg,qc,qe,reduceCtorEq,f8];refine DW.fin U (by decide +kernel) rfl ?_;simp only[zq,upd,qc,reduceIte,yD,xj];apply J
     obtain⟨_u9,hu9,h⟩:=bind_some h;have gu9:=yR hu9;have f10:=(zU E240.len a0.fl)
     refine rdE [5] fun K J=>?_
     refine DW.start (T:=tab) [.any,.any,.any,.any,.own 1 [],.at [],.eff,.eff,.any,.any,.eff] [(1,[])] ?_;refine DW.runN U 8 ?_;simp only[go_sem,qd,qg,qc,qe,qj,reduceCtorEq,zM,yz,qV,qL,true_and,q5,yG,yf,yJ,gu9,f10,yZ,qW,qQ,AV.one,qD,qC,qk,qp,ql,qK];refine DW.runN U 3 ?_;simp only[go_sem,qd,qg,qc,qe,reduceCtorEq,qk,qp,ql];refine DW.fin U (by decide +kernel) rfl ?_;simp only[zq,upd,qc,reduceIte,yD,xj];apply J
     exact⟨_,_,⟨a0.fl++[a1],a0.vl+1,vcY a0.fplace a1 (qa a0.fl:Int),(qa a0.fl:Int),rfl,rfl,h⟩,(.t [0,1,2] false)⟩
   rw[wn hc7] at h;apply zg;exact⟨_,_,⟨a0.fl,a0.vl,a0.fplace,(vax a0.fplace a1).getD 0,rfl,rfl,h⟩,(.t [0,1,2] false)⟩
 rintro _ _ ⟨l2,v3,l4,x5,rfl,rfl,h⟩;unfold wO.j6 at h;refine O [4] ?_;apply yE;cases h;simp only[Yk,xg,xw,wu,exists_eq_left',go_sem,qe];refine⟨by decide,by simp,?_,?_⟩
 · first|rfl|(simp only[go_sem,qd,qg,qc,qe,qj,qr,reduceIte,reduceCtorEq,push_cast,if_true,qw,ql,qy,qq,qE,qv,qM,qI,qz,qu,qn,zL,yk,zd]<;>rfl)
 first|rfl|(simp only[go_sem,qc,qe,reduceCtorEq,push_cast,if_true,ql,qy,qq,qv,qz,qu,zL]<;>rfl)
def YD (a0:Yx)(a1:zz)(a2:zz)(a3:Int):Option (Ya×Bool):=
 bnd (zQ a1 a3) fun r1=>bnd (zQ a2 a3) fun r2=>(if (((!r1.2)||(!r2.2))||(!(decide (r1.1.fLabel=r2.1.fLabel))))=true then some ((⟨0,0,0⟩:Ya),false) else (if ((decide (r1.1.fType.fKind=7))&&(decide (r2.1.fType.fKind=7)))=true then none else (if ((decide (r1.1.fType.fKind=2))&&(decide (r2.1.fType.fKind=1)))=true then none else (if ((!(decide (r1.1.fType.fKind=r2.1.fType.fKind)))&&((!(decide (r1.1.fType.fKind=1)))||(!(decide (r2.1.fType.fKind=2)))))=true then none else some ((⟨1,a3,0⟩:Ya),true)))))
theorem YD.ok {a0 a1 a2 a3 r}(h:YD a0 a1 a2 a3=some r):ACalls qf 151 [.op 0 0 0,.agg (ze a1),.agg (ze a2),.int .i64 a3] [.cells 0 [.str a0.ffrom.fName,.ds true (qb ze a0.ffrom.fMessages) (qa a0.ffrom.fMessages) false,.ds true (qb zh a0.ffrom.fEnums) (qa a0.ffrom.fEnums) false,.ds true (qb zv a0.ffrom.fMethods) (qa a0.ffrom.fMethods) false,.str a0.fto.fName,.ds true (qb ze a0.fto.fMessages) (qa a0.fto.fMessages) false,.ds true (qb zh a0.fto.fEnums) (qa a0.fto.fEnums) false,.ds true (qb zv a0.fto.fMethods) (qa a0.fto.fMethods) false,.os true 2 1 (a0.vl) 0 (qa a0.fl) false,.mp 2],.cells (a0.vl) (qb yk a0.fl),.map (xp xi (AV.int .i64) a0.fplace)] (fun r' σ'=>r'=.tup [.agg (yW r.1),.bool r.2]∧σ'=[.cells 0 [.str a0.ffrom.fName,.ds true (qb ze a0.ffrom.fMessages) (qa a0.ffrom.fMessages) false,.ds true (qb zh a0.ffrom.fEnums) (qa a0.ffrom.fEnums) false,.ds true (qb zv a0.ffrom.fMethods) (qa a0.ffrom.fMethods) false,.str a0.fto.fName,.ds true (qb ze a0.fto.fMessages) (qa a0.fto.fMessages) false,.ds true (qb zh a0.fto.fEnums) (qa a0.fto.fEnums) false,.ds true (qb zv a0.fto.fMethods) (qa a0.fto.fMethods) false,.os true 2 1 (a0.vl) 0 (qa a0.fl) false,.mp 2],.cells (a0.vl) (qb yk a0.fl),.map (xp xi (AV.int .i64) a0.fplace)]):=by
 refine ZH [0,1,2] (rs:=[.cell 8 248,.tmp 9]) U Tryz.func151 rfl Tryz.ntmps151 rfl Tryz.call151 (by simp) rfl ?_;refine zu [(0,.op 0 0 0),(1,.agg (ze a1)),(2,.agg (ze a2)),(3,.int .i64 a3)] ⟨rfl,rfl,rfl,rfl,trivial⟩ ?_;unfold YD at h;refine rgW [0,3,5,6,8] @ze.eq_1 ?_
 refine rc [0,3,6,8,10,11] fun K J=>?_
 obtain⟨r1,hr1,h⟩:=yb h;refine κ 2 ?_;refine clN rfl rfl rfl ((zQ.ok hr1).c _) ?_;refine rnW 6 @z7.eq_1 ?_;refine nkN J ?_
 refine rc [0,3,8,10,11,12,13] fun K J=>?_
 obtain⟨r2,hr2,h⟩:=yb h;refine κ 2 ?_;refine clN rfl rfl rfl ((zQ.ok hr2).c _) ?_;refine rnW 6 @z7.eq_1 ?_;refine nkN J ?_;refine O [0,8,10,11,12,13,14] ?_
 refine za fun Z3 hZ3=>?_
 refine rd [0,8,10,11,12,13,14,15,16] fun K J=>?_
 refine DW.start (T:=tab) [.any,.any,.at [],.any,.any,.at [],.any,.any] [] ?_;refine DW.runN U 8 ?_;simp only[go_sem,qd,qc,qe,reduceCtorEq];refine DW.fin U (by decide +kernel) rfl ?_;simp only[zq,upd,qc,reduceIte,yD,xj];apply J
 apply zj
 refine rc [0,8,10,12,14,15,16,37] fun K J=>?_
 refine κ 3 ?_;refine cut (b:=(!r1.2)) (hb:=boolP_eq _) 3 40 43 [0,8,10,12,14,15,16] ((!r1.2)||(!r2.2)) qF rfl ?_;refine κ 1 ?_;refine cut (b:=((!r1.2)||(!r2.2))) (hb:=boolP_eq _) 6 44 50 [0,8,10,12,14,15,16] (((!r1.2)||(!r2.2))||(!(decide (r1.1.fLabel=r2.1.fLabel)))) qF rfl ?_;refine κ 1 ?_;refine nkN J ?_;refine zB (b:=(((!r1.2)||(!r2.2))||(!(decide (r1.1.fLabel=r2.1.fLabel))))) rfl (fun hc4=>?_) (fun hc4=>?_)
 · rw[if_pos hc4] at h;refine O [8,9] ?_;apply yE;cases h;simp only[Yk,xg,xw,wu,exists_eq_left',go_sem,qg,qc,qe,yW];refine⟨by decide,by simp,?_,?_⟩
   · first|rfl|(simp only[go_sem,qd,qg,qc,qe,qj,qr,reduceIte,reduceCtorEq,push_cast,if_true,qw,ql,qy,qq,qE,qv,qM,qI,qz,qu,qn,zL,yk,zd,yW]<;>rfl)
   first|rfl|(simp only[go_sem,qc,qe,reduceCtorEq,push_cast,if_true,ql,qy,qq,qv,qz,qu,zL]<;>rfl)
 rw[wn hc4] at h
 refine rc [0,8,10,12,14,15,16,52] fun K J=>?_
 refine κ 3 ?_;refine cut 3 55 58 [0,8,10,12,14,15,16] ((decide (r1.1.fType.fKind=7))&&(decide (r2.1.fType.fKind=7))) qF rfl ?_;refine κ 1 ?_;refine nkN J ?_;refine zB (b:=((decide (r1.1.fType.fKind=7))&&(decide (r2.1.fType.fKind=7)))) rfl (fun hc7=>?_) (fun hc7=>?_)
 · rw[if_pos hc7] at h;cases h
 rw[wn hc7] at h
 refine rc [8,14,15,16,74] fun K J=>?_
 refine κ 3 ?_;refine cut 3 77 80 [16,8,14,15] ((decide (r1.1.fType.fKind=2))&&(decide (r2.1.fType.fKind=1))) qF rfl ?_;refine κ 1 ?_;refine nkN J ?_;refine zB (b:=((decide (r1.1.fType.fKind=2))&&(decide (r2.1.fType.fKind=1)))) rfl (fun hc10=>?_) (fun hc10=>?_)
 · rw[if_pos hc10] at h;cases h
 rw[wn hc10] at h
 refine rc [8,14,82] fun K J=>?_
 refine κ 4 ?_;refine yv 7 (fun L τ=>L=[(8,.op 5 0 0),(14,.op 8 0 0),(93,.bool ((!(decide (r1.1.fType.fKind=r2.1.fType.fKind)))&&((!(decide (r1.1.fType.fKind=1)))||(!(decide (r2.1.fType.fKind=2))))))]∧τ=([.cells 0 [.str a0.ffrom.fName,.ds true (qb ze a0.ffrom.fMessages) (qa a0.ffrom.fMessages) false,.ds true (qb zh a0.ffrom.fEnums) (qa a0.ffrom.fEnums) false,.ds true (qb zv a0.ffrom.fMethods) (qa a0.ffrom.fMethods) false,.str a0.fto.fName,.ds true (qb ze a0.fto.fMessages) (qa a0.fto.fMessages) false,.ds true (qb zh a0.fto.fEnums) (qa a0.fto.fEnums) false,.ds true (qb zv a0.fto.fMethods) (qa a0.fto.fMethods) false,.os true 2 1 (a0.vl) 0 (qa a0.fl) false,.mp 2],.cells (a0.vl) (qb yk a0.fl),.map (xp xi (AV.int .i64) a0.fplace),.cells 0 (ze a1),.cells 0 (ze a2),.cells 0 [.int .i64 0,.int .i64 0,.int .i64 0],.cells 0 (z7 r1.1),.cells 0 (z7 r2.1),.cells 0 [.int .i64 1,.int .i64 a3,.int .i64 0]]:zf)) ?_ ?_
 · refine Yz 86 rfl (fun hg86=>?_) (fun hg86=>?_)
   · have t11:=eq_false hg86;refine κ 3 ?_;refine cut 3 89 92 [86,8,14] ((!(decide (r1.1.fType.fKind=1)))||(!(decide (r2.1.fType.fKind=2)))) qF rfl ?_;refine κ 1 ?_;refine zl ⟨rfl,_,_,⟨rfl,rfl⟩,.p t11⟩
   have t14:=eq_true hg86;refine κ 7 ?_;refine zl ⟨rfl,_,_,⟨rfl,rfl⟩,.p t14⟩
 rintro _ _ ⟨rfl,rfl⟩;refine κ 1 ?_;refine nkN J ?_;refine zB (b:=((!(decide (r1.1.fType.fKind=r2.1.fType.fKind)))&&((!(decide (r1.1.fType.fKind=1)))||(!(decide (r2.1.fType.fKind=2)))))) rfl (fun hc15=>?_) (fun hc15=>?_)
 · rw[if_pos hc15] at h;cases h
 rw[wn hc15] at h;apply zg;apply hZ3;refine O [8,9] ?_;apply yE;cases h;simp only[Yk,xg,xw,wu,exists_eq_left',go_sem,qg,qc,qe,yW];refine⟨by decide,by simp,?_,?_⟩
 · first|rfl|(simp only[go_sem,qd,qg,qc,qe,qj,qr,reduceIte,reduceCtorEq,push_cast,if_true,qw,ql,qy,qq,qE,qv,qM,qI,qz,qu,qn,zL,yk,zd,yW]<;>rfl)
 first|rfl|(simp only[go_sem,qc,qe,reduceCtorEq,push_cast,if_true,ql,qy,qq,qv,qz,qu,zL]<;>rfl)
def xR.j45 (x35:Int)(rec39:List Ya→Int→Option (wE×Int))(l43:List Ya):Option (wE×Int):=
 (rec39 l43 (IntKind.i64.wrap (x35+1)))
def xR.l39 (r12:Int×Yx)(l14:List (List Ya))(x16:Int)(rec20:List (List Ya)→Int→Option (wE×Int))(r28:zz×Bool)(r31:zz×Bool):Nat→List Ya→Int→Option (wE×Int)
 |0,_,_=>none
 |k39+1,l33,x35=>(if x35≤500 then (YD r12.2 r28.1 r31.1 x35).bind fun r46=>(if r46.2=true then (vao (qa l33+1) 24).bind fun _u48=>(xR.j45 x35 (xR.l39 r12 l14 x16 rec20 r28 r31 k39) (l33++[r46.1])) else (xR.j45 x35 (xR.l39 r12 l14 x16 rec20 r28 r31 k39) l33)) else (vao (qa l14+1) 24).bind fun _u51=>(rec20 (l14++[l33]) (IntKind.i64.wrap (x16+1))))
def xR.l20 (a0:zm)(a1:zm)(r12:Int×Yx):Nat→List (List Ya)→Int→Option (wE×Int)
 |0,_,_=>none
 |k20+1,l14,x16=>(if x16<(qa r12.2.fl:Int) then (Yl r12.2.fl x16).bind fun y25=>bnd (zP a0 y25.ffrom) fun r28=>bnd (zP a1 y25.fto) fun r31=>(xR.l39 r12 l14 x16 (xR.l20 a0 a1 r12 k20) r28 r31 yp ([]:List Ya) 1) else some ((⟨l14⟩:wE),0))
def xR (a0:zm)(a1:zm)(a2:List UInt8)(a3:List UInt8):Option (wE×Int):=
 (zZ a0).bind fun r2=>(if r2=0 then (zZ a1).bind fun r3=>some (!(decide (r3=0))) else some true).bind fun c3=>(if c3=true then none else bnd (zP a0 a2) fun r8=>bnd (zP a1 a3) fun r9=>(if ((!r8.2)||(!r9.2))=true then none else (wO (⟨a0,a1,([]:List wQ),0,([]:List (wQ×Int))⟩:Yx) (⟨a2,a3⟩:wQ)).bind fun r12=>(xR.l20 a0 a1 r12 yp ([]:List (List Ya)) 0)))
theorem xR.ok {a0 a1 a2 a3 r}(h:xR a0 a1 a2 a3=some r):ACalls qf 99 [.agg (zd a0),.agg (zd a1),.str a2,.str a3] [] (fun r' _=>r'=.tup [.agg (yr r.1),.int .i64 r.2]):=by
 refine zk (rs:=[.cell 8 178,.tmp 9]) U Tryz.func99 rfl Tryz.ntmps99 rfl Tryz.call99 (by simp) ?_;refine zu [(0,.agg (zd a0)),(1,.agg (zd a1)),(2,.str a2),(3,.str a3)] ⟨rfl,rfl,rfl,rfl,trivial⟩ ?_;unfold xR at h;refine rgW [2,3,4,5,8] @zd.eq_1 ?_
 refine za fun Z1 hZ1=>?_
 refine rc [2,3,4,5,8,32] fun K J=>?_
 obtain⟨r2,hr2,h⟩:=bind_some h;refine κ 1 ?_;refine clN rfl rfl rfl ((zZ.ok hr2).c _) ?_;refine κ 2 ?_;obtain⟨c3,hc3,h⟩:=bind_some h;refine yv 4 (fun L τ=>L=[(2,.str a2),(3,.str a3),(4,.op 0 0 0),(5,.op 1 0 0),(8,.op 2 0 0),(32,.bool c3)]∧τ=([.cells 0 (zd a0),.cells 0 (zd a1),.cells 0 [.ds true [] 0 true]]:zf)) ?_ ?_
 · refine Yz 28 rfl (fun hg28=>?_) (fun hg28=>?_)
   · have t4:=eq_false hg28;rw[if_neg hg28] at hc3;refine κ 4 ?_;cases hc3;refine zl ⟨rfl,_,_,⟨rfl,rfl⟩,.p t4⟩
   have t5:=eq_true hg28;rw[if_pos hg28] at hc3;obtain⟨r6,hr6,hc3⟩:=bind_some hc3;refine κ 1 ?_;refine clN rfl rfl rfl ((zZ.ok hr6).c _) ?_;refine κ 2 ?_;cases hc3;refine zl ⟨rfl,_,_,⟨rfl,rfl⟩,.p t5⟩
 rintro _ _ ⟨rfl,rfl⟩;refine nkN J ?_;refine zB (b:=c3) rfl (fun hc7=>?_) (fun hc7=>?_)
 · rw[if_pos hc7] at h;cases h
 rw[wn hc7] at h;apply zg;apply hZ1
 refine rc [2,3,4,5,8,11] fun K J=>?_
 obtain⟨r8,hr8,h⟩:=yb h;refine κ 2 ?_;refine clN rfl rfl rfl ((zP.ok hr8).c _) ?_;refine rnW 6 @ze.eq_1 ?_;refine nkN J ?_
 refine rc [2,3,4,5,8,11,13] fun K J=>?_
 obtain⟨r9,hr9,h⟩:=yb h;refine κ 2 ?_;refine clN rfl rfl rfl ((zP.ok hr9).c _) ?_;refine rnW 6 @ze.eq_1 ?_;refine nkN J ?_
 refine za fun Z10 hZ10=>?_
 refine rc [2,3,4,5,8,51] fun K J=>?_
 refine κ 3 ?_;refine cut (b:=(!r8.2)) (hb:=boolP_eq _) 3 48 51 [2,3,4,5,8] ((!r8.2)||(!r9.2)) qF rfl ?_;refine nkN J ?_;refine zB (b:=((!r8.2)||(!r9.2))) rfl (fun hc11=>?_) (fun hc11=>?_)
 · rw[if_pos hc11] at h;cases h
 rw[wn hc11] at h;apply zg;apply hZ10;refine O [2,3,4,5,8,14] ?_;refine XS 5 rfl (τ:=[.cells 0 (zd a0),.cells 0 (zd a1),.cells 0 [.ds true [] 0 true],.cells 0 (ze r8.1),.cells 0 (ze r9.1),.map (xp xi (AV.int .i64) []),.cells 0 [.str a0.fName,.ds true (qb ze a0.fMessages) (qa a0.fMessages) false,.ds true (qb zh a0.fEnums) (qa a0.fEnums) false,.ds true (qb zv a0.fMethods) (qa a0.fMethods) false,.str a1.fName,.ds true (qb ze a1.fMessages) (qa a1.fMessages) false,.ds true (qb zh a1.fEnums) (qa a1.fEnums) false,.ds true (qb zv a1.fMethods) (qa a1.fMethods) false,.ds true [] 0 true,.mp 5]]) rfl ?_;refine wV 6 8 2 rfl (by simp) rfl (L:=[(2,.str a2),(3,.str a3),(4,.op 0 0 0),(5,.op 1 0 0),(8,.op 2 0 0),(14,.op 6 0 0)]) (τ:=[.cells 0 (zd a0),.cells 0 (zd a1),.cells 0 [.ds true [] 0 true],.cells 0 (ze r8.1),.cells 0 (ze r9.1),.map (xp xi (AV.int .i64) []),.cells 0 [.str a0.fName,.ds true (qb ze a0.fMessages) (qa a0.fMessages) false,.ds true (qb zh a0.fEnums) (qa a0.fEnums) false,.ds true (qb zv a0.fMethods) (qa a0.fMethods) false,.str a1.fName,.ds true (qb ze a1.fMessages) (qa a1.fMessages) false,.ds true (qb zh a1.fEnums) (qa a1.fEnums) false,.ds true (qb zv a1.fMethods) (qa a1.fMethods) false,.os true 2 7 0 0 (qa ([]:List wQ)) false,.mp 5],.cells 0 (qb yk ([]:List wQ))]) .s ?_;refine yX (L:=[(2,.str a2),(3,.str a3),(4,.op 0 0 0),(5,.op 1 0 0),(8,.op 2 0 0),(14,.op 6 0 0)]) (τ:=[.cells 0 (zd a0),.cells 0 (zd a1),.cells 0 [.ds true [] 0 true],.cells 0 (ze r8.1),.cells 0 (ze r9.1),.map (xp xi (AV.int .i64) []),.cells 0 [.str a0.fName,.ds true (qb ze a0.fMessages) (qa a0.fMessages) false,.ds true (qb zh a0.fEnums) (qa a0.fEnums) false,.ds true (qb zv a0.fMethods) (qa a0.fMethods) false,.str a1.fName,.ds true (qb ze a1.fMessages) (qa a1.fMessages) false,.ds true (qb zh a1.fEnums) (qa a1.fEnums) false,.ds true (qb zv a1.fMethods) (qa a1.fMethods) false,.os true 2 7 0 0 (qa ([]:List wQ)) false,.mp 5],.cells 0 (qb yk ([]:List wQ))]) .s ?_
 refine rc [4,5,8,14] fun K J=>?_
 obtain⟨r12,hr12,h⟩:=bind_some h;refine κ 4 ?_;refine clN rfl rfl rfl (@id (ACalls qf 150 [.op 6 0 0,.agg [.str a2,.str a3]] [.cells 0 (zd a0),.cells 0 (zd a1),.cells 0 [.ds true [] 0 true],.cells 0 (ze r8.1),.cells 0 (ze r9.1),.map (xp xi (AV.int .i64) []),.cells 0 [.str a0.fName,.ds true (qb ze a0.fMessages) (qa a0.fMessages) false,.ds true (qb zh a0.fEnums) (qa a0.fEnums) false,.ds true (qb zv a0.fMethods) (qa a0.fMethods) false,.str a1.fName,.ds true (qb ze a1.fMessages) (qa a1.fMessages) false,.ds true (qb zh a1.fEnums) (qa a1.fEnums) false,.ds true (qb zv a1.fMethods) (qa a1.fMethods) false,.os true 2 7 0 0 (qa ([]:List wQ)) false,.mp 5],.cells 0 (qb yk ([]:List wQ))] (fun r' σ'=>r'=.int .i64 r12.1∧σ'=[.cells 0 (zd a0),.cells 0 (zd a1),.cells 0 [.ds true [] 0 true],.cells 0 (ze r8.1),.cells 0 (ze r9.1),.map (xp xi (AV.int .i64) r12.2.fplace),.cells 0 [.str r12.2.ffrom.fName,.ds true (qb ze r12.2.ffrom.fMessages) (qa r12.2.ffrom.fMessages) false,.ds true (qb zh r12.2.ffrom.fEnums) (qa r12.2.ffrom.fEnums) false,.ds true (qb zv r12.2.ffrom.fMethods) (qa r12.2.ffrom.fMethods) false,.str r12.2.fto.fName,.ds true (qb ze r12.2.fto.fMessages) (qa r12.2.fto.fMessages) false,.ds true (qb zh r12.2.fto.fEnums) (qa r12.2.fto.fEnums) false,.ds true (qb zv r12.2.fto.fMethods) (qa r12.2.fto.fMethods) false,.os true 2 7 (r12.2.vl) 0 (qa r12.2.fl) false,.mp 5],.cells (r12.2.vl) (qb yk r12.2.fl)])) ((wO.ok hr12).ix [6,7,5])) ?_;refine nkN J ?_;refine O [4,5,8,14,15] ?_;refine wV 8 0 1 rfl (by simp) rfl (L:=[(4,.op 0 0 0),(5,.op 1 0 0),(8,.op 2 0 0),(14,.op 6 0 0),(15,.op 8 0 0)]) (τ:=[.cells 0 (zd a0),.cells 0 (zd a1),.cells 0 [.ds true [] 0 true],.cells 0 (ze r8.1),.cells 0 (ze r9.1),.map (xp xi (AV.int .i64) r12.2.fplace),.cells 0 [.str r12.2.ffrom.fName,.ds true (qb ze r12.2.ffrom.fMessages) (qa r12.2.ffrom.fMessages) false,.ds true (qb zh r12.2.ffrom.fEnums) (qa r12.2.ffrom.fEnums) false,.ds true (qb zv r12.2.ffrom.fMethods) (qa r12.2.ffrom.fMethods) false,.str r12.2.fto.fName,.ds true (qb ze r12.2.fto.fMessages) (qa r12.2.fto.fMessages) false,.ds true (qb zh r12.2.fto.fEnums) (qa r12.2.fto.fEnums) false,.ds true (qb zv r12.2.fto.fMethods) (qa r12.2.fto.fMethods) false,.os true 2 7 (r12.2.vl) 0 (qa r12.2.fl) false,.mp 5],.cells (r12.2.vl) (qb yk r12.2.fl),.cells 0 [.os true 1 9 0 0 (qa ([]:List (List Ya))) false],.cells 0 (qb (vaz yW) ([]:List (List Ya)))]) .s ?_
 refine za fun Z13 hZ13=>?_
 refine O [4,5,8,14,15,16] ?_;apply zj;refine zG (fun m L τ=>∃ (k20:Nat) (l14:List (List Ya)) (x16:Int) (v15:Nat),m=0+k20∧L=[(4,.op 0 0 0),(5,.op 1 0 0),(8,.op 2 0 0),(14,.op 4 0 0),(15,.op 6 0 0),(16,.int .i64 x16)]∧τ=([.cells 0 (zd a0),.cells 0 (zd a1),.cells 0 [.ds true [] 0 true],.map (xp xi (AV.int .i64) r12.2.fplace),.cells 0 [.str r12.2.ffrom.fName,.ds true (qb ze r12.2.ffrom.fMessages) (qa r12.2.ffrom.fMessages) false,.ds true (qb zh r12.2.ffrom.fEnums) (qa r12.2.ffrom.fEnums) false,.ds true (qb zv r12.2.ffrom.fMethods) (qa r12.2.ffrom.fMethods) false,.str r12.2.fto.fName,.ds true (qb ze r12.2.fto.fMessages) (qa r12.2.fto.fMessages) false,.ds true (qb zh r12.2.fto.fEnums) (qa r12.2.fto.fEnums) false,.ds true (qb zv r12.2.fto.fMethods) (qa r12.2.fto.fMethods) false,.os true 2 5 (r12.2.vl) 0 (qa r12.2.fl) false,.mp 3],.cells (r12.2.vl) (qb yk r12.2.fl),.cells 0 [.os true 1 7 v15 0 (qa l14) false],.cells v15 (qb (vaz yW) l14)]:zf)∧xR.l20 a0 a1 r12 k20 l14 x16=some r) _ ⟨yp,([]:List (List Ya)),0,0,rfl,rfl,rfl,h⟩ (.t [0,1,2,5,6,7,8,9] false) ?_;rintro m L τ ⟨k20,l14,x16,v15,rfl,rfl,rfl,h⟩
 rcases k20 with _|k20
 · cases h
 simp only[xR.l20] at h
 refine za fun Z21 hZ21=>?_
 refine O [4,5,8,14,15,16,69] ?_;refine zR rfl (fun hc22=>?_) (fun hc22=>?_)
 · rw[if_pos hc22] at h;have t23:=eq_true hc22;apply zg;apply hZ21
   refine za fun Z24 hZ24=>?_
   apply zj;obtain⟨y25,hy25,h⟩:=bind_some h;have f26:=E240.idxO hy25;have f27:=E240.rdfO0 hy25;obtain⟨r28,hr28,h⟩:=yb h
   refine rd [4,5,8,14,15,16,17] fun K J=>?_
   refine DW.start (T:=tab) [.at [],.any,.any,.any,.at [],.any,.any,.any,.at [],.eff,.any,.any,.any,.flt,.eff,.any] [] ?_;refine DW.runN U 8 ?_;simp only[go_sem,qd,qg,qc,qe,t23,f26];refine DW.runN U 1 ?_;simp only[go_sem,qd,qc,yk,f27];refine DW.call rfl rfl rfl ((zP.ok hr28).c _) ?_;refine DW.runN U 6 ?_;simp only[go_sem,qd,qg,qc,qe,ze];refine DW.fin U (by decide +kernel) rfl ?_;simp only[zq,upd,qc,reduceIte,yD,xj];apply J
   have f29:=E240.idxO hy25;have f30:=E240.rdfO hy25 (o:=1) (by decide);obtain⟨r31,hr31,h⟩:=yb h
   refine rd [4,5,8,14,15,16,17,19] fun K J=>?_
   refine DW.start (T:=tab) [.at [],.any,.any,.any,.at [],.any,.any,.any,.at [],.eff,.any,.any,.any,.flt,.eff,.any] [] ?_;refine DW.runN U 8 ?_;simp only[go_sem,qd,qg,qc,qe,f29];refine DW.runN U 1 ?_;simp only[go_sem,qd,qc,yk,f30];refine DW.call rfl rfl rfl ((zP.ok hr31).c _) ?_;refine DW.runN U 6 ?_;simp only[go_sem,qd,qg,qc,qe,ze];refine DW.fin U (by decide +kernel) rfl ?_;simp only[zq,upd,qc,reduceIte,yD,xj];apply J
   refine O [4,5,8,14,15,16,17,19,21] ?_;refine YA 21 3 rfl ?_;refine yX (L:=[(4,.op 0 0 0),(5,.op 1 0 0),(8,.op 2 0 0),(14,.op 4 0 0),(15,.op 6 0 0),(16,.int .i64 x16),(17,.op 8 0 0),(19,.op 9 0 0),(21,.os true 3 10 0 0 (qa ([]:List Ya)) false)]) (τ:=[.cells 0 (zd a0),.cells 0 (zd a1),.cells 0 [.ds true [] 0 true],.map (xp xi (AV.int .i64) r12.2.fplace),.cells 0 [.str r12.2.ffrom.fName,.ds true (qb ze r12.2.ffrom.fMessages) (qa r12.2.ffrom.fMessages) false,.ds true (qb zh r12.2.ffrom.fEnums) (qa r12.2.ffrom.fEnums) false,.ds true (qb zv r12.2.ffrom.fMethods) (qa r12.2.ffrom.fMethods) false,.str r12.2.fto.fName,.ds true (qb ze r12.2.fto.fMessages) (qa r12.2.fto.fMessages) false,.ds true (qb zh r12.2.fto.fEnums) (qa r12.2.fto.fEnums) false,.ds true (qb zv r12.2.fto.fMethods) (qa r12.2.fto.fMethods) false,.os true 2 5 (r12.2.vl) 0 (qa r12.2.fl) false,.mp 3],.cells (r12.2.vl) (qb yk r12.2.fl),.cells 0 [.os true 1 7 v15 0 (qa l14) false],.cells v15 (qb (vaz yW) l14),.cells 0 (ze r28.1),.cells 0 (ze r31.1),.cells 0 (qb yW ([]:List Ya))]) .s ?_
   refine za fun Z32 hZ32=>?_
   refine O [4,5,8,14,15,16,17,19,21,22] ?_;apply zj;refine zG (fun m L τ=>∃ (k39:Nat) (l33:List Ya) (x35:Int) (v34:Nat),m=0+k39∧L=[(4,.op 0 0 0),(5,.op 1 0 0),(8,.op 2 0 0),(14,.op 4 0 0),(15,.op 6 0 0),(16,.int .i64 x16),(17,.op 8 0 0),(19,.op 9 0 0),(21,.os true 3 10 v34 0 (qa l33) false),(22,.int .i64 x35)]∧τ=([.cells 0 (zd a0),.cells 0 (zd a1),.cells 0 [.ds true [] 0 true],.map (xp xi (AV.int .i64) r12.2.fplace),.cells 0 [.str r12.2.ffrom.fName,.ds true (qb ze r12.2.ffrom.fMessages) (qa r12.2.ffrom.fMessages) false,.ds true (qb zh r12.2.ffrom.fEnums) (qa r12.2.ffrom.fEnums) false,.ds true (qb zv r12.2.ffrom.fMethods) (qa r12.2.ffrom.fMethods) false,.str r12.2.fto.fName,.ds true (qb ze r12.2.fto.fMessages) (qa r12.2.fto.fMessages) false,.ds true (qb zh r12.2.fto.fEnums) (qa r12.2.fto.fEnums) false,.ds true (qb zv r12.2.fto.fMethods) (qa r12.2.fto.fMethods) false,.os true 2 5 (r12.2.vl) 0 (qa r12.2.fl) false,.mp 3],.cells (r12.2.vl) (qb yk r12.2.fl),.cells 0 [.os true 1 7 v15 0 (qa l14) false],.cells v15 (qb (vaz yW) l14),.cells 0 (ze r28.1),.cells 0 (ze r31.1),.cells v34 (qb yW l33)]:zf)∧xR.l39 r12 l14 x16 (xR.l20 a0 a1 r12 k20) r28 r31 k39 l33 x35=some r) _ ⟨yp,([]:List Ya),1,0,rfl,rfl,rfl,h⟩ .s ?_;rintro m L τ ⟨k39,l33,x35,v34,rfl,rfl,rfl,h⟩
   rcases k39 with _|k39
   · cases h
   simp only[xR.l39] at h
   refine za fun Z40 hZ40=>?_
   refine O [4,5,8,14,15,16,17,19,21,22,99] ?_;refine zR rfl (fun hc41=>?_) (fun hc41=>?_)
   · rw[if_pos hc41] at h;have t42:=eq_true hc41;apply zg;apply hZ40;refine we (fun L τ=>∃ (l43:List Ya) (v44:Nat),L=[(4,.op 0 0 0),(5,.op 1 0 0),(8,.op 2 0 0),(14,.op 4 0 0),(15,.op 6 0 0),(16,.int .i64 x16),(17,.op 8 0 0),(19,.op 9 0 0),(21,.os true 3 10 v44 0 (qa l43) false),(22,.int .i64 x35)]∧τ=([.cells 0 (zd a0),.cells 0 (zd a1),.cells 0 [.ds true [] 0 true],.map (xp xi (AV.int .i64) r12.2.fplace),.cells 0 [.str r12.2.ffrom.fName,.ds true (qb ze r12.2.ffrom.fMessages) (qa r12.2.ffrom.fMessages) false,.ds true (qb zh r12.2.ffrom.fEnums) (qa r12.2.ffrom.fEnums) false,.ds true (qb zv r12.2.ffrom.fMethods) (qa r12.2.ffrom.fMethods) false,.str r12.2.fto.fName,.ds true (qb ze r12.2.fto.fMessages) (qa r12.2.fto.fMessages) false,.ds true (qb zh r12.2.fto.fEnums) (qa r12.2.fto.fEnums) false,.ds true (qb zv r12.2.fto.fMethods) (qa r12.2.fto.fMethods) false,.os true 2 5 (r12.2.vl) 0 (qa r12.2.fl) false,.mp 3],.cells (r12.2.vl) (qb yk r12.2.fl),.cells 0 [.os true 1 7 v15 0 (qa l14) false],.cells v15 (qb (vaz yW) l14),.cells 0 (ze r28.1),.cells 0 (ze r31.1),.cells v44 (qb yW l43)]:zf)∧xR.j45 x35 (xR.l39 r12 l14 x16 (xR.l20 a0 a1 r12 k20) r28 r31 k39) l43=some r) ?_ ?_
     · apply zj
       refine rc [4,5,8,14,15,16,17,19,21,22,23,24] fun K J=>?_
       obtain⟨r46,hr46,h⟩:=bind_some h;refine rnW 4 t42 ?_;refine clN rfl rfl rfl (@id (ACalls qf 151 [.op 4 0 0,.agg (ze r28.1),.agg (ze r31.1),.int .i64 x35] [.cells 0 (zd a0),.cells 0 (zd a1),.cells 0 [.ds true [] 0 true],.map (xp xi (AV.int .i64) r12.2.fplace),.cells 0 [.str r12.2.ffrom.fName,.ds true (qb ze r12.2.ffrom.fMessages) (qa r12.2.ffrom.fMessages) false,.ds true (qb zh r12.2.ffrom.fEnums) (qa r12.2.ffrom.fEnums) false,.ds true (qb zv r12.2.ffrom.fMethods) (qa r12.2.ffrom.fMethods) false,.str r12.2.fto.fName,.ds true (qb ze r12.2.fto.fMessages) (qa r12.2.fto.fMessages) false,.ds true (qb zh r12.2.fto.fEnums) (qa r12.2.fto.fEnums) false,.ds true (qb zv r12.2.fto.fMethods) (qa r12.2.fto.fMethods) false,.os true 2 5 (r12.2.vl) 0 (qa r12.2.fl) false,.mp 3],.cells (r12.2.vl) (qb yk r12.2.fl),.cells 0 [.os true 1 7 v15 0 (qa l14) false],.cells v15 (qb (vaz yW) l14),.cells 0 (ze r28.1),.cells 0 (ze r31.1),.cells v34 (qb yW l33)] (fun r' σ'=>r'=.tup [.agg (yW r46.1),.bool r46.2]∧σ'=[.cells 0 (zd a0),.cells 0 (zd a1),.cells 0 [.ds true [] 0 true],.map (xp xi (AV.int .i64) r12.2.fplace),.cells 0 [.str r12.2.ffrom.fName,.ds true (qb ze r12.2.ffrom.fMessages) (qa r12.2.ffrom.fMessages) false,.ds true (qb zh r12.2.ffrom.fEnums) (qa r12.2.ffrom.fEnums) false,.ds true (qb zv r12.2.ffrom.fMethods) (qa r12.2.ffrom.fMethods) false,.str r12.2.fto.fName,.ds true (qb ze r12.2.fto.fMessages) (qa r12.2.fto.fMessages) false,.ds true (qb zh r12.2.fto.fEnums) (qa r12.2.fto.fEnums) false,.ds true (qb zv r12.2.fto.fMethods) (qa r12.2.fto.fMethods) false,.os true 2 5 (r12.2.vl) 0 (qa r12.2.fl) false,.mp 3],.cells (r12.2.vl) (qb yk r12.2.fl),.cells 0 [.os true 1 7 v15 0 (qa l14) false],.cells v15 (qb (vaz yW) l14),.cells 0 (ze r28.1),.cells 0 (ze r31.1),.cells v34 (qb yW l33)])) ((YD.ok hr46).ix [4,5,3])) ?_;refine rnW 6 @yW.eq_1 ?_;refine nkN J ?_;refine O [4,5,8,14,15,16,17,19,21,22,23,110] ?_;refine zB (b:=r46.2) rfl (fun hc47=>?_) (fun hc47=>?_)
       · rw[if_pos hc47] at h;obtain⟨_u48,hu48,h⟩:=bind_some h;have gu48:=yR hu48;have f49:=(zU E246.len l33)
         refine rgE U [4,5,8,14,15,16,17,19,21,22] fun K J=>?_
         simp only[go_sem,qd,qg,qc,qe,qj,zM,yz,qV,qL,true_and,q5,yG,yf,yJ,gu48,f49,yZ,qW,qQ,AV.one,qD,qC,qk,qp,ql,qK];apply J
         exact⟨_,_,⟨l33++[r46.1],v34+1,rfl,rfl,h⟩,(.t [0,1,2,3,4,5,6,7,8,9,10] false)⟩
       rw[wn hc47] at h;apply zg;exact⟨_,_,⟨l33,v34,rfl,rfl,h⟩,(.t [0,1,2,3,4,5,6,7,8,9,10] false)⟩
     rintro _ _ ⟨l43,v44,rfl,rfl,h⟩;unfold xR.j45 at h
     refine rgE U [4,5,8,14,15,16,17,19,21,22] fun K J=>?_
     simp only[go_sem,qd,qc];apply J
     exact⟨_,_,_,qo (0+k39),⟨k39,l43,IntKind.i64.wrap (x35+1),v44,rfl,rfl,rfl,h⟩,.s⟩
   rw[if_neg hc41] at h;have t50:=eq_false hc41;apply zJ;apply hZ32;obtain⟨_u51,hu51,h⟩:=bind_some h;have gu51:=yR hu51;have f52:=(zU E176.len l14)
   refine rgE U [4,5,8,14,15,16] fun K J=>?_
   simp only[go_sem,qd,qg,qc,qe,qj,zM,yz,qV,qL,true_and,q5,yG,yf,yJ,t50,gu51,f52,yZ,qW,qQ,AV.one,qD,qC,qk,qp,ql,qK];apply J
   apply hZ24
   refine rgE U [4,5,8,14,15,16] fun K J=>?_
   simp only[go_sem,qd,qc];apply J
   exact⟨_,_,_,qo (0+k20),⟨k20,l14++[l33],IntKind.i64.wrap (x16+1),v15+1,rfl,rfl,rfl,h⟩,(.t [0,1,2,3,4,5,6,7] false)⟩
 rw[if_neg hc22] at h;have t53:=eq_false hc22;apply zJ;apply hZ13;refine rgW [8,9] t53 ?_;cases h;exact rtA
def va8 (a0:Ya)(a1:Int):Option Bool:=
 (if a0.fOp=1 then (if a0.fOp=1 then some (decide (a0.fSub=0)) else none) else none)
theorem va8.ok {a0 a1 r}(h:va8 a0 a1=some r):ACalls qf 236 [.agg (yW a0),.int .i64 a1] [] (fun r' _=>r'=.bool r):=by
 refine zk (rs:=[.tmp 4]) U Tryz.func236 rfl Tryz.ntmps236 rfl Tryz.call236 (by simp) ?_;refine zu [(0,.agg (yW a0)),(1,.int .i64 a1)] ⟨rfl,rfl,trivial⟩ ?_;unfold va8 at h;refine rgW [1,2] @yW.eq_1 ?_
 refine za fun Z1 hZ1=>?_
 refine O [1,2,6] ?_;apply zj
 refine za fun Z2 hZ2=>?_
 refine O [1,2,6,7] ?_;refine zR rfl (fun hc3=>?_) (fun hc3=>?_)
 · rw[if_pos hc3] at h;have t4:=eq_true hc3;apply zg;apply hZ2;refine zR rfl (fun hc5=>?_) (fun hc5=>?_)
   · rw[if_pos hc5] at h;have t6:=eq_true hc5;refine rgW [4] t4 ?_;cases h;exact rtA
   rw[if_neg hc5] at h;have t7:=eq_false hc5
   refine za fun Z8 hZ8=>?_
   cases h
 rw[if_neg hc3] at h;have t9:=eq_false hc3;cases h
def wD.l18 (a0:wE)(x6:Int)(rec8:Int→Option Bool):List Ya→Int→Int→Option Bool
 |[],x15,x14=>(rec8 (x6+1))
 |y18::q18,x15,x14=>(if ((decide (y18.fTag≤x14))||(decide (500<y18.fTag)))=true then some true else (va8 y18 (qa a0.fParts:Int)).bind fun r27=>some (!r27)).bind fun c27=>(if c27=true then none else ((wD.l18 a0 x6 rec8 q18) (x15+1) y18.fTag))
def wD.l8 (a0:wE):List (List Ya)→Int→Option Bool
 |[],x6=>some true
 |y8::q8,x6=>(wD.l18 a0 x6 (wD.l8 a0 q8) y8 0 0)
def wD (a0:wE):Option Bool:=
 (if ((decide ((qa a0.fParts:Int)<1))||(decide (100<(qa a0.fParts:Int))))=true then none else (wD.l8 a0 a0.fParts 0))
theorem wD.ok {a0 r}(h:wD a0=some r):ACalls qf 198 [.agg (yr a0)] [] (fun r' _=>r'=.bool r):=by
 refine zk (rs:=[.tmp 2]) U Tryz.func198 rfl Tryz.ntmps198 rfl Tryz.call198 (by simp) ?_;refine zu [(0,.agg (yr a0))] ⟨rfl,trivial⟩ ?_;unfold wD at h;refine rgW [1] @yr.eq_1 ?_
 refine za fun Z1 hZ1=>?_
 refine rc [1,17] fun K J=>?_
 refine κ 5 ?_;refine cut 5 12 17 [1] ((decide ((qa a0.fParts:Int)<1))||(decide (100<(qa a0.fParts:Int)))) qF rfl ?_;refine nkN J ?_;refine zB (b:=((decide ((qa a0.fParts:Int)<1))||(decide (100<(qa a0.fParts:Int))))) rfl (fun hc4=>?_) (fun hc4=>?_)
 · rw[if_pos hc4] at h;cases h
 rw[wn hc4] at h;apply zg;apply hZ1
 refine za fun Z5 hZ5=>?_
 refine O [1,19,20,21] ?_;apply zj
 refine xq 19 fun hb8=>?_
 replace hb8:qa a0.fParts≤9223372036854775807:=hb8.1;refine zG (fun m L τ=>∃ (p8 q8:List (List Ya)) (x6:Int),m=qa q8∧L=[(1,.op 0 0 0),(19,.ds true (qb (vaz yW) a0.fParts) (qa a0.fParts) false),(20,.int .i64 (qa a0.fParts:Int)),(21,.int .i64 x6)]∧τ=([.cells 0 (yr a0)]:zf)∧a0.fParts=p8++q8∧x6=(qa p8:Int)∧wD.l8 a0 q8 x6=some r) _ ⟨[],a0.fParts,0,rfl,rfl,rfl,rfl,rfl,h⟩ .s ?_;rintro m L τ ⟨p8,q8,x6,rfl,rfl,rfl,hE8,hi8,h⟩
 rcases q8 with _|⟨y8,q8⟩
 · have hz8:=yH hE8 hi8;simp only[wD.l8] at h;refine rgW [1,19,20,21,22] hz8 ?_
   refine za fun Z9 hZ9=>?_
   refine zD rfl ?_;apply zJ;apply hZ5;refine O [2] ?_;cases h;exact rtA
 obtain⟨hz8,hw8,hx8,hE'8,hi'8⟩:=yo hE8 hi8 hb8;simp only[wD.l8] at h;refine rgW [1,19,20,21,22] hz8 ?_
 refine za fun Z10 hZ10=>?_
 refine zE rfl ?_;apply zg;apply hZ10
 refine za fun Z11 hZ11=>?_
 apply zj;have f12:=E176.idxS hx8;have f13:=E176.fldS0 (f:=246) rfl rfl hx8
 refine rg U [1,4,19,20,21] fun K J=>?_
 simp only[go_sem,qd,qc,vaz,f12,f13];apply J
 refine O [1,4,5,19,20,21] ?_;refine O [1,5,19,20,21,25,26,27] ?_;apply zj
 refine xq 25 fun hb18=>?_
 replace hb18:qa y8≤9223372036854775807:=hb18.1;refine zG (fun m L τ=>∃ (p18 q18:List Ya) (x15:Int) (x14:Int),m=qa q18∧L=[(1,.op 0 0 0),(5,.int .i64 x14),(19,.ds true (qb (vaz yW) a0.fParts) (qa a0.fParts) false),(20,.int .i64 (qa a0.fParts:Int)),(21,.int .i64 x6),(25,.ds true (qb yW y8) (qa y8) false),(26,.int .i64 (qa y8:Int)),(27,.int .i64 x15)]∧τ=([.cells 0 (yr a0)]:zf)∧y8=p18++q18∧x15=(qa p18:Int)∧wD.l18 a0 x6 (wD.l8 a0 q8) q18 x15 x14=some r) _ ⟨[],y8,0,0,rfl,rfl,rfl,rfl,rfl,h⟩ .s ?_;rintro m L τ ⟨p18,q18,x15,x14,rfl,rfl,rfl,hE18,hi18,h⟩
 rcases q18 with _|⟨y18,q18⟩
 · have hz18:=yH hE18 hi18;simp only[wD.l18] at h;refine rgW [1,5,19,20,21,25,26,27,28] hz18 ?_
   refine za fun Z19 hZ19=>?_
   refine zD rfl ?_;apply zJ;apply hZ11
   refine rgE U [1,19,20,21] fun K J=>?_
   simp only[go_sem,qd,qc,hw8];apply J
   exact⟨_,_,_,qo q8.length,⟨p8++[y8],q8,x6+1,rfl,rfl,rfl,hE'8,hi'8,h⟩,.s⟩
 obtain⟨hz18,hw18,hx18,hE'18,hi'18⟩:=yo hE18 hi18 hb18;simp only[wD.l18] at h;refine rgW [1,5,19,20,21,25,26,27,28] hz18 ?_
 refine za fun Z20 hZ20=>?_
 refine zE rfl ?_;apply zg;apply hZ20
 refine za fun Z21 hZ21=>?_
 apply zj;have f22:=E246.idxS hx18;have f23:=E246.loadS rfl rfl hx18;refine rgW [1,5,7,19,20,21,25,26,27] (aI @yW.eq_1 (aI f22 f23)) ?_
 refine za fun Z24 hZ24=>?_
 refine rc [1,7,19,20,21,25,26,27,47] fun K J=>?_
 refine κ 5 ?_;refine cut 4 35 39 [1,7,19,20,21,25,26,27] ((decide (y18.fTag≤x14))||(decide (500<y18.fTag))) (aI hz8 (aI hw8 (aI hz18 hw18))) rfl ?_;refine κ 1 ?_;obtain⟨c27,hc27,h⟩:=bind_some h;refine yv 7 (fun L τ=>L=[(1,.op 0 0 0),(7,.op 1 0 0),(19,.ds true (qb (vaz yW) a0.fParts) (qa a0.fParts) false),(20,.int .i64 (qa a0.fParts:Int)),(21,.int .i64 x6),(25,.ds true (qb yW y8) (qa y8) false),(26,.int .i64 (qa y8:Int)),(27,.int .i64 x15),(47,.bool c27)]∧τ=([.cells 0 (yr a0),.cells 0 [.int .i64 y18.fOp,.int .i64 y18.fTag,.int .i64 y18.fSub]]:zf)) ?_ ?_
 · refine xm (b:=((decide (y18.fTag≤x14))||(decide (500<y18.fTag)))) 40 rfl (fun hg40=>?_) (fun hg40=>?_)
   · rw[if_pos hg40] at hc27;refine κ 7 ?_;cases hc27;refine zl ⟨rfl,_,_,⟨rfl,rfl⟩,.b hg40⟩
   rw[wn hg40] at hc27;obtain⟨r28,hr28,hc27⟩:=bind_some hc27;refine κ 4 ?_;refine clN rfl rfl rfl ((va8.ok hr28).c _) ?_;refine κ 2 ?_;cases hc27;refine zl ⟨rfl,_,_,⟨rfl,rfl⟩,.b hg40⟩
 rintro _ _ ⟨rfl,rfl⟩;refine nkN J ?_;refine zB (b:=c27) rfl (fun hc29=>?_) (fun hc29=>?_)
 · rw[if_pos hc29] at h;cases h
 rw[wn hc29] at h;apply zg;apply hZ24
 refine rgE U [1,5,19,20,21,25,26,27] fun K J=>?_
 simp only[go_sem,qd,qc,qe];apply J
 apply hZ21
 refine rgE U [1,5,19,20,21,25,26,27] fun K J=>?_
 simp only[go_sem,qd,qc,hw18];apply J
 exact⟨_,_,_,qo q18.length,⟨p18++[y18],q18,x15+1,y18.fTag,rfl,rfl,rfl,hE'18,hi'18,h⟩,(.t [0] false)⟩
end
section
set_option maxRecDepth 4000
set_option maxHeartbeats 1000000
open AM
def xB.body (YP:zt→Option zi)(a0:zt):Option zi:=
 bnd (Zn a0) fun r2=>(match a0 with|.nil=>none|.num n4=>some (⟨r2,n4,[],([]:List zp),([]:List xF)⟩:zi)|.str s4=>none|.node e4 r4=>none)
theorem xB.step (YP:zt→Option zi)(vcd:∀ (a0:zt) (r:zi),YP a0=some r→ACalls qf 249 [.agg (zn a0)] [] (fun r' _=>r'=.agg (zb r)))(a0:zt)(r:zi)(h:xB.body YP a0=some r):ACalls qf 249 [.agg (zn a0)] [] (fun r' _=>r'=.agg (zb r)):=by
 have ev_value_Value_Tree:=fun a0 r h σ=>(vcd a0 r h).c σ
 refine zk (rs:=[.cell 2 37]) U Tryz.func249 rfl Tryz.ntmps249 rfl Tryz.call249 (by simp) ?_;refine zu [(0,.agg (zn a0))] ⟨rfl,trivial⟩ ?_;unfold xB.body at h;have f1:=Xb a0;unfold AV.one at f1;refine rgW [1,2] (aI @zn.eq_1 f1) ?_
 refine rc [1,2,3] fun K J=>?_
 obtain⟨r2,hr2,h⟩:=yb h;refine κ 1 ?_;refine clN rfl rfl rfl (Zn.ev a0 r2 hr2 _) ?_;refine rnW 3 @zb.eq_1 ?_;refine nkN J ?_;refine wV 2 3 2 rfl (by simp) rfl (L:=[(1,.op 0 0 0),(2,.op 1 0 0),(3,.op 2 0 0)]) (τ:=[.cells 0 [vdC a0],.cells 0 [.int .i64 0,.int .i64 0,.str [],.ds true [] 0 true,.ds true [] 0 true],.cells 0 [.int .i64 r2,.int .i64 0,.str [],.os true 2 3 0 0 (qa ([]:List zp)) false,.ds true [] 0 true],.cells 0 (qb zx ([]:List zp))]) .s ?_
 refine za fun Z3 hZ3=>?_
 refine O [2,3,16] ?_;apply zj
 rcases a0 with _|n4|s4|⟨e4,r4⟩
 · dsimp only at h
   try simp only[vcK]
   refine rg U [2,3,16,18,19] fun K J=>?_
   simp only[go_sem,qd,qc,qe,Yc,Yv,TypeDesc.isIface];apply J
   refine zD rfl ?_;cases h
 · dsimp only at h
   try simp only[vcJ]
   refine rg U [2,3,16,18,19] fun K J=>?_
   simp only[go_sem,qd,qc,qe,Yc,Yv,TypeDesc.isIface];apply J
   refine zE rfl ?_;refine O [2,3,4] ?_
   refine rgE U [2,3] fun K J=>?_
   simp only[go_sem,qd,qg,qc,qe];apply J
   apply hZ3;refine O [2] ?_;cases h;exact rtA
 · dsimp only at h
   try simp only[vcI]
   refine rg U [2,3,16,18,19] fun K J=>?_
   simp only[go_sem,qd,qc,qe,Yc,Yv,TypeDesc.isIface];apply J
   refine zD rfl ?_;cases h
 dsimp only at h
 try simp only[vaV]
 refine rg U [2,3,16,18,19] fun K J=>?_
 simp only[go_sem,qd,qc,qe,Yc,Yv,TypeDesc.isIface];apply J
 refine zD rfl ?_;cases h
def xB : Nat→zt→Option zi
 |0,_=>none
 |k+1,a0=>xB.body (xB k) a0
theorem xB.all (k:Nat):(∀ (a0:zt) (r:zi),xB k a0=some r→ACalls qf 249 [.agg (zn a0)] [] (fun r' _=>r'=.agg (zb r))):=by
 induction k with
 |zero=>exact (fun a0 r h=>by simp only[xB] at h; cases h)
 |succ k ih=>exact (fun a0 r h=>xB.step _ ih a0 r (by simpa only [xB] using h))
theorem xB.ev (k:Nat)(a0:zt)(r:zi)(h:xB k a0=some r)(σ:zf):ACalls qf 249 [.agg (zn a0)] σ (fun r' σ'=>r'=.agg (zb r)∧σ'=σ):=
 ((xB.all k) a0 r h).c σ
def var (a0:zt):Option zt:=
 bnd (Zr a0) fun r3=>(if r3.2=true then some (zt.num r3.1) else none)
theorem var.ok {a0 r}(h:var a0=some r):ACalls qf 250 [.agg (zn a0)] [] (fun r' _=>r'=anyV r):=by
 refine zk (rs:=[.tmp 2]) U Tryz.func250 rfl Tryz.ntmps250 rfl Tryz.call250 (by simp) ?_;refine zu [(0,.agg (zn a0))] ⟨rfl,trivial⟩ ?_;unfold var at h;have f1:=Xb a0;unfold AV.one at f1;refine rgW [1] (aI @zn.eq_1 f1) ?_
 refine za fun Z2 hZ2=>?_
 refine rc [1,3,4] fun K J=>?_
 obtain⟨r3,hr3,h⟩:=yb h;refine κ 1 ?_;refine clN rfl rfl rfl ((Zr.ok hr3).c _) ?_;refine κ 5 ?_;refine nkN J ?_;refine O [1,3,12] ?_;refine zB (b:=r3.2) rfl (fun hc4=>?_) (fun hc4=>?_)
 · rw[if_pos hc4] at h;refine O [2] ?_;cases h;exact rtA
 rw[wn hc4] at h;apply zg;apply hZ2
 refine za fun Z5 hZ5=>?_
 cases h
def ZV (a0:Int):Int:=
 (if (-2147483648)<(if 2147483647<a0 then 2147483647 else a0) then (if 2147483647<a0 then 2147483647 else a0) else (-2147483648))
theorem ZV.ok {a0 r}(h:ZV a0=r):ACalls qf 208 [.int .i64 a0] [] (fun r' _=>r'=.int .i64 r):=by
 refine zk (rs:=[.tmp 2]) U Tryz.func208 rfl Tryz.ntmps208 rfl Tryz.call208 (by simp) ?_;refine zu [(0,.int .i64 a0)] ⟨rfl,trivial⟩ ?_;unfold ZV at h;refine O [0] ?_
 refine rg U [2] fun K J=>?_
 simp only[go_sem,qd,qc,reduceCtorEq,vbo,vdv,vb5,vb6];apply J
 cases h;exact rtA
def yl.j19 (x8:Int)(rec13:Int→yc→List zp→Option (zi×yc))(m0_16:yc)(l17:List zp):Option (zi×yc):=
 (rec13 (x8+1) m0_16 l17)
def yl.l13 (yU:yc→Ya→(List zt)→Option (List zi×yc))(a2:yA):List Ya→Int→yc→List zp→Option (zi×yc)
 |[],x8,m0_5,l6=>some ((⟨3,0,[],l6,([]:List xF)⟩:zi),m0_5)
 |y13::q13,x8,m0_5,l6=>(wp a2 y13.fTag).bind fun r22=>(if (qa r22:Int)=0 then (yl.j19 x8 (yl.l13 yU a2 q13) (⟨m0_5.fp,IntKind.i64.wrap (m0_5.flooks+1)⟩:yc) l6) else (yU (⟨m0_5.fp,IntKind.i64.wrap (m0_5.flooks+1)⟩:yc) y13 r22).bind fun r27=>(if 0<(qa r27.1:Int) then (vao (qa l6+1) 32).bind fun _u30=>(yl.j19 x8 (yl.l13 yU a2 q13) r27.2 (l6++[(⟨y13.fTag,r27.1⟩:zp)])) else (yl.j19 x8 (yl.l13 yU a2 q13) r27.2 l6)))
def yl.body (wU:yc→Int→yA→Option (zi×yc))(yU:yc→Ya→(List zt)→Option (List zi×yc))(a0:yc)(a1:Int)(a2:yA):Option (zi×yc):=
 (Yl a0.fp.fParts a1).bind fun y2=>(yl.l13 yU a2 y2 0 a0 ([]:List zp))
theorem yl.step (wU:yc→Int→yA→Option (zi×yc))(yU:yc→Ya→(List zt)→Option (List zi×yc))(vcH:∀ (a0:yc) (a1:Int) (a2:yA) (r:zi×yc),wU a0 a1 a2=some r→ACalls qf 199 [.op 0 0 0,.int .i64 a1,.dp (zO a2) 0] [.cells 0 (yx a0)] (fun r' σ'=>r'=.agg (zb r.1)∧σ'=[.cells 0 (yx r.2)]))(vaD:∀ (a0:yc) (a1:Ya) (a2:List zt) (r:List zi×yc),yU a0 a1 a2=some r→ACalls qf 237 [.op 0 0 0,.agg (yW a1),.ds true (qb zn a2) (qa a2) false] [.cells 0 (yx a0)] (fun r' σ'=>r'=.ds true (qb ya r.1) (qa r.1) false∧σ'=[.cells 0 (yx r.2)]))(a0:yc)(a1:Int)(a2:yA)(r:zi×yc)(h:yl.body wU yU a0 a1 a2=some r):ACalls qf 199 [.op 0 0 0,.int .i64 a1,.dp (zO a2) 0] [.cells 0 (yx a0)] (fun r' σ'=>r'=.agg (zb r.1)∧σ'=[.cells 0 (yx r.2)]):=by
 refine ZH [0] (rs:=[.cell 6 37]) U Tryz.func199 rfl Tryz.ntmps199 rfl Tryz.call199 (by simp) rfl ?_;refine zu [(0,.op 0 0 0),(1,.int .i64 a1),(2,.dp (zO a2) 0)] ⟨rfl,rfl,rfl,trivial⟩ ?_;unfold yl.body at h;refine O [0,1,2,6] ?_;refine O [0,1,2,6,7] ?_;refine wV 2 3 2 rfl (by simp) rfl (L:=[(0,.op 0 0 0),(1,.int .i64 a1),(2,.dp (zO a2) 0),(6,.op 1 0 0),(7,.op 2 0 0)]) (τ:=[.cells 0 (yx a0),.cells 0 [.int .i64 0,.int .i64 0,.str [],.ds true [] 0 true,.ds true [] 0 true],.cells 0 [.int .i64 3,.int .i64 0,.str [],.os true 2 3 0 0 (qa ([]:List zp)) false,.ds true [] 0 true],.cells 0 (qb zx ([]:List zp))]) .s ?_
 refine za fun Z1 hZ1=>?_
 obtain⟨y2,hy2,h⟩:=bind_some h;have f3:=E176.idxS hy2;have f4:=E176.fldS0 (f:=246) rfl rfl hy2
 refine rg U [0,2,6,7,20,21,22] fun K J=>?_
 simp only[go_sem,qd,qc,qe,reduceCtorEq,vaz,f3,f4];apply J
 apply zj
 refine xq 20 fun hb13=>?_
 replace hb13:qa y2≤9223372036854775807:=hb13.1;refine zG (fun m L τ=>∃ (p13 q13:List Ya) (x8:Int) (m0_5:yc) (l6:List zp) (v7:Nat),m=qa q13∧L=[(0,.op 0 0 0),(2,.dp (zO a2) 0),(6,.op 1 0 0),(7,.op 2 0 0),(20,.ds true (qb yW y2) (qa y2) false),(21,.int .i64 (qa y2:Int)),(22,.int .i64 x8)]∧τ=([.cells 0 (yx m0_5),.cells 0 [.int .i64 0,.int .i64 0,.str [],.ds true [] 0 true,.ds true [] 0 true],.cells 0 [.int .i64 3,.int .i64 0,.str [],.os true 2 3 v7 0 (qa l6) false,.ds true [] 0 true],.cells v7 (qb zx l6)]:zf)∧y2=p13++q13∧x8=(qa p13:Int)∧yl.l13 yU a2 q13 x8 m0_5 l6=some r) _ ⟨[],y2,0,a0,([]:List zp),0,rfl,rfl,rfl,rfl,rfl,h⟩ .s ?_;rintro m L τ ⟨p13,q13,x8,m0_5,l6,v7,rfl,rfl,rfl,hE13,hi13,h⟩
 rcases q13 with _|⟨y13,q13⟩
 · have hz13:=yH hE13 hi13;simp only[yl.l13] at h;refine rgW [0,2,6,7,20,21,22,23] hz13 ?_
   refine za fun Z14 hZ14=>?_
   refine zD rfl ?_;apply zJ;apply hZ1;refine O [6] ?_;apply yE;cases h;simp only[Yk,xg,xw,wu,exists_eq_left',go_sem,qg,qe,zb];refine⟨by decide,by simp,?_,?_⟩
   · first|rfl|(simp only[go_sem,reduceCtorEq,push_cast,if_true,qw,ql,qy,qq,qv,qz,qu,zL]<;>rfl)
   first|rfl|(simp only[go_sem,push_cast,qy,qq,qv,qz,qu,zL]<;>rfl)
 obtain⟨hz13,hw13,hx13,hE'13,hi'13⟩:=yo hE13 hi13 hb13;simp only[yl.l13] at h;refine rgW [0,2,6,7,20,21,22,23] hz13 ?_
 refine za fun Z15 hZ15=>?_
 refine zE rfl ?_;apply zg;apply hZ15;refine we (fun L τ=>∃ (m0_16:yc) (l17:List zp) (v18:Nat),L=[(0,.op 0 0 0),(2,.dp (zO a2) 0),(6,.op 1 0 0),(7,.op 2 0 0),(20,.ds true (qb yW y2) (qa y2) false),(21,.int .i64 (qa y2:Int)),(22,.int .i64 x8)]∧τ=([.cells 0 (yx m0_16),.cells 0 [.int .i64 0,.int .i64 0,.str [],.ds true [] 0 true,.ds true [] 0 true],.cells 0 [.int .i64 3,.int .i64 0,.str [],.os true 2 3 v18 0 (qa l17) false,.ds true [] 0 true],.cells v18 (qb zx l17)]:zf)∧yl.j19 x8 (yl.l13 yU a2 q13) m0_16 l17=some r) ?_ ?_
 · apply zj;have f20:=E246.idxS hx13;have f21:=E246.loadS rfl rfl hx13;refine rgW [0,2,6,7,9,20,21,22] (aI @yW.eq_1 (aI f20 f21)) ?_;refine O [0,2,6,7,9,20,21,22] ?_
   refine rc [0,2,6,7,9,10,20,21,22] fun K J=>?_
   obtain⟨r22,hr22,h⟩:=bind_some h;refine κ 3 ?_;refine clN rfl rfl rfl ((wp.ok hr22).c _) ?_;refine κ 1 ?_;refine nkN J ?_
   refine za fun Z23 hZ23=>?_
   refine O [0,2,6,7,9,10,20,21,22,39] ?_;refine zR rfl (fun hc24=>?_) (fun hc24=>?_)
   · rw[if_pos hc24] at h;have t25:=eq_true hc24;apply zJ;exact⟨_,_,⟨(⟨m0_5.fp,IntKind.i64.wrap (m0_5.flooks+1)⟩:yc),l6,v7,rfl,rfl,h⟩,(.t [0,1,2,3] false)⟩
   rw[if_neg hc24] at h;have t26:=eq_false hc24;apply zg;apply hZ23
   refine rc [0,2,6,7,9,11,20,21,22] fun K J=>?_
   obtain⟨r27,hr27,h⟩:=bind_some h;refine rnW 3 t26 ?_;refine clN rfl rfl rfl (@id (ACalls qf 237 [.op 0 0 0,.agg (yW y13),.ds true (qb zn r22) (qa r22) false] [.cells 0 [.ds true (qb (vaz yW) m0_5.fp.fParts) (qa m0_5.fp.fParts) false,.int .i64 (IntKind.i64.wrap (m0_5.flooks+1))],.cells 0 [.int .i64 0,.int .i64 0,.str [],.ds true [] 0 true,.ds true [] 0 true],.cells 0 [.int .i64 3,.int .i64 0,.str [],.os true 2 3 v7 0 (qa l6) false,.ds true [] 0 true],.cells v7 (qb zx l6),.cells 0 [.int .i64 y13.fOp,.int .i64 y13.fTag,.int .i64 y13.fSub]] (fun r' σ'=>r'=.ds true (qb ya r27.1) (qa r27.1) false∧σ'=[.cells 0 (yx r27.2),.cells 0 [.int .i64 0,.int .i64 0,.str [],.ds true [] 0 true,.ds true [] 0 true],.cells 0 [.int .i64 3,.int .i64 0,.str [],.os true 2 3 v7 0 (qa l6) false,.ds true [] 0 true],.cells v7 (qb zx l6),.cells 0 [.int .i64 y13.fOp,.int .i64 y13.fTag,.int .i64 y13.fSub]])) ((vaD (⟨m0_5.fp,IntKind.i64.wrap (m0_5.flooks+1)⟩:yc) y13 r22 r27 hr27).i [0])) ?_;refine κ 1 ?_;refine nkN J ?_;refine O [0,2,6,7,9,11,20,21,22,46] ?_;refine zR rfl (fun hc28=>?_) (fun hc28=>?_)
   · rw[if_pos hc28] at h;have t29:=eq_true hc28;obtain⟨_u30,hu30,h⟩:=bind_some h;have gu30:=yR hu30;have f31:=(zU E34.len l6)
     refine rgE U [0,2,6,7,20,21,22] fun K J=>?_
     simp only[go_sem,qd,qg,qc,qe,qj,reduceCtorEq,zM,yz,qV,qL,true_and,q5,yG,yf,yJ,t29,gu30,f31,yZ,qW,qQ,AV.one,qD,qC,qk,qp,ql,qK];apply J
     exact⟨_,_,⟨r27.2,l6++[(⟨y13.fTag,r27.1⟩:zp)],v7+1,rfl,rfl,h⟩,(.t [0,1,2,3] false)⟩
   rw[if_neg hc28] at h;have t32:=eq_false hc28;apply zg;exact⟨_,_,⟨r27.2,l6,v7,rfl,rfl,h⟩,(.t [0,1,2,3] false)⟩
 rintro _ _ ⟨m0_16,l17,v18,rfl,rfl,h⟩;unfold yl.j19 at h
 refine rgE U [0,2,6,7,20,21,22] fun K J=>?_
 simp only[go_sem,qd,qc,reduceCtorEq,hw13];apply J
 exact⟨_,_,_,qo q13.length,⟨p13++[y13],q13,x8+1,m0_16,l17,v18,rfl,rfl,rfl,hE'13,hi'13,h⟩,.s⟩
def yK.j26 (x8:Int)(l6:List zi)(rec12:Int→List zi→Option (List zi×yc))(r19:zi)(x25:Bool):Option (List zi×yc):=
 (if x25=true then none else (vao (qa l6+1) 80).bind fun _u28=>(rec12 (x8+1) (l6++[r19])))
def yK.l12 (a0:yc)(a1:Ya):List zt→Int→List zi→Option (List zi×yc)
 |[],x8,l6=>some (l6,a0)
 |y12::q12,x8,l6=>(xB yp y12).bind fun r19=>(var y12).bind fun r21=>(if a1.fOp=2 then none else (if a1.fOp=3 then (yK.j26 x8 l6 (yK.l12 a0 a1 q12) r19 (decide (a1.fOp=3))) else (yK.j26 x8 l6 (yK.l12 a0 a1 q12) r19 false)))
def yK.body (wU:yc→Int→yA→Option (zi×yc))(yU:yc→Ya→(List zt)→Option (List zi×yc))(a0:yc)(a1:Ya)(a2:List zt):Option (List zi×yc):=
 (if a1.fOp=4 then none else (yK.l12 a0 a1 a2 0 ([]:List zi)))
theorem yK.step (wU:yc→Int→yA→Option (zi×yc))(yU:yc→Ya→(List zt)→Option (List zi×yc))(vcH:∀ (a0:yc) (a1:Int) (a2:yA) (r:zi×yc),wU a0 a1 a2=some r→ACalls qf 199 [.op 0 0 0,.int .i64 a1,.dp (zO a2) 0] [.cells 0 (yx a0)] (fun r' σ'=>r'=.agg (zb r.1)∧σ'=[.cells 0 (yx r.2)]))(vaD:∀ (a0:yc) (a1:Ya) (a2:List zt) (r:List zi×yc),yU a0 a1 a2=some r→ACalls qf 237 [.op 0 0 0,.agg (yW a1),.ds true (qb zn a2) (qa a2) false] [.cells 0 (yx a0)] (fun r' σ'=>r'=.ds true (qb ya r.1) (qa r.1) false∧σ'=[.cells 0 (yx r.2)]))(a0:yc)(a1:Ya)(a2:List zt)(r:List zi×yc)(h:yK.body wU yU a0 a1 a2=some r):ACalls qf 237 [.op 0 0 0,.agg (yW a1),.ds true (qb zn a2) (qa a2) false] [.cells 0 (yx a0)] (fun r' σ'=>r'=.ds true (qb ya r.1) (qa r.1) false∧σ'=[.cells 0 (yx r.2)]):=by
 refine ZH [0] (rs:=[.tmp 6]) U Tryz.func237 rfl Tryz.ntmps237 rfl Tryz.call237 (by simp) rfl ?_;refine zu [(0,.op 0 0 0),(1,.agg (yW a1)),(2,.ds true (qb zn a2) (qa a2) false)] ⟨rfl,rfl,rfl,trivial⟩ ?_;unfold yK.body at h;refine rgW [0,2,4] @yW.eq_1 ?_;refine O [0,2,4,7] ?_;refine YA 7 5 rfl ?_;refine yX (L:=[(0,.op 0 0 0),(2,.ds true (qb zn a2) (qa a2) false),(4,.op 1 0 0),(7,.os true 5 2 0 0 (qa ([]:List zi)) false)]) (τ:=[.cells 0 (yx a0),.cells 0 [.int .i64 a1.fOp,.int .i64 a1.fTag,.int .i64 a1.fSub],.cells 0 (qb ya ([]:List zi))]) .s ?_
 refine za fun Z1 hZ1=>?_
 refine O [0,2,4,7,18] ?_;refine zR rfl (fun hc2=>?_) (fun hc2=>?_)
 · rw[if_pos hc2] at h;have t3:=eq_true hc2;cases h
 rw[if_neg hc2] at h;have t4:=eq_false hc2;apply zg;apply hZ1
 refine za fun Z5 hZ5=>?_
 refine rgW [0,4,7,24,25,26] t4 ?_;apply zj
 refine xq 24 fun hb12=>?_
 replace hb12:qa a2≤9223372036854775807:=hb12.1;refine zG (fun m L τ=>∃ (p12 q12:List zt) (x8:Int) (l6:List zi) (v7:Nat),m=qa q12∧L=[(0,.op 0 0 0),(4,.op 1 0 0),(7,.os true 5 2 v7 0 (qa l6) false),(24,.ds true (qb zn a2) (qa a2) false),(25,.int .i64 (qa a2:Int)),(26,.int .i64 x8)]∧τ=([.cells 0 (yx a0),.cells 0 [.int .i64 a1.fOp,.int .i64 a1.fTag,.int .i64 a1.fSub],.cells v7 (qb ya l6)]:zf)∧a2=p12++q12∧x8=(qa p12:Int)∧yK.l12 a0 a1 q12 x8 l6=some r) _ ⟨[],a2,0,([]:List zi),0,rfl,rfl,rfl,rfl,rfl,h⟩ .s ?_;rintro m L τ ⟨p12,q12,x8,l6,v7,rfl,rfl,rfl,hE12,hi12,h⟩
 rcases q12 with _|⟨y12,q12⟩
 · have hz12:=yH hE12 hi12;simp only[yK.l12] at h;refine rgW [0,4,7,24,25,26,27] hz12 ?_
   refine za fun Z13 hZ13=>?_
   refine zD rfl ?_;apply zJ;apply hZ5;refine O [6] ?_;apply yE;cases h;simp only[Yk,xg,xw,wu,exists_eq_left',go_sem,qe];refine⟨by decide,by simp,?_,?_⟩
   · first|rfl|(simp only[go_sem,reduceCtorEq,push_cast,if_true,qw,ql,zL]<;>rfl)
   first|rfl|(simp only[go_sem,push_cast,qy,qq,qv,qz,qu,zL]<;>rfl)
 obtain⟨hz12,hw12,hx12,hE'12,hi'12⟩:=yo hE12 hi12 hb12;simp only[yK.l12] at h;refine rgW [0,4,7,24,25,26,27] hz12 ?_
 refine za fun Z14 hZ14=>?_
 refine zE rfl ?_;apply zg;apply hZ14
 refine za fun Z15 hZ15=>?_
 apply zj;have f16:=E282.idxS hx12;have f17:=E282.loadS rfl rfl hx12;have f18:=Xb y12;unfold AV.one at f18;refine rgW [0,4,7,9,24,25,26] (aI @zn.eq_1 (aI f16 (aI f17 f18))) ?_
 refine rc [0,4,7,9,10,24,25,26] fun K J=>?_
 obtain⟨r19,hr19,h⟩:=bind_some h;refine κ 1 ?_;refine clN rfl rfl rfl (xB.ev yp y12 r19 hr19 _) ?_;refine rnW 2 @zb.eq_1 ?_;refine nkN J ?_
 refine za fun Z20 hZ20=>?_
 refine rc [0,4,7,10,11,24,25,26] fun K J=>?_
 obtain⟨r21,hr21,h⟩:=bind_some h;refine κ 1 ?_;refine clN rfl rfl rfl ((var.ok hr21).c _) ?_;refine κ 1 ?_;refine nkN J ?_;refine O [0,4,7,10,11,24,25,26,35] ?_;apply zj;refine O [0,4,7,10,11,24,25,26,35,36] ?_;refine zR rfl (fun hc22=>?_) (fun hc22=>?_)
 · rw[if_pos hc22] at h;have t23:=eq_true hc22;cases h
 rw[if_neg hc22] at h;have t24:=eq_false hc22;refine we (fun L τ=>∃ (x25:Bool),L=[(0,.op 0 0 0),(4,.op 1 0 0),(7,.os true 5 2 v7 0 (qa l6) false),(10,.op 3 0 0),(11,anyV r21),(24,.ds true (qb zn a2) (qa a2) false),(25,.int .i64 (qa a2:Int)),(26,.int .i64 x8),(48,.bool x25)]∧τ=([.cells 0 (yx a0),.cells 0 [.int .i64 a1.fOp,.int .i64 a1.fTag,.int .i64 a1.fSub],.cells v7 (qb ya l6),.cells 0 (zb r19)]:zf)∧yK.j26 x8 l6 (yK.l12 a0 a1 q12) r19 x25=some r) ?_ ?_
 · refine rgW [0,4,7,10,11,24,25,26,35,48] t24 ?_;refine zR rfl (fun hc30=>?_) (fun hc30=>?_)
   · rw[if_pos hc30] at h;have t31:=eq_true hc30;apply zg;exact⟨_,_,⟨decide (a1.fOp=3),rfl,rfl,h⟩,(.t [0,1,2,4] false)⟩
   rw[if_neg hc30] at h;have t32:=eq_false hc30
   refine rgE U [0,4,7,10,11,24,25,26,48] fun K J=>?_
   simp only[go_sem,qd,qc,reduceCtorEq,t4,t32];apply J
   exact⟨_,_,⟨false,rfl,rfl,h⟩,(.t [0,1,2,4] false)⟩
 rintro _ _ ⟨x25,rfl,rfl,h⟩;unfold yK.j26 at h;refine zB (b:=x25) rfl (fun hc27=>?_) (fun hc27=>?_)
 · rw[if_pos hc27] at h;cases h
 rw[wn hc27] at h;apply zg;apply hZ20;obtain⟨_u28,hu28,h⟩:=bind_some h;have gu28:=yR hu28;have f29:=(zU E38.len l6)
 refine rgE U [0,4,7,24,25,26] fun K J=>?_
 simp only[go_sem,qd,qg,qc,qe,qj,reduceCtorEq,zM,yz,qV,qL,true_and,q5,yG,yf,yJ,gu28,f29,yZ,qW,qQ,AV.one,qD,qC,qk,qp,ql,qK];apply J
 apply hZ15
 refine rgE U [0,4,7,24,25,26] fun K J=>?_
 simp only[go_sem,qd,qc,reduceCtorEq,hw12];apply J
 exact⟨_,_,_,qo q12.length,⟨p12++[y12],q12,x8+1,l6++[r19],v7+1,rfl,rfl,rfl,hE'12,hi'12,h⟩,(.t [0,1,2] false)⟩
mutual
def yl : Nat→yc→Int→yA→Option (zi×yc)
 |0,_,_,_=>none
 |k+1,a0,a1,a2=>yl.body (yl k) (yK k) a0 a1 a2
def yK : Nat→yc→Ya→(List zt)→Option (List zi×yc)
 |0,_,_,_=>none
 |k+1,a0,a1,a2=>yK.body (yl k) (yK k) a0 a1 a2
end
theorem yl.all (k:Nat):(∀ (a0:yc) (a1:Int) (a2:yA) (r:zi×yc),yl k a0 a1 a2=some r→ACalls qf 199 [.op 0 0 0,.int .i64 a1,.dp (zO a2) 0] [.cells 0 (yx a0)] (fun r' σ'=>r'=.agg (zb r.1)∧σ'=[.cells 0 (yx r.2)]))∧(∀ (a0:yc) (a1:Ya) (a2:List zt) (r:List zi×yc),yK k a0 a1 a2=some r→ACalls qf 237 [.op 0 0 0,.agg (yW a1),.ds true (qb zn a2) (qa a2) false] [.cells 0 (yx a0)] (fun r' σ'=>r'=.ds true (qb ya r.1) (qa r.1) false∧σ'=[.cells 0 (yx r.2)])):=by
 induction k with
 |zero=>exact⟨(fun a0 a1 a2 r h=>by simp only[yl] at h; cases h),(fun a0 a1 a2 r h=>by simp only[yK] at h; cases h)⟩
 |succ k ih=>exact⟨(fun a0 a1 a2 r h=>yl.step _ _ ih.1 ih.2 a0 a1 a2 r (by simpa only [yl] using h)),(fun a0 a1 a2 r h=>yK.step _ _ ih.1 ih.2 a0 a1 a2 r (by simpa only [yK] using h))⟩
theorem yl.ok {k a0 a1 a2 r}(h:yl k a0 a1 a2=some r):ACalls qf 199 [.op 0 0 0,.int .i64 a1,.dp (zO a2) 0] [.cells 0 (yx a0)] (fun r' σ'=>r'=.agg (zb r.1)∧σ'=[.cells 0 (yx r.2)]):=(yl.all k).1 a0 a1 a2 r h
def XZ (a0:wE)(a1:zi):Option (zi×Int×Int):=
 (wD a0).bind fun r2=>(if ((!r2)||(!(decide (a1.fKind=3))))=true then none else (vbb a1).bind fun r4=>(if (!r4.2)=true then none else (wT r4.1).bind fun r8=>(yl yp (⟨a0,0⟩:yc) 0 r8).bind fun r9=>some (r9.1,r9.2.flooks,0)))
theorem XZ.ok {a0 a1 r}(h:XZ a0 a1=some r):ACalls qf 152 [.agg (yr a0),.agg (zb a1)] [] (fun r' _=>r'=.tup [.agg (zb r.1),.int .i64 r.2.1,.int .i64 r.2.2]):=by
 refine zk (rs:=[.cell 4 37,.tmp 5,.tmp 6]) U Tryz.func152 rfl Tryz.ntmps152 rfl Tryz.call152 (by simp) ?_;refine zu [(0,.agg (yr a0)),(1,.agg (zb a1))] ⟨rfl,rfl,trivial⟩ ?_;unfold XZ at h;refine rgW [2,3,4] (aI @zb.eq_1 @yr.eq_1) ?_
 refine za fun Z1 hZ1=>?_
 refine rc [2,3,4,18] fun K J=>?_
 obtain⟨r2,hr2,h⟩:=bind_some h;refine κ 1 ?_;refine clN rfl rfl rfl ((wD.ok hr2).c _) ?_;refine κ 2 ?_;refine cut (b:=(!r2)) (hb:=boolP_eq _) 4 14 18 [2,3,4] ((!r2)||(!(decide (a1.fKind=3)))) @yr.eq_1 rfl ?_;refine nkN J ?_;refine zB (b:=((!r2)||(!(decide (a1.fKind=3))))) rfl (fun hc3=>?_) (fun hc3=>?_)
 · rw[if_pos hc3] at h;cases h
 rw[wn hc3] at h;apply zg;apply hZ1
 refine rc [2,4,7,8] fun K J=>?_
 obtain⟨r4,hr4,h⟩:=bind_some h;refine rnW 1 @zb.eq_1 ?_;refine clN rfl rfl rfl ((vbb.ok hr4).c _) ?_;have f5:=Xb r4.1;unfold AV.one at f5;refine rnW 6 (aI @zn.eq_1 f5) ?_;refine nkN J ?_
 refine za fun Z6 hZ6=>?_
 refine O [2,4,7,26] ?_;refine zB (b:=(!r4.2)) rfl (fun hc7=>?_) (fun hc7=>?_)
 · rw[if_pos hc7] at h;cases h
 rw[wn hc7] at h;apply zg;apply hZ6;refine O [4,7,9] ?_
 refine rc [4,9,10] fun K J=>?_
 obtain⟨r8,hr8,h⟩:=bind_some h;refine κ 2 ?_;refine clN rfl rfl rfl ((wT.ok hr8).c _) ?_;obtain⟨r9,hr9,h⟩:=bind_some h;refine clN rfl rfl rfl (@id (ACalls qf 199 [.op 4 0 0,.int .i64 0,.dp (zO r8) 0] [.cells 0 (yr a0),.cells 0 (zb a1),.cells 0 [.int .i64 0,.int .i64 0,.str [],.ds true [] 0 true,.ds true [] 0 true],.cells 0 [vdC r4.1],.cells 0 [.ds true (qb (vaz yW) a0.fParts) (qa a0.fParts) false,.int .i64 0]] (fun r' σ'=>r'=.agg (zb r9.1)∧σ'=[.cells 0 (yr a0),.cells 0 (zb a1),.cells 0 [.int .i64 0,.int .i64 0,.str [],.ds true [] 0 true,.ds true [] 0 true],.cells 0 [vdC r4.1],.cells 0 (yx r9.2)])) ((yl.ok hr9).i [4])) ?_;refine rnW 2 @zb.eq_1 ?_;refine nkN J ?_
 refine rd [4,5,6] fun K J=>?_
 refine DW.start (T:=tab) [.at [],.any,.any,.any,.own 1 [2],.eff,.any,.any] [(1,[2])] ?_;refine DW.runN U 8 ?_;simp only[go_sem,qd,qg,qc,qe,reduceCtorEq,zb];refine DW.fin U (by decide +kernel) rfl ?_;simp only[zq,upd,qc,reduceIte,yD,xj];apply J
 cases h;exact rtA
def XO (a0:wE)(a1:zi):Option (zi×Int):=
 (XZ a0 a1).bind fun r1=>some (r1.1,r1.2.2)
theorem XO.ok {a0 a1 r}(h:XO a0 a1=some r):ACalls qf 100 [.agg (yr a0),.agg (zb a1)] [] (fun r' _=>r'=.tup [.agg (zb r.1),.int .i64 r.2]):=by
 refine zk (rs:=[.cell 4 37,.tmp 5]) U Tryz.func100 rfl Tryz.ntmps100 rfl Tryz.call100 (by simp) ?_;refine zu [(0,.agg (yr a0)),(1,.agg (zb a1))] ⟨rfl,rfl,trivial⟩ ?_;unfold XO at h;refine rgW [2,3,4] (aI @zb.eq_1 @yr.eq_1) ?_
 refine rc [4,6,8] fun K J=>?_
 obtain⟨r1,hr1,h⟩:=bind_some h;refine rnW 2 @zb.eq_1 ?_;refine clN rfl rfl rfl ((XZ.ok hr1).c _) ?_;refine rnW 8 @zb.eq_1 ?_;refine nkN J ?_;refine O [4,5] ?_;cases h;exact rtA
def XB (a0:zm)(a1:List UInt8)(a2:List UInt8):Option (zi×Int):=
 (zZ a0).bind fun r2=>(if r2=0 then bnd (zP a0 a1) fun r6=>(if (!r6.2)=true then none else (yB yp a0 r6.1 a2 1).bind fun r9=>some (r9.1,r9.2)) else none)
theorem XB.ok {a0 a1 a2 r}(h:XB a0 a1 a2=some r):ACalls qf 98 [.agg (zd a0),.str a1,.ds true (qb XD a2) (qa a2) false] [] (fun r' _=>r'=.tup [.agg (zb r.1),.int .i64 r.2]):=by
 refine zk (rs:=[.cell 6 37,.tmp 7]) U Tryz.func98 rfl Tryz.ntmps98 rfl Tryz.call98 (by simp) ?_;refine zu [(0,.agg (zd a0)),(1,.str a1),(2,.ds true (qb XD a2) (qa a2) false)] ⟨rfl,rfl,rfl,trivial⟩ ?_;unfold XB at h;refine rgW [1,2,3,6] @zd.eq_1 ?_
 refine za fun Z1 hZ1=>?_
 refine rc [1,2,3,6,12] fun K J=>?_
 obtain⟨r2,hr2,h⟩:=bind_some h;refine κ 1 ?_;refine clN rfl rfl rfl ((zZ.ok hr2).c _) ?_;refine κ 1 ?_;refine nkN J ?_;refine zR rfl (fun hc3=>?_) (fun hc3=>?_)
 · rw[if_neg hc3] at h;have t4:=eq_false hc3;cases h
 rw[if_pos hc3] at h;have t5:=eq_true hc3;apply zg;apply hZ1
 refine rc [2,3,6,8,9] fun K J=>?_
 obtain⟨r6,hr6,h⟩:=yb h;refine rnW 2 t5 ?_;refine clN rfl rfl rfl ((zP.ok hr6).c _) ?_;refine rnW 6 @ze.eq_1 ?_;refine nkN J ?_
 refine za fun Z7 hZ7=>?_
 refine O [2,3,6,8,21] ?_;refine zB (b:=(!r6.2)) rfl (fun hc8=>?_) (fun hc8=>?_)
 · rw[if_pos hc8] at h;cases h
 rw[wn hc8] at h;apply zg;apply hZ7
 refine rc [6,7] fun K J=>?_
 obtain⟨r9,hr9,h⟩:=bind_some h;refine κ 3 ?_;refine clN rfl rfl rfl (yB.ev yp a0 r6.1 a2 1 r9 hr9 _) ?_;refine rnW 4 @zb.eq_1 ?_;refine nkN J ?_;cases h;exact rtA
def Xg (a0:Int):Int:=
 (if 2147483647<(if a0<(-2147483648) then (-2147483648) else a0) then 2147483647 else (if a0<(-2147483648) then (-2147483648) else a0))
theorem Xg.ok {a0 r}(h:Xg a0=r):ACalls qf 21 [.int .i64 a0] [] (fun r' _=>r'=.int .i64 r):=by
 refine zk (rs:=[.tmp 2]) U Tryz.func21 rfl Tryz.ntmps21 rfl Tryz.call21 (by simp) ?_;refine zu [(0,.int .i64 a0)] ⟨rfl,trivial⟩ ?_;unfold Xg at h;refine O [0] ?_
 refine rg U [2] fun K J=>?_
 simp only[go_sem,qd,qc,reduceCtorEq,vbo,vdv,vb6,vb5];apply J
 cases h;exact rtA
def yF.l18 (xX:zi→Int→Option Int)(a1:Int)(x7:Int)(rec10:Int→Int→Option Int):List zi→Int→Int→Option Int
 |[],x15,x14=>(rec10 (x7+1) x14)
 |y18::q18,x15,x14=>(xX y18 (IntKind.i64.wrap (a1+1))).bind fun r30=>((yF.l18 xX a1 x7 rec10 q18) (x15+1) (if x14<r30 then r30 else x14))
def yF.l10 (xX:zi→Int→Option Int)(a1:Int):List zp→Int→Int→Option Int
 |[],x7,x6=>some (if 101<IntKind.i64.wrap (x6+1) then 101 else IntKind.i64.wrap (x6+1))
 |y10::q10,x7,x6=>(yF.l18 xX a1 x7 (yF.l10 xX a1 q10) y10.fTrees 0 x6)
def yF.body (xX:zi→Int→Option Int)(a0:zi)(a1:Int):Option Int:=
 (if ((!(decide (a0.fKind=3)))||(decide (100<a1)))=true then some 0 else (yF.l10 xX a1 a0.fEntries 0 0))
theorem yF.step (xX:zi→Int→Option Int)(ih_ref09_depth:∀ (a0:zi) (a1:Int) (r:Int),xX a0 a1=some r→ACalls qf 153 [.agg (zb a0),.int .i64 a1] [] (fun r' _=>r'=.int .i64 r))(a0:zi)(a1:Int)(r:Int)(h:yF.body xX a0 a1=some r):ACalls qf 153 [.agg (zb a0),.int .i64 a1] [] (fun r' _=>r'=.int .i64 r):=by
 have ev_ref09_depth:=fun a0 a1 r h σ=>(ih_ref09_depth a0 a1 r h).c σ
 refine zk (rs:=[.tmp 4]) U Tryz.func153 rfl Tryz.ntmps153 rfl Tryz.call153 (by simp) ?_;refine zu [(0,.agg (zb a0)),(1,.int .i64 a1)] ⟨rfl,rfl,trivial⟩ ?_;unfold yF.body at h;refine rgW [1,2] @zb.eq_1 ?_
 refine za fun Z1 hZ1=>?_
 refine rc [1,2,14] fun K J=>?_
 refine κ 4 ?_;refine cut 3 11 14 [1,2] ((!(decide (a0.fKind=3)))||(decide (100<a1))) qF rfl ?_;refine nkN J ?_;refine zB (b:=((!(decide (a0.fKind=3)))||(decide (100<a1)))) rfl (fun hc4=>?_) (fun hc4=>?_)
 · rw[if_pos hc4] at h;refine O [4] ?_;cases h;exact rtA
 rw[wn hc4] at h;apply zg;apply hZ1;refine O [1,2,5] ?_
 refine za fun Z5 hZ5=>?_
 refine O [1,2,5,6] ?_;apply zj
 refine xT 0 rfl fun hb10=>?_
 replace hb10:qa a0.fEntries≤9223372036854775807:=hb10.2.2.2.1.1;refine zG (fun m L τ=>∃ (p10 q10:List zp) (x7:Int) (x6:Int),m=qa q10∧L=[(1,.int .i64 a1),(2,.op 0 0 0),(5,.int .i64 x6),(6,.int .i64 x7)]∧τ=([.cells 0 (zb a0)]:zf)∧a0.fEntries=p10++q10∧x7=(qa p10:Int)∧yF.l10 xX a1 q10 x7 x6=some r) _ ⟨[],a0.fEntries,0,0,rfl,rfl,rfl,rfl,rfl,h⟩ .s ?_;rintro m L τ ⟨p10,q10,x7,x6,rfl,rfl,rfl,hE10,hi10,h⟩
 rcases q10 with _|⟨y10,q10⟩
 · have hz10:=yH hE10 hi10;simp only[yF.l10] at h
   refine za fun Z11 hZ11=>?_
   refine rgW [1,2,5,6,19] hz10 ?_;refine zD rfl ?_;apply zJ;apply hZ5
   refine rg U [4] fun K J=>?_
   simp only[go_sem,qd,qc,vbo,vdv,vb5];apply J
   cases h;exact rtA
 obtain⟨hz10,hw10,hx10,hE'10,hi'10⟩:=yo hE10 hi10 hb10;simp only[yF.l10] at h
 refine za fun Z12 hZ12=>?_
 refine rgW [1,2,5,6,19] hz10 ?_;refine zE rfl ?_;apply zg;apply hZ12
 refine za fun Z13 hZ13=>?_
 apply zj;refine O [1,2,5,6,7] ?_;apply zj
 refine xT 0 rfl fun hb18=>?_
 replace hb18:=vbJ hb18.2.2.2.1.2 hx10;rw[yh] at hb18;replace hb18:qa y10.fTrees≤9223372036854775807:=hb18.2.1.1;refine zG (fun m L τ=>∃ (p18 q18:List zi) (x15:Int) (x14:Int),m=qa q18∧L=[(1,.int .i64 a1),(2,.op 0 0 0),(5,.int .i64 x14),(6,.int .i64 x7),(7,.int .i64 x15)]∧τ=([.cells 0 (zb a0)]:zf)∧y10.fTrees=p18++q18∧x15=(qa p18:Int)∧yF.l18 xX a1 x7 (yF.l10 xX a1 q10) q18 x15 x14=some r) _ ⟨[],y10.fTrees,0,x6,rfl,rfl,rfl,rfl,rfl,h⟩ .s ?_;rintro m L τ ⟨p18,q18,x15,x14,rfl,rfl,rfl,hE18,hi18,h⟩
 rcases q18 with _|⟨y18,q18⟩
 · have hz18:=yH hE18 hi18;simp only[yF.l18] at h
   refine za fun Z19 hZ19=>?_
   have f20:=E34.idxS hx10;have f21:=E34.fldS (f:=38) rfl rfl hx10 (o:=1) (by decide);refine rgW [1,2,5,6,7,30] (aI @zK.eq_1 (aI @yh (aI hz18 (aI f20 f21)))) ?_;refine zD rfl ?_;apply zJ;apply hZ13
   refine rgE U [1,2,5,6] fun K J=>?_
   simp only[go_sem,qd,qc,hw10];apply J
   exact⟨_,_,_,qo q10.length,⟨p10++[y10],q10,x7+1,x14,rfl,rfl,rfl,hE'10,hi'10,h⟩,.s⟩
 obtain⟨hz18,hw18,hx18,hE'18,hi'18⟩:=yo hE18 hi18 hb18;simp only[yF.l18] at h
 refine za fun Z22 hZ22=>?_
 have f23:=E34.idxS hx10;have f24:=E34.fldS (f:=38) rfl rfl hx10 (o:=1) (by decide);refine rgW [1,2,5,6,7,30] (aI @zK.eq_1 (aI @yh (aI hz18 (aI f23 f24)))) ?_;refine zE rfl ?_;apply zg;apply hZ22
 refine za fun Z25 hZ25=>?_
 apply zj
 refine rcE [1,2,5,6,7] fun K J=>?_
 have f26:=E34.idxS hx10;have f27:=E34.fldS (f:=38) rfl rfl hx10 (o:=1) (by decide);have f28:=E38.idxS hx18;have f29:=E38.loadS rfl rfl hx18;obtain⟨r30,hr30,h⟩:=bind_some h;refine rnW 10 (aI @zK.eq_1 (aI @zb.eq_1 (aI @yh (aI @yC (aI f26 (aI f27 (aI f28 f29))))))) ?_;refine κ 2 ?_;refine clN rfl rfl rfl (ev_ref09_depth y18 (IntKind.i64.wrap (a1+1)) r30 hr30 _) ?_;refine xO U 2 ?_;simp only[go_sem,qd,qc,vbo,vdv,vb6];refine nkN J ?_;apply hZ25
 refine rgE U [1,2,5,6,7] fun K J=>?_
 simp only[go_sem,qd,qc,hw18];apply J
 exact⟨_,_,_,qo q18.length,⟨p18++[y18],q18,x15+1,(if x14<r30 then r30 else x14),rfl,rfl,rfl,hE'18,hi'18,h⟩,.s⟩
def yF : Nat→zi→Int→Option Int
 |0,_,_=>none
 |k+1,a0,a1=>yF.body (yF k) a0 a1
theorem yF.all (k:Nat):(∀ (a0:zi) (a1:Int) (r:Int),yF k a0 a1=some r→ACalls qf 153 [.agg (zb a0),.int .i64 a1] [] (fun r' _=>r'=.int .i64 r)):=by
 induction k with
 |zero=>exact (fun a0 a1 r h=>by simp only[yF] at h; cases h)
 |succ k ih=>exact (fun a0 a1 r h=>yF.step _ ih a0 a1 r (by simpa only [yF] using h))
theorem yF.ev (k:Nat)(a0:zi)(a1:Int)(r:Int)(h:yF k a0 a1=some r)(σ:zf):ACalls qf 153 [.agg (zb a0),.int .i64 a1] σ (fun r' σ'=>r'=.int .i64 r∧σ'=σ):=
 ((yF.all k) a0 a1 r h).c σ
def Xh (a0:zi):Option Int:=
 (yF yp a0 0).bind fun r1=>some r1
theorem Xh.ok {a0 r}(h:Xh a0=some r):ACalls qf 101 [.agg (zb a0)] [] (fun r' _=>r'=.int .i64 r):=by
 refine zk (rs:=[.tmp 2]) U Tryz.func101 rfl Tryz.ntmps101 rfl Tryz.call101 (by simp) ?_;refine zu [(0,.agg (zb a0))] ⟨rfl,trivial⟩ ?_;unfold Xh at h;refine rgW [1] @zb.eq_1 ?_
 refine rc [2] fun K J=>?_
 obtain⟨r1,hr1,h⟩:=bind_some h;refine κ 1 ?_;refine clN rfl rfl rfl (yF.ev yp a0 0 r1 hr1 _) ?_;refine κ 1 ?_;refine nkN J ?_;cases h;exact rtA
def Xj (a0:xF):Bool:=
 (if ((decide (a0.fTag<1))||(decide (500<a0.fTag)))=true then false else (if a0.fWire=0 then decide (a0.fB=[]) else (((decide (a0.fWire=1))&&(decide (a0.fN=0)))&&(decide ((qa a0.fB:Int)≤4096)))))
theorem Xj.ok {a0 r}(h:Xj a0=r):ACalls qf 157 [.agg (zA a0)] [] (fun r' _=>r'=.bool r):=by
 refine zk (rs:=[.tmp 2]) U Tryz.func157 rfl Tryz.ntmps157 rfl Tryz.call157 (by simp) ?_;refine zu [(0,.agg (zA a0))] ⟨rfl,trivial⟩ ?_;unfold Xj at h;refine rgW [1] @zA.eq_1 ?_
 refine za fun Z1 hZ1=>?_
 refine rc [1,10] fun K J=>?_
 refine κ 4 ?_;refine cut 4 6 10 [1] ((decide (a0.fTag<1))||(decide (500<a0.fTag))) qF rfl ?_;refine nkN J ?_;refine zB (b:=((decide (a0.fTag<1))||(decide (500<a0.fTag)))) rfl (fun hc4=>?_) (fun hc4=>?_)
 · rw[if_pos hc4] at h;refine O [2] ?_;cases h;exact rtA
 rw[wn hc4] at h;apply zg;apply hZ1
 refine za fun Z5 hZ5=>?_
 refine O [1,13] ?_;refine zR rfl (fun hc6=>?_) (fun hc6=>?_)
 · rw[if_pos hc6] at h;have t7:=eq_true hc6;refine rgW [2] t7 ?_;cases h;exact rtA
 rw[if_neg hc6] at h;have t8:=eq_false hc6;apply zg;apply hZ5
 refine rc [2] fun K J=>?_
 refine rnW 4 t8 ?_;refine cut 4 20 24 [1] ((decide (a0.fWire=1))&&(decide (a0.fN=0))) t8 rfl ?_;refine κ 1 ?_;refine cut (b:=((decide (a0.fWire=1))&&(decide (a0.fN=0)))) (hb:=boolP_eq _) 5 25 30 [] (((decide (a0.fWire=1))&&(decide (a0.fN=0)))&&(decide ((qa a0.fB:Int)≤4096))) t8 rfl ?_;refine κ 1 ?_;refine nkN J ?_;cases h;exact rtA
def ZU.l4 (a1:Int):List zp→Int→Bool
 |[],x2=>false
 |y4::q4,x2=>(if y4.fTag=a1 then true else ((ZU.l4 a1 q4) (x2+1)))
def ZU (a0:zi)(a1:Int):Bool:=
 (ZU.l4 a1 a0.fEntries 0)
theorem ZU.ok {a0 a1 r}(h:ZU a0 a1=r):ACalls qf 200 [.agg (zb a0),.int .i64 a1] [] (fun r' _=>r'=.bool r):=by
 refine zk (rs:=[.tmp 4]) U Tryz.func200 rfl Tryz.ntmps200 rfl Tryz.call200 (by simp) ?_;refine zu [(0,.agg (zb a0)),(1,.int .i64 a1)] ⟨rfl,rfl,trivial⟩ ?_;unfold ZU at h;refine rgW [1,2] @zb.eq_1 ?_
 refine za fun Z1 hZ1=>?_
 refine O [1,2,5] ?_;apply zj
 refine xT 0 rfl fun hb4=>?_
 replace hb4:qa a0.fEntries≤9223372036854775807:=hb4.2.2.2.1.1;refine zG (fun m L τ=>∃ (p4 q4:List zp) (x2:Int),m=qa q4∧L=[(1,.int .i64 a1),(2,.op 0 0 0),(5,.int .i64 x2)]∧τ=([.cells 0 (zb a0)]:zf)∧a0.fEntries=p4++q4∧x2=(qa p4:Int)∧ZU.l4 a1 q4 x2=r) _ ⟨[],a0.fEntries,0,rfl,rfl,rfl,rfl,rfl,h⟩ .s ?_;rintro m L τ ⟨p4,q4,x2,rfl,rfl,rfl,hE4,hi4,h⟩
 rcases q4 with _|⟨y4,q4⟩
 · have hz4:=yH hE4 hi4;simp only[ZU.l4] at h
   refine za fun Z5 hZ5=>?_
   refine rgW [1,2,5,10] hz4 ?_;refine zD rfl ?_;apply zJ;apply hZ1;refine O [4] ?_;cases h;exact rtA
 obtain⟨hz4,hw4,hx4,hE'4,hi'4⟩:=yo hE4 hi4 hb4;simp only[ZU.l4] at h
 refine za fun Z6 hZ6=>?_
 refine rgW [1,2,5,10] hz4 ?_;refine zE rfl ?_;apply zg;apply hZ6
 refine za fun Z7 hZ7=>?_
 apply zj;have f8:=E34.idxS hx4;have f9:=E34.fldS0 (f:=3) rfl rfl hx4;refine rgW [1,2,5,20] (aI @zK.eq_1 (aI @yh (aI f8 f9))) ?_;refine zR rfl (fun hc10=>?_) (fun hc10=>?_)
 · rw[if_pos hc10] at h;have t11:=eq_true hc10;refine rgW [4] t11 ?_;cases h;exact rtA
 rw[if_neg hc10] at h;have t12:=eq_false hc10;apply zg;apply hZ7
 refine rgE U [1,2,5] fun K J=>?_
 simp only[go_sem,qd,qc,hw4,t12];apply J
 exact⟨_,_,_,qo q4.length,⟨p4++[y4],q4,x2+1,rfl,rfl,rfl,hE'4,hi'4,h⟩,.s⟩
def Zf.l4 (a0:List xF):Nat→Int→Option Bool
 |0,_=>none
 |k4+1,x2=>(if x2<(qa a0:Int) then (Yl a0 x2).bind fun y9=>(Yl a0 (IntKind.i64.wrap (x2-1))).bind fun y12=>(if y9.fTag<y12.fTag then some false else ((Zf.l4 a0 k4) (IntKind.i64.wrap (x2+1)))) else some true)
def Zf (a0:List xF):Option Bool:=
 (Zf.l4 a0 yp 1)
theorem Zf.ok {a0 r}(h:Zf a0=some r):ACalls qf 201 [.ds true (qb zA a0) (qa a0) false] [] (fun r' _=>r'=.bool r):=by
 refine zk (rs:=[.tmp 2]) U Tryz.func201 rfl Tryz.ntmps201 rfl Tryz.call201 (by simp) ?_;refine zu [(0,.ds true (qb zA a0) (qa a0) false)] ⟨rfl,trivial⟩ ?_;unfold Zf at h;refine O [0] ?_
 refine za fun Z1 hZ1=>?_
 refine O [0,3] ?_;apply zj;refine zG (fun m L τ=>∃ (k4:Nat) (x2:Int),m=0+k4∧L=[(0,.ds true (qb zA a0) (qa a0) false),(3,.int .i64 x2)]∧τ=([]:zf)∧Zf.l4 a0 k4 x2=some r) _ ⟨yp,1,rfl,rfl,rfl,h⟩ .s ?_;rintro m L τ ⟨k4,x2,rfl,rfl,rfl,h⟩
 rcases k4 with _|k4
 · cases h
 simp only[Zf.l4] at h
 refine za fun Z5 hZ5=>?_
 refine O [0,3,7] ?_;refine zR rfl (fun hc6=>?_) (fun hc6=>?_)
 · rw[if_pos hc6] at h;have t7:=eq_true hc6;apply zg;apply hZ5
   refine za fun Z8 hZ8=>?_
   apply zj;obtain⟨y9,hy9,h⟩:=bind_some h;have f10:=E35.idxS hy9;have f11:=E35.fldS0 (f:=3) rfl rfl hy9;obtain⟨y12,hy12,h⟩:=bind_some h;have f13:=E35.idxS hy12;have f14:=E35.fldS0 (f:=3) rfl rfl hy12
   refine rd [0,3,21] fun K J=>?_
   refine DW.start (T:=tab) [.any,.any,.any,.any,.at [],.any,.any,.any,.any,.any,.at [],.any] [] ?_;refine DW.runN U 8 ?_;simp only[go_sem,qd,qc,reduceCtorEq,zA,t7,f10,f11];refine DW.runN U 4 ?_;simp only[go_sem,qd,qc,reduceCtorEq,zA,f13,f14];refine DW.fin U (by decide +kernel) rfl ?_;simp only[zq,upd,qc,reduceIte,yD,xj];apply J
   refine zR rfl (fun hc15=>?_) (fun hc15=>?_)
   · rw[if_pos hc15] at h;have t16:=eq_true hc15;refine rgW [2] t16 ?_;cases h;exact rtA
   rw[if_neg hc15] at h;have t17:=eq_false hc15;apply zg;apply hZ8
   refine rgE U [0,3] fun K J=>?_
   simp only[go_sem,qd,qc,reduceCtorEq,t17];apply J
   exact⟨_,_,_,qo (0+k4),⟨k4,IntKind.i64.wrap (x2+1),rfl,rfl,rfl,h⟩,.s⟩
 rw[if_neg hc6] at h;have t18:=eq_false hc6;apply zJ;apply hZ1;refine rgW [2] t18 ?_;cases h;exact rtA
end
section
set_option maxRecDepth 4000
set_option maxHeartbeats 1000000
open AM
def wm.j10 (x2:Int)(rec4:Int→Option Bool)(x9:Bool):Option Bool:=
 (if x9=true then some false else (rec4 (x2+1)))
def wm.l4 (a0:zi):List xF→Int→Option Bool
 |[],x2=>(Zf a0.fRest).bind fun r6=>some r6
 |y4::q4,x2=>bnd (Xj y4) fun r14=>(if (!r14)=true then (wm.j10 x2 (wm.l4 a0 q4) true) else bnd (ZU a0 y4.fTag) fun r17=>(wm.j10 x2 (wm.l4 a0 q4) r17))
def wm (a0:zi):Option Bool:=
 (wm.l4 a0 a0.fRest 0)
theorem wm.ok {a0 r}(h:wm a0=some r):ACalls qf 155 [.agg (zb a0)] [] (fun r' _=>r'=.bool r):=by
 refine zk (rs:=[.tmp 2]) U Tryz.func155 rfl Tryz.ntmps155 rfl Tryz.call155 (by simp) ?_;refine zu [(0,.agg (zb a0))] ⟨rfl,trivial⟩ ?_;unfold wm at h;refine rgW [1] @zb.eq_1 ?_
 refine za fun Z1 hZ1=>?_
 refine O [1,3] ?_;apply zj
 refine xT 0 rfl fun hb4=>?_
 replace hb4:qa a0.fRest≤9223372036854775807:=hb4.2.2.2.2.1.1;refine zG (fun m L τ=>∃ (p4 q4:List xF) (x2:Int),m=qa q4∧L=[(1,.op 0 0 0),(3,.int .i64 x2)]∧τ=([.cells 0 (zb a0)]:zf)∧a0.fRest=p4++q4∧x2=(qa p4:Int)∧wm.l4 a0 q4 x2=some r) _ ⟨[],a0.fRest,0,rfl,rfl,rfl,rfl,rfl,h⟩ .s ?_;rintro m L τ ⟨p4,q4,x2,rfl,rfl,rfl,hE4,hi4,h⟩
 rcases q4 with _|⟨y4,q4⟩
 · have hz4:=yH hE4 hi4;simp only[wm.l4] at h
   refine za fun Z5 hZ5=>?_
   refine rgW [1,3,8] hz4 ?_;refine zD rfl ?_;apply zJ;apply hZ1
   refine rc [2] fun K J=>?_
   obtain⟨r6,hr6,h⟩:=bind_some h;refine κ 2 ?_;refine clN rfl rfl rfl ((Zf.ok hr6).c _) ?_;refine κ 1 ?_;refine nkN J ?_;cases h;exact rtA
 obtain⟨hz4,hw4,hx4,hE'4,hi'4⟩:=yo hE4 hi4 hb4;simp only[wm.l4] at h
 refine za fun Z7 hZ7=>?_
 refine rgW [1,3,8] hz4 ?_;refine zE rfl ?_;apply zg;apply hZ7
 refine za fun Z8 hZ8=>?_
 apply zj;refine we (fun L τ=>∃ (x9:Bool),L=[(1,.op 0 0 0),(3,.int .i64 x2),(27,.bool x9)]∧τ=([.cells 0 (zb a0)]:zf)∧wm.j10 x2 (wm.l4 a0 q4) x9=some r) ?_ ?_
 · refine rdE [1,3,27] fun K J=>?_
   refine DW.start (T:=tab) [.any,.at [],.any,.any,.at [],.eff,.any,.any,.at [],.any,.at [],.any,.any,.any,.at [],.eff,.any] [] ?_;have f12:=E35.idxS hx4;have f13:=E35.loadS rfl rfl hx4;obtain⟨r14,hr14,h⟩:=yb h;refine DW.runN U 5 ?_;simp only[go_sem,qd,qc,qe,zA,f12,f13];refine DW.call rfl rfl rfl ((Xj.ok hr14).c _) ?_;refine DW.runN U 2 ?_;simp only[go_sem,qd,qc];refine DW.at (b:=(!r14)) 18 rfl (fun hg18=>?_) (fun hg18=>?_)
   · rw[if_pos hg18] at h;refine DW.runN U 8 ?_;simp only[go_sem,qd,qc];refine DW.runN U 1 ?_;simp only[go_sem,qd,qc];refine DW.fin U (by decide +kernel) rfl ?_;simp only[zq,upd,qc,reduceIte,yD,xj];apply J
     exact⟨_,_,⟨true,rfl,rfl,h⟩,.s⟩
   rw[wn hg18] at h;have f15:=E35.idxS hx4;have f16:=E35.fldS0 (f:=3) rfl rfl hx4;obtain⟨r17,hr17,h⟩:=yb h;refine DW.runN U 7 ?_;simp only[go_sem,qd,qg,qc,qe,zA,f15,f16];refine DW.call rfl rfl rfl ((ZU.ok hr17).c _) ?_;refine DW.runN U 1 ?_;simp only[go_sem,qd,qc];refine DW.fin U (by decide +kernel) rfl ?_;simp only[zq,upd,qc,reduceIte,yD,xj];apply J
   exact⟨_,_,⟨r17,rfl,rfl,h⟩,.s⟩
 rintro _ _ ⟨x9,rfl,rfl,h⟩;unfold wm.j10 at h;refine zB (b:=x9) rfl (fun hc11=>?_) (fun hc11=>?_)
 · rw[if_pos hc11] at h;refine O [2] ?_;cases h;exact rtA
 rw[wn hc11] at h;apply zg;apply hZ8
 refine rgE U [1,3] fun K J=>?_
 simp only[go_sem,qd,qc,hw4];apply J
 exact⟨_,_,_,qo q4.length,⟨p4++[y4],q4,x2+1,rfl,rfl,rfl,hE'4,hi'4,h⟩,.s⟩
def xU.body (yT:zi→Option Bool)(wY:(List zp)→Option Bool)(a0:zi):Option Bool:=
 (if a0.fKind=1 then some (((decide (a0.fS=[]))&&(decide ((qa a0.fEntries:Int)=0)))&&(decide ((qa a0.fRest:Int)=0))) else (if a0.fKind=2 then some (((decide (a0.fN=0))&&(decide ((qa a0.fEntries:Int)=0)))&&(decide ((qa a0.fRest:Int)=0))) else (if a0.fKind=3 then (if ((decide (a0.fN=0))&&(decide (a0.fS=[])))=true then (wY a0.fEntries).bind fun r16=>some r16 else some false).bind fun c16=>(if c16=true then (wm a0).bind fun r18=>some r18 else some false).bind fun c18=>some c18 else some false)))
theorem xU.step (yT:zi→Option Bool)(wY:(List zp)→Option Bool)(vaK:∀ (a0:zi) (r:Bool),yT a0=some r→ACalls qf 102 [.agg (zb a0)] [] (fun r' _=>r'=.bool r))(X4:∀ (a0:List zp) (r:Bool),wY a0=some r→ACalls qf 154 [.ds true (qb zx a0) (qa a0) false] [] (fun r' _=>r'=.bool r))(a0:zi)(r:Bool)(h:xU.body yT wY a0=some r):ACalls qf 102 [.agg (zb a0)] [] (fun r' _=>r'=.bool r):=by
 have ev_ref09_check:=fun a0 r h σ=>(vaK a0 r h).c σ
 have ev_ref09_entries:=fun a0 r h σ=>(X4 a0 r h).c σ
 refine zk (rs:=[.tmp 2]) U Tryz.func102 rfl Tryz.ntmps102 rfl Tryz.call102 (by simp) ?_;refine zu [(0,.agg (zb a0))] ⟨rfl,trivial⟩ ?_;unfold xU.body at h;refine rgW [1] @zb.eq_1 ?_
 refine za fun Z1 hZ1=>?_
 refine O [1,4] ?_;apply zj;refine O [1,4,5] ?_;refine zR rfl (fun hc2=>?_) (fun hc2=>?_)
 · rw[if_pos hc2] at h;have t3:=eq_true hc2
   refine rc [2] fun K J=>?_
   refine rnW 4 t3 ?_;refine cut 5 10 15 [1] ((decide (a0.fS=[]))&&(decide ((qa a0.fEntries:Int)=0))) t3 rfl ?_;refine κ 1 ?_;refine cut (b:=((decide (a0.fS=[]))&&(decide ((qa a0.fEntries:Int)=0)))) (hb:=boolP_eq _) 5 16 21 [] (((decide (a0.fS=[]))&&(decide ((qa a0.fEntries:Int)=0)))&&(decide ((qa a0.fRest:Int)=0))) t3 rfl ?_;refine κ 1 ?_;refine nkN J ?_;cases h;exact rtA
 rw[if_neg hc2] at h;have t6:=eq_false hc2;refine rgW [1,4,22] t6 ?_;refine zR rfl (fun hc7=>?_) (fun hc7=>?_)
 · rw[if_pos hc7] at h;have t8:=eq_true hc7
   refine rc [2] fun K J=>?_
   refine rnW 4 t8 ?_;refine cut 5 27 32 [1] ((decide (a0.fN=0))&&(decide ((qa a0.fEntries:Int)=0))) (aI t6 t8) rfl ?_;refine κ 1 ?_;refine cut (b:=((decide (a0.fN=0))&&(decide ((qa a0.fEntries:Int)=0)))) (hb:=boolP_eq _) 5 33 38 [] (((decide (a0.fN=0))&&(decide ((qa a0.fEntries:Int)=0)))&&(decide ((qa a0.fRest:Int)=0))) (aI t6 t8) rfl ?_;refine κ 1 ?_;refine nkN J ?_;cases h;exact rtA
 rw[if_neg hc7] at h;have t11:=eq_false hc7;refine rgW [1,39] t11 ?_;refine zR rfl (fun hc12=>?_) (fun hc12=>?_)
 · rw[if_pos hc12] at h;have t13:=eq_true hc12
   refine rc [2] fun K J=>?_
   refine rnW 4 t13 ?_;refine cut 4 44 48 [1] ((decide (a0.fN=0))&&(decide (a0.fS=[]))) (aI t6 (aI t11 t13)) rfl ?_;refine κ 1 ?_;obtain⟨c16,hc16,h⟩:=bind_some h;refine yv 4 (fun L τ=>L=[(1,.op 0 0 0),(53,.bool c16)]∧τ=([.cells 0 (zb a0)]:zf)) ?_ ?_
   · refine xm (b:=((decide (a0.fN=0))&&(decide (a0.fS=[])))) 49 rfl (fun hg49=>?_) (fun hg49=>?_)
     · rw[if_pos hg49] at hc16;obtain⟨r17,hr17,hc16⟩:=bind_some hc16;refine κ 2 ?_;refine clN rfl rfl rfl (ev_ref09_entries a0.fEntries r17 hr17 _) ?_;refine κ 1 ?_;cases hc16;refine zl ⟨rfl,_,_,⟨rfl,rfl⟩,.b hg49⟩
     rw[wn hg49] at hc16;refine κ 4 ?_;cases hc16;refine zl ⟨rfl,_,_,⟨rfl,rfl⟩,.b hg49⟩
   rintro _ _ ⟨rfl,rfl⟩;refine κ 1 ?_;obtain⟨c18,hc18,h⟩:=bind_some h;refine yv 3 (fun L τ=>L=[(57,.bool c18)]∧τ=([.cells 0 (zb a0)]:zf)) ?_ ?_
   · refine xm (b:=c16) 54 rfl (fun hg54=>?_) (fun hg54=>?_)
     · rw[if_pos hg54] at hc18;obtain⟨r19,hr19,hc18⟩:=bind_some hc18;refine κ 1 ?_;refine clN rfl rfl rfl ((wm.ok hr19).c _) ?_;refine κ 1 ?_;cases hc18;refine zl ⟨rfl,_,_,⟨rfl,rfl⟩,.b hg54⟩
     rw[wn hg54] at hc18;refine κ 3 ?_;cases hc18;refine zl ⟨rfl,_,_,⟨rfl,rfl⟩,.b hg54⟩
   rintro _ _ ⟨rfl,rfl⟩;refine κ 1 ?_;refine nkN J ?_;cases h;exact rtA
 rw[if_neg hc12] at h;have t20:=eq_false hc12;apply zg;apply hZ1;refine rgW [2] t20 ?_;cases h;exact rtA
def ye.j23 (x16:Int)(rec18:Int→Option Bool)(x22:Bool):Option Bool:=
 (if x22=true then some false else (rec18 (x16+1)))
def ye.l18 (yT:zi→Option Bool)(x3:Int)(rec6:Int→Int→Option Bool)(y6:zp):List zi→Int→Option Bool
 |[],x16=>(rec6 (x3+1) y6.fTag)
 |y18::q18,x16=>(Yl y6.fTrees 0).bind fun y27=>(if y18.fKind=y27.fKind then (yT y18).bind fun r34=>(ye.j23 x16 (ye.l18 yT x3 rec6 y6 q18) (!r34)) else (ye.j23 x16 (ye.l18 yT x3 rec6 y6 q18) true))
def ye.l6 (yT:zi→Option Bool):List zp→Int→Int→Option Bool
 |[],x3,x2=>some true
 |y6::q6,x3,x2=>(if ((((decide (y6.fTag≤x2))||(decide (500<y6.fTag)))||(decide ((qa y6.fTrees:Int)<1)))||(decide (64<(qa y6.fTrees:Int))))=true then some false else (ye.l18 yT x3 (ye.l6 yT q6) y6 y6.fTrees 0))
def ye.body (yT:zi→Option Bool)(wY:(List zp)→Option Bool)(a0:List zp):Option Bool:=
 (ye.l6 yT a0 0 0)
theorem ye.step (yT:zi→Option Bool)(wY:(List zp)→Option Bool)(vaK:∀ (a0:zi) (r:Bool),yT a0=some r→ACalls qf 102 [.agg (zb a0)] [] (fun r' _=>r'=.bool r))(X4:∀ (a0:List zp) (r:Bool),wY a0=some r→ACalls qf 154 [.ds true (qb zx a0) (qa a0) false] [] (fun r' _=>r'=.bool r))(a0:List zp)(r:Bool)(h:ye.body yT wY a0=some r):ACalls qf 154 [.ds true (qb zx a0) (qa a0) false] [] (fun r' _=>r'=.bool r):=by
 have ev_ref09_check:=fun a0 r h σ=>(vaK a0 r h).c σ
 have ev_ref09_entries:=fun a0 r h σ=>(X4 a0 r h).c σ
 refine zk (rs:=[.tmp 2]) U Tryz.func154 rfl Tryz.ntmps154 rfl Tryz.call154 (by simp) ?_;refine zu [(0,.ds true (qb zx a0) (qa a0) false)] ⟨rfl,trivial⟩ ?_;unfold ye.body at h;refine O [0] ?_;refine O [0,3] ?_
 refine za fun Z1 hZ1=>?_
 refine O [0,3,4] ?_;apply zj
 refine xq 0 fun hb6=>?_
 replace hb6:qa a0≤9223372036854775807:=hb6.1;refine zG (fun m L τ=>∃ (p6 q6:List zp) (x3:Int) (x2:Int),m=qa q6∧L=[(0,.ds true (qb zx a0) (qa a0) false),(3,.int .i64 x2),(4,.int .i64 x3)]∧τ=([]:zf)∧a0=p6++q6∧x3=(qa p6:Int)∧ye.l6 yT q6 x3 x2=some r) _ ⟨[],a0,0,0,rfl,rfl,rfl,rfl,rfl,h⟩ .s ?_;rintro m L τ ⟨p6,q6,x3,x2,rfl,rfl,rfl,hE6,hi6,h⟩
 rcases q6 with _|⟨y6,q6⟩
 · have hz6:=yH hE6 hi6;simp only[ye.l6] at h
   refine za fun Z7 hZ7=>?_
   refine rgW [0,3,4,10] hz6 ?_;refine zD rfl ?_;apply zJ;apply hZ1;refine O [2] ?_;cases h;exact rtA
 obtain⟨hz6,hw6,hx6,hE'6,hi'6⟩:=yo hE6 hi6 hb6;simp only[ye.l6] at h
 refine za fun Z8 hZ8=>?_
 refine rgW [0,3,4,10] hz6 ?_;refine zE rfl ?_;apply zg;apply hZ8
 refine za fun Z9 hZ9=>?_
 apply zj;have f10:=E34.idxS hx6;have f11:=E34.loadS rfl rfl hx6;refine rgW [0,3,4,5] (aI @zK.eq_1 (aI @yh (aI f10 f11))) ?_
 refine za fun Z12 hZ12=>?_
 refine rc [0,4,5,37] fun K J=>?_
 refine κ 5 ?_;refine cut 4 21 25 [0,4,5] ((decide (y6.fTag≤x2))||(decide (500<y6.fTag))) (aI hz6 hw6) rfl ?_;refine κ 1 ?_;refine cut (b:=((decide (y6.fTag≤x2))||(decide (500<y6.fTag)))) (hb:=boolP_eq _) 5 26 31 [0,4,5] (((decide (y6.fTag≤x2))||(decide (500<y6.fTag)))||(decide ((qa y6.fTrees:Int)<1))) (aI hz6 hw6) rfl ?_;refine κ 1 ?_;refine cut (b:=(((decide (y6.fTag≤x2))||(decide (500<y6.fTag)))||(decide ((qa y6.fTrees:Int)<1)))) (hb:=boolP_eq _) 5 32 37 [0,5,4] ((((decide (y6.fTag≤x2))||(decide (500<y6.fTag)))||(decide ((qa y6.fTrees:Int)<1)))||(decide (64<(qa y6.fTrees:Int)))) (aI hz6 hw6) rfl ?_;refine nkN J ?_;refine zB (b:=((((decide (y6.fTag≤x2))||(decide (500<y6.fTag)))||(decide ((qa y6.fTrees:Int)<1)))||(decide (64<(qa y6.fTrees:Int))))) rfl (fun hc15=>?_) (fun hc15=>?_)
 · rw[if_pos hc15] at h;refine O [2] ?_;cases h;exact rtA
 rw[wn hc15] at h;apply zg;apply hZ12;refine O [0,3,4,5] ?_;refine O [0,3,4,5,6] ?_;apply zj
 refine xT 0 rfl fun hb18=>?_
 replace hb18:qa y6.fTrees≤9223372036854775807:=hb18.2.1.1;refine zG (fun m L τ=>∃ (p18 q18:List zi) (x16:Int),m=qa q18∧L=[(0,.ds true (qb zx a0) (qa a0) false),(3,.int .i64 y6.fTag),(4,.int .i64 x3),(5,.op 0 0 0),(6,.int .i64 x16)]∧τ=([.cells 0 (zK y6)]:zf)∧y6.fTrees=p18++q18∧x16=(qa p18:Int)∧ye.l18 yT x3 (ye.l6 yT q6) y6 q18 x16=some r) _ ⟨[],y6.fTrees,0,rfl,rfl,rfl,rfl,rfl,h⟩ .s ?_;rintro m L τ ⟨p18,q18,x16,rfl,rfl,rfl,hE18,hi18,h⟩
 rcases q18 with _|⟨y18,q18⟩
 · have hz18:=yH hE18 hi18;simp only[ye.l18] at h
   refine za fun Z19 hZ19=>?_
   refine rgW [0,3,4,5,6,44] hz18 ?_;refine zD rfl ?_;apply zJ;apply hZ9
   refine rgE U [0,3,4] fun K J=>?_
   simp only[go_sem,qd,qc,reduceCtorEq,hw6];apply J
   exact⟨_,_,_,qo q6.length,⟨p6++[y6],q6,x3+1,y6.fTag,rfl,rfl,rfl,hE'6,hi'6,h⟩,(.t [] false)⟩
 obtain⟨hz18,hw18,hx18,hE'18,hi'18⟩:=yo hE18 hi18 hb18;simp only[ye.l18] at h
 refine za fun Z20 hZ20=>?_
 refine rgW [0,3,4,5,6,44] hz18 ?_;refine zE rfl ?_;apply zg;apply hZ20
 refine za fun Z21 hZ21=>?_
 apply zj;refine we (fun L τ=>∃ (x22:Bool),L=[(0,.ds true (qb zx a0) (qa a0) false),(3,.int .i64 y6.fTag),(4,.int .i64 x3),(5,.op 0 0 0),(6,.int .i64 x16),(67,.bool x22)]∧τ=([.cells 0 (zK y6)]:zf)∧ye.j23 x16 (ye.l18 yT x3 (ye.l6 yT q6) y6 q18) x22=some r) ?_ ?_
 · refine rdE [0,3,4,5,6,67] fun K J=>?_
   refine DW.start (T:=tab) [.any,.at [],.any,.any,.any,.at [],.any,.at [],.any,.any,.at [],.any,.any,.any,.at [],.any,.any,.at [],.eff,.any,.any] [] ?_;have f25:=E38.idxS hx18;have f26:=E38.fldS0 (f:=3) rfl rfl hx18;obtain⟨y27,hy27,h⟩:=bind_some h;have f28:=E38.idxS hy27;have f29:=E38.fldS0 (f:=3) rfl rfl hy27;refine DW.runN U 8 ?_;simp only[go_sem,qd,qc,qe,reduceCtorEq,zb,yC,f25,f26];refine DW.runN U 5 ?_;simp only[go_sem,qd,qc,reduceCtorEq,zb,yC,f28,f29]
   refine DW.if 59 rfl (fun hg59=>?_) (fun hg59=>?_)
   · rw[if_neg hg59] at h;have t30:=eq_false hg59;refine DW.runN U 8 ?_;simp only[go_sem,qd,qc,reduceCtorEq,t30];refine DW.fin U (by decide +kernel) rfl ?_;simp only[zq,upd,qc,reduceIte,yD,xj];apply J
     exact⟨_,_,⟨true,rfl,rfl,h⟩,.s⟩
   rw[if_pos hg59] at h;have t31:=eq_true hg59;have f32:=E38.idxS hx18;have f33:=E38.loadS rfl rfl hx18;obtain⟨r34,hr34,h⟩:=bind_some h;refine DW.runN U 5 ?_;simp only[go_sem,qd,qc,qe,reduceCtorEq,zb,yC,t31,f32,f33];refine DW.call rfl rfl rfl (ev_ref09_check y18 r34 hr34 _) ?_;refine DW.runN U 2 ?_;simp only[go_sem,qd,qc,reduceCtorEq];refine DW.fin U (by decide +kernel) rfl ?_;simp only[zq,upd,qc,reduceIte,yD,xj];apply J
   exact⟨_,_,⟨!r34,rfl,rfl,h⟩,.s⟩
 rintro _ _ ⟨x22,rfl,rfl,h⟩;unfold ye.j23 at h;refine zB (b:=x22) rfl (fun hc24=>?_) (fun hc24=>?_)
 · rw[if_pos hc24] at h;refine O [2] ?_;cases h;exact rtA
 rw[wn hc24] at h;apply zg;apply hZ21
 refine rgE U [0,3,4,5,6] fun K J=>?_
 simp only[go_sem,qd,qc,reduceCtorEq,hw18];apply J
 exact⟨_,_,_,qo q18.length,⟨p18++[y18],q18,x16+1,rfl,rfl,rfl,hE'18,hi'18,h⟩,.s⟩
mutual
def xU : Nat→zi→Option Bool
 |0,_=>none
 |k+1,a0=>xU.body (xU k) (ye k) a0
def ye : Nat→(List zp)→Option Bool
 |0,_=>none
 |k+1,a0=>ye.body (xU k) (ye k) a0
end
theorem xU.all (k:Nat):(∀ (a0:zi) (r:Bool),xU k a0=some r→ACalls qf 102 [.agg (zb a0)] [] (fun r' _=>r'=.bool r))∧(∀ (a0:List zp) (r:Bool),ye k a0=some r→ACalls qf 154 [.ds true (qb zx a0) (qa a0) false] [] (fun r' _=>r'=.bool r)):=by
 induction k with
 |zero=>exact⟨(fun a0 r h=>by simp only[xU] at h; cases h),(fun a0 r h=>by simp only[ye] at h; cases h)⟩
 |succ k ih=>exact⟨(fun a0 r h=>xU.step _ _ ih.1 ih.2 a0 r (by simpa only [xU] using h)),(fun a0 r h=>ye.step _ _ ih.1 ih.2 a0 r (by simpa only [ye] using h))⟩
theorem xU.ev (k:Nat)(a0:zi)(r:Bool)(h:xU k a0=some r)(σ:zf):ACalls qf 102 [.agg (zb a0)] σ (fun r' σ'=>r'=.bool r∧σ'=σ):=
 ((xU.all k).1 a0 r h).c σ
def Xi (a0:zi):Option Bool:=
 (Xh a0).bind fun r1=>(if r1≤10 then (xU yp a0).bind fun r2=>some r2 else some false).bind fun c2=>some c2
theorem Xi.ok {a0 r}(h:Xi a0=some r):ACalls qf 66 [.agg (zb a0)] [] (fun r' _=>r'=.bool r):=by
 refine zk (rs:=[.tmp 2]) U Tryz.func66 rfl Tryz.ntmps66 rfl Tryz.call66 (by simp) ?_;refine zu [(0,.agg (zb a0))] ⟨rfl,trivial⟩ ?_;unfold Xi at h;refine rgW [1] @zb.eq_1 ?_
 refine rc [2] fun K J=>?_
 obtain⟨r1,hr1,h⟩:=bind_some h;refine κ 1 ?_;refine clN rfl rfl rfl ((Xh.ok hr1).c _) ?_;refine κ 2 ?_;obtain⟨c2,hc2,h⟩:=bind_some h;refine yv 3 (fun L τ=>L=[(9,.bool c2)]∧τ=([.cells 0 (zb a0)]:zf)) ?_ ?_
 · refine Yz 6 rfl (fun hg6=>?_) (fun hg6=>?_)
   · have t3:=eq_true hg6;rw[if_pos hg6] at hc2;obtain⟨r4,hr4,hc2⟩:=bind_some hc2;refine κ 1 ?_;refine clN rfl rfl rfl (xU.ev yp a0 r4 hr4 _) ?_;refine κ 1 ?_;cases hc2;refine zl ⟨rfl,_,_,⟨rfl,rfl⟩,.p t3⟩
   have t5:=eq_false hg6;rw[if_neg hg6] at hc2;refine κ 3 ?_;cases hc2;refine zl ⟨rfl,_,_,⟨rfl,rfl⟩,.p t5⟩
 rintro _ _ ⟨rfl,rfl⟩;refine κ 1 ?_;refine nkN J ?_;cases h;exact rtA
def zW.l28 (xC:zi→zi→Option Bool)(x11:Int)(rec13:Int→Option Bool)(y19:zp):List zi→Int→Option Bool
 |[],x26=>(rec13 (x11+1))
 |y28::q28,x26=>(Yl y19.fTrees x26).bind fun y34=>(xC y28 y34).bind fun r37=>(if (!r37)=true then some false else ((zW.l28 xC x11 rec13 y19 q28) (x26+1)))
def zW.l13 (xC:zi→zi→Option Bool)(a1:zi):List zp→Int→Option Bool
 |[],x11=>some true
 |y13::q13,x11=>(Yl a1.fEntries x11).bind fun y19=>(if ((!(decide (y13.fTag=y19.fTag)))||(!(decide ((qa y13.fTrees:Int)=(qa y19.fTrees:Int)))))=true then some false else (zW.l28 xC x11 (zW.l13 xC a1 q13) y19 y13.fTrees 0))
def zW.l8 (xC:zi→zi→Option Bool)(a0:zi)(a1:zi):List xF→Int→Option Bool
 |[],x6=>(zW.l13 xC a1 a0.fEntries 0)
 |y8::q8,x6=>(Yl a1.fRest x6).bind fun y43=>(if (!(decide (y8.fTag=y43.fTag)&&(decide (y8.fWire=y43.fWire)&&(decide (y8.fN=y43.fN)&&decide (y8.fB=y43.fB)))))=true then some false else ((zW.l8 xC a0 a1 q8) (x6+1)))
def zW.body (xC:zi→zi→Option Bool)(a0:zi)(a1:zi):Option Bool:=
 (if (((((!(decide (a0.fKind=a1.fKind)))||(!(decide (a0.fN=a1.fN))))||(!(decide (a0.fS=a1.fS))))||(!(decide ((qa a0.fEntries:Int)=(qa a1.fEntries:Int)))))||(!(decide ((qa a0.fRest:Int)=(qa a1.fRest:Int)))))=true then some false else (zW.l8 xC a0 a1 a0.fRest 0))
theorem zW.step (xC:zi→zi→Option Bool)(ih_ref09_Same:∀ (a0:zi) (a1:zi) (r:Bool),xC a0 a1=some r→ACalls qf 23 [.agg (zb a0),.agg (zb a1)] [] (fun r' _=>r'=.bool r))(a0:zi)(a1:zi)(r:Bool)(h:zW.body xC a0 a1=some r):ACalls qf 23 [.agg (zb a0),.agg (zb a1)] [] (fun r' _=>r'=.bool r):=by
 have ev_ref09_Same:=fun a0 a1 r h σ=>(ih_ref09_Same a0 a1 r h).c σ
 refine zk (rs:=[.tmp 4]) U Tryz.func23 rfl Tryz.ntmps23 rfl Tryz.call23 (by simp) ?_;refine zu [(0,.agg (zb a0)),(1,.agg (zb a1))] ⟨rfl,rfl,trivial⟩ ?_;unfold zW.body at h;refine rgW [2,3] @zb.eq_1 ?_
 refine za fun Z1 hZ1=>?_
 refine rc [2,3,46] fun K J=>?_
 refine κ 6 ?_;refine cut 6 15 21 [2,3] ((!(decide (a0.fKind=a1.fKind)))||(!(decide (a0.fN=a1.fN)))) qF rfl ?_;refine κ 1 ?_;refine cut (b:=((!(decide (a0.fKind=a1.fKind)))||(!(decide (a0.fN=a1.fN))))) (hb:=boolP_eq _) 6 22 28 [2,3] (((!(decide (a0.fKind=a1.fKind)))||(!(decide (a0.fN=a1.fN))))||(!(decide (a0.fS=a1.fS)))) qF rfl ?_;refine κ 1 ?_;refine cut (b:=(((!(decide (a0.fKind=a1.fKind)))||(!(decide (a0.fN=a1.fN))))||(!(decide (a0.fS=a1.fS))))) (hb:=boolP_eq _) 8 29 37 [2,3] ((((!(decide (a0.fKind=a1.fKind)))||(!(decide (a0.fN=a1.fN))))||(!(decide (a0.fS=a1.fS))))||(!(decide ((qa a0.fEntries:Int)=(qa a1.fEntries:Int))))) qF rfl ?_;refine κ 1 ?_;refine cut (b:=((((!(decide (a0.fKind=a1.fKind)))||(!(decide (a0.fN=a1.fN))))||(!(decide (a0.fS=a1.fS))))||(!(decide ((qa a0.fEntries:Int)=(qa a1.fEntries:Int)))))) (hb:=boolP_eq _) 8 38 46 [2,3] (((((!(decide (a0.fKind=a1.fKind)))||(!(decide (a0.fN=a1.fN))))||(!(decide (a0.fS=a1.fS))))||(!(decide ((qa a0.fEntries:Int)=(qa a1.fEntries:Int)))))||(!(decide ((qa a0.fRest:Int)=(qa a1.fRest:Int))))) qF rfl ?_;refine nkN J ?_;refine zB (b:=(((((!(decide (a0.fKind=a1.fKind)))||(!(decide (a0.fN=a1.fN))))||(!(decide (a0.fS=a1.fS))))||(!(decide ((qa a0.fEntries:Int)=(qa a1.fEntries:Int)))))||(!(decide ((qa a0.fRest:Int)=(qa a1.fRest:Int)))))) rfl (fun hc4=>?_) (fun hc4=>?_)
 · rw[if_pos hc4] at h;refine O [4] ?_;cases h;exact rtA
 rw[wn hc4] at h;apply zg;apply hZ1
 refine za fun Z5 hZ5=>?_
 refine O [2,3,5] ?_;apply zj
 refine xT 0 rfl fun hb8=>?_
 replace hb8:qa a0.fRest≤9223372036854775807:=hb8.2.2.2.2.1.1;refine zG (fun m L τ=>∃ (p8 q8:List xF) (x6:Int),m=qa q8∧L=[(2,.op 0 0 0),(3,.op 1 0 0),(5,.int .i64 x6)]∧τ=([.cells 0 (zb a0),.cells 0 (zb a1)]:zf)∧a0.fRest=p8++q8∧x6=(qa p8:Int)∧zW.l8 xC a0 a1 q8 x6=some r) _ ⟨[],a0.fRest,0,rfl,rfl,rfl,rfl,rfl,h⟩ .s ?_;rintro m L τ ⟨p8,q8,x6,rfl,rfl,rfl,hE8,hi8,h⟩
 rcases q8 with _|⟨y8,q8⟩
 · have hz8:=yH hE8 hi8;simp only[zW.l8] at h
   refine za fun Z9 hZ9=>?_
   refine rgW [2,3,5,51] hz8 ?_;refine zD rfl ?_;apply zJ;apply hZ5
   refine za fun Z10 hZ10=>?_
   refine O [2,3,6] ?_;apply zj
   refine xT 0 rfl fun hb13=>?_
   replace hb13:qa a0.fEntries≤9223372036854775807:=hb13.2.2.2.1.1;refine zG (fun m L τ=>∃ (p13 q13:List zp) (x11:Int),m=qa q13∧L=[(2,.op 0 0 0),(3,.op 1 0 0),(6,.int .i64 x11)]∧τ=([.cells 0 (zb a0),.cells 0 (zb a1)]:zf)∧a0.fEntries=p13++q13∧x11=(qa p13:Int)∧zW.l13 xC a1 q13 x11=some r) _ ⟨[],a0.fEntries,0,rfl,rfl,rfl,rfl,rfl,h⟩ .s ?_;rintro m L τ ⟨p13,q13,x11,rfl,rfl,rfl,hE13,hi13,h⟩
   rcases q13 with _|⟨y13,q13⟩
   · have hz13:=yH hE13 hi13;simp only[zW.l13] at h
     refine za fun Z14 hZ14=>?_
     refine rgW [2,3,6,69] hz13 ?_;refine zD rfl ?_;apply zJ;apply hZ10;refine O [4] ?_;cases h;exact rtA
   obtain⟨hz13,hw13,hx13,hE'13,hi'13⟩:=yo hE13 hi13 hb13;simp only[zW.l13] at h
   refine za fun Z15 hZ15=>?_
   refine rgW [2,3,6,69] hz13 ?_;refine zE rfl ?_;apply zg;apply hZ15
   refine za fun Z16 hZ16=>?_
   apply zj;have f17:=E34.idxS hx13;have f18:=E34.loadS rfl rfl hx13;obtain⟨y19,hy19,h⟩:=bind_some h;have f20:=E34.idxS hy19;have f21:=E34.loadS rfl rfl hy19
   refine rd [2,3,6,7,8] fun K J=>?_
   refine DW.start (T:=tab) [.any,.own 2 [],.any,.any,.own 2 [],.any,.own 3 [],.any,.any,.own 3 [],.eff,.flt,.eff,.eff] [(2,[]),(3,[])] ?_;refine DW.runN U 8 ?_;simp only[go_sem,qd,qc,qe,zK,yh,f17,f18];refine DW.runN U 6 ?_;simp only[go_sem,qd,qg,qc,qe,zK,yh,f20,f21];refine DW.fin U (by decide +kernel) rfl ?_;simp only[zq,upd,qc,reduceIte,yD,xj];apply J
   refine za fun Z22 hZ22=>?_
   refine rc [2,3,6,7,8,95] fun K J=>?_
   refine κ 6 ?_;refine cut 8 87 95 [2,3,6,7,8] ((!(decide (y13.fTag=y19.fTag)))||(!(decide ((qa y13.fTrees:Int)=(qa y19.fTrees:Int))))) (aI hz8 (aI hz13 hw13)) rfl ?_;refine nkN J ?_;refine zB (b:=((!(decide (y13.fTag=y19.fTag)))||(!(decide ((qa y13.fTrees:Int)=(qa y19.fTrees:Int)))))) rfl (fun hc25=>?_) (fun hc25=>?_)
   · rw[if_pos hc25] at h;refine O [4] ?_;cases h;exact rtA
   rw[wn hc25] at h;apply zg;apply hZ22;refine O [2,3,6,7,8,9] ?_;apply zj
   refine xT 2 rfl fun hb28=>?_
   replace hb28:qa y13.fTrees≤9223372036854775807:=hb28.2.1.1;refine zG (fun m L τ=>∃ (p28 q28:List zi) (x26:Int),m=qa q28∧L=[(2,.op 0 0 0),(3,.op 1 0 0),(6,.int .i64 x11),(7,.op 2 0 0),(8,.op 3 0 0),(9,.int .i64 x26)]∧τ=([.cells 0 (zb a0),.cells 0 (zb a1),.cells 0 (zK y13),.cells 0 (zK y19)]:zf)∧y13.fTrees=p28++q28∧x26=(qa p28:Int)∧zW.l28 xC x11 (zW.l13 xC a1 q13) y19 q28 x26=some r) _ ⟨[],y13.fTrees,0,rfl,rfl,rfl,rfl,rfl,h⟩ .s ?_;rintro m L τ ⟨p28,q28,x26,rfl,rfl,rfl,hE28,hi28,h⟩
   rcases q28 with _|⟨y28,q28⟩
   · have hz28:=yH hE28 hi28;simp only[zW.l28] at h
     refine za fun Z29 hZ29=>?_
     refine rgW [2,3,6,7,8,9,100] hz28 ?_;refine zD rfl ?_;apply zJ;apply hZ16
     refine rgE U [2,3,6] fun K J=>?_
     simp only[go_sem,qd,qc,hw13];apply J
     exact⟨_,_,_,qo q13.length,⟨p13++[y13],q13,x11+1,rfl,rfl,rfl,hE'13,hi'13,h⟩,(.t [0,1] false)⟩
   obtain⟨hz28,hw28,hx28,hE'28,hi'28⟩:=yo hE28 hi28 hb28;simp only[zW.l28] at h
   refine za fun Z30 hZ30=>?_
   refine rgW [2,3,6,7,8,9,100] hz28 ?_;refine zE rfl ?_;apply zg;apply hZ30
   refine za fun Z31 hZ31=>?_
   apply zj;have f32:=E38.idxS hx28;have f33:=E38.loadS rfl rfl hx28;obtain⟨y34,hy34,h⟩:=bind_some h;have f35:=E38.idxS hy34;have f36:=E38.loadS rfl rfl hy34;obtain⟨r37,hr37,h⟩:=bind_some h
   refine rd [2,3,6,7,8,9,114] fun K J=>?_
   refine DW.start (T:=tab) [.any,.at [],.any,.any,.at [],.any,.at [],.any,.any,.at [],.eff,.any] [] ?_;refine DW.runN U 8 ?_;simp only[go_sem,qd,qc,qe,zb,yC,f32,f33];refine DW.runN U 2 ?_;simp only[go_sem,qd,qc,zb,yC,f35,f36];refine DW.call rfl rfl rfl (ev_ref09_Same y28 y34 r37 hr37 _) ?_;refine DW.runN U 1 ?_;simp only[go_sem,qd,qc];refine DW.fin U (by decide +kernel) rfl ?_;simp only[zq,upd,qc,reduceIte,yD,xj];apply J
   refine zB (b:=(!r37)) rfl (fun hc38=>?_) (fun hc38=>?_)
   · rw[if_pos hc38] at h;refine O [4] ?_;cases h;exact rtA
   rw[wn hc38] at h;apply zg;apply hZ31
   refine rgE U [2,3,6,7,8,9] fun K J=>?_
   simp only[go_sem,qd,qc,hw28];apply J
   exact⟨_,_,_,qo q28.length,⟨p28++[y28],q28,x26+1,rfl,rfl,rfl,hE'28,hi'28,h⟩,.s⟩
 obtain⟨hz8,hw8,hx8,hE'8,hi'8⟩:=yo hE8 hi8 hb8;simp only[zW.l8] at h
 refine za fun Z39 hZ39=>?_
 refine rgW [2,3,5,51] hz8 ?_;refine zE rfl ?_;apply zg;apply hZ39
 refine za fun Z40 hZ40=>?_
 apply zj;have f41:=E35.idxS hx8;have f42:=E35.loadS rfl rfl hx8;obtain⟨y43,hy43,h⟩:=bind_some h;have f44:=E35.idxS hy43;have f45:=E35.loadS rfl rfl hy43
 refine rd [2,3,5,64] fun K J=>?_
 refine DW.start (T:=tab) [.any,.at [],.any,.any,.at [],.any,.at [],.any,.any,.at [],.any] [] ?_;refine DW.runN U 8 ?_;simp only[go_sem,qd,qc,qe,zA,f41,f42];refine DW.runN U 3 ?_;simp only[go_sem,qd,qc,zA,f44,f45,evEqA,vaH,ceq];refine DW.fin U (by decide +kernel) rfl ?_;simp only[zq,upd,qc,reduceIte,yD,xj];apply J
 refine zB (b:=(!(decide (y8.fTag=y43.fTag)&&(decide (y8.fWire=y43.fWire)&&(decide (y8.fN=y43.fN)&&decide (y8.fB=y43.fB)))))) rfl (fun hc46=>?_) (fun hc46=>?_)
 · rw[if_pos hc46] at h;refine O [4] ?_;cases h;exact rtA
 rw[wn hc46] at h;apply zg;apply hZ40
 refine rgE U [2,3,5] fun K J=>?_
 simp only[go_sem,qd,qc,hw8];apply J
 exact⟨_,_,_,qo q8.length,⟨p8++[y8],q8,x6+1,rfl,rfl,rfl,hE'8,hi'8,h⟩,.s⟩
def zW : Nat→zi→zi→Option Bool
 |0,_,_=>none
 |k+1,a0,a1=>zW.body (zW k) a0 a1
theorem zW.all (k:Nat):(∀ (a0:zi) (a1:zi) (r:Bool),zW k a0 a1=some r→ACalls qf 23 [.agg (zb a0),.agg (zb a1)] [] (fun r' _=>r'=.bool r)):=by
 induction k with
 |zero=>exact (fun a0 a1 r h=>by simp only[zW] at h; cases h)
 |succ k ih=>exact (fun a0 a1 r h=>zW.step _ ih a0 a1 r (by simpa only [zW] using h))
theorem zW.ev (k:Nat)(a0:zi)(a1:zi)(r:Bool)(h:zW k a0 a1=some r)(σ:zf):ACalls qf 23 [.agg (zb a0),.agg (zb a1)] σ (fun r' σ'=>r'=.bool r∧σ'=σ):=
 ((zW.all k) a0 a1 r h).c σ
def yq.l25 (x2:Int)(x3:Int)(rec6:Int→Int→Option Bool)(y12:zz):List yY→Int→Option Bool
 |[],x23=>(rec6 (IntKind.i64.wrap (x2+(qa y12.fName:Int))) (IntKind.i64.wrap (x3+1)))
 |y25::q25,x23=>(if ((decide (200<(qa y25.fName:Int)))||(decide (200<(qa y25.fType.fName:Int))))=true then some false else ((yq.l25 x2 x3 rec6 y12 q25) (x23+1)))
def yq.l60 (x41:Int)(rec43:Int→Option Bool):List Zx→Int→Option Bool
 |[],x58=>(rec43 (IntKind.i64.wrap (x41+1)))
 |y60::q60,x58=>(if 200<(qa y60.fName:Int) then some false else ((yq.l60 x41 rec43 q60) (x58+1)))
def yq.l78 (a0:zm)(x2:Int):Nat→Int→Option Bool
 |0,_=>none
 |k78+1,x76=>(if ((decide (x76<(qa a0.fMethods:Int)))&&(decide (x76<20)))=true then (Yl a0.fMethods x76).bind fun y84=>(if (((decide (200<(qa y84.fName:Int)))||(decide (200<(qa y84.fIn:Int))))||(decide (200<(qa y84.fOut:Int))))=true then some false else ((yq.l78 a0 x2 k78) (IntKind.i64.wrap (x76+1)))) else some ((((decide (x2<3000))&&(decide ((qa a0.fMessages:Int)≤14)))&&(decide ((qa a0.fEnums:Int)≤10)))&&(decide ((qa a0.fMethods:Int)≤10))))
def yq.l43 (a0:zm)(x2:Int):Nat→Int→Option Bool
 |0,_=>none
 |k43+1,x41=>(if ((decide (x41<(qa a0.fEnums:Int)))&&(decide (x41<20)))=true then (Yl a0.fEnums x41).bind fun y50=>(if ((decide (200<(qa y50.fName:Int)))||(decide (24<(qa y50.fValues:Int))))=true then some false else (yq.l60 x41 (yq.l43 a0 x2 k43) y50.fValues 0)) else (yq.l78 a0 x2 yp 0))
def yq.l6 (a0:zm):Nat→Int→Int→Option Bool
 |0,_,_=>none
 |k6+1,x2,x3=>(if ((decide (x3<(qa a0.fMessages:Int)))&&(decide (x3<20)))=true then (Yl a0.fMessages x3).bind fun y12=>(if ((decide (20<(qa y12.fFields:Int)))||(decide (40<(qa y12.fReserved:Int))))=true then some false else (yq.l25 x2 x3 (yq.l6 a0 k6) y12 y12.fFields 0)) else (yq.l43 a0 x2 yp 0))
def yq (a0:zm):Option Bool:=
 (yq.l6 a0 yp (qa a0.fName:Int) 0)
theorem yq.ok {a0 r}(h:yq a0=some r):ACalls qf 27 [.agg (zd a0)] [] (fun r' _=>r'=.bool r):=by
 refine zk (rs:=[.tmp 2]) U Tryz.func27 rfl Tryz.ntmps27 rfl Tryz.call27 (by simp) ?_;refine zu [(0,.agg (zd a0))] ⟨rfl,trivial⟩ ?_;unfold yq at h;refine rgW [1] @zd.eq_1 ?_;refine O [1,3] ?_
 refine za fun Z1 hZ1=>?_
 refine O [1,3,4] ?_;apply zj;refine zG (fun m L τ=>∃ (k6:Nat) (x2:Int) (x3:Int),m=0+k6∧L=[(1,.op 0 0 0),(3,.int .i64 x2),(4,.int .i64 x3)]∧τ=([.cells 0 (zd a0)]:zf)∧yq.l6 a0 k6 x2 x3=some r) _ ⟨yp,(qa a0.fName:Int),0,rfl,rfl,rfl,h⟩ .s ?_;rintro m L τ ⟨k6,x2,x3,rfl,rfl,rfl,h⟩
 rcases k6 with _|k6
 · cases h
 simp only[yq.l6] at h
 refine za fun Z7 hZ7=>?_
 refine rc [1,3,4,21] fun K J=>?_
 refine κ 6 ?_;refine cut 3 18 21 [1,3,4] ((decide (x3<(qa a0.fMessages:Int)))&&(decide (x3<20))) qF rfl ?_;refine nkN J ?_;refine zB (b:=((decide (x3<(qa a0.fMessages:Int)))&&(decide (x3<20)))) rfl (fun hc10=>?_) (fun hc10=>?_)
 · rw[if_pos hc10] at h;apply zg;apply hZ7
   refine za fun Z11 hZ11=>?_
   apply zj;obtain⟨y12,hy12,h⟩:=bind_some h;have f13:=E27.idxS hy12;have f14:=E27.fldS0 (f:=9) rfl rfl hy12;refine rgW [1,3,4] (aI @ze.eq_1 (aI f13 f14)) ?_
   refine za fun Z15 hZ15=>?_
   refine rc [1,3,4,50] fun K J=>?_
   have f16:=E27.idxS hy12;have f17:=E27.fldS (f:=127) rfl rfl hy12 (o:=1) (by decide);refine rnW 9 (aI @ze.eq_1 (aI f16 f17)) ?_;have f20:=E27.idxS hy12;have f21:=E27.fldS (f:=26) rfl rfl hy12 (o:=2) (by decide);refine cut 9 41 50 [1,3,4] ((decide (20<(qa y12.fFields:Int)))||(decide (40<(qa y12.fReserved:Int)))) (aI @ze.eq_1 (aI f20 f21)) rfl ?_;refine nkN J ?_;refine zB (b:=((decide (20<(qa y12.fFields:Int)))||(decide (40<(qa y12.fReserved:Int))))) rfl (fun hc22=>?_) (fun hc22=>?_)
   · rw[if_pos hc22] at h;refine O [2] ?_;cases h;exact rtA
   rw[wn hc22] at h;apply zg;apply hZ15;refine O [1,3,4,5] ?_;apply zj
   refine xT 0 rfl fun hb25=>?_
   replace hb25:=vbJ hb25.2.1.2 hy12;replace hb25:qa y12.fFields≤9223372036854775807:=hb25.2.1.1;refine zG (fun m L τ=>∃ (p25 q25:List yY) (x23:Int),m=qa q25∧L=[(1,.op 0 0 0),(3,.int .i64 (IntKind.i64.wrap (x2+(qa y12.fName:Int)))),(4,.int .i64 x3),(5,.int .i64 x23)]∧τ=([.cells 0 (zd a0)]:zf)∧y12.fFields=p25++q25∧x23=(qa p25:Int)∧yq.l25 x2 x3 (yq.l6 a0 k6) y12 q25 x23=some r) _ ⟨[],y12.fFields,0,rfl,rfl,rfl,rfl,rfl,h⟩ .s ?_;rintro m L τ ⟨p25,q25,x23,rfl,rfl,rfl,hE25,hi25,h⟩
   rcases q25 with _|⟨y25,q25⟩
   · have hz25:=yH hE25 hi25;simp only[yq.l25] at h
     refine za fun Z26 hZ26=>?_
     have f27:=E27.idxS hy12;have f28:=E27.fldS (f:=127) rfl rfl hy12 (o:=1) (by decide);refine rgW [1,3,4,5,59] (aI @ze.eq_1 (aI hz25 (aI f27 f28))) ?_;refine zD rfl ?_;apply zJ;apply hZ11
     refine rgE U [1,3,4] fun K J=>?_
     simp only[go_sem,qd,qc];apply J
     exact⟨_,_,_,qo (0+k6),⟨k6,IntKind.i64.wrap (x2+(qa y12.fName:Int)),IntKind.i64.wrap (x3+1),rfl,rfl,rfl,h⟩,.s⟩
   obtain⟨hz25,hw25,hx25,hE'25,hi'25⟩:=yo hE25 hi25 hb25;simp only[yq.l25] at h
   refine za fun Z29 hZ29=>?_
   have f30:=E27.idxS hy12;have f31:=E27.fldS (f:=127) rfl rfl hy12 (o:=1) (by decide);refine rgW [1,3,4,5,59] (aI @ze.eq_1 (aI hz25 (aI f30 f31))) ?_;refine zE rfl ?_;apply zg;apply hZ29
   refine za fun Z32 hZ32=>?_
   apply zj;have f33:=E27.idxS hy12;have f34:=E27.fldS (f:=127) rfl rfl hy12 (o:=1) (by decide);have f35:=E127.idxS hx25;have f36:=E127.loadS rfl rfl hx25;refine rgW [1,3,4,5,6] (aI @z7.eq_1 (aI @ze.eq_1 (aI f33 (aI f34 (aI f35 f36))))) ?_
   refine rc [1,3,4,5,81] fun K J=>?_
   refine κ 5 ?_;refine cut 6 75 81 [1,3,4,5] ((decide (200<(qa y25.fName:Int)))||(decide (200<(qa y25.fType.fName:Int)))) (aI hz25 hw25) rfl ?_;refine nkN J ?_;refine zB (b:=((decide (200<(qa y25.fName:Int)))||(decide (200<(qa y25.fType.fName:Int))))) rfl (fun hc39=>?_) (fun hc39=>?_)
   · rw[if_pos hc39] at h;refine O [2] ?_;cases h;exact rtA
   rw[wn hc39] at h;apply zg;apply hZ32
   refine rgE U [1,3,4,5] fun K J=>?_
   simp only[go_sem,qd,qc,hw25];apply J
   exact⟨_,_,_,qo q25.length,⟨p25++[y25],q25,x23+1,rfl,rfl,rfl,hE'25,hi'25,h⟩,(.t [0] false)⟩
 rw[wn hc10] at h;apply zJ;apply hZ1
 refine za fun Z40 hZ40=>?_
 refine O [1,3,7] ?_;apply zj;refine zG (fun m L τ=>∃ (k43:Nat) (x41:Int),m=0+k43∧L=[(1,.op 0 0 0),(3,.int .i64 x2),(7,.int .i64 x41)]∧τ=([.cells 0 (zd a0)]:zf)∧yq.l43 a0 x2 k43 x41=some r) _ ⟨yp,0,rfl,rfl,rfl,h⟩ .s ?_;rintro m L τ ⟨k43,x41,rfl,rfl,rfl,h⟩
 rcases k43 with _|k43
 · cases h
 simp only[yq.l43] at h
 refine za fun Z44 hZ44=>?_
 refine rc [1,3,7,90] fun K J=>?_
 refine κ 6 ?_;refine cut 3 87 90 [1,3,7] ((decide (x41<(qa a0.fEnums:Int)))&&(decide (x41<20))) qF rfl ?_;refine nkN J ?_;refine zB (b:=((decide (x41<(qa a0.fEnums:Int)))&&(decide (x41<20)))) rfl (fun hc47=>?_) (fun hc47=>?_)
 · rw[if_pos hc47] at h;apply zg;apply hZ44
   refine za fun Z48 hZ48=>?_
   apply zj
   refine za fun Z49 hZ49=>?_
   refine rc [1,3,7,110] fun K J=>?_
   obtain⟨y50,hy50,h⟩:=bind_some h;have f51:=E28.idxS hy50;have f52:=E28.fldS0 (f:=9) rfl rfl hy50;refine rnW 9 (aI @zh.eq_1 (aI f51 f52)) ?_;have f55:=E28.idxS hy50;have f56:=E28.fldS (f:=140) rfl rfl hy50 (o:=1) (by decide);refine cut 9 101 110 [1,3,7] ((decide (200<(qa y50.fName:Int)))||(decide (24<(qa y50.fValues:Int)))) (aI @zh.eq_1 (aI f55 f56)) rfl ?_;refine nkN J ?_;refine zB (b:=((decide (200<(qa y50.fName:Int)))||(decide (24<(qa y50.fValues:Int))))) rfl (fun hc57=>?_) (fun hc57=>?_)
   · rw[if_pos hc57] at h;refine O [2] ?_;cases h;exact rtA
   rw[wn hc57] at h;apply zg;apply hZ49;refine O [1,3,7,8] ?_;apply zj
   refine xT 0 rfl fun hb60=>?_
   replace hb60:=vbJ hb60.2.2.1.2 hy50;replace hb60:qa y50.fValues≤9223372036854775807:=hb60.2.1.1;refine zG (fun m L τ=>∃ (p60 q60:List Zx) (x58:Int),m=qa q60∧L=[(1,.op 0 0 0),(3,.int .i64 x2),(7,.int .i64 x41),(8,.int .i64 x58)]∧τ=([.cells 0 (zd a0)]:zf)∧y50.fValues=p60++q60∧x58=(qa p60:Int)∧yq.l60 x41 (yq.l43 a0 x2 k43) q60 x58=some r) _ ⟨[],y50.fValues,0,rfl,rfl,rfl,rfl,rfl,h⟩ .s ?_;rintro m L τ ⟨p60,q60,x58,rfl,rfl,rfl,hE60,hi60,h⟩
   rcases q60 with _|⟨y60,q60⟩
   · have hz60:=yH hE60 hi60;simp only[yq.l60] at h
     refine za fun Z61 hZ61=>?_
     have f62:=E28.idxS hy50;have f63:=E28.fldS (f:=140) rfl rfl hy50 (o:=1) (by decide);refine rgW [1,3,7,8,119] (aI @zh.eq_1 (aI hz60 (aI f62 f63))) ?_;refine zD rfl ?_;apply zJ;apply hZ48
     refine rgE U [1,3,7] fun K J=>?_
     simp only[go_sem,qd,qc];apply J
     exact⟨_,_,_,qo (0+k43),⟨k43,IntKind.i64.wrap (x41+1),rfl,rfl,rfl,h⟩,.s⟩
   obtain⟨hz60,hw60,hx60,hE'60,hi'60⟩:=yo hE60 hi60 hb60;simp only[yq.l60] at h
   refine za fun Z64 hZ64=>?_
   have f65:=E28.idxS hy50;have f66:=E28.fldS (f:=140) rfl rfl hy50 (o:=1) (by decide);refine rgW [1,3,7,8,119] (aI @zh.eq_1 (aI hz60 (aI f65 f66))) ?_;refine zE rfl ?_;apply zg;apply hZ64
   refine za fun Z67 hZ67=>?_
   apply zj;have f68:=E28.idxS hy50;have f69:=E28.fldS (f:=140) rfl rfl hy50 (o:=1) (by decide);have f70:=E140.idxS hx60;have f71:=E140.fldS0 (f:=9) rfl rfl hx60;refine rgW [1,3,7,8,133] (aI @zh.eq_1 (aI @wS.eq_1 (aI f68 (aI f69 (aI f70 f71))))) ?_;refine zR rfl (fun hc72=>?_) (fun hc72=>?_)
   · rw[if_pos hc72] at h;have t73:=eq_true hc72;refine rgW [2] t73 ?_;cases h;exact rtA
   rw[if_neg hc72] at h;have t74:=eq_false hc72;apply zg;apply hZ67
   refine rgE U [1,3,7,8] fun K J=>?_
   simp only[go_sem,qd,qc,hw60,t74];apply J
   exact⟨_,_,_,qo q60.length,⟨p60++[y60],q60,x58+1,rfl,rfl,rfl,hE'60,hi'60,h⟩,.s⟩
 rw[wn hc47] at h;apply zJ;apply hZ40
 refine za fun Z75 hZ75=>?_
 refine O [1,3,9] ?_;apply zj;refine zG (fun m L τ=>∃ (k78:Nat) (x76:Int),m=0+k78∧L=[(1,.op 0 0 0),(3,.int .i64 x2),(9,.int .i64 x76)]∧τ=([.cells 0 (zd a0)]:zf)∧yq.l78 a0 x2 k78 x76=some r) _ ⟨yp,0,rfl,rfl,rfl,h⟩ .s ?_;rintro m L τ ⟨k78,x76,rfl,rfl,rfl,h⟩
 rcases k78 with _|k78
 · cases h
 simp only[yq.l78] at h
 refine za fun Z79 hZ79=>?_
 refine rc [1,3,9,142] fun K J=>?_
 refine κ 6 ?_;refine cut 3 139 142 [1,3,9] ((decide (x76<(qa a0.fMethods:Int)))&&(decide (x76<20))) qF rfl ?_;refine nkN J ?_;refine zB (b:=((decide (x76<(qa a0.fMethods:Int)))&&(decide (x76<20)))) rfl (fun hc82=>?_) (fun hc82=>?_)
 · rw[if_pos hc82] at h;apply zg;apply hZ79
   refine za fun Z83 hZ83=>?_
   apply zj
   refine rc [1,3,9,172] fun K J=>?_
   obtain⟨y84,hy84,h⟩:=bind_some h;have f85:=E29.idxS hy84;have f86:=E29.fldS0 (f:=9) rfl rfl hy84;refine rnW 9 (aI @zv.eq_1 (aI f85 f86)) ?_;have f89:=E29.idxS hy84;have f90:=E29.fldS (f:=9) rfl rfl hy84 (o:=1) (by decide);refine cut 9 153 162 [1,3,9] ((decide (200<(qa y84.fName:Int)))||(decide (200<(qa y84.fIn:Int)))) (aI @zv.eq_1 (aI f89 f90)) rfl ?_;refine κ 1 ?_;have f91:=E29.idxS hy84;have f92:=E29.fldS (f:=9) rfl rfl hy84 (o:=2) (by decide);refine cut (b:=((decide (200<(qa y84.fName:Int)))||(decide (200<(qa y84.fIn:Int))))) (hb:=boolP_eq _) 9 163 172 [1,3,9] (((decide (200<(qa y84.fName:Int)))||(decide (200<(qa y84.fIn:Int))))||(decide (200<(qa y84.fOut:Int)))) (aI @zv.eq_1 (aI f91 f92)) rfl ?_;refine nkN J ?_;refine zB (b:=(((decide (200<(qa y84.fName:Int)))||(decide (200<(qa y84.fIn:Int))))||(decide (200<(qa y84.fOut:Int))))) rfl (fun hc93=>?_) (fun hc93=>?_)
   · rw[if_pos hc93] at h;refine O [2] ?_;cases h;exact rtA
   rw[wn hc93] at h;apply zg;apply hZ83
   refine rgE U [1,3,9] fun K J=>?_
   simp only[go_sem,qd,qc];apply J
   exact⟨_,_,_,qo (0+k78),⟨k78,IntKind.i64.wrap (x76+1),rfl,rfl,rfl,h⟩,.s⟩
 rw[wn hc82] at h;apply zJ;apply hZ75
 refine rc [2] fun K J=>?_
 refine κ 3 ?_;refine cut 5 175 180 [1] ((decide (x2<3000))&&(decide ((qa a0.fMessages:Int)≤14))) qF rfl ?_;refine κ 1 ?_;refine cut (b:=((decide (x2<3000))&&(decide ((qa a0.fMessages:Int)≤14)))) (hb:=boolP_eq _) 5 181 186 [1] (((decide (x2<3000))&&(decide ((qa a0.fMessages:Int)≤14)))&&(decide ((qa a0.fEnums:Int)≤10))) qF rfl ?_;refine κ 1 ?_;refine cut (b:=(((decide (x2<3000))&&(decide ((qa a0.fMessages:Int)≤14)))&&(decide ((qa a0.fEnums:Int)≤10)))) (hb:=boolP_eq _) 5 187 192 [] ((((decide (x2<3000))&&(decide ((qa a0.fMessages:Int)≤14)))&&(decide ((qa a0.fEnums:Int)≤10)))&&(decide ((qa a0.fMethods:Int)≤10))) qF rfl ?_;refine κ 1 ?_;refine nkN J ?_;cases h;exact rtA
end
section
set_option maxRecDepth 4000
set_option maxHeartbeats 1000000
open AM
def XJ (a0:List UInt8)(a1:Int):Option Int:=
 (if (qa a0:Int)≤a1 then some true else (Yl a0 a1).bind fun b2=>some (decide ((b2.toNat:Int)<128))).bind fun c2=>(if c2=true then some true else (Yl a0 a1).bind fun b7=>some (decide (191<(b7.toNat:Int)))).bind fun c7=>(if c7=true then some (-1) else (Yl a0 a1).bind fun b11=>some (IntKind.i64.wrap ((IntKind.i64.wrap (b11.toNat:Int))-128)))
theorem XJ.ok {a0 a1 r}(h:XJ a0 a1=some r):ACalls qf 204 [.str a0,.int .i64 a1] [] (fun r' _=>r'=.int .i64 r):=by
 refine zk (rs:=[.tmp 4]) U Tryz.func204 rfl Tryz.ntmps204 rfl Tryz.call204 (by simp) ?_;refine zu [(0,.str a0),(1,.int .i64 a1)] ⟨rfl,rfl,trivial⟩ ?_;unfold XJ at h;refine O [0,1] ?_
 refine za fun Z1 hZ1=>?_
 refine rc [0,1,20] fun K J=>?_
 refine κ 5 ?_;obtain⟨c2,hc2,h⟩:=bind_some h;refine yv 5 (fun L τ=>L=[(0,.str a0),(1,.int .i64 a1),(14,.bool c2)]∧τ=([]:zf)) ?_ ?_
 · refine Yz 9 rfl (fun hg9=>?_) (fun hg9=>?_)
   · have t3:=eq_true hg9;rw[if_pos hg9] at hc2;refine κ 5 ?_;cases hc2;refine zl ⟨rfl,_,_,⟨rfl,rfl⟩,.p t3⟩
   have t4:=eq_false hg9;rw[if_neg hg9] at hc2;obtain⟨b5,hb5,hc2⟩:=bind_some hc2;have f6:=idx_str (T:=tab) (t:=9) rfl rfl hb5;refine rnW 5 f6 ?_;cases hc2;refine zl ⟨rfl,_,_,⟨rfl,rfl⟩,.p t4⟩
 rintro _ _ ⟨rfl,rfl⟩;refine κ 1 ?_;obtain⟨c7,hc7,h⟩:=bind_some h;refine yv 5 (fun L τ=>L=[(0,.str a0),(1,.int .i64 a1),(20,.bool c7)]∧τ=([]:zf)) ?_ ?_
 · refine xm (b:=c2) 15 rfl (fun hg15=>?_) (fun hg15=>?_)
   · rw[if_pos hg15] at hc7;refine κ 5 ?_;cases hc7;refine zl ⟨rfl,_,_,⟨rfl,rfl⟩,.b hg15⟩
   rw[wn hg15] at hc7;obtain⟨b8,hb8,hc7⟩:=bind_some hc7;have f9:=idx_str (T:=tab) (t:=9) rfl rfl hb8;refine rnW 5 f9 ?_;cases hc7;refine zl ⟨rfl,_,_,⟨rfl,rfl⟩,.b hg15⟩
 rintro _ _ ⟨rfl,rfl⟩;refine nkN J ?_;refine zB (b:=c7) rfl (fun hc10=>?_) (fun hc10=>?_)
 · rw[if_pos hc10] at h;refine O [4] ?_;cases h;exact rtA
 rw[wn hc10] at h;apply zg;apply hZ1;obtain⟨b11,hb11,h⟩:=bind_some h;have f12:=idx_str (T:=tab) (t:=9) rfl rfl hb11;have f13:=ZY (T:=tab) (src:=5) (dst:=3) rfl rfl rfl;refine rgW [4] (aI f12 f13) ?_;cases h;exact rtA
def xN.l17 (a0:List UInt8)(a1:Int)(x8:Int)(x10:Int):Nat→Int→Int→Option (Int×Int×Bool)
 |0,_,_=>none
 |k17+1,x13,x14=>(if x14<x8 then (XJ a0 (IntKind.i64.wrap (a1+x14))).bind fun r22=>(if r22<0 then some (0,0,false) else ((xN.l17 a0 a1 x8 x10 k17) (IntKind.i64.wrap ((IntKind.i64.wrap (64*x13))+r22)) (IntKind.i64.wrap (x14+1)))) else (if (((decide (x13<x10))||(decide (1114111<x13)))||((decide (55296≤x13))&&(decide (x13≤57343))))=true then some (0,0,false) else some (IntKind.i32.wrap x13,x8,true)))
def xN.j11 (a0:List UInt8)(a1:Int)(x8:Int)(x9:Int)(x10:Int):Option (Int×Int×Bool):=
 (xN.l17 a0 a1 x8 x10 yp x9 1)
def xN (a0:List UInt8)(a1:Int):Option (Int×Int×Bool):=
 (if ((decide (a1<0))||(decide ((qa a0:Int)≤a1)))=true then some (0,0,false) else (Yl a0 a1).bind fun b5=>(if IntKind.i64.wrap (b5.toNat:Int)<128 then some (IntKind.i32.wrap (IntKind.i64.wrap (b5.toNat:Int)),1,true) else (if ((decide (192≤IntKind.i64.wrap (b5.toNat:Int)))&&(decide (IntKind.i64.wrap (b5.toNat:Int)<224)))=true then (xN.j11 a0 a1 2 (IntKind.i64.wrap ((IntKind.i64.wrap (b5.toNat:Int))-192)) 128) else (if ((decide (224≤IntKind.i64.wrap (b5.toNat:Int)))&&(decide (IntKind.i64.wrap (b5.toNat:Int)<240)))=true then (xN.j11 a0 a1 3 (IntKind.i64.wrap ((IntKind.i64.wrap (b5.toNat:Int))-224)) 2048) else (if ((decide (240≤IntKind.i64.wrap (b5.toNat:Int)))&&(decide (IntKind.i64.wrap (b5.toNat:Int)<248)))=true then (xN.j11 a0 a1 4 (IntKind.i64.wrap ((IntKind.i64.wrap (b5.toNat:Int))-240)) 65536) else some (0,0,false))))))
theorem xN.ok {a0 a1 r}(h:xN a0 a1=some r):ACalls qf 159 [.str a0,.int .i64 a1] [] (fun r' _=>r'=.tup [.int .i32 r.1,.int .i64 r.2.1,.bool r.2.2]):=by
 refine zk (rs:=[.tmp 4,.tmp 5,.tmp 6]) U Tryz.func159 rfl Tryz.ntmps159 rfl Tryz.call159 (by simp) ?_;refine zu [(0,.str a0),(1,.int .i64 a1)] ⟨rfl,rfl,trivial⟩ ?_;unfold xN at h;refine O [0,1] ?_
 refine za fun Z1 hZ1=>?_
 refine rc [0,1,20] fun K J=>?_
 refine κ 3 ?_;refine cut 5 15 20 [0,1] ((decide (a1<0))||(decide ((qa a0:Int)≤a1))) qF rfl ?_;refine nkN J ?_;refine zB (b:=((decide (a1<0))||(decide ((qa a0:Int)≤a1)))) rfl (fun hc4=>?_) (fun hc4=>?_)
 · rw[if_pos hc4] at h;refine O [4,5,6] ?_;cases h;exact rtA
 rw[wn hc4] at h;apply zg;apply hZ1;obtain⟨b5,hb5,h⟩:=bind_some h;have f6:=idx_str (T:=tab) (t:=9) rfl rfl hb5;have f7:=ZY (T:=tab) (src:=5) (dst:=3) rfl rfl rfl;refine rgW [0,1,7] (aI f6 f7) ?_;refine O [0,1,7] ?_;refine we (fun L τ=>∃ (x8:Int) (x9:Int) (x10:Int),L=[(0,.str a0),(1,.int .i64 a1),(8,.int .i64 x8),(9,.int .i64 x9),(10,.int .i64 x10)]∧τ=([]:zf)∧xN.j11 a0 a1 x8 x9 x10=some r) ?_ ?_
 · apply zj;refine O [0,1,7,26] ?_;refine zR rfl (fun hc35=>?_) (fun hc35=>?_)
   · rw[if_pos hc35] at h;have t36:=eq_true hc35;have f37:=ZY (T:=tab) (src:=3) (dst:=21) rfl rfl rfl;refine rgW [4,5,6] (aI t36 f37) ?_;cases h;exact rtA
   rw[if_neg hc35] at h;have t38:=eq_false hc35
   refine rc [0,1,7,31] fun K J=>?_
   refine rnW 3 t38 ?_;refine cut 3 34 37 [0,1,7] ((decide (192≤IntKind.i64.wrap (b5.toNat:Int)))&&(decide (IntKind.i64.wrap (b5.toNat:Int)<224))) t38 rfl ?_;refine κ 1 ?_;refine nkN J ?_;refine zB (b:=((decide (192≤IntKind.i64.wrap (b5.toNat:Int)))&&(decide (IntKind.i64.wrap (b5.toNat:Int)<224)))) rfl (fun hc41=>?_) (fun hc41=>?_)
   · rw[if_pos hc41] at h
     refine rgE U [0,1,8,9,10] fun K J=>?_
     simp only[go_sem,qd,qc,reduceCtorEq];apply J
     exact⟨_,_,⟨2,IntKind.i64.wrap ((IntKind.i64.wrap (b5.toNat:Int))-192),128,rfl,rfl,h⟩,.s⟩
   rw[wn hc41] at h
   refine rc [0,1,7,40] fun K J=>?_
   refine κ 3 ?_;refine cut 3 43 46 [0,1,7] ((decide (224≤IntKind.i64.wrap (b5.toNat:Int)))&&(decide (IntKind.i64.wrap (b5.toNat:Int)<240))) t38 rfl ?_;refine κ 1 ?_;refine nkN J ?_;refine zB (b:=((decide (224≤IntKind.i64.wrap (b5.toNat:Int)))&&(decide (IntKind.i64.wrap (b5.toNat:Int)<240)))) rfl (fun hc44=>?_) (fun hc44=>?_)
   · rw[if_pos hc44] at h
     refine rgE U [0,1,8,9,10] fun K J=>?_
     simp only[go_sem,qd,qc,reduceCtorEq];apply J
     exact⟨_,_,⟨3,IntKind.i64.wrap ((IntKind.i64.wrap (b5.toNat:Int))-224),2048,rfl,rfl,h⟩,.s⟩
   rw[wn hc44] at h
   refine rc [0,1,7,49] fun K J=>?_
   refine κ 3 ?_;refine cut 3 52 55 [0,1,7] ((decide (240≤IntKind.i64.wrap (b5.toNat:Int)))&&(decide (IntKind.i64.wrap (b5.toNat:Int)<248))) t38 rfl ?_;refine κ 1 ?_;refine nkN J ?_;refine zB (b:=((decide (240≤IntKind.i64.wrap (b5.toNat:Int)))&&(decide (IntKind.i64.wrap (b5.toNat:Int)<248)))) rfl (fun hc47=>?_) (fun hc47=>?_)
   · rw[if_pos hc47] at h
     refine rgE U [0,1,8,9,10] fun K J=>?_
     simp only[go_sem,qd,qc,reduceCtorEq];apply J
     exact⟨_,_,⟨4,IntKind.i64.wrap ((IntKind.i64.wrap (b5.toNat:Int))-240),65536,rfl,rfl,h⟩,.s⟩
   rw[wn hc47] at h;refine O [4,5,6] ?_;cases h;exact rtA
 rintro _ _ ⟨x8,x9,x10,rfl,rfl,h⟩;unfold xN.j11 at h
 refine za fun Z12 hZ12=>?_
 refine O [0,1,8,9,10,11] ?_;apply zj;refine zG (fun m L τ=>∃ (k17:Nat) (x13:Int) (x14:Int),m=0+k17∧L=[(0,.str a0),(1,.int .i64 a1),(8,.int .i64 x8),(9,.int .i64 x13),(10,.int .i64 x10),(11,.int .i64 x14)]∧τ=([]:zf)∧xN.l17 a0 a1 x8 x10 k17 x13 x14=some r) _ ⟨yp,x9,1,rfl,rfl,rfl,h⟩ .s ?_;rintro m L τ ⟨k17,x13,x14,rfl,rfl,rfl,h⟩
 rcases k17 with _|k17
 · cases h
 simp only[xN.l17] at h
 refine za fun Z18 hZ18=>?_
 refine O [0,1,8,9,10,11,60] ?_;refine zR rfl (fun hc19=>?_) (fun hc19=>?_)
 · rw[if_pos hc19] at h;have t20:=eq_true hc19;apply zg;apply hZ18
   refine za fun Z21 hZ21=>?_
   apply zj
   refine rc [0,1,8,9,10,11,12] fun K J=>?_
   obtain⟨r22,hr22,h⟩:=bind_some h;refine rnW 4 t20 ?_;refine clN rfl rfl rfl ((XJ.ok hr22).c _) ?_;refine κ 1 ?_;refine nkN J ?_
   refine za fun Z23 hZ23=>?_
   refine O [0,1,8,9,10,11,12,69] ?_;refine zR rfl (fun hc24=>?_) (fun hc24=>?_)
   · rw[if_pos hc24] at h;have t25:=eq_true hc24;refine rgW [4,5,6] t25 ?_;cases h;exact rtA
   rw[if_neg hc24] at h;have t26:=eq_false hc24;apply zg;apply hZ23
   refine rgE U [0,1,8,9,10,11] fun K J=>?_
   simp only[go_sem,qd,qc,reduceCtorEq,t26];apply J
   apply hZ21
   refine rgE U [0,1,8,9,10,11] fun K J=>?_
   simp only[go_sem,qd,qc,reduceCtorEq];apply J
   exact⟨_,_,_,qo (0+k17),⟨k17,IntKind.i64.wrap ((IntKind.i64.wrap (64*x13))+r22),IntKind.i64.wrap (x14+1),rfl,rfl,rfl,h⟩,.s⟩
 rw[if_neg hc19] at h;have t27:=eq_false hc19;apply zJ;apply hZ12
 refine za fun Z28 hZ28=>?_
 refine rc [8,9,88] fun K J=>?_
 refine rnW 4 t27 ?_;refine cut 3 77 80 [8,9] ((decide (x13<x10))||(decide (1114111<x13))) t27 rfl ?_;refine κ 1 ?_;refine yv 7 (fun L τ=>L=[(8,.int .i64 x8),(9,.int .i64 x13),(88,.bool (((decide (x13<x10))||(decide (1114111<x13)))||((decide (55296≤x13))&&(decide (x13≤57343)))))]∧τ=([]:zf)) ?_ ?_
 · refine xm (b:=((decide (x13<x10))||(decide (1114111<x13)))) 81 rfl (fun hg81=>?_) (fun hg81=>?_)
   · refine κ 7 ?_;refine zl ⟨rfl,_,_,⟨rfl,rfl⟩,.b hg81⟩
   refine κ 3 ?_;refine cut 3 84 87 [81,8,9] ((decide (55296≤x13))&&(decide (x13≤57343))) t27 rfl ?_;refine κ 1 ?_;refine zl ⟨rfl,_,_,⟨rfl,rfl⟩,.b hg81⟩
 rintro _ _ ⟨rfl,rfl⟩;refine nkN J ?_;refine zB (b:=(((decide (x13<x10))||(decide (1114111<x13)))||((decide (55296≤x13))&&(decide (x13≤57343))))) rfl (fun hc33=>?_) (fun hc33=>?_)
 · rw[if_pos hc33] at h;refine O [4,5,6] ?_;cases h;exact rtA
 rw[wn hc33] at h;apply zg;apply hZ28;have f34:=ZY (T:=tab) (src:=3) (dst:=21) rfl rfl rfl;refine rgW [4,5,6] f34 ?_;cases h;exact rtA
def Zv.l8 (a0:List UInt8):Nat→List Int→Int→Option (List Int×Bool)
 |0,_,_=>none
 |k8+1,l2,x4=>(if x4<(qa a0:Int) then (xN a0 x4).bind fun r12=>(if (!r12.2.2)=true then some (([]:List Int),false) else (vao (qa l2+1) 4).bind fun _u15=>((Zv.l8 a0 k8) (l2++[r12.1]) (IntKind.i64.wrap (x4+r12.2.1)))) else some (l2,true))
def Zv (a0:List UInt8):Option (List Int×Bool):=
 (Zv.l8 a0 yp ([]:List Int) 0)
theorem Zv.ok {a0 r}(h:Zv a0=some r):ACalls qf 105 [.str a0] [] (fun r' _=>r'=.tup [.ds true (qb (encK .i32) r.1) (qa r.1) false,.bool r.2]):=by
 refine zk (rs:=[.tmp 2,.tmp 3]) U Tryz.func105 rfl Tryz.ntmps105 rfl Tryz.call105 (by simp) ?_;refine zu [(0,.str a0)] ⟨rfl,trivial⟩ ?_;unfold Zv at h;refine O [0] ?_;refine O [0,4] ?_;refine YA 4 1 rfl ?_;refine yX (L:=[(0,.str a0),(4,.os true 1 0 0 0 (qa ([]:List Int)) false)]) (τ:=[.cells 0 (qb (encK .i32) ([]:List Int))]) .s ?_
 refine za fun Z1 hZ1=>?_
 refine O [0,4,5] ?_;apply zj;refine zG (fun m L τ=>∃ (k8:Nat) (l2:List Int) (x4:Int) (v3:Nat),m=0+k8∧L=[(0,.str a0),(4,.os true 1 0 v3 0 (qa l2) false),(5,.int .i64 x4)]∧τ=([.cells v3 (qb (encK .i32) l2)]:zf)∧Zv.l8 a0 k8 l2 x4=some r) _ ⟨yp,([]:List Int),0,0,rfl,rfl,rfl,h⟩ .s ?_;rintro m L τ ⟨k8,l2,x4,v3,rfl,rfl,rfl,h⟩
 rcases k8 with _|k8
 · cases h
 simp only[Zv.l8] at h
 refine za fun Z9 hZ9=>?_
 refine O [0,4,5,12] ?_;refine zR rfl (fun hc10=>?_) (fun hc10=>?_)
 · rw[if_pos hc10] at h;have t11:=eq_true hc10;apply zg;apply hZ9;apply zj
   refine rc [0,4,5,6,7,8] fun K J=>?_
   obtain⟨r12,hr12,h⟩:=bind_some h;refine rnW 2 t11 ?_;refine clN rfl rfl rfl ((xN.ok hr12).c _) ?_;refine κ 7 ?_;refine nkN J ?_
   refine za fun Z13 hZ13=>?_
   refine O [0,4,5,6,7,21] ?_;refine zB (b:=(!r12.2.2)) rfl (fun hc14=>?_) (fun hc14=>?_)
   · rw[if_pos hc14] at h;refine O [2,3] ?_;cases h;exact rtA
   rw[wn hc14] at h;apply zg;apply hZ13;obtain⟨_u15,hu15,h⟩:=bind_some h;have gu15:=yR hu15;have f16:=(zU E183.len l2)
   refine rg U [0,4,5,7] fun K J=>?_
   simp only[go_sem,qd,qg,qc,qj,reduceCtorEq,zM,yz,qV,qL,true_and,q5,yG,yf,yJ,gu15,f16,yZ,qW,qQ,AV.one,qD,qC,qk,qp,ql,qK];apply J
   refine yX (L:=[(0,.str a0),(4,.os true 1 0 (v3+1) 0 (qa (l2++[r12.1])) false),(5,.int .i64 x4),(7,.int .i64 r12.2.1)]) (τ:=[.cells (v3+1) (qb (encK .i32) (l2++[r12.1])),.cells 0 [.int .i32 r12.1]]) .s ?_
   refine rgE U [0,4,5] fun K J=>?_
   simp only[go_sem,qd,qc,reduceCtorEq];apply J
   exact⟨_,_,_,qo (0+k8),⟨k8,l2++[r12.1],IntKind.i64.wrap (x4+r12.2.1),v3+1,rfl,rfl,rfl,h⟩,(.t [0] false)⟩
 rw[if_neg hc10] at h;have t17:=eq_false hc10;apply zJ;apply hZ1;refine rgW [2,3] t17 ?_;cases h;exact rtA
def Zg (a0:Int):Bool:=
 ((((((decide (97≤a0))&&(decide (a0≤122)))||((decide (65≤a0))&&(decide (a0≤90))))||(decide (a0=95)))||((((decide (192≤a0))&&(decide (a0≤591)))&&(!(decide (a0=215))))&&(!(decide (a0=247)))))||(((decide (913≤a0))&&(decide (a0≤969)))&&(!(decide (a0=930)))))
theorem Zg.ok {a0 r}(h:Zg a0=r):ACalls qf 106 [.int .i32 a0] [] (fun r' _=>r'=.bool r):=by
 refine zk (rs:=[.tmp 2]) U Tryz.func106 rfl Tryz.ntmps106 rfl Tryz.call106 (by simp) ?_;refine zu [(0,.int .i32 a0)] ⟨rfl,trivial⟩ ?_;unfold Zg at h;refine O [0] ?_
 refine rc [2] fun K J=>?_
 refine κ 3 ?_;refine cut 3 5 8 [0] ((decide (97≤a0))&&(decide (a0≤122))) qF rfl ?_;refine κ 1 ?_;refine yv 7 (fun L τ=>L=[(0,.int .i32 a0),(16,.bool (((decide (97≤a0))&&(decide (a0≤122)))||((decide (65≤a0))&&(decide (a0≤90)))))]∧τ=([]:zf)) ?_ ?_
 · refine xm (b:=((decide (97≤a0))&&(decide (a0≤122)))) 9 rfl (fun hg9=>?_) (fun hg9=>?_)
   · refine κ 7 ?_;refine zl ⟨rfl,_,_,⟨rfl,rfl⟩,.b hg9⟩
   refine κ 3 ?_;refine cut 3 12 15 [0,9] ((decide (65≤a0))&&(decide (a0≤90))) qF rfl ?_;refine κ 1 ?_;refine zl ⟨rfl,_,_,⟨rfl,rfl⟩,.b hg9⟩
 rintro _ _ ⟨rfl,rfl⟩;refine κ 1 ?_;refine cut (b:=(((decide (97≤a0))&&(decide (a0≤122)))||((decide (65≤a0))&&(decide (a0≤90))))) (hb:=boolP_eq _) 3 17 20 [0] ((((decide (97≤a0))&&(decide (a0≤122)))||((decide (65≤a0))&&(decide (a0≤90))))||(decide (a0=95))) qF rfl ?_;refine κ 1 ?_;refine yv 15 (fun L τ=>L=[(0,.int .i32 a0),(36,.bool (((((decide (97≤a0))&&(decide (a0≤122)))||((decide (65≤a0))&&(decide (a0≤90))))||(decide (a0=95)))||((((decide (192≤a0))&&(decide (a0≤591)))&&(!(decide (a0=215))))&&(!(decide (a0=247))))))]∧τ=([]:zf)) ?_ ?_
 · refine xm (b:=((((decide (97≤a0))&&(decide (a0≤122)))||((decide (65≤a0))&&(decide (a0≤90))))||(decide (a0=95)))) 21 rfl (fun hg21=>?_) (fun hg21=>?_)
   · refine κ 10 ?_;refine κ 5 ?_;refine zl ⟨rfl,_,_,⟨rfl,rfl⟩,.b hg21⟩
   refine κ 3 ?_;refine cut 3 24 27 [0,21] ((decide (192≤a0))&&(decide (a0≤591))) qF rfl ?_;refine κ 1 ?_;refine cut (b:=((decide (192≤a0))&&(decide (a0≤591)))) (hb:=boolP_eq _) 3 28 31 [0,21] (((decide (192≤a0))&&(decide (a0≤591)))&&(!(decide (a0=215)))) qF rfl ?_;refine κ 1 ?_;refine cut (b:=(((decide (192≤a0))&&(decide (a0≤591)))&&(!(decide (a0=215))))) (hb:=boolP_eq _) 3 32 35 [0,21] ((((decide (192≤a0))&&(decide (a0≤591)))&&(!(decide (a0=215))))&&(!(decide (a0=247)))) qF rfl ?_;refine κ 1 ?_;refine zl ⟨rfl,_,_,⟨rfl,rfl⟩,.b hg21⟩
 rintro _ _ ⟨rfl,rfl⟩;refine κ 1 ?_;refine yv 11 (fun L τ=>L=[(48,.bool ((((((decide (97≤a0))&&(decide (a0≤122)))||((decide (65≤a0))&&(decide (a0≤90))))||(decide (a0=95)))||((((decide (192≤a0))&&(decide (a0≤591)))&&(!(decide (a0=215))))&&(!(decide (a0=247)))))||(((decide (913≤a0))&&(decide (a0≤969)))&&(!(decide (a0=930))))))]∧τ=([]:zf)) ?_ ?_
 · refine xm (b:=(((((decide (97≤a0))&&(decide (a0≤122)))||((decide (65≤a0))&&(decide (a0≤90))))||(decide (a0=95)))||((((decide (192≤a0))&&(decide (a0≤591)))&&(!(decide (a0=215))))&&(!(decide (a0=247)))))) 37 rfl (fun hg37=>?_) (fun hg37=>?_)
   · refine κ 10 ?_;refine κ 1 ?_;refine zl ⟨rfl,_,_,⟨rfl,rfl⟩,.b hg37⟩
   refine κ 3 ?_;refine cut 3 40 43 [0,37] ((decide (913≤a0))&&(decide (a0≤969))) qF rfl ?_;refine κ 1 ?_;refine cut (b:=((decide (913≤a0))&&(decide (a0≤969)))) (hb:=boolP_eq _) 3 44 47 [37] (((decide (913≤a0))&&(decide (a0≤969)))&&(!(decide (a0=930)))) qF rfl ?_;refine κ 1 ?_;refine zl ⟨rfl,_,_,⟨rfl,rfl⟩,.b hg37⟩
 rintro _ _ ⟨rfl,rfl⟩;refine κ 1 ?_;refine nkN J ?_;cases h;exact rtA
def wL.j3 (x2:Bool):Bool:=
 (if x2=true then true else false)
def wL (a0:List UInt8):Bool:=
 (if a0=[115,99,104,101,109,97] then (wL.j3 (decide (a0=[115,99,104,101,109,97]))) else (if a0=[109,101,115,115,97,103,101] then (wL.j3 (decide (a0=[109,101,115,115,97,103,101]))) else (if a0=[101,110,117,109] then (wL.j3 (decide (a0=[101,110,117,109]))) else (if a0=[99,97,108,108] then (wL.j3 (decide (a0=[99,97,108,108]))) else (if a0=[114,101,116,117,114,110,115] then (wL.j3 (decide (a0=[114,101,116,117,114,110,115]))) else (if a0=[114,101,115,101,114,118,101,100] then (wL.j3 (decide (a0=[114,101,115,101,114,118,101,100]))) else (if a0=[111,112,116,105,111,110,97,108] then (wL.j3 (decide (a0=[111,112,116,105,111,110,97,108]))) else (if a0=[114,101,112,101,97,116,101,100] then (wL.j3 (decide (a0=[114,101,112,101,97,116,101,100]))) else (if a0=[105,110,116,51,50] then (wL.j3 (decide (a0=[105,110,116,51,50]))) else (if a0=[105,110,116,54,52] then (wL.j3 (decide (a0=[105,110,116,54,52]))) else (if a0=[98,111,111,108] then (wL.j3 (decide (a0=[98,111,111,108]))) else (if a0=[116,101,120,116] then (wL.j3 (decide (a0=[116,101,120,116]))) else (wL.j3 (decide (a0=[98,121,116,101,115])))))))))))))))
theorem wL.ok {a0 r}(h:wL a0=r):ACalls qf 107 [.str a0] [] (fun r' _=>r'=.bool r):=by
 refine zk (rs:=[.tmp 2]) U Tryz.func107 rfl Tryz.ntmps107 rfl Tryz.call107 (by simp) ?_;refine zu [(0,.str a0)] ⟨rfl,trivial⟩ ?_;unfold wL at h;refine O [0] ?_
 refine za fun Z1 hZ1=>?_
 refine O [3] ?_;apply zj;refine we (fun L τ=>∃ (x2:Bool),L=[(4,.bool x2)]∧τ=([]:zf)∧wL.j3 x2=r) ?_ ?_
 · refine O [3,4] ?_;refine zR rfl (fun hc5=>?_) (fun hc5=>?_)
   · rw[if_pos hc5] at h;have t6:=eq_true hc5;apply zg;exact⟨_,_,⟨decide (a0=[115,99,104,101,109,97]),rfl,rfl,h⟩,.s⟩
   rw[if_neg hc5] at h;have t7:=eq_false hc5;refine rgW [3,4] t7 ?_;refine zR rfl (fun hc8=>?_) (fun hc8=>?_)
   · rw[if_pos hc8] at h;have t9:=eq_true hc8;apply zg;exact⟨_,_,⟨decide (a0=[109,101,115,115,97,103,101]),rfl,rfl,h⟩,.s⟩
   rw[if_neg hc8] at h;have t10:=eq_false hc8;refine rgW [3,4] t10 ?_;refine zR rfl (fun hc11=>?_) (fun hc11=>?_)
   · rw[if_pos hc11] at h;have t12:=eq_true hc11;apply zg;exact⟨_,_,⟨decide (a0=[101,110,117,109]),rfl,rfl,h⟩,.s⟩
   rw[if_neg hc11] at h;have t13:=eq_false hc11;refine rgW [3,4] t13 ?_;refine zR rfl (fun hc14=>?_) (fun hc14=>?_)
   · rw[if_pos hc14] at h;have t15:=eq_true hc14;apply zg;exact⟨_,_,⟨decide (a0=[99,97,108,108]),rfl,rfl,h⟩,.s⟩
   rw[if_neg hc14] at h;have t16:=eq_false hc14;refine rgW [3,4] t16 ?_;refine zR rfl (fun hc17=>?_) (fun hc17=>?_)
   · rw[if_pos hc17] at h;have t18:=eq_true hc17;apply zg;exact⟨_,_,⟨decide (a0=[114,101,116,117,114,110,115]),rfl,rfl,h⟩,.s⟩
   rw[if_neg hc17] at h;have t19:=eq_false hc17;refine rgW [3,4] t19 ?_;refine zR rfl (fun hc20=>?_) (fun hc20=>?_)
   · rw[if_pos hc20] at h;have t21:=eq_true hc20;apply zg;exact⟨_,_,⟨decide (a0=[114,101,115,101,114,118,101,100]),rfl,rfl,h⟩,.s⟩
   rw[if_neg hc20] at h;have t22:=eq_false hc20;refine rgW [3,4] t22 ?_;refine zR rfl (fun hc23=>?_) (fun hc23=>?_)
   · rw[if_pos hc23] at h;have t24:=eq_true hc23;apply zg;exact⟨_,_,⟨decide (a0=[111,112,116,105,111,110,97,108]),rfl,rfl,h⟩,.s⟩
   rw[if_neg hc23] at h;have t25:=eq_false hc23;refine rgW [3,4] t25 ?_;refine zR rfl (fun hc26=>?_) (fun hc26=>?_)
   · rw[if_pos hc26] at h;have t27:=eq_true hc26;apply zg;exact⟨_,_,⟨decide (a0=[114,101,112,101,97,116,101,100]),rfl,rfl,h⟩,.s⟩
   rw[if_neg hc26] at h;have t28:=eq_false hc26;refine rgW [3,4] t28 ?_;refine zR rfl (fun hc29=>?_) (fun hc29=>?_)
   · rw[if_pos hc29] at h;have t30:=eq_true hc29;apply zg;exact⟨_,_,⟨decide (a0=[105,110,116,51,50]),rfl,rfl,h⟩,.s⟩
   rw[if_neg hc29] at h;have t31:=eq_false hc29;refine rgW [3,4] t31 ?_;refine zR rfl (fun hc32=>?_) (fun hc32=>?_)
   · rw[if_pos hc32] at h;have t33:=eq_true hc32;apply zg;exact⟨_,_,⟨decide (a0=[105,110,116,54,52]),rfl,rfl,h⟩,.s⟩
   rw[if_neg hc32] at h;have t34:=eq_false hc32;refine rgW [3,4] t34 ?_;refine zR rfl (fun hc35=>?_) (fun hc35=>?_)
   · rw[if_pos hc35] at h;have t36:=eq_true hc35;apply zg;exact⟨_,_,⟨decide (a0=[98,111,111,108]),rfl,rfl,h⟩,.s⟩
   rw[if_neg hc35] at h;have t37:=eq_false hc35;refine rgW [3,4] t37 ?_;refine zR rfl (fun hc38=>?_) (fun hc38=>?_)
   · rw[if_pos hc38] at h;have t39:=eq_true hc38;apply zg;exact⟨_,_,⟨decide (a0=[116,101,120,116]),rfl,rfl,h⟩,.s⟩
   rw[if_neg hc38] at h;have t40:=eq_false hc38
   refine rgE U [4] fun K J=>?_
   simp only[go_sem,qd,qc,t40];apply J
   exact⟨_,_,⟨decide (a0=[98,121,116,101,115]),rfl,rfl,h⟩,.s⟩
 rintro _ _ ⟨x2,rfl,rfl,h⟩;unfold wL.j3 at h;refine zB (b:=x2) rfl (fun hc4=>?_) (fun hc4=>?_)
 · rw[if_pos hc4] at h;refine O [2] ?_;cases h;exact rtA
 rw[wn hc4] at h;apply zg;apply hZ1;refine O [2] ?_;cases h;exact rtA
def Yr (a0:Int):Bool:=
 ((decide (48≤a0))&&(decide (a0≤57)))
theorem Yr.ok {a0 r}(h:Yr a0=r):ACalls qf 108 [.int .i32 a0] [] (fun r' _=>r'=.bool r):=by
 refine zk (rs:=[.tmp 2]) U Tryz.func108 rfl Tryz.ntmps108 rfl Tryz.call108 (by simp) ?_;refine zu [(0,.int .i32 a0)] ⟨rfl,trivial⟩ ?_;unfold Yr at h;refine O [0] ?_
 refine rc [2] fun K J=>?_
 refine κ 3 ?_;refine cut 3 5 8 [] ((decide (48≤a0))&&(decide (a0≤57))) qF rfl ?_;refine κ 1 ?_;refine nkN J ?_;cases h;exact rtA
def wG.l14 (r1:List Int×Bool):Nat→Int→Option Bool
 |0,_=>none
 |k14+1,x12=>(if x12<(qa r1.1:Int) then (Yl r1.1 x12).bind fun y19=>bnd (Zg y19) fun r22=>bnd (if (!r22)=true then bnd (Yr y19) fun r25 => !r25 else false) fun c23=>(if c23=true then some false else ((wG.l14 r1 k14) (IntKind.i64.wrap (x12+1)))) else some true)
def wG (a0:List UInt8):Option Bool:=
 (Zv a0).bind fun r1=>(if (((!r1.2)||(decide ((qa r1.1:Int)<1)))||(decide (20<(qa r1.1:Int))))=true then some true else (Yl r1.1 0).bind fun y3=>bnd (Zg y3) fun r6=>some (!r6)).bind fun c3=>bnd (if c3=true then true else bnd (wL a0) fun r8=>r8) fun c8=>(if c8=true then some false else (wG.l14 r1 yp 1))
theorem wG.ok {a0 r}(h:wG a0=some r):ACalls qf 68 [.str a0] [] (fun r' _=>r'=.bool r):=by
 refine zk (rs:=[.tmp 2]) U Tryz.func68 rfl Tryz.ntmps68 rfl Tryz.call68 (by simp) ?_;refine zu [(0,.str a0)] ⟨rfl,trivial⟩ ?_;unfold wG at h;refine O [0] ?_
 refine rc [0,3,4] fun K J=>?_
 obtain⟨r1,hr1,h⟩:=bind_some h;refine κ 1 ?_;refine clN rfl rfl rfl ((Zv.ok hr1).c _) ?_;refine κ 5 ?_;refine nkN J ?_
 refine za fun Z2 hZ2=>?_
 refine rc [3,33] fun K J=>?_
 refine κ 3 ?_;refine cut (b:=(!r1.2)) (hb:=boolP_eq _) 4 13 17 [0,3] ((!r1.2)||(decide ((qa r1.1:Int)<1))) qF rfl ?_;refine κ 1 ?_;refine cut (b:=((!r1.2)||(decide ((qa r1.1:Int)<1)))) (hb:=boolP_eq _) 4 18 22 [0,3] (((!r1.2)||(decide ((qa r1.1:Int)<1)))||(decide (20<(qa r1.1:Int)))) qF rfl ?_;refine κ 1 ?_;obtain⟨c3,hc3,h⟩:=bind_some h;refine yv 6 (fun L τ=>L=[(0,.str a0),(3,.ds true (qb (encK .i32) r1.1) (qa r1.1) false),(29,.bool c3)]∧τ=([]:zf)) ?_ ?_
 · refine xm (b:=(((!r1.2)||(decide ((qa r1.1:Int)<1)))||(decide (20<(qa r1.1:Int))))) 23 rfl (fun hg23=>?_) (fun hg23=>?_)
   · rw[if_pos hg23] at hc3;refine κ 6 ?_;cases hc3;refine zl ⟨rfl,_,_,⟨rfl,rfl⟩,.b hg23⟩
   rw[wn hg23] at hc3;obtain⟨y4,hy4,hc3⟩:=bind_some hc3;have f5:=E183.idxS hy4;have f6:=E183.fldS0 (f:=21) rfl rfl hy4;obtain⟨r7,hr7,hc3⟩:=yb hc3;refine xO U 3 ?_;simp only[go_sem,qd,qc,reduceCtorEq,encK,f5,f6];refine clN rfl rfl rfl ((Zg.ok hr7).c _) ?_;refine κ 2 ?_;cases hc3;refine zl ⟨rfl,_,_,⟨rfl,rfl⟩,.b hg23⟩
 rintro _ _ ⟨rfl,rfl⟩;refine κ 1 ?_;obtain⟨c8,hc8,h⟩:=yb h;refine yv 3 (fun L τ=>L=[(3,.ds true (qb (encK .i32) r1.1) (qa r1.1) false),(33,.bool c8)]∧τ=([]:zf)) ?_ ?_
 · refine xm (b:=c3) 30 rfl (fun hg30=>?_) (fun hg30=>?_)
   · rw[if_pos hg30] at hc8;refine κ 3 ?_;subst hc8;refine zl ⟨rfl,_,_,⟨rfl,rfl⟩,.b hg30⟩
   rw[wn hg30] at hc8;obtain⟨r9,hr9,hc8⟩:=yb hc8;refine κ 1 ?_;refine clN rfl rfl rfl ((wL.ok hr9).c _) ?_;refine κ 1 ?_;subst hc8;refine zl ⟨rfl,_,_,⟨rfl,rfl⟩,.b hg30⟩
 rintro _ _ ⟨rfl,rfl⟩;refine nkN J ?_;refine zB (b:=c8) rfl (fun hc10=>?_) (fun hc10=>?_)
 · rw[if_pos hc10] at h;refine O [2] ?_;cases h;exact rtA
 rw[wn hc10] at h;apply zg;apply hZ2
 refine za fun Z11 hZ11=>?_
 refine O [3,5] ?_;apply zj;refine zG (fun m L τ=>∃ (k14:Nat) (x12:Int),m=0+k14∧L=[(3,.ds true (qb (encK .i32) r1.1) (qa r1.1) false),(5,.int .i64 x12)]∧τ=([]:zf)∧wG.l14 r1 k14 x12=some r) _ ⟨yp,1,rfl,rfl,rfl,h⟩ .s ?_;rintro m L τ ⟨k14,x12,rfl,rfl,rfl,h⟩
 rcases k14 with _|k14
 · cases h
 simp only[wG.l14] at h
 refine za fun Z15 hZ15=>?_
 refine O [3,5,37] ?_;refine zR rfl (fun hc16=>?_) (fun hc16=>?_)
 · rw[if_pos hc16] at h;have t17:=eq_true hc16;apply zg;apply hZ15
   refine za fun Z18 hZ18=>?_
   apply zj
   refine rc [3,5,53] fun K J=>?_
   obtain⟨y19,hy19,h⟩:=bind_some h;have f20:=E183.idxS hy19;have f21:=E183.fldS0 (f:=21) rfl rfl hy19;obtain⟨r22,hr22,h⟩:=yb h;refine xO U 4 ?_;simp only[go_sem,qd,qc,encK,t17,f20,f21];refine clN rfl rfl rfl ((Zg.ok hr22).c _) ?_;refine κ 2 ?_;obtain⟨c23,hc23,h⟩:=yb h;refine yv 7 (fun L τ=>L=[(3,.ds true (qb (encK .i32) r1.1) (qa r1.1) false),(5,.int .i64 x12),(53,.bool c23)]∧τ=([]:zf)) ?_ ?_
   · refine xm (b:=(!r22)) 46 rfl (fun hg46=>?_) (fun hg46=>?_)
     · rw[if_pos hg46] at hc23;have f24:=E183.idxS hy19;have f25:=E183.fldS0 (f:=21) rfl rfl hy19;obtain⟨r26,hr26,hc23⟩:=yb hc23;refine xO U 4 ?_;simp only[go_sem,qd,qc,encK,f24,f25];refine clN rfl rfl rfl ((Yr.ok hr26).c _) ?_;refine κ 2 ?_;subst hc23;refine zl ⟨rfl,_,_,⟨rfl,rfl⟩,.b hg46⟩
     rw[wn hg46] at hc23;refine κ 7 ?_;subst hc23;refine zl ⟨rfl,_,_,⟨rfl,rfl⟩,.b hg46⟩
   rintro _ _ ⟨rfl,rfl⟩;refine nkN J ?_;refine zB (b:=c23) rfl (fun hc27=>?_) (fun hc27=>?_)
   · rw[if_pos hc27] at h;refine O [2] ?_;cases h;exact rtA
   rw[wn hc27] at h;apply zg;apply hZ18
   refine rgE U [3,5] fun K J=>?_
   simp only[go_sem,qd,qc];apply J
   exact⟨_,_,_,qo (0+k14),⟨k14,IntKind.i64.wrap (x12+1),rfl,rfl,rfl,h⟩,.s⟩
 rw[if_neg hc16] at h;have t28:=eq_false hc16;apply zJ;apply hZ11;refine rgW [2] t28 ?_;cases h;exact rtA
def xv.l4 (a0:List UInt8):List (List UInt8)→Int→Option Bool
 |[],x2=>(wG a0).bind fun r6=>some r6
 |y4::q4,x2=>(if y4=a0 then some false else ((xv.l4 a0 q4) (x2+1)))
def xv (a0:List UInt8)(a1:List (List UInt8)):Option Bool:=
 (xv.l4 a0 a1 0)
theorem xv.ok {a0 a1 r}(h:xv a0 a1=some r):ACalls qf 70 [.str a0,.ds true (qb vck a1) (qa a1) false] [] (fun r' _=>r'=.bool r):=by
 refine zk (rs:=[.tmp 4]) U Tryz.func70 rfl Tryz.ntmps70 rfl Tryz.call70 (by simp) ?_;refine zu [(0,.str a0),(1,.ds true (qb vck a1) (qa a1) false)] ⟨rfl,rfl,trivial⟩ ?_;unfold xv at h;refine O [0,1] ?_
 refine za fun Z1 hZ1=>?_
 refine O [0,1,5] ?_;apply zj
 refine xq 1 fun hb4=>?_
 replace hb4:qa a1≤9223372036854775807:=hb4.1;refine zG (fun m L τ=>∃ (p4 q4:List (List UInt8)) (x2:Int),m=qa q4∧L=[(0,.str a0),(1,.ds true (qb vck a1) (qa a1) false),(5,.int .i64 x2)]∧τ=([]:zf)∧a1=p4++q4∧x2=(qa p4:Int)∧xv.l4 a0 q4 x2=some r) _ ⟨[],a1,0,rfl,rfl,rfl,rfl,rfl,h⟩ .s ?_;rintro m L τ ⟨p4,q4,x2,rfl,rfl,rfl,hE4,hi4,h⟩
 rcases q4 with _|⟨y4,q4⟩
 · have hz4:=yH hE4 hi4;simp only[xv.l4] at h
   refine za fun Z5 hZ5=>?_
   refine rgW [0,1,5,9] hz4 ?_;refine zD rfl ?_;apply zJ;apply hZ1
   refine rc [4] fun K J=>?_
   obtain⟨r6,hr6,h⟩:=bind_some h;refine κ 1 ?_;refine clN rfl rfl rfl ((wG.ok hr6).c _) ?_;refine κ 1 ?_;refine nkN J ?_;cases h;exact rtA
 obtain⟨hz4,hw4,hx4,hE'4,hi'4⟩:=yo hE4 hi4 hb4;simp only[xv.l4] at h
 refine za fun Z7 hZ7=>?_
 refine rgW [0,1,5,9] hz4 ?_;refine zE rfl ?_;apply zg;apply hZ7
 refine za fun Z8 hZ8=>?_
 apply zj;have f9:=E146.idxS hx4;have f10:=E146.fldS0 (f:=9) rfl rfl hx4
 refine rg U [0,1,5,17] fun K J=>?_
 simp only[go_sem,qd,qc,reduceCtorEq,vck,f9,f10];apply J
 refine zR rfl (fun hc11=>?_) (fun hc11=>?_)
 · rw[if_pos hc11] at h;have t12:=eq_true hc11;refine rgW [4] t12 ?_;cases h;exact rtA
 rw[if_neg hc11] at h;have t13:=eq_false hc11;apply zg;apply hZ8
 refine rgE U [0,1,5] fun K J=>?_
 simp only[go_sem,qd,qc,reduceCtorEq,hw4,t13];apply J
 exact⟨_,_,_,qo q4.length,⟨p4++[y4],q4,x2+1,rfl,rfl,rfl,hE'4,hi'4,h⟩,.s⟩
def xK.l4 (a1:Int):List Int→Int→Bool
 |[],x2=>false
 |y4::q4,x2=>(if y4=a1 then true else ((xK.l4 a1 q4) (x2+1)))
def xK (a0:zz)(a1:Int):Bool:=
 (xK.l4 a1 a0.fReserved 0)
theorem xK.ok {a0 a1 r}(h:xK a0 a1=r):ACalls qf 160 [.agg (ze a0),.int .i64 a1] [] (fun r' _=>r'=.bool r):=by
 refine zk (rs:=[.tmp 4]) U Tryz.func160 rfl Tryz.ntmps160 rfl Tryz.call160 (by simp) ?_;refine zu [(0,.agg (ze a0)),(1,.int .i64 a1)] ⟨rfl,rfl,trivial⟩ ?_;unfold xK at h;refine rgW [1,2] @ze.eq_1 ?_
 refine za fun Z1 hZ1=>?_
 refine O [1,2,5] ?_;apply zj
 refine xT 0 rfl fun hb4=>?_
 replace hb4:qa a0.fReserved≤9223372036854775807:=hb4.2.2.1.1;refine zG (fun m L τ=>∃ (p4 q4:List Int) (x2:Int),m=qa q4∧L=[(1,.int .i64 a1),(2,.op 0 0 0),(5,.int .i64 x2)]∧τ=([.cells 0 (ze a0)]:zf)∧a0.fReserved=p4++q4∧x2=(qa p4:Int)∧xK.l4 a1 q4 x2=r) _ ⟨[],a0.fReserved,0,rfl,rfl,rfl,rfl,rfl,h⟩ .s ?_;rintro m L τ ⟨p4,q4,x2,rfl,rfl,rfl,hE4,hi4,h⟩
 rcases q4 with _|⟨y4,q4⟩
 · have hz4:=yH hE4 hi4;simp only[xK.l4] at h
   refine za fun Z5 hZ5=>?_
   refine rgW [1,2,5,10] hz4 ?_;refine zD rfl ?_;apply zJ;apply hZ1;refine O [4] ?_;cases h;exact rtA
 obtain⟨hz4,hw4,hx4,hE'4,hi'4⟩:=yo hE4 hi4 hb4;simp only[xK.l4] at h
 refine za fun Z6 hZ6=>?_
 refine rgW [1,2,5,10] hz4 ?_;refine zE rfl ?_;apply zg;apply hZ6
 refine za fun Z7 hZ7=>?_
 apply zj;have f8:=E26.idxS hx4;have f9:=E26.fldS0 (f:=3) rfl rfl hx4
 refine rg U [1,2,5,19] fun K J=>?_
 simp only[go_sem,qd,qc,qe,ZC,f8,f9];apply J
 refine zR rfl (fun hc10=>?_) (fun hc10=>?_)
 · rw[if_pos hc10] at h;have t11:=eq_true hc10;refine rgW [4] t11 ?_;cases h;exact rtA
 rw[if_neg hc10] at h;have t12:=eq_false hc10;apply zg;apply hZ7
 refine rgE U [1,2,5] fun K J=>?_
 simp only[go_sem,qd,qc,hw4,t12];apply J
 exact⟨_,_,_,qo q4.length,⟨p4++[y4],q4,x2+1,rfl,rfl,rfl,hE'4,hi'4,h⟩,.s⟩
def wv.l4 (a1:Int):List yY→Int→yY×Bool
 |[],x2=>((⟨[],0,0,(⟨0,[]⟩:YE)⟩:yY),false)
 |y4::q4,x2=>(if y4.fTag=a1 then (y4,true) else ((wv.l4 a1 q4) (x2+1)))
def wv (a0:zz)(a1:Int):yY×Bool:=
 (wv.l4 a1 a0.fFields 0)
theorem wv.ok {a0 a1 r}(h:wv a0 a1=r):ACalls qf 111 [.agg (ze a0),.int .i64 a1] [] (fun r' _=>r'=.tup [.agg (z7 r.1),.bool r.2]):=by
 refine zk (rs:=[.cell 4 126,.tmp 5]) U Tryz.func111 rfl Tryz.ntmps111 rfl Tryz.call111 (by simp) ?_;refine zu [(0,.agg (ze a0)),(1,.int .i64 a1)] ⟨rfl,rfl,trivial⟩ ?_;unfold wv at h;refine rgW [1,2,4] @ze.eq_1 ?_
 refine za fun Z1 hZ1=>?_
 refine O [1,2,4,6] ?_;apply zj
 refine xT 0 rfl fun hb4=>?_
 replace hb4:qa a0.fFields≤9223372036854775807:=hb4.2.1.1;refine zG (fun m L τ=>∃ (p4 q4:List yY) (x2:Int),m=qa q4∧L=[(1,.int .i64 a1),(2,.op 0 0 0),(4,.op 1 0 0),(6,.int .i64 x2)]∧τ=([.cells 0 (ze a0),.cells 0 [.str [],.int .i64 0,.int .i64 0,.int .i64 0,.str []]]:zf)∧a0.fFields=p4++q4∧x2=(qa p4:Int)∧wv.l4 a1 q4 x2=r) _ ⟨[],a0.fFields,0,rfl,rfl,rfl,rfl,rfl,h⟩ .s ?_;rintro m L τ ⟨p4,q4,x2,rfl,rfl,rfl,hE4,hi4,h⟩
 rcases q4 with _|⟨y4,q4⟩
 · have hz4:=yH hE4 hi4;simp only[wv.l4] at h
   refine za fun Z5 hZ5=>?_
   refine rgW [1,2,4,6,11] hz4 ?_;refine zD rfl ?_;apply zJ;apply hZ1;refine O [4,5] ?_;cases h;exact rtA
 obtain⟨hz4,hw4,hx4,hE'4,hi'4⟩:=yo hE4 hi4 hb4;simp only[wv.l4] at h
 refine za fun Z6 hZ6=>?_
 refine rgW [1,2,4,6,11] hz4 ?_;refine zE rfl ?_;apply zg;apply hZ6
 refine za fun Z7 hZ7=>?_
 apply zj;have f8:=E127.idxS hx4;have f9:=E127.fldS (f:=3) rfl rfl hx4 (o:=1) (by decide);refine rgW [1,2,4,6,21] (aI @z7.eq_1 (aI f8 f9)) ?_;refine zR rfl (fun hc10=>?_) (fun hc10=>?_)
 · rw[if_pos hc10] at h;have t11:=eq_true hc10;have f12:=E127.idxS hx4;have f13:=E127.loadS rfl rfl hx4;refine rgW [4,5] (aI @z7.eq_1 (aI t11 (aI f12 f13))) ?_;cases h;exact rtA
 rw[if_neg hc10] at h;have t14:=eq_false hc10;apply zg;apply hZ7
 refine rgE U [1,2,4,6] fun K J=>?_
 simp only[go_sem,qd,qc,hw4,t14];apply J
 exact⟨_,_,_,qo q4.length,⟨p4++[y4],q4,x2+1,rfl,rfl,rfl,hE'4,hi'4,h⟩,.s⟩
def Zz.l4 (a1:List UInt8):List zT→Int→zT×Bool
 |[],x2=>((⟨[],([]:List Zx)⟩:zT),false)
 |y4::q4,x2=>(if y4.fName=a1 then (y4,true) else ((Zz.l4 a1 q4) (x2+1)))
def Zz (a0:zm)(a1:List UInt8):zT×Bool:=
 (Zz.l4 a1 a0.fEnums 0)
theorem Zz.ok {a0 a1 r}(h:Zz a0 a1=r):ACalls qf 205 [.agg (zd a0),.str a1] [] (fun r' _=>r'=.tup [.agg (zh r.1),.bool r.2]):=by
 refine zk (rs:=[.cell 4 142,.tmp 5]) U Tryz.func205 rfl Tryz.ntmps205 rfl Tryz.call205 (by simp) ?_;refine zu [(0,.agg (zd a0)),(1,.str a1)] ⟨rfl,rfl,trivial⟩ ?_;unfold Zz at h;refine rgW [1,2,4] @zd.eq_1 ?_
 refine za fun Z1 hZ1=>?_
 refine O [1,2,4,6] ?_;apply zj
 refine xT 0 rfl fun hb4=>?_
 replace hb4:qa a0.fEnums≤9223372036854775807:=hb4.2.2.1.1;refine zG (fun m L τ=>∃ (p4 q4:List zT) (x2:Int),m=qa q4∧L=[(1,.str a1),(2,.op 0 0 0),(4,.op 1 0 0),(6,.int .i64 x2)]∧τ=([.cells 0 (zd a0),.cells 0 [.str [],.ds true [] 0 true]]:zf)∧a0.fEnums=p4++q4∧x2=(qa p4:Int)∧Zz.l4 a1 q4 x2=r) _ ⟨[],a0.fEnums,0,rfl,rfl,rfl,rfl,rfl,h⟩ .s ?_;rintro m L τ ⟨p4,q4,x2,rfl,rfl,rfl,hE4,hi4,h⟩
 rcases q4 with _|⟨y4,q4⟩
 · have hz4:=yH hE4 hi4;simp only[Zz.l4] at h
   refine za fun Z5 hZ5=>?_
   refine rgW [1,2,4,6,11] hz4 ?_;refine zD rfl ?_;apply zJ;apply hZ1;refine O [4,5] ?_;cases h;exact rtA
 obtain⟨hz4,hw4,hx4,hE'4,hi'4⟩:=yo hE4 hi4 hb4;simp only[Zz.l4] at h
 refine za fun Z6 hZ6=>?_
 refine rgW [1,2,4,6,11] hz4 ?_;refine zE rfl ?_;apply zg;apply hZ6
 refine za fun Z7 hZ7=>?_
 apply zj;have f8:=E28.idxS hx4;have f9:=E28.fldS0 (f:=9) rfl rfl hx4;refine rgW [1,2,4,6,21] (aI @zh.eq_1 (aI f8 f9)) ?_;refine zR rfl (fun hc10=>?_) (fun hc10=>?_)
 · rw[if_pos hc10] at h;have t11:=eq_true hc10;have f12:=E28.idxS hx4;have f13:=E28.loadS rfl rfl hx4;refine rgW [4,5] (aI @zh.eq_1 (aI t11 (aI f12 f13))) ?_;cases h;exact rtA
 rw[if_neg hc10] at h;have t14:=eq_false hc10;apply zg;apply hZ7
 refine rgE U [1,2,4,6] fun K J=>?_
 simp only[go_sem,qd,qc,hw4,t14];apply J
 exact⟨_,_,_,qo q4.length,⟨p4++[y4],q4,x2+1,rfl,rfl,rfl,hE'4,hi'4,h⟩,.s⟩
def xf.l4 (a1:List UInt8):List zz→Int→zz×Bool
 |[],x2=>((⟨[],([]:List yY),([]:List Int)⟩:zz),false)
 |y4::q4,x2=>(if y4.fName=a1 then (y4,true) else ((xf.l4 a1 q4) (x2+1)))
def xf (a0:zm)(a1:List UInt8):zz×Bool:=
 (xf.l4 a1 a0.fMessages 0)
theorem xf.ok {a0 a1 r}(h:xf a0 a1=r):ACalls qf 71 [.agg (zd a0),.str a1] [] (fun r' _=>r'=.tup [.agg (ze r.1),.bool r.2]):=by
 refine zk (rs:=[.cell 4 129,.tmp 5]) U Tryz.func71 rfl Tryz.ntmps71 rfl Tryz.call71 (by simp) ?_;refine zu [(0,.agg (zd a0)),(1,.str a1)] ⟨rfl,rfl,trivial⟩ ?_;unfold xf at h;refine rgW [1,2,4] @zd.eq_1 ?_
 refine za fun Z1 hZ1=>?_
 refine O [1,2,4,6] ?_;apply zj
 refine xT 0 rfl fun hb4=>?_
 replace hb4:qa a0.fMessages≤9223372036854775807:=hb4.2.1.1;refine zG (fun m L τ=>∃ (p4 q4:List zz) (x2:Int),m=qa q4∧L=[(1,.str a1),(2,.op 0 0 0),(4,.op 1 0 0),(6,.int .i64 x2)]∧τ=([.cells 0 (zd a0),.cells 0 [.str [],.ds true [] 0 true,.ds true [] 0 true]]:zf)∧a0.fMessages=p4++q4∧x2=(qa p4:Int)∧xf.l4 a1 q4 x2=r) _ ⟨[],a0.fMessages,0,rfl,rfl,rfl,rfl,rfl,h⟩ .s ?_;rintro m L τ ⟨p4,q4,x2,rfl,rfl,rfl,hE4,hi4,h⟩
 rcases q4 with _|⟨y4,q4⟩
 · have hz4:=yH hE4 hi4;simp only[xf.l4] at h
   refine za fun Z5 hZ5=>?_
   refine rgW [1,2,4,6,11] hz4 ?_;refine zD rfl ?_;apply zJ;apply hZ1;refine O [4,5] ?_;cases h;exact rtA
 obtain⟨hz4,hw4,hx4,hE'4,hi'4⟩:=yo hE4 hi4 hb4;simp only[xf.l4] at h
 refine za fun Z6 hZ6=>?_
 refine rgW [1,2,4,6,11] hz4 ?_;refine zE rfl ?_;apply zg;apply hZ6
 refine za fun Z7 hZ7=>?_
 apply zj;have f8:=E27.idxS hx4;have f9:=E27.fldS0 (f:=9) rfl rfl hx4;refine rgW [1,2,4,6,21] (aI @ze.eq_1 (aI f8 f9)) ?_;refine zR rfl (fun hc10=>?_) (fun hc10=>?_)
 · rw[if_pos hc10] at h;have t11:=eq_true hc10;have f12:=E27.idxS hx4;have f13:=E27.loadS rfl rfl hx4;refine rgW [4,5] (aI @ze.eq_1 (aI t11 (aI f12 f13))) ?_;cases h;exact rtA
 rw[if_neg hc10] at h;have t14:=eq_false hc10;apply zg;apply hZ7
 refine rgE U [1,2,4,6] fun K J=>?_
 simp only[go_sem,qd,qc,hw4,t14];apply J
 exact⟨_,_,_,qo q4.length,⟨p4++[y4],q4,x2+1,rfl,rfl,rfl,hE'4,hi'4,h⟩,.s⟩
end
section
set_option maxRecDepth 4000
set_option maxHeartbeats 1000000
open AM
def wB.j3 (a0:zm)(a1:YE)(x2:Bool):Bool:=
 (if x2=true then decide (a1.fName=[]) else (if a1.fKind=6 then bnd (Zz a0 a1.fName) fun r7=>r7.2 else (if a1.fKind=7 then bnd (xf a0 a1.fName) fun r11=>r11.2 else false)))
def wB (a0:zm)(a1:YE):Bool:=
 (if a1.fKind=1 then (wB.j3 a0 a1 (decide (a1.fKind=1))) else (if a1.fKind=2 then (wB.j3 a0 a1 (decide (a1.fKind=2))) else (if a1.fKind=3 then (wB.j3 a0 a1 (decide (a1.fKind=3))) else (if a1.fKind=4 then (wB.j3 a0 a1 (decide (a1.fKind=4))) else (wB.j3 a0 a1 (decide (a1.fKind=5)))))))
theorem wB.ok {a0 a1 r}(h:wB a0 a1=r):ACalls qf 161 [.agg (zd a0),.agg (wd a1)] [] (fun r' _=>r'=.bool r):=by
 refine zk (rs:=[.tmp 4]) U Tryz.func161 rfl Tryz.ntmps161 rfl Tryz.call161 (by simp) ?_;refine zu [(0,.agg (zd a0)),(1,.agg (wd a1))] ⟨rfl,rfl,trivial⟩ ?_;unfold wB at h;refine rgW [2,3] (aI @zd.eq_1 @wd.eq_1) ?_
 refine za fun Z1 hZ1=>?_
 refine O [2,3,10] ?_;apply zj;refine we (fun L τ=>∃ (x2:Bool),L=[(2,.op 0 0 0),(3,.op 1 0 0),(10,.int .i64 a1.fKind),(11,.bool x2)]∧τ=([.cells 0 (zd a0),.cells 0 [.int .i64 a1.fKind,.str a1.fName]]:zf)∧wB.j3 a0 a1 x2=r) ?_ ?_
 · refine O [2,3,10,11] ?_;refine zR rfl (fun hc13=>?_) (fun hc13=>?_)
   · rw[if_pos hc13] at h;have t14:=eq_true hc13;apply zg;exact⟨_,_,⟨decide (a1.fKind=1),rfl,rfl,h⟩,.s⟩
   rw[if_neg hc13] at h;have t15:=eq_false hc13;refine rgW [2,3,10,11] t15 ?_;refine zR rfl (fun hc16=>?_) (fun hc16=>?_)
   · rw[if_pos hc16] at h;have t17:=eq_true hc16;apply zg;exact⟨_,_,⟨decide (a1.fKind=2),rfl,rfl,h⟩,.s⟩
   rw[if_neg hc16] at h;have t18:=eq_false hc16;refine rgW [2,3,10,11] t18 ?_;refine zR rfl (fun hc19=>?_) (fun hc19=>?_)
   · rw[if_pos hc19] at h;have t20:=eq_true hc19;apply zg;exact⟨_,_,⟨decide (a1.fKind=3),rfl,rfl,h⟩,.s⟩
   rw[if_neg hc19] at h;have t21:=eq_false hc19;refine rgW [2,3,10,11] t21 ?_;refine zR rfl (fun hc22=>?_) (fun hc22=>?_)
   · rw[if_pos hc22] at h;have t23:=eq_true hc22;apply zg;exact⟨_,_,⟨decide (a1.fKind=4),rfl,rfl,h⟩,.s⟩
   rw[if_neg hc22] at h;have t24:=eq_false hc22
   refine rgE U [2,3,10,11] fun K J=>?_
   simp only[go_sem,qd,qc,t24];apply J
   exact⟨_,_,⟨decide (a1.fKind=5),rfl,rfl,h⟩,.s⟩
 rintro _ _ ⟨x2,rfl,rfl,h⟩;unfold wB.j3 at h;refine zB (b:=x2) rfl (fun hc4=>?_) (fun hc4=>?_)
 · rw[if_pos hc4] at h;refine O [4] ?_;cases h;exact rtA
 rw[wn hc4] at h;refine O [2,3,10,20] ?_;refine zR rfl (fun hc5=>?_) (fun hc5=>?_)
 · rw[if_pos hc5] at h;have t6:=eq_true hc5
   refine rc [6] fun K J=>?_
   obtain⟨r7,hr7,h⟩:=yb h;refine rnW 3 t6 ?_;refine clN rfl rfl rfl ((Zz.ok hr7).c _) ?_;refine rnW 6 @zh.eq_1 ?_;refine nkN J ?_;refine O [4] ?_;cases h;exact rtA
 rw[if_neg hc5] at h;have t8:=eq_false hc5;refine rgW [2,3,30] t8 ?_;refine zR rfl (fun hc9=>?_) (fun hc9=>?_)
 · rw[if_pos hc9] at h;have t10:=eq_true hc9
   refine rc [8] fun K J=>?_
   obtain⟨r11,hr11,h⟩:=yb h;refine rnW 3 t10 ?_;refine clN rfl rfl rfl ((xf.ok hr11).c _) ?_;refine rnW 6 @ze.eq_1 ?_;refine nkN J ?_;refine O [4] ?_;cases h;exact rtA
 rw[if_neg hc9] at h;have t12:=eq_false hc9;apply zg;apply hZ1;refine rgW [4] t12 ?_;cases h;exact rtA
def yu.l17 (a0:zm)(a1:zz):List yY→Int→List (List UInt8)→Option Int
 |[],x13,l11=>some 0
 |y17::q17,x13,l11=>(xv y17.fName l11).bind fun r24=>(if (!r24)=true then some 6 else (vao (qa l11+1) 16).bind fun _u26=>(grd ((0:Int)≤0∧0≤x13∧x13≤(qa a1.fFields:Int))).bind fun _u29=>bnd (wv (⟨[],va3 a1.fFields 0 x13,([]:List Int)⟩:zz) y17.fTag) fun r31=>bnd (if ((r31.2||(decide (y17.fTag<1)))||(decide (500<y17.fTag)))=true then true else bnd (xK a1 y17.fTag) fun r32=>r32) fun c32=>(if c32=true then some 7 else bnd (if ((decide (y17.fLabel<1))||(decide (3<y17.fLabel)))=true then true else bnd (wB a0 y17.fType) fun r37 => !r37) fun c37=>(if c37=true then some 8 else ((yu.l17 a0 a1 q17) (x13+1) (l11++[y17.fName])))))
def yu.j43 (x6:Int)(rec8:Int→Option Int)(x42:Bool):Option Int:=
 (if x42=true then some 7 else (rec8 (x6+1)))
def yu.l8 (a0:zm)(a1:zz):List Int→Int→Option Int
 |[],x6=>(yu.l17 a0 a1 a1.fFields 0 ([]:List (List UInt8)))
 |y8::q8,x6=>(if y8<1 then (yu.j43 x6 (yu.l8 a0 a1 q8) true) else (if 500<y8 then (yu.j43 x6 (yu.l8 a0 a1 q8) true) else (grd ((0:Int)≤0∧0≤x6∧x6≤(qa a1.fReserved:Int))).bind fun _u53=>bnd (xK (⟨[],([]:List yY),va3 a1.fReserved 0 x6⟩:zz) y8) fun r57=>(yu.j43 x6 (yu.l8 a0 a1 q8) r57)))
def yu (a0:zm)(a1:zz):Option Int:=
 (if ((decide (16<(qa a1.fFields:Int)))||(decide (32<(qa a1.fReserved:Int))))=true then some 4 else (yu.l8 a0 a1 a1.fReserved 0))
theorem yu.ok {a0 a1 r}(h:yu a0 a1=some r):ACalls qf 109 [.agg (zd a0),.agg (ze a1)] [] (fun r' _=>r'=.int .i64 r):=by
 refine zk (rs:=[.tmp 4]) U Tryz.func109 rfl Tryz.ntmps109 rfl Tryz.call109 (by simp) ?_;refine zu [(0,.agg (zd a0)),(1,.agg (ze a1))] ⟨rfl,rfl,trivial⟩ ?_;unfold yu at h;refine rgW [2,3] (aI @ze.eq_1 @zd.eq_1) ?_
 refine za fun Z1 hZ1=>?_
 refine rc [2,3,20] fun K J=>?_
 refine κ 5 ?_;refine cut 5 15 20 [2,3] ((decide (16<(qa a1.fFields:Int)))||(decide (32<(qa a1.fReserved:Int)))) qF rfl ?_;refine nkN J ?_;refine zB (b:=((decide (16<(qa a1.fFields:Int)))||(decide (32<(qa a1.fReserved:Int))))) rfl (fun hc4=>?_) (fun hc4=>?_)
 · rw[if_pos hc4] at h;refine O [4] ?_;cases h;exact rtA
 rw[wn hc4] at h;apply zg;apply hZ1
 refine za fun Z5 hZ5=>?_
 refine O [2,3,5] ?_;apply zj
 refine xT 1 rfl fun hb8=>?_
 replace hb8:qa a1.fReserved≤9223372036854775807:=hb8.2.2.1.1;refine zG (fun m L τ=>∃ (p8 q8:List Int) (x6:Int),m=qa q8∧L=[(2,.op 0 0 0),(3,.op 1 0 0),(5,.int .i64 x6)]∧τ=([.cells 0 (zd a0),.cells 0 (ze a1)]:zf)∧a1.fReserved=p8++q8∧x6=(qa p8:Int)∧yu.l8 a0 a1 q8 x6=some r) _ ⟨[],a1.fReserved,0,rfl,rfl,rfl,rfl,rfl,h⟩ .s ?_;rintro m L τ ⟨p8,q8,x6,rfl,rfl,rfl,hE8,hi8,h⟩
 rcases q8 with _|⟨y8,q8⟩
 · have hz8:=yH hE8 hi8;simp only[yu.l8] at h
   refine za fun Z9 hZ9=>?_
   refine rgW [2,3,5,25] hz8 ?_;refine zD rfl ?_;apply zJ;apply hZ5;refine O [2,3,6] ?_;refine YA 6 1 rfl ?_;refine yX (L:=[(2,.op 0 0 0),(3,.op 1 0 0),(6,.os true 1 2 0 0 (qa ([]:List (List UInt8))) false)]) (τ:=[.cells 0 (zd a0),.cells 0 (ze a1),.cells 0 (qb vck ([]:List (List UInt8)))]) .s ?_
   refine za fun Z10 hZ10=>?_
   refine O [2,3,6,7] ?_;apply zj
   refine xT 1 rfl fun hb17=>?_
   replace hb17:qa a1.fFields≤9223372036854775807:=hb17.2.1.1;refine zG (fun m L τ=>∃ (p17 q17:List yY) (x13:Int) (l11:List (List UInt8)) (v12:Nat),m=qa q17∧L=[(2,.op 0 0 0),(3,.op 1 0 0),(6,.os true 1 2 v12 0 (qa l11) false),(7,.int .i64 x13)]∧τ=([.cells 0 (zd a0),.cells 0 (ze a1),.cells v12 (qb vck l11)]:zf)∧a1.fFields=p17++q17∧x13=(qa p17:Int)∧yu.l17 a0 a1 q17 x13 l11=some r) _ ⟨[],a1.fFields,0,([]:List (List UInt8)),0,rfl,rfl,rfl,rfl,rfl,h⟩ .s ?_;rintro m L τ ⟨p17,q17,x13,l11,v12,rfl,rfl,rfl,hE17,hi17,h⟩
   rcases q17 with _|⟨y17,q17⟩
   · have hz17:=yH hE17 hi17;simp only[yu.l17] at h
     refine za fun Z18 hZ18=>?_
     refine rgW [2,3,6,7,59] hz17 ?_;refine zD rfl ?_;apply zJ;apply hZ10;refine O [4] ?_;cases h;exact rtA
   obtain⟨hz17,hw17,hx17,hE'17,hi'17⟩:=yo hE17 hi17 hb17;simp only[yu.l17] at h
   refine za fun Z19 hZ19=>?_
   refine rgW [2,3,6,7,59] hz17 ?_;refine zE rfl ?_;apply zg;apply hZ19
   refine za fun Z20 hZ20=>?_
   apply zj;have f21:=E127.idxS hx17;have f22:=E127.loadS rfl rfl hx17;refine rgW [2,3,6,7,8] (aI @z7.eq_1 (aI f21 f22)) ?_
   refine za fun Z23 hZ23=>?_
   refine rc [2,3,6,7,8,71] fun K J=>?_
   obtain⟨r24,hr24,h⟩:=bind_some h;refine κ 3 ?_;refine clN rfl rfl rfl (xv.ok hr24).ld ?_;refine κ 1 ?_;refine nkN J ?_;refine zB (b:=(!r24)) rfl (fun hc25=>?_) (fun hc25=>?_)
   · rw[if_pos hc25] at h;refine O [4] ?_;cases h;exact rtA
   rw[wn hc25] at h;apply zg;apply hZ23;obtain⟨_u26,hu26,h⟩:=bind_some h;have gu26:=yR hu26;have f27:=(zU E146.len l11)
   refine rg U [2,3,6,7,8] fun K J=>?_
   simp only[go_sem,qd,qg,qc,qe,qj,zM,yz,qV,qL,true_and,q5,yG,yf,yJ,gu26,f27,yZ,qW,qQ,AV.one,qD,qC,qk,qp,ql,qK];apply J
   refine yX (L:=[(2,.op 0 0 0),(3,.op 1 0 0),(6,.os true 1 2 (v12+1) 0 (qa (l11++[y17.fName])) false),(7,.int .i64 x13),(8,.op 3 0 0)]) (τ:=[.cells 0 (zd a0),.cells 0 (ze a1),.cells (v12+1) (qb vck (l11++[y17.fName])),.cells 0 (z7 y17),.cells 0 [.str y17.fName]]) .s ?_
   refine za fun Z28 hZ28=>?_
   obtain⟨_u29,hu29,h⟩:=bind_some h;have gu29:=Yb hu29;have f30:=E127.sl_hi gu29;obtain⟨r31,hr31,h⟩:=yb h
   refine rd [2,3,6,7,8,10] fun K J=>?_
   refine DW.start (T:=tab) [.any,.at [],.any,.any,.any,.any,.at [],.eff,.any,.any,.any,.flt,.eff,.any] [] ?_;refine DW.runN U 7 ?_;simp only[go_sem,qd,qg,qc,qe,f30];refine DW.call rfl rfl rfl (ACalls.loose ((wv.ok hr31).c _)) ?_;refine DW.runN U 6 ?_;simp only[go_sem,qd,qg,qc,qe,z7];refine DW.fin U (by decide +kernel) rfl ?_;simp only[zq,upd,qc,reduceIte,yD,xj];apply J
   refine rc [2,3,6,7,8,104] fun K J=>?_
   refine κ 2 ?_;refine cut (b:=r31.2) (hb:=boolP_eq _) 4 89 93 [2,3,6,7,8] (r31.2||(decide (y17.fTag<1))) (aI hz8 (aI hz17 hw17)) rfl ?_;refine κ 1 ?_;refine cut (b:=(r31.2||(decide (y17.fTag<1)))) (hb:=boolP_eq _) 4 94 98 [2,3,6,7,8] ((r31.2||(decide (y17.fTag<1)))||(decide (500<y17.fTag))) (aI hz8 (aI hz17 hw17)) rfl ?_;refine κ 1 ?_;obtain⟨c32,hc32,h⟩:=yb h;refine yv 5 (fun L τ=>L=[(2,.op 0 0 0),(3,.op 1 0 0),(6,.os true 1 2 (v12+1) 0 (qa (l11++[y17.fName])) false),(7,.int .i64 x13),(8,.op 3 0 0),(104,.bool c32)]∧τ=([.cells 0 (zd a0),.cells 0 (ze a1),.cells (v12+1) (qb vck (l11++[y17.fName])),.cells 0 (z7 y17),.cells 0 [.str y17.fName],.cells 0 (z7 r31.1)]:zf)) ?_ ?_
   · refine xm (b:=((r31.2||(decide (y17.fTag<1)))||(decide (500<y17.fTag)))) 99 rfl (fun hg99=>?_) (fun hg99=>?_)
     · rw[if_pos hg99] at hc32;refine κ 5 ?_;subst hc32;refine zl ⟨rfl,_,_,⟨rfl,rfl⟩,.b hg99⟩
     rw[wn hg99] at hc32;obtain⟨r33,hr33,hc32⟩:=yb hc32;refine κ 3 ?_;refine clN rfl rfl rfl ((xK.ok hr33).c _) ?_;refine κ 1 ?_;subst hc32;refine zl ⟨rfl,_,_,⟨rfl,rfl⟩,.b hg99⟩
   rintro _ _ ⟨rfl,rfl⟩;refine nkN J ?_;refine zB (b:=c32) rfl (fun hc34=>?_) (fun hc34=>?_)
   · rw[if_pos hc34] at h;refine O [4] ?_;cases h;exact rtA
   rw[wn hc34] at h;apply zg;apply hZ28
   refine rc [2,3,6,7,119] fun K J=>?_
   refine κ 4 ?_;refine cut 4 108 112 [2,3,6,7,8] ((decide (y17.fLabel<1))||(decide (3<y17.fLabel))) (aI hz8 (aI hz17 hw17)) rfl ?_;refine κ 1 ?_;obtain⟨c37,hc37,h⟩:=yb h;refine yv 6 (fun L τ=>L=[(2,.op 0 0 0),(3,.op 1 0 0),(6,.os true 1 2 (v12+1) 0 (qa (l11++[y17.fName])) false),(7,.int .i64 x13),(119,.bool c37)]∧τ=([.cells 0 (zd a0),.cells 0 (ze a1),.cells (v12+1) (qb vck (l11++[y17.fName])),.cells 0 (z7 y17),.cells 0 [.str y17.fName],.cells 0 (z7 r31.1)]:zf)) ?_ ?_
   · refine xm (b:=((decide (y17.fLabel<1))||(decide (3<y17.fLabel)))) 113 rfl (fun hg113=>?_) (fun hg113=>?_)
     · rw[if_pos hg113] at hc37;refine κ 6 ?_;subst hc37;refine zl ⟨rfl,_,_,⟨rfl,rfl⟩,.b hg113⟩
     rw[wn hg113] at hc37;obtain⟨r38,hr38,hc37⟩:=yb hc37;refine κ 3 ?_;refine clN rfl rfl rfl ((wB.ok hr38).c _) ?_;refine κ 2 ?_;subst hc37;refine zl ⟨rfl,_,_,⟨rfl,rfl⟩,.b hg113⟩
   rintro _ _ ⟨rfl,rfl⟩;refine nkN J ?_;refine zB (b:=c37) rfl (fun hc39=>?_) (fun hc39=>?_)
   · rw[if_pos hc39] at h;refine O [4] ?_;cases h;exact rtA
   rw[wn hc39] at h;apply zg;apply hZ20
   refine rgE U [2,3,6,7] fun K J=>?_
   simp only[go_sem,qd,qc,hw17];apply J
   exact⟨_,_,_,qo q17.length,⟨p17++[y17],q17,x13+1,l11++[y17.fName],v12+1,rfl,rfl,rfl,hE'17,hi'17,h⟩,(.t [0,1,2] false)⟩
 obtain⟨hz8,hw8,hx8,hE'8,hi'8⟩:=yo hE8 hi8 hb8;simp only[yu.l8] at h
 refine za fun Z40 hZ40=>?_
 refine rgW [2,3,5,25] hz8 ?_;refine zE rfl ?_;apply zg;apply hZ40
 refine za fun Z41 hZ41=>?_
 apply zj;refine we (fun L τ=>∃ (x42:Bool),L=[(2,.op 0 0 0),(3,.op 1 0 0),(5,.int .i64 x6),(54,.bool x42)]∧τ=([.cells 0 (zd a0),.cells 0 (ze a1)]:zf)∧yu.j43 x6 (yu.l8 a0 a1 q8) x42=some r) ?_ ?_
 · refine rdE [2,3,5,54] fun K J=>?_
   refine DW.start (T:=tab) [.any,.at [],.any,.any,.at [],.any,.any,.any,.at [],.any,.any,.at [],.any,.any,.any,.any,.at [],.any,.any,.any,.any,.at [],.any,.any,.at [],.eff,.any] [] ?_;have f45:=E26.idxS hx8;have f46:=E26.fldS0 (f:=3) rfl rfl hx8;refine DW.runN U 7 ?_;simp only[go_sem,qd,qc,qe,ZC,f45,f46]
   refine DW.if 34 rfl (fun hg34=>?_) (fun hg34=>?_)
   · rw[if_pos hg34] at h;have t47:=eq_true hg34;refine DW.runN U 8 ?_;simp only[go_sem,qd,qc,t47];refine DW.runN U 8 ?_;simp only[go_sem,qd,qc];refine DW.runN U 4 ?_;simp only[go_sem,qd,qc];refine DW.fin U (by decide +kernel) rfl ?_;simp only[zq,upd,qc,reduceIte,yD,xj];apply J
     exact⟨_,_,⟨true,rfl,rfl,h⟩,.s⟩
   rw[if_neg hg34] at h;have t48:=eq_false hg34;have f49:=E26.idxS hx8;have f50:=E26.fldS0 (f:=3) rfl rfl hx8;refine DW.runN U 8 ?_;simp only[go_sem,qd,qc,qe,ZC,t48,f49,f50]
   refine DW.if 42 rfl (fun hg42=>?_) (fun hg42=>?_)
   · rw[if_pos hg42] at h;have t51:=eq_true hg42;refine DW.runN U 8 ?_;simp only[go_sem,qd,qc,t51];refine DW.runN U 4 ?_;simp only[go_sem,qd,qc];refine DW.fin U (by decide +kernel) rfl ?_;simp only[zq,upd,qc,reduceIte,yD,xj];apply J
     exact⟨_,_,⟨true,rfl,rfl,h⟩,.s⟩
   rw[if_neg hg42] at h;have t52:=eq_false hg42;obtain⟨_u53,hu53,h⟩:=bind_some h;have gu53:=Yb hu53;have f54:=E26.sl_hi gu53;have f55:=E26.idxS hx8;have f56:=E26.fldS0 (f:=3) rfl rfl hx8;obtain⟨r57,hr57,h⟩:=yb h;refine DW.runN U 8 ?_;simp only[go_sem,qd,qg,qc,qe,t52,f54];refine DW.runN U 2 ?_;simp only[go_sem,qd,qc,ZC,f55,f56];refine DW.call rfl rfl rfl (ACalls.loose ((xK.ok hr57).c _)) ?_;refine DW.runN U 1 ?_;simp only[go_sem,qd,qc];refine DW.fin U (by decide +kernel) rfl ?_;simp only[zq,upd,qc,reduceIte,yD,xj];apply J
   exact⟨_,_,⟨r57,rfl,rfl,h⟩,.s⟩
 rintro _ _ ⟨x42,rfl,rfl,h⟩;unfold yu.j43 at h;refine zB (b:=x42) rfl (fun hc44=>?_) (fun hc44=>?_)
 · rw[if_pos hc44] at h;refine O [4] ?_;cases h;exact rtA
 rw[wn hc44] at h;apply zg;apply hZ41
 refine rgE U [2,3,5] fun K J=>?_
 simp only[go_sem,qd,qc,hw8];apply J
 exact⟨_,_,_,qo q8.length,⟨p8++[y8],q8,x6+1,rfl,rfl,rfl,hE'8,hi'8,h⟩,.s⟩
def y5.l38 (a0:zT)(x17:Int)(l15:List (List UInt8))(rec21:Int→List (List UInt8)→Option Int)(y21:Zx):Nat→Int→Option Int
 |0,_=>none
 |k38+1,x36=>(if x36<x17 then (Yl a0.fValues x36).bind fun y43=>(if y43.fN=y21.fN then some 11 else ((y5.l38 a0 x17 l15 rec21 y21 k38) (IntKind.i64.wrap (x36+1)))) else (rec21 (x17+1) (l15++[y21.fName])))
def y5.l21 (a0:zT):List Zx→Int→List (List UInt8)→Option Int
 |[],x17,l15=>some 0
 |y21::q21,x17,l15=>(xv y21.fName l15).bind fun r28=>(if (!r28)=true then some 6 else (vao (qa l15+1) 16).bind fun _u30=>(if ((decide (y21.fN<0))||(decide (2147483647<y21.fN)))=true then some 11 else (y5.l38 a0 x17 l15 (y5.l21 a0 q21) y21 yp 0)))
def y5.l10 (a0:zT):List Zx→Int→Bool→Option Int
 |[],x7,x6=>(if (!x6)=true then some 12 else (y5.l21 a0 a0.fValues 0 ([]:List (List UInt8))))
 |y10::q10,x7,x6=>((y5.l10 a0 q10) (x7+1) (x6||(decide (y10.fN=0))))
def y5 (a0:zT):Option Int:=
 (if 16<(qa a0.fValues:Int) then some 4 else (y5.l10 a0 a0.fValues 0 false))
theorem y5.ok {a0 r}(h:y5 a0=some r):ACalls qf 110 [.agg (zh a0)] [] (fun r' _=>r'=.int .i64 r):=by
 refine zk (rs:=[.tmp 2]) U Tryz.func110 rfl Tryz.ntmps110 rfl Tryz.call110 (by simp) ?_;refine zu [(0,.agg (zh a0))] ⟨rfl,trivial⟩ ?_;unfold y5 at h;refine rgW [1] @zh.eq_1 ?_
 refine za fun Z1 hZ1=>?_
 refine O [1,12] ?_;refine zR rfl (fun hc2=>?_) (fun hc2=>?_)
 · rw[if_pos hc2] at h;have t3:=eq_true hc2;refine rgW [2] t3 ?_;cases h;exact rtA
 rw[if_neg hc2] at h;have t4:=eq_false hc2;apply zg;apply hZ1;refine rgW [1,3] t4 ?_
 refine za fun Z5 hZ5=>?_
 refine O [1,3,4] ?_;apply zj
 refine xT 0 rfl fun hb10=>?_
 replace hb10:qa a0.fValues≤9223372036854775807:=hb10.2.1.1;refine zG (fun m L τ=>∃ (p10 q10:List Zx) (x7:Int) (x6:Bool),m=qa q10∧L=[(1,.op 0 0 0),(3,.bool x6),(4,.int .i64 x7)]∧τ=([.cells 0 (zh a0)]:zf)∧a0.fValues=p10++q10∧x7=(qa p10:Int)∧y5.l10 a0 q10 x7 x6=some r) _ ⟨[],a0.fValues,0,false,rfl,rfl,rfl,rfl,rfl,h⟩ .s ?_;rintro m L τ ⟨p10,q10,x7,x6,rfl,rfl,rfl,hE10,hi10,h⟩
 rcases q10 with _|⟨y10,q10⟩
 · have hz10:=yH hE10 hi10;simp only[y5.l10] at h
   refine za fun Z11 hZ11=>?_
   refine rgW [1,3,4,17] hz10 ?_;refine zD rfl ?_;apply zJ;apply hZ5
   refine za fun Z12 hZ12=>?_
   refine O [1,31] ?_;refine zB (b:=(!x6)) rfl (fun hc13=>?_) (fun hc13=>?_)
   · rw[if_pos hc13] at h;refine O [2] ?_;cases h;exact rtA
   rw[wn hc13] at h;apply zg;apply hZ12;refine O [1,5] ?_;refine YA 5 1 rfl ?_;refine yX (L:=[(1,.op 0 0 0),(5,.os true 1 1 0 0 (qa ([]:List (List UInt8))) false)]) (τ:=[.cells 0 (zh a0),.cells 0 (qb vck ([]:List (List UInt8)))]) .s ?_
   refine za fun Z14 hZ14=>?_
   refine O [1,5,6] ?_;apply zj
   refine xT 0 rfl fun hb21=>?_
   replace hb21:qa a0.fValues≤9223372036854775807:=hb21.2.1.1;refine zG (fun m L τ=>∃ (p21 q21:List Zx) (x17:Int) (l15:List (List UInt8)) (v16:Nat),m=qa q21∧L=[(1,.op 0 0 0),(5,.os true 1 1 v16 0 (qa l15) false),(6,.int .i64 x17)]∧τ=([.cells 0 (zh a0),.cells v16 (qb vck l15)]:zf)∧a0.fValues=p21++q21∧x17=(qa p21:Int)∧y5.l21 a0 q21 x17 l15=some r) _ ⟨[],a0.fValues,0,([]:List (List UInt8)),0,rfl,rfl,rfl,rfl,rfl,h⟩ .s ?_;rintro m L τ ⟨p21,q21,x17,l15,v16,rfl,rfl,rfl,hE21,hi21,h⟩
   rcases q21 with _|⟨y21,q21⟩
   · have hz21:=yH hE21 hi21;simp only[y5.l21] at h
     refine za fun Z22 hZ22=>?_
     refine rgW [1,5,6,36] hz21 ?_;refine zD rfl ?_;apply zJ;apply hZ14;refine O [2] ?_;cases h;exact rtA
   obtain⟨hz21,hw21,hx21,hE'21,hi'21⟩:=yo hE21 hi21 hb21;simp only[y5.l21] at h
   refine za fun Z23 hZ23=>?_
   refine rgW [1,5,6,36] hz21 ?_;refine zE rfl ?_;apply zg;apply hZ23
   refine za fun Z24 hZ24=>?_
   apply zj;have f25:=E140.idxS hx21;have f26:=E140.loadS rfl rfl hx21;refine rgW [1,5,6,7] (aI @wS.eq_1 (aI f25 f26)) ?_
   refine za fun Z27 hZ27=>?_
   refine rc [1,5,6,7,48] fun K J=>?_
   obtain⟨r28,hr28,h⟩:=bind_some h;refine κ 3 ?_;refine clN rfl rfl rfl (xv.ok hr28).ld ?_;refine κ 1 ?_;refine nkN J ?_;refine zB (b:=(!r28)) rfl (fun hc29=>?_) (fun hc29=>?_)
   · rw[if_pos hc29] at h;refine O [2] ?_;cases h;exact rtA
   rw[wn hc29] at h;apply zg;apply hZ27;obtain⟨_u30,hu30,h⟩:=bind_some h;have gu30:=yR hu30;have f31:=(zU E146.len l15)
   refine rg U [1,5,6,7] fun K J=>?_
   simp only[go_sem,qd,qg,qc,qe,qj,zM,yz,qV,qL,true_and,q5,yG,yf,yJ,gu30,f31,yZ,qW,qQ,AV.one,qD,qC,qk,qp,ql,qK];apply J
   refine yX (L:=[(1,.op 0 0 0),(5,.os true 1 1 (v16+1) 0 (qa (l15++[y21.fName])) false),(6,.int .i64 x17),(7,.op 2 0 0)]) (τ:=[.cells 0 (zh a0),.cells (v16+1) (qb vck (l15++[y21.fName])),.cells 0 [.str y21.fName,.int .i64 y21.fN],.cells 0 [.str y21.fName]]) .s ?_
   refine za fun Z32 hZ32=>?_
   refine rc [1,5,6,7,61] fun K J=>?_
   refine κ 4 ?_;refine cut 4 57 61 [1,5,6,7] ((decide (y21.fN<0))||(decide (2147483647<y21.fN))) (aI t4 (aI hz10 (aI hz21 hw21))) rfl ?_;refine nkN J ?_;refine zB (b:=((decide (y21.fN<0))||(decide (2147483647<y21.fN)))) rfl (fun hc35=>?_) (fun hc35=>?_)
   · rw[if_pos hc35] at h;refine O [2] ?_;cases h;exact rtA
   rw[wn hc35] at h;apply zg;apply hZ32;refine O [1,5,6,7,8] ?_;apply zj;refine zG (fun m L τ=>∃ (k38:Nat) (x36:Int),m=0+k38∧L=[(1,.op 0 0 0),(5,.os true 1 1 (v16+1) 0 (qa (l15++[y21.fName])) false),(6,.int .i64 x17),(7,.op 2 0 0),(8,.int .i64 x36)]∧τ=([.cells 0 (zh a0),.cells (v16+1) (qb vck (l15++[y21.fName])),.cells 0 [.str y21.fName,.int .i64 y21.fN]]:zf)∧y5.l38 a0 x17 l15 (y5.l21 a0 q21) y21 k38 x36=some r) _ ⟨yp,0,rfl,rfl,rfl,h⟩ (.t [0,1,2] false) ?_;rintro m L τ ⟨k38,x36,rfl,rfl,rfl,h⟩
   rcases k38 with _|k38
   · cases h
   simp only[y5.l38] at h
   refine za fun Z39 hZ39=>?_
   refine O [1,5,6,7,8,64] ?_;refine zR rfl (fun hc40=>?_) (fun hc40=>?_)
   · rw[if_pos hc40] at h;have t41:=eq_true hc40;apply zg;apply hZ39
     refine za fun Z42 hZ42=>?_
     apply zj;obtain⟨y43,hy43,h⟩:=bind_some h;have f44:=E140.idxS hy43;have f45:=E140.fldS (f:=3) rfl rfl hy43 (o:=1) (by decide)
     refine rd [1,5,6,7,8,75] fun K J=>?_
     refine DW.start (T:=tab) [.any,.at [],.any,.any,.any,.at [],.any,.at [],.any] [] ?_;refine DW.runN U 8 ?_;simp only[go_sem,qd,qc,qe,wS,t41,f44,f45];refine DW.runN U 1 ?_;simp only[go_sem,qd,qc];refine DW.fin U (by decide +kernel) rfl ?_;simp only[zq,upd,qc,reduceIte,yD,xj];apply J
     refine zR rfl (fun hc46=>?_) (fun hc46=>?_)
     · rw[if_pos hc46] at h;have t47:=eq_true hc46;refine rgW [2] t47 ?_;cases h;exact rtA
     rw[if_neg hc46] at h;have t48:=eq_false hc46;apply zg;apply hZ42
     refine rgE U [1,5,6,7,8] fun K J=>?_
     simp only[go_sem,qd,qc,t48];apply J
     exact⟨_,_,_,qo (0+k38),⟨k38,IntKind.i64.wrap (x36+1),rfl,rfl,rfl,h⟩,.s⟩
   rw[if_neg hc40] at h;have t49:=eq_false hc40;apply zJ;apply hZ24
   refine rgE U [1,5,6] fun K J=>?_
   simp only[go_sem,qd,qc,hw21,t49];apply J
   exact⟨_,_,_,qo q21.length,⟨p21++[y21],q21,x17+1,l15++[y21.fName],v16+1,rfl,rfl,rfl,hE'21,hi'21,h⟩,(.t [0,1] false)⟩
 obtain⟨hz10,hw10,hx10,hE'10,hi'10⟩:=yo hE10 hi10 hb10;simp only[y5.l10] at h
 refine za fun Z50 hZ50=>?_
 refine rgW [1,3,4,17] hz10 ?_;refine zE rfl ?_;apply zg;apply hZ50
 refine za fun Z51 hZ51=>?_
 apply zj
 refine rcE [1,3,4] fun K J=>?_
 refine κ 2 ?_;have f52:=E140.idxS hx10;have f53:=E140.fldS (f:=3) rfl rfl hx10 (o:=1) (by decide);refine cut (b:=x6) (hb:=boolP_eq _) 8 21 29 [1,3,4] (x6||(decide (y10.fN=0))) (aI @wS.eq_1 (aI t4 (aI hz10 (aI hw10 (aI f52 f53))))) rfl ?_;refine κ 1 ?_;refine nkN J ?_;apply hZ51
 refine rgE U [1,3,4] fun K J=>?_
 simp only[go_sem,qd,qc,hw10];apply J
 exact⟨_,_,_,qo q10.length,⟨p10++[y10],q10,x7+1,(x6||(decide (y10.fN=0))),rfl,rfl,rfl,hE'10,hi'10,h⟩,.s⟩
def xP.l17 : List zT→Int→List (List UInt8)→Option Int
 |[],x13,l11=>some 0
 |y17::q17,x13,l11=>(xv y17.fName l11).bind fun r24=>(if (!r24)=true then some 6 else (vao (qa l11+1) 16).bind fun _u28=>(y5 y17).bind fun r32=>(if r32=0 then ((xP.l17 q17) (x13+1) (l11++[y17.fName])) else some r32))
def xP.l8 (a0:zm):List zz→Int→List (List UInt8)→Option Int
 |[],x4,l2=>(xP.l17 a0.fEnums 0 l2)
 |y8::q8,x4,l2=>(xv y8.fName l2).bind fun r41=>(if (!r41)=true then some 6 else (vao (qa l2+1) 16).bind fun _u45=>(yu a0 y8).bind fun r49=>(if r49=0 then ((xP.l8 a0 q8) (x4+1) (l2++[y8.fName])) else some r49))
def xP (a0:zm):Option Int:=
 (xP.l8 a0 a0.fMessages 0 ([]:List (List UInt8)))
theorem xP.ok {a0 r}(h:xP a0=some r):ACalls qf 69 [.agg (zd a0)] [] (fun r' _=>r'=.int .i64 r):=by
 refine zk (rs:=[.tmp 2]) U Tryz.func69 rfl Tryz.ntmps69 rfl Tryz.call69 (by simp) ?_;refine zu [(0,.agg (zd a0))] ⟨rfl,trivial⟩ ?_;unfold xP at h;refine rgW [1] @zd.eq_1 ?_;refine O [1,3] ?_;refine YA 3 1 rfl ?_;refine yX (L:=[(1,.op 0 0 0),(3,.os true 1 1 0 0 (qa ([]:List (List UInt8))) false)]) (τ:=[.cells 0 (zd a0),.cells 0 (qb vck ([]:List (List UInt8)))]) .s ?_
 refine za fun Z1 hZ1=>?_
 refine O [1,3,4] ?_;apply zj
 refine xT 0 rfl fun hb8=>?_
 replace hb8:qa a0.fMessages≤9223372036854775807:=hb8.2.1.1;refine zG (fun m L τ=>∃ (p8 q8:List zz) (x4:Int) (l2:List (List UInt8)) (v3:Nat),m=qa q8∧L=[(1,.op 0 0 0),(3,.os true 1 1 v3 0 (qa l2) false),(4,.int .i64 x4)]∧τ=([.cells 0 (zd a0),.cells v3 (qb vck l2)]:zf)∧a0.fMessages=p8++q8∧x4=(qa p8:Int)∧xP.l8 a0 q8 x4 l2=some r) _ ⟨[],a0.fMessages,0,([]:List (List UInt8)),0,rfl,rfl,rfl,rfl,rfl,h⟩ .s ?_;rintro m L τ ⟨p8,q8,x4,l2,v3,rfl,rfl,rfl,hE8,hi8,h⟩
 rcases q8 with _|⟨y8,q8⟩
 · have hz8:=yH hE8 hi8;simp only[xP.l8] at h
   refine za fun Z9 hZ9=>?_
   refine rgW [1,3,4,12] hz8 ?_;refine zD rfl ?_;apply zJ;apply hZ1
   refine za fun Z10 hZ10=>?_
   refine O [1,3,6] ?_;apply zj
   refine xT 0 rfl fun hb17=>?_
   replace hb17:qa a0.fEnums≤9223372036854775807:=hb17.2.2.1.1;refine zG (fun m L τ=>∃ (p17 q17:List zT) (x13:Int) (l11:List (List UInt8)) (v12:Nat),m=qa q17∧L=[(1,.op 0 0 0),(3,.os true 1 1 v12 0 (qa l11) false),(6,.int .i64 x13)]∧τ=([.cells 0 (zd a0),.cells v12 (qb vck l11)]:zf)∧a0.fEnums=p17++q17∧x13=(qa p17:Int)∧xP.l17 q17 x13 l11=some r) _ ⟨[],a0.fEnums,0,l2,v3,rfl,rfl,rfl,rfl,rfl,h⟩ .s ?_;rintro m L τ ⟨p17,q17,x13,l11,v12,rfl,rfl,rfl,hE17,hi17,h⟩
   rcases q17 with _|⟨y17,q17⟩
   · have hz17:=yH hE17 hi17;simp only[xP.l17] at h
     refine za fun Z18 hZ18=>?_
     refine rgW [1,3,6,47] hz17 ?_;refine zD rfl ?_;apply zJ;apply hZ10;refine O [2] ?_;cases h;exact rtA
   obtain⟨hz17,hw17,hx17,hE'17,hi'17⟩:=yo hE17 hi17 hb17;simp only[xP.l17] at h
   refine za fun Z19 hZ19=>?_
   refine rgW [1,3,6,47] hz17 ?_;refine zE rfl ?_;apply zg;apply hZ19
   refine za fun Z20 hZ20=>?_
   apply zj
   refine za fun Z21 hZ21=>?_
   refine rc [1,3,6,58] fun K J=>?_
   have f22:=E28.idxS hx17;have f23:=E28.fldS0 (f:=9) rfl rfl hx17;obtain⟨r24,hr24,h⟩:=bind_some h;refine rnW 7 (aI @zh.eq_1 (aI f22 f23)) ?_;refine clN rfl rfl rfl (xv.ok hr24).ld ?_;refine κ 1 ?_;refine nkN J ?_;refine zB (b:=(!r24)) rfl (fun hc25=>?_) (fun hc25=>?_)
   · rw[if_pos hc25] at h;refine O [2] ?_;cases h;exact rtA
   rw[wn hc25] at h;apply zg;apply hZ21;have f26:=E28.idxS hx17;have f27:=E28.fldS0 (f:=9) rfl rfl hx17;obtain⟨_u28,hu28,h⟩:=bind_some h;have gu28:=yR hu28;have f29:=(zU E146.len l11)
   refine rg U [1,3,6] fun K J=>?_
   simp only[go_sem,qd,qg,qc,qe,qj,zM,yz,qV,qL,true_and,q5,yG,yf,yJ,zh,f26,f27,gu28,f29,yZ,qW,qQ,AV.one,qD,qC,qk,qp,ql,qK];apply J
   refine yX (L:=[(1,.op 0 0 0),(3,.os true 1 1 (v12+1) 0 (qa (l11++[y17.fName])) false),(6,.int .i64 x13)]) (τ:=[.cells 0 (zd a0),.cells (v12+1) (qb vck (l11++[y17.fName])),.cells 0 [.str y17.fName]]) .s ?_
   refine rc [1,3,6,7] fun K J=>?_
   have f30:=E28.idxS hx17;have f31:=E28.loadS rfl rfl hx17;obtain⟨r32,hr32,h⟩:=bind_some h;refine rnW 5 (aI @zh.eq_1 (aI f30 f31)) ?_;refine clN rfl rfl rfl ((y5.ok hr32).c _) ?_;refine κ 1 ?_;refine nkN J ?_;refine O [1,3,6,7,75] ?_;refine zR rfl (fun hc33=>?_) (fun hc33=>?_)
   · rw[if_neg hc33] at h;have t34:=eq_false hc33;refine rgW [2] t34 ?_;cases h;exact rtA
   rw[if_pos hc33] at h;have t35:=eq_true hc33;apply zg;apply hZ20
   refine rgE U [1,3,6] fun K J=>?_
   simp only[go_sem,qd,qc,hw17,t35];apply J
   exact⟨_,_,_,qo q17.length,⟨p17++[y17],q17,x13+1,l11++[y17.fName],v12+1,rfl,rfl,rfl,hE'17,hi'17,h⟩,(.t [0,1] false)⟩
 obtain⟨hz8,hw8,hx8,hE'8,hi'8⟩:=yo hE8 hi8 hb8;simp only[xP.l8] at h
 refine za fun Z36 hZ36=>?_
 refine rgW [1,3,4,12] hz8 ?_;refine zE rfl ?_;apply zg;apply hZ36
 refine za fun Z37 hZ37=>?_
 apply zj
 refine za fun Z38 hZ38=>?_
 refine rc [1,3,4,23] fun K J=>?_
 have f39:=E27.idxS hx8;have f40:=E27.fldS0 (f:=9) rfl rfl hx8;obtain⟨r41,hr41,h⟩:=bind_some h;refine rnW 7 (aI @ze.eq_1 (aI f39 f40)) ?_;refine clN rfl rfl rfl (xv.ok hr41).ld ?_;refine κ 1 ?_;refine nkN J ?_;refine zB (b:=(!r41)) rfl (fun hc42=>?_) (fun hc42=>?_)
 · rw[if_pos hc42] at h;refine O [2] ?_;cases h;exact rtA
 rw[wn hc42] at h;apply zg;apply hZ38;have f43:=E27.idxS hx8;have f44:=E27.fldS0 (f:=9) rfl rfl hx8;obtain⟨_u45,hu45,h⟩:=bind_some h;have gu45:=yR hu45;have f46:=(zU E146.len l2)
 refine rg U [1,3,4] fun K J=>?_
 simp only[go_sem,qd,qg,qc,qe,qj,zM,yz,qV,qL,true_and,q5,yG,yf,yJ,ze,f43,f44,gu45,f46,yZ,qW,qQ,AV.one,qD,qC,qk,qp,ql,qK];apply J
 refine yX (L:=[(1,.op 0 0 0),(3,.os true 1 1 (v3+1) 0 (qa (l2++[y8.fName])) false),(4,.int .i64 x4)]) (τ:=[.cells 0 (zd a0),.cells (v3+1) (qb vck (l2++[y8.fName])),.cells 0 [.str y8.fName]]) .s ?_;have f47:=E27.idxS hx8;have f48:=E27.loadS rfl rfl hx8;obtain⟨r49,hr49,h⟩:=bind_some h
 refine rd [1,3,4,5] fun K J=>?_
 refine DW.start (T:=tab) [.at [],.any,.at [],.any,.any,.at [],.eff,.any] [] ?_;refine DW.runN U 6 ?_;simp only[go_sem,qd,qg,qc,qe,ze,f47,f48];refine DW.call rfl rfl rfl ((yu.ok hr49).c _) ?_;refine DW.runN U 1 ?_;simp only[go_sem,qd,qc];refine DW.fin U (by decide +kernel) rfl ?_;simp only[zq,upd,qc,reduceIte,yD,xj];apply J
 refine O [1,3,4,5,41] ?_;refine zR rfl (fun hc50=>?_) (fun hc50=>?_)
 · rw[if_neg hc50] at h;have t51:=eq_false hc50;refine rgW [2] t51 ?_;cases h;exact rtA
 rw[if_pos hc50] at h;have t52:=eq_true hc50;apply zg;apply hZ37
 refine rgE U [1,3,4] fun K J=>?_
 simp only[go_sem,qd,qc,hw8,t52];apply J
 exact⟨_,_,_,qo q8.length,⟨p8++[y8],q8,x4+1,l2++[y8.fName],v3+1,rfl,rfl,rfl,hE'8,hi'8,h⟩,(.t [0,1] false)⟩
def ww.l22 (a0:zm):List Zk→Int→List (List UInt8)→Option Int
 |[],x18,l16=>some 0
 |y22::q22,x18,l16=>(xv y22.fName l16).bind fun r29=>(if (!r29)=true then some 6 else (vao (qa l16+1) 16).bind fun _u31=>bnd (xf a0 y22.fIn) fun r33=>bnd (xf a0 y22.fOut) fun r34=>(if ((!r33.2)||(!r34.2))=true then some 8 else ((ww.l22 a0 q22) (x18+1) (l16++[y22.fName]))))
def ww (a0:zm):Option Int:=
 (wG a0.fName).bind fun r2=>(if (!r2)=true then some 6 else (if (qa a0.fMessages:Int)=0 then some 12 else (if (((decide (10<(qa a0.fMessages:Int)))||(decide (6<(qa a0.fEnums:Int))))||(decide (6<(qa a0.fMethods:Int))))=true then some 4 else (xP a0).bind fun r11=>(if r11=0 then (ww.l22 a0 a0.fMethods 0 ([]:List (List UInt8))) else some r11))))
theorem ww.ok {a0 r}(h:ww a0=some r):ACalls qf 28 [.agg (zd a0)] [] (fun r' _=>r'=.int .i64 r):=by
 refine zk (rs:=[.tmp 2]) U Tryz.func28 rfl Tryz.ntmps28 rfl Tryz.call28 (by simp) ?_;refine zu [(0,.agg (zd a0))] ⟨rfl,trivial⟩ ?_;unfold ww at h;refine rgW [1] @zd.eq_1 ?_
 refine za fun Z1 hZ1=>?_
 apply zj
 refine rc [1,11] fun K J=>?_
 obtain⟨r2,hr2,h⟩:=bind_some h;refine κ 2 ?_;refine clN rfl rfl rfl ((wG.ok hr2).c _) ?_;refine κ 2 ?_;refine nkN J ?_;refine zB (b:=(!r2)) rfl (fun hc3=>?_) (fun hc3=>?_)
 · rw[if_pos hc3] at h;refine O [2] ?_;cases h;exact rtA
 rw[wn hc3] at h;refine O [1,16] ?_;refine zR rfl (fun hc4=>?_) (fun hc4=>?_)
 · rw[if_pos hc4] at h;have t5:=eq_true hc4;refine rgW [2] t5 ?_;cases h;exact rtA
 rw[if_neg hc4] at h;have t6:=eq_false hc4
 refine rc [1,21] fun K J=>?_
 refine rnW 5 t6 ?_;refine cut 5 26 31 [1] ((decide (10<(qa a0.fMessages:Int)))||(decide (6<(qa a0.fEnums:Int)))) t6 rfl ?_;refine κ 1 ?_;refine cut (b:=((decide (10<(qa a0.fMessages:Int)))||(decide (6<(qa a0.fEnums:Int))))) (hb:=boolP_eq _) 5 32 37 [1] (((decide (10<(qa a0.fMessages:Int)))||(decide (6<(qa a0.fEnums:Int))))||(decide (6<(qa a0.fMethods:Int)))) t6 rfl ?_;refine κ 1 ?_;refine nkN J ?_;refine zB (b:=(((decide (10<(qa a0.fMessages:Int)))||(decide (6<(qa a0.fEnums:Int))))||(decide (6<(qa a0.fMethods:Int))))) rfl (fun hc9=>?_) (fun hc9=>?_)
 · rw[if_pos hc9] at h;refine O [2] ?_;cases h;exact rtA
 rw[wn hc9] at h;apply zg;apply hZ1
 refine za fun Z10 hZ10=>?_
 refine rc [1,3] fun K J=>?_
 obtain⟨r11,hr11,h⟩:=bind_some h;refine κ 1 ?_;refine clN rfl rfl rfl ((xP.ok hr11).c _) ?_;refine κ 1 ?_;refine nkN J ?_;refine O [1,3,41] ?_;refine zR rfl (fun hc12=>?_) (fun hc12=>?_)
 · rw[if_neg hc12] at h;have t13:=eq_false hc12;refine rgW [2] t13 ?_;cases h;exact rtA
 rw[if_pos hc12] at h;have t14:=eq_true hc12;apply zg;apply hZ10;refine rgW [1,4] t14 ?_;refine YA 4 1 rfl ?_;refine yX (L:=[(1,.op 0 0 0),(4,.os true 1 1 0 0 (qa ([]:List (List UInt8))) false)]) (τ:=[.cells 0 (zd a0),.cells 0 (qb vck ([]:List (List UInt8)))]) .s ?_
 refine za fun Z15 hZ15=>?_
 refine O [1,4,5] ?_;apply zj
 refine xT 0 rfl fun hb22=>?_
 replace hb22:qa a0.fMethods≤9223372036854775807:=hb22.2.2.2.1.1;refine zG (fun m L τ=>∃ (p22 q22:List Zk) (x18:Int) (l16:List (List UInt8)) (v17:Nat),m=qa q22∧L=[(1,.op 0 0 0),(4,.os true 1 1 v17 0 (qa l16) false),(5,.int .i64 x18)]∧τ=([.cells 0 (zd a0),.cells v17 (qb vck l16)]:zf)∧a0.fMethods=p22++q22∧x18=(qa p22:Int)∧ww.l22 a0 q22 x18 l16=some r) _ ⟨[],a0.fMethods,0,([]:List (List UInt8)),0,rfl,rfl,rfl,rfl,rfl,h⟩ .s ?_;rintro m L τ ⟨p22,q22,x18,l16,v17,rfl,rfl,rfl,hE22,hi22,h⟩
 rcases q22 with _|⟨y22,q22⟩
 · have hz22:=yH hE22 hi22;simp only[ww.l22] at h
   refine za fun Z23 hZ23=>?_
   refine rgW [1,4,5,47] hz22 ?_;refine zD rfl ?_;apply zJ;apply hZ15;refine O [2] ?_;cases h;exact rtA
 obtain⟨hz22,hw22,hx22,hE'22,hi'22⟩:=yo hE22 hi22 hb22;simp only[ww.l22] at h
 refine za fun Z24 hZ24=>?_
 refine rgW [1,4,5,47] hz22 ?_;refine zE rfl ?_;apply zg;apply hZ24
 refine za fun Z25 hZ25=>?_
 apply zj;have f26:=E29.idxS hx22;have f27:=E29.loadS rfl rfl hx22;refine rgW [1,4,5,6] (aI @zv.eq_1 (aI f26 f27)) ?_
 refine za fun Z28 hZ28=>?_
 refine rc [1,4,5,6,59] fun K J=>?_
 obtain⟨r29,hr29,h⟩:=bind_some h;refine κ 3 ?_;refine clN rfl rfl rfl (xv.ok hr29).ld ?_;refine κ 1 ?_;refine nkN J ?_;refine zB (b:=(!r29)) rfl (fun hc30=>?_) (fun hc30=>?_)
 · rw[if_pos hc30] at h;refine O [2] ?_;cases h;exact rtA
 rw[wn hc30] at h;apply zg;apply hZ28;obtain⟨_u31,hu31,h⟩:=bind_some h;have gu31:=yR hu31;have f32:=(zU E146.len l16)
 refine rg U [1,4,5,6] fun K J=>?_
 simp only[go_sem,qd,qg,qc,qe,qj,zM,yz,qV,qL,true_and,q5,yG,yf,yJ,gu31,f32,yZ,qW,qQ,AV.one,qD,qC,qk,qp,ql,qK];apply J
 refine yX (L:=[(1,.op 0 0 0),(4,.os true 1 1 (v17+1) 0 (qa (l16++[y22.fName])) false),(5,.int .i64 x18),(6,.op 2 0 0)]) (τ:=[.cells 0 (zd a0),.cells (v17+1) (qb vck (l16++[y22.fName])),.cells 0 [.str y22.fName,.str y22.fIn,.str y22.fOut],.cells 0 [.str y22.fName]]) .s ?_
 refine rc [1,4,5,6,8] fun K J=>?_
 obtain⟨r33,hr33,h⟩:=yb h;refine κ 3 ?_;refine clN rfl rfl rfl ((xf.ok hr33).c _) ?_;refine rnW 6 @ze.eq_1 ?_;refine nkN J ?_
 refine rc [1,4,5,8,10] fun K J=>?_
 obtain⟨r34,hr34,h⟩:=yb h;refine κ 3 ?_;refine clN rfl rfl rfl ((xf.ok hr34).c _) ?_;refine rnW 6 @ze.eq_1 ?_;refine nkN J ?_
 refine rc [1,4,5,84] fun K J=>?_
 refine κ 3 ?_;refine cut (b:=(!r33.2)) (hb:=boolP_eq _) 3 81 84 [1,4,5] ((!r33.2)||(!r34.2)) (aI t6 (aI t14 (aI hz22 hw22))) rfl ?_;refine nkN J ?_;refine zB (b:=((!r33.2)||(!r34.2))) rfl (fun hc35=>?_) (fun hc35=>?_)
 · rw[if_pos hc35] at h;refine O [2] ?_;cases h;exact rtA
 rw[wn hc35] at h;apply zg;apply hZ25
 refine rgE U [1,4,5] fun K J=>?_
 simp only[go_sem,qd,qc,hw22];apply J
 exact⟨_,_,_,qo q22.length,⟨p22++[y22],q22,x18+1,l16++[y22.fName],v17+1,rfl,rfl,rfl,hE'22,hi'22,h⟩,(.t [0,1] false)⟩
end
end Go.Proofs.YtaahlckibpiphaaGreatDoor
