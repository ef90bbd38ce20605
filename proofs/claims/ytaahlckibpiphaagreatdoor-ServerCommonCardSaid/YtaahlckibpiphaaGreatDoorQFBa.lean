/- Parts of the proof, cut down to what it needs. -/
import Derived.Test.YtaahlckibpiphaaGreatDoorQFB
set_option linter.constructorNameAsVariable false
set_option linter.unusedSimpArgs false
set_option linter.unusedVariables false
namespace Go.Proofs.YtaahlckibpiphaaGreatDoor
open _root_.List renaming length → qa, flatMap → qc, map_nil → qk, map_cons → qn, length_cons → qq, length_nil → qu, drop_zero → qw, map_append → qz, length_append → qD, range_zero → qJ, nil_append → qK, cons_append → qL, range_succ → qP, flatMap_cons → qR, append_nil → qT, all_nil → qV, all_cons → qX, eq_nil_of_length_eq_zero → qY, take_length → qZ, flatMap_append → ub, flatMap_nil → ug, append_assoc → ui, range → uE

open _root_.Nat renaming reduceEqDiff → qb, reduceLT → qd, reduceAdd → qe, reduceLeDiff → qf, reduceMul → qi, zero_add → qj, reduceSub → ql, le_refl → qv, lt_succ_self → qx, reduceMod → qW, zero_mul → um, zero_le → uC, add_zero → uO
open _root_.Bool renaming or_true → qo, not_false → qp, not_true → qr, and_false → qs, and_true → qC, and_self → qE, or_false → qH, true_or → uG, false_or → u7
open _root_.Int renaming toNat → qA, fdiv → ur
open _root_.BitVec renaming ofInt → qt, toNat → qO

open _root_.UInt8 renaming ofNat → ua


open _root_.Go.Proofs.Tryz renaming prog → qg
section
set_option maxRecDepth 4000
set_option maxHeartbeats 1000000
open AM
theorem wb.ok {a0 a1 r}(h:wb a0 a1=r):ACalls qg 59 [.agg (za a0),.str a1] [] (fun r' _=>r'=.tup [.agg (zm r.1),.bool r.2]):=by
 refine zr (rs:=[.cell 4 61,.tmp 5]) tok Tryz.func59 rfl Tryz.ntmps59 rfl Tryz.call59 (by simp) ?_;refine zA [(0,.agg (za a0)),(1,.str a1)] ⟨rfl,rfl,trivial⟩ ?_;unfold wb at h
 refine rg tok [1,2,4] fun K hK=>?_
 simp only[go_sem,qd,qb,qe,reduceCtorEq,za];apply hK
 refine zd fun Z1 hZ1=>?_
 refine rgN [1,4,9,10,11] ?_;apply zn
 refine y5 9 fun hb4=>?_
 replace hb4:qa a0.fMethods≤9223372036854775807:=hb4.1;refine yh (fun m L τ=>∃ (p4 q4:List Za) (x2:Int),m=qa q4∧L=[(1,.str a1),(4,.op 0 0 0),(9,.ds true (qc zm a0.fMethods) (qa a0.fMethods) false),(10,.int .i64 (qa a0.fMethods:Int)),(11,.int .i64 x2)]∧τ=([.cells 0 [.str [],.str [],.str []]]:ze)∧a0.fMethods=p4++q4∧x2=(qa p4:Int)∧wb.l4 a1 q4 x2=r) _ ⟨[],a0.fMethods,0,rfl,rfl,rfl,rfl,rfl,h⟩ (.t [1] false) ?_;rintro m L τ ⟨p4,q4,x2,rfl,rfl,rfl,hE4,hi4,h⟩
 rcases q4 with _|⟨y4,q4⟩
 · have hz4:=xw hE4 hi4;simp only[wb.l4] at h
   refine rg tok [1,4,9,10,11,12] fun K hK=>?_
   simp only[go_sem,qd,qb,hz4];apply hK
   refine zd fun Z5 hZ5=>?_
   refine zF rfl ?_;apply yc;apply hZ1;refine rgN [4,5] ?_;cases h;exact rtA
 obtain⟨hz4,hw4,hx4,hE'4,hi'4⟩:=y3 hE4 hi4 hb4;simp only[wb.l4] at h
 refine rg tok [1,4,9,10,11,12] fun K hK=>?_
 simp only[go_sem,qd,qb,hz4];apply hK
 refine zd fun Z6 hZ6=>?_
 refine zJ rfl ?_;apply zj;apply hZ6
 refine zd fun Z7 hZ7=>?_
 apply zn;have f8:=E29.idxS hx4;have f9:=E29.loadS rfl rfl hx4
 refine rg tok [1,4,7,9,10,11] fun K hK=>?_
 simp only[go_sem,qd,qf,qb,qe,zm,f8,f9];apply hK
 refine rgN [1,4,7,9,10,11,18] ?_;refine yf rfl (fun hc10=>?_) (fun hc10=>?_)
 · rw[if_pos hc10] at h;have t11:=eq_true hc10
   refine rg tok [4,5] fun K hK=>?_
   simp only[go_sem,qd,qf,qb,qe,t11];apply hK
   cases h;exact rtA
 rw[if_neg hc10] at h;have t12:=eq_false hc10;apply zj;apply hZ7
 refine rgE tok [1,4,9,10,11] fun K hK=>?_
 simp only[go_sem,qd,qb,hw4,t12];apply hK
 exact⟨_,_,_,qx q4.length,⟨p4++[y4],q4,x2+1,rfl,rfl,rfl,hE'4,hi'4,h⟩,(.t [0] false)⟩
def xf.l20 (xJ:zp→Int→Option Int)(a1:Int)(x7:Int)(rec10:Int→Int→Option Int):List zp→Int→Int→Option Int
 |[],x17,x16=>(rec10 (x7+1) x16)
 |y20::q20,x17,x16=>(xJ y20 (IntKind.i64.wrap (a1-1))).bind fun r26=>((xf.l20 xJ a1 x7 rec10 q20) (x17+1) (if x16<r26 then r26 else x16))
def xf.l10 (xJ:zp→Int→Option Int)(a1:Int):List zE→Int→Int→Option Int
 |[],x7,x6=>some (IntKind.i64.wrap (x6+1))
 |y10::q10,x7,x6=>(xf.l20 xJ a1 x7 (xf.l10 xJ a1 q10) y10.fTrees 0 x6)
def xf.body (xJ:zp→Int→Option Int)(a0:zp)(a1:Int):Option Int:=
 (if ((!(decide (a0.fKind=3)))||(decide (a1=0)))=true then some 0 else (xf.l10 xJ a1 a0.fEntries 0 0))
theorem xf.step (xJ:zp→Int→Option Int)(ih_value_deep:∀ (a0:zp) (a1:Int) (r:Int),xJ a0 a1=some r→ACalls qg 179 [.agg (zg a0),.int .i64 a1] [] (fun r' _=>r'=.int .i64 r))(a0:zp)(a1:Int)(r:Int)(h:xf.body xJ a0 a1=some r):ACalls qg 179 [.agg (zg a0),.int .i64 a1] [] (fun r' _=>r'=.int .i64 r):=by
 have ev_value_deep:=fun a0 a1 r h σ=>(ih_value_deep a0 a1 r h).c σ
 refine zr (rs:=[.tmp 4]) tok Tryz.func179 rfl Tryz.ntmps179 rfl Tryz.call179 (by simp) ?_;refine zA [(0,.agg (zg a0)),(1,.int .i64 a1)] ⟨rfl,rfl,trivial⟩ ?_;unfold xf.body at h
 refine rg tok [1,2] fun K hK=>?_
 simp only[go_sem,qd,qb,qe,reduceCtorEq,zg];apply hK
 refine zd fun Z1 hZ1=>?_
 refine rc [1,2,16] fun K hK=>?_
 refine rnN 4 ?_;refine zG 3 (fun L τ=>L=[(1,.int .i64 a1),(2,.op 0 0 0),(16,.bool ((!(decide (a0.fKind=3)))||(decide (a1=0))))]∧τ=([.cells 0 (zg a0)]:ze)) ?_ ?_
 · refine xS 13 rfl (fun hg13=>?_) (fun hg13=>?_)
   · have t2:=eq_false hg13;refine rnN 3 ?_;refine zh ⟨rfl,_,_,⟨rfl,rfl⟩,.p t2⟩
   have t3:=eq_true hg13;refine rnN 3 ?_;refine zh ⟨rfl,_,_,⟨rfl,rfl⟩,.p t3⟩
 rintro _ _ ⟨rfl,rfl⟩;refine nkN hK ?_;refine zT (b:=((!(decide (a0.fKind=3)))||(decide (a1=0)))) rfl (fun hc4=>?_) (fun hc4=>?_)
 · rw[if_pos hc4] at h;refine rgN [4] ?_;cases h;exact rtA
 rw[wO hc4] at h;apply zj;apply hZ1;refine rgN [1,2,5] ?_
 refine zd fun Z5 hZ5=>?_
 refine rgN [1,5,18,19,20] ?_;apply zn
 refine y5 18 fun hb10=>?_
 replace hb10:qa a0.fEntries≤9223372036854775807:=hb10.1;refine yh (fun m L τ=>∃ (p10 q10:List zE) (x7:Int) (x6:Int),m=qa q10∧L=[(1,.int .i64 a1),(5,.int .i64 x6),(18,.ds true (qc zu a0.fEntries) (qa a0.fEntries) false),(19,.int .i64 (qa a0.fEntries:Int)),(20,.int .i64 x7)]∧τ=([]:ze)∧a0.fEntries=p10++q10∧x7=(qa p10:Int)∧xf.l10 xJ a1 q10 x7 x6=some r) _ ⟨[],a0.fEntries,0,0,rfl,rfl,rfl,rfl,rfl,h⟩ (.t [] false) ?_;rintro m L τ ⟨p10,q10,x7,x6,rfl,rfl,rfl,hE10,hi10,h⟩
 rcases q10 with _|⟨y10,q10⟩
 · have hz10:=xw hE10 hi10;simp only[xf.l10] at h
   refine rg tok [1,5,18,19,20,21] fun K hK=>?_
   simp only[go_sem,qd,qb,hz10];apply hK
   refine zd fun Z11 hZ11=>?_
   refine zF rfl ?_;apply yc;apply hZ5;refine rgN [4] ?_;cases h;exact rtA
 obtain⟨hz10,hw10,hx10,hE'10,hi'10⟩:=y3 hE10 hi10 hb10;simp only[xf.l10] at h
 refine rg tok [1,5,18,19,20,21] fun K hK=>?_
 simp only[go_sem,qd,qb,hz10];apply hK
 refine zd fun Z12 hZ12=>?_
 refine zJ rfl ?_;apply zj;apply hZ12
 refine zd fun Z13 hZ13=>?_
 apply zn;have f14:=E34.idxS hx10;have f15:=E34.loadS rfl rfl hx10
 refine rg tok [1,5,7,18,19,20] fun K hK=>?_
 simp only[go_sem,qd,qf,qb,qe,zW,xd,f14,f15];apply hK
 refine rgN [1,5,18,19,20,25,26,27] ?_;apply zn
 refine y5 25 fun hb20=>?_
 replace hb20:qa y10.fTrees≤9223372036854775807:=hb20.1;refine yh (fun m L τ=>∃ (p20 q20:List zp) (x17:Int) (x16:Int),m=qa q20∧L=[(1,.int .i64 a1),(5,.int .i64 x16),(18,.ds true (qc zu a0.fEntries) (qa a0.fEntries) false),(19,.int .i64 (qa a0.fEntries:Int)),(20,.int .i64 x7),(25,.ds true (qc z2 y10.fTrees) (qa y10.fTrees) false),(26,.int .i64 (qa y10.fTrees:Int)),(27,.int .i64 x17)]∧τ=([]:ze)∧y10.fTrees=p20++q20∧x17=(qa p20:Int)∧xf.l20 xJ a1 x7 (xf.l10 xJ a1 q10) q20 x17 x16=some r) _ ⟨[],y10.fTrees,0,x6,rfl,rfl,rfl,rfl,rfl,h⟩ (.t [] false) ?_;rintro m L τ ⟨p20,q20,x17,x16,rfl,rfl,rfl,hE20,hi20,h⟩
 rcases q20 with _|⟨y20,q20⟩
 · have hz20:=xw hE20 hi20;simp only[xf.l20] at h
   refine rg tok [1,5,18,19,20,25,26,27,28] fun K hK=>?_
   simp only[go_sem,qd,qb,hz20];apply hK
   refine zd fun Z21 hZ21=>?_
   refine zF rfl ?_;apply yc;apply hZ13
   refine rgE tok [1,5,18,19,20] fun K hK=>?_
   simp only[go_sem,qd,qb,hw10];apply hK
   exact⟨_,_,_,qx q10.length,⟨p10++[y10],q10,x7+1,x16,rfl,rfl,rfl,hE'10,hi'10,h⟩,.s⟩
 obtain⟨hz20,hw20,hx20,hE'20,hi'20⟩:=y3 hE20 hi20 hb20;simp only[xf.l20] at h
 refine rg tok [1,5,18,19,20,25,26,27,28] fun K hK=>?_
 simp only[go_sem,qd,qb,hz20];apply hK
 refine zd fun Z22 hZ22=>?_
 refine zJ rfl ?_;apply zj;apply hZ22
 refine zd fun Z23 hZ23=>?_
 apply zn;have f24:=E38.idxS hx20;have f25:=E38.loadS rfl rfl hx20
 refine rg tok [1,5,9,18,19,20,25,26,27] fun K hK=>?_
 simp only[go_sem,qd,qf,qb,qe,zg,yi,f24,f25];apply hK
 refine rcE [1,5,18,19,20,25,26,27] fun K hK=>?_
 obtain⟨r26,hr26,h⟩:=bind_some h;refine rnN 4 ?_;refine clN rfl rfl rfl (ev_value_deep y20 (IntKind.i64.wrap (a1-1)) r26 hr26 _) ?_;refine zw tok 2 ?_;simp only[go_sem,qd,qb,vbf,foldO,vbM];refine nkN hK ?_;apply hZ23
 refine rgE tok [1,5,18,19,20,25,26,27] fun K hK=>?_
 simp only[go_sem,qd,qb,hw20];apply hK
 exact⟨_,_,_,qx q20.length,⟨p20++[y20],q20,x17+1,(if x16<r26 then r26 else x16),rfl,rfl,rfl,hE'20,hi'20,h⟩,(.t [] false)⟩
def xf : Nat→zp→Int→Option Int
 |0,_,_=>none
 |k+1,a0,a1=>xf.body (xf k) a0 a1
theorem xf.all (k:Nat):(∀ (a0:zp) (a1:Int) (r:Int),xf k a0 a1=some r→ACalls qg 179 [.agg (zg a0),.int .i64 a1] [] (fun r' _=>r'=.int .i64 r)):=by
 induction k with
 |zero=>exact (fun a0 a1 r h=>by simp only[xf] at h; cases h)
 |succ k ih=>exact (fun a0 a1 r h=>xf.step _ ih a0 a1 r (by simpa only [xf] using h))
theorem xf.ev (k:Nat)(a0:zp)(a1:Int)(r:Int)(h:xf k a0 a1=some r)(σ:ze):ACalls qg 179 [.agg (zg a0),.int .i64 a1] σ (fun r' σ'=>r'=.int .i64 r∧σ'=σ):=
 ((xf.all k) a0 a1 r h).c σ
def Xc (a0:zp):Option Int:=
 (xf xK a0 101).bind fun r1=>some r1
theorem Xc.ok {a0 r}(h:Xc a0=some r):ACalls qg 139 [.agg (zg a0)] [] (fun r' _=>r'=.int .i64 r):=by
 refine zr (rs:=[.tmp 2]) tok Tryz.func139 rfl Tryz.ntmps139 rfl Tryz.call139 (by simp) ?_;refine zA [(0,.agg (zg a0))] ⟨rfl,trivial⟩ ?_;unfold Xc at h
 refine rg tok [1] fun K hK=>?_
 simp only[go_sem,qd,qb,qe,reduceCtorEq,zg];apply hK
 refine rc [2] fun K hK=>?_
 obtain⟨r1,hr1,h⟩:=bind_some h;refine rnN 1 ?_;refine clN rfl rfl rfl (xf.ev xK a0 101 r1 hr1 _) ?_;refine rnN 1 ?_;refine nkN hK ?_;cases h;exact rtA
def ZU (a0:xh):Bool:=
 (if ((decide (a0.fTag<1))||(decide (500<a0.fTag)))=true then false else (if a0.fWire=0 then decide (a0.fB=[]) else (if a0.fWire=1 then ((decide (a0.fN=0))&&(decide ((qa a0.fB:Int)≤4096))) else false)))
theorem ZU.ok {a0 r}(h:ZU a0=r):ACalls qg 147 [.agg (zx a0)] [] (fun r' _=>r'=.bool r):=by
 refine zr (rs:=[.tmp 2]) tok Tryz.func147 rfl Tryz.ntmps147 rfl Tryz.call147 (by simp) ?_;refine zA [(0,.agg (zx a0))] ⟨rfl,trivial⟩ ?_;unfold ZU at h
 refine rg tok [1] fun K hK=>?_
 simp only[go_sem,qd,qb,qe,reduceCtorEq,zx];apply hK
 refine zd fun Z1 hZ1=>?_
 refine rc [1,10] fun K hK=>?_
 refine rnN 4 ?_;refine zG 4 (fun L τ=>L=[(1,.op 0 0 0),(10,.bool ((decide (a0.fTag<1))||(decide (500<a0.fTag))))]∧τ=([.cells 0 [.int .i64 a0.fTag,.int .i64 a0.fWire,.int .i64 a0.fN,.str a0.fB]]:ze)) ?_ ?_
 · refine xS 6 rfl (fun hg6=>?_) (fun hg6=>?_)
   · have t2:=eq_true hg6;refine rnN 4 ?_;refine zh ⟨rfl,_,_,⟨rfl,rfl⟩,.p t2⟩
   have t3:=eq_false hg6;refine rnN 4 ?_;refine zh ⟨rfl,_,_,⟨rfl,rfl⟩,.p t3⟩
 rintro _ _ ⟨rfl,rfl⟩;refine nkN hK ?_;refine zT (b:=((decide (a0.fTag<1))||(decide (500<a0.fTag)))) rfl (fun hc4=>?_) (fun hc4=>?_)
 · rw[if_pos hc4] at h;refine rgN [2] ?_;cases h;exact rtA
 rw[wO hc4] at h;apply zj;apply hZ1
 refine zd fun Z5 hZ5=>?_
 refine rgN [1,12] ?_;apply zn;refine rgN [1,12,13] ?_;refine yf rfl (fun hc6=>?_) (fun hc6=>?_)
 · rw[if_pos hc6] at h;have t7:=eq_true hc6
   refine rg tok [2] fun K hK=>?_
   simp only[go_sem,qd,qb,qe,t7];apply hK
   cases h;exact rtA
 rw[if_neg hc6] at h;have t8:=eq_false hc6
 refine rg tok [1,18] fun K hK=>?_
 simp only[go_sem,qd,qb,t8];apply hK
 refine yf rfl (fun hc9=>?_) (fun hc9=>?_)
 · rw[if_pos hc9] at h;have t10:=eq_true hc9
   refine rc [2] fun K hK=>?_
   refine zw tok 4 ?_;simp only[go_sem,qd,qb,qe,t10];refine zG 5 (fun L τ=>L=[(28,.bool ((decide (a0.fN=0))&&(decide ((qa a0.fB:Int)≤4096))))]∧τ=([.cells 0 [.int .i64 a0.fTag,.int .i64 a0.fWire,.int .i64 a0.fN,.str a0.fB]]:ze)) ?_ ?_
   · refine xS 23 rfl (fun hg23=>?_) (fun hg23=>?_)
     · have t11:=eq_true hg23;refine rnN 5 ?_;refine zh ⟨rfl,_,_,⟨rfl,rfl⟩,.p t11⟩
     have t12:=eq_false hg23;refine rnN 5 ?_;refine zh ⟨rfl,_,_,⟨rfl,rfl⟩,.p t12⟩
   rintro _ _ ⟨rfl,rfl⟩;refine rnN 1 ?_;refine nkN hK ?_;cases h;exact rtA
 rw[if_neg hc9] at h;have t13:=eq_false hc9;apply zj;apply hZ5
 refine rg tok [2] fun K hK=>?_
 simp only[go_sem,qd,qb,t13];apply hK
 cases h;exact rtA
def Ze.l4 (a0:List xh):Nat→Int→Option Bool
 |0,_=>none
 |k4+1,x2=>(if x2<(qa a0:Int) then (Xe a0 x2).bind fun y9=>(Xe a0 (IntKind.i64.wrap (x2-1))).bind fun y12=>(if y9.fTag<y12.fTag then some false else ((Ze.l4 a0 k4) (IntKind.i64.wrap (x2+1)))) else some true)
def Ze (a0:List xh):Option Bool:=
 (Ze.l4 a0 xK 1)
theorem Ze.ok {a0 r}(h:Ze a0=some r):ACalls qg 223 [.ds true (qc zx a0) (qa a0) false] [] (fun r' _=>r'=.bool r):=by
 refine zr (rs:=[.tmp 2]) tok Tryz.func223 rfl Tryz.ntmps223 rfl Tryz.call223 (by simp) ?_;refine zA [(0,.ds true (qc zx a0) (qa a0) false)] ⟨rfl,trivial⟩ ?_;unfold Ze at h;refine rgN [0] ?_
 refine zd fun Z1 hZ1=>?_
 refine rgN [0,3] ?_;apply zn;refine yh (fun m L τ=>∃ (k4:Nat) (x2:Int),m=0+k4∧L=[(0,.ds true (qc zx a0) (qa a0) false),(3,.int .i64 x2)]∧τ=([]:ze)∧Ze.l4 a0 k4 x2=some r) _ ⟨xK,1,rfl,rfl,rfl,h⟩ .s ?_;rintro m L τ ⟨k4,x2,rfl,rfl,rfl,h⟩
 rcases k4 with _|k4
 · cases h
 simp only[Ze.l4] at h
 refine zd fun Z5 hZ5=>?_
 refine rgN [0,3,7] ?_;refine yf rfl (fun hc6=>?_) (fun hc6=>?_)
 · rw[if_pos hc6] at h;have t7:=eq_true hc6;apply zj;apply hZ5
   refine zd fun Z8 hZ8=>?_
   apply zn;obtain⟨y9,hy9,h⟩:=bind_some h;have f10:=E35.idxS hy9;have f11:=E35.fldS0 (f:=3) rfl rfl hy9;obtain⟨y12,hy12,h⟩:=bind_some h;have f13:=E35.idxS hy12;have f14:=E35.fldS0 (f:=3) rfl rfl hy12
   refine rd [0,3,21] fun K hK=>?_
   refine DW.start (T:=tab) [.any,.any,.any,.any,.at [],.any,.any,.any,.any,.any,.at [],.any] [] ?_;refine DW.runN tok 8 ?_;simp only[go_sem,qd,qb,reduceCtorEq,zx,t7,f10,f11];refine DW.runN tok 4 ?_;simp only[go_sem,qd,qb,reduceCtorEq,zx,f13,f14];refine DW.fin tok (by decide +kernel) rfl ?_;simp only[zz,upd,qb,reduceIte,yS,xD];apply hK
   refine yf rfl (fun hc15=>?_) (fun hc15=>?_)
   · rw[if_pos hc15] at h;have t16:=eq_true hc15
     refine rg tok [2] fun K hK=>?_
     simp only[go_sem,qd,qb,reduceCtorEq,t16];apply hK
     cases h;exact rtA
   rw[if_neg hc15] at h;have t17:=eq_false hc15;apply zj;apply hZ8
   refine rgE tok [0,3] fun K hK=>?_
   simp only[go_sem,qd,qb,reduceCtorEq,t17];apply hK
   exact⟨_,_,_,qx (0+k4),⟨k4,IntKind.i64.wrap (x2+1),rfl,rfl,rfl,h⟩,.s⟩
 rw[if_neg hc6] at h;have t18:=eq_false hc6;apply yc;apply hZ1
 refine rg tok [2] fun K hK=>?_
 simp only[go_sem,qd,qb,reduceCtorEq,t18];apply hK
 cases h;exact rtA
def wm.l16 (x2:Int)(rec4:Int→Option Bool)(y4:xh):List zE→Int→Option Bool
 |[],x14=>(rec4 (x2+1))
 |y16::q16,x14=>(if y16.fTag=y4.fTag then some false else ((wm.l16 x2 rec4 y4 q16) (x14+1)))
def wm.l4 (a0:zp):List xh→Int→Option Bool
 |[],x2=>(Ze a0.fRest).bind fun r6=>some r6
 |y4::q4,x2=>bnd (ZU y4) fun r12=>(if (!r12)=true then some false else (wm.l16 x2 (wm.l4 a0 q4) y4 a0.fEntries 0))
def wm (a0:zp):Option Bool:=
 (wm.l4 a0 a0.fRest 0)
theorem wm.ok {a0 r}(h:wm a0=some r):ACalls qg 181 [.agg (zg a0)] [] (fun r' _=>r'=.bool r):=by
 refine zr (rs:=[.tmp 2]) tok Tryz.func181 rfl Tryz.ntmps181 rfl Tryz.call181 (by simp) ?_;refine zA [(0,.agg (zg a0))] ⟨rfl,trivial⟩ ?_;unfold wm at h
 refine rg tok [1] fun K hK=>?_
 simp only[go_sem,qd,qb,qe,reduceCtorEq,zg];apply hK
 refine zd fun Z1 hZ1=>?_
 refine rgN [1,8,9,10] ?_;apply zn
 refine y5 8 fun hb4=>?_
 replace hb4:qa a0.fRest≤9223372036854775807:=hb4.1;refine yh (fun m L τ=>∃ (p4 q4:List xh) (x2:Int),m=qa q4∧L=[(1,.op 0 0 0),(8,.ds true (qc zx a0.fRest) (qa a0.fRest) false),(9,.int .i64 (qa a0.fRest:Int)),(10,.int .i64 x2)]∧τ=([.cells 0 (zg a0)]:ze)∧a0.fRest=p4++q4∧x2=(qa p4:Int)∧wm.l4 a0 q4 x2=some r) _ ⟨[],a0.fRest,0,rfl,rfl,rfl,rfl,rfl,h⟩ .s ?_;rintro m L τ ⟨p4,q4,x2,rfl,rfl,rfl,hE4,hi4,h⟩
 rcases q4 with _|⟨y4,q4⟩
 · have hz4:=xw hE4 hi4;simp only[wm.l4] at h
   refine rg tok [1,8,9,10,11] fun K hK=>?_
   simp only[go_sem,qd,qb,hz4];apply hK
   refine zd fun Z5 hZ5=>?_
   refine zF rfl ?_;apply yc;apply hZ1
   refine rc [2] fun K hK=>?_
   obtain⟨r6,hr6,h⟩:=bind_some h;refine rnN 2 ?_;refine clN rfl rfl rfl ((Ze.ok hr6).c _) ?_;refine rnN 1 ?_;refine nkN hK ?_;cases h;exact rtA
 obtain⟨hz4,hw4,hx4,hE'4,hi'4⟩:=y3 hE4 hi4 hb4;simp only[wm.l4] at h
 refine rg tok [1,8,9,10,11] fun K hK=>?_
 simp only[go_sem,qd,qb,hz4];apply hK
 refine zd fun Z7 hZ7=>?_
 refine zJ rfl ?_;apply zj;apply hZ7
 refine zd fun Z8 hZ8=>?_
 apply zn;have f9:=E35.idxS hx4;have f10:=E35.loadS rfl rfl hx4
 refine rg tok [1,4,8,9,10] fun K hK=>?_
 simp only[go_sem,qd,qf,qb,qe,zx,f9,f10];apply hK
 refine zd fun Z11 hZ11=>?_
 refine rc [1,4,8,9,10,16] fun K hK=>?_
 obtain⟨r12,hr12,h⟩:=yg h;refine rnN 1 ?_;refine clN rfl rfl rfl ((ZU.ok hr12).c _) ?_;refine rnN 1 ?_;refine nkN hK ?_;refine zT (b:=(!r12)) rfl (fun hc13=>?_) (fun hc13=>?_)
 · rw[if_pos hc13] at h;refine rgN [2] ?_;cases h;exact rtA
 rw[wO hc13] at h;apply zj;apply hZ11;refine rgN [1,4,8,9,10,18,19,20] ?_;apply zn
 refine y5 18 fun hb16=>?_
 replace hb16:qa a0.fEntries≤9223372036854775807:=hb16.1;refine yh (fun m L τ=>∃ (p16 q16:List zE) (x14:Int),m=qa q16∧L=[(1,.op 0 0 0),(4,.op 1 0 0),(8,.ds true (qc zx a0.fRest) (qa a0.fRest) false),(9,.int .i64 (qa a0.fRest:Int)),(10,.int .i64 x2),(18,.ds true (qc zu a0.fEntries) (qa a0.fEntries) false),(19,.int .i64 (qa a0.fEntries:Int)),(20,.int .i64 x14)]∧τ=([.cells 0 (zg a0),.cells 0 [.int .i64 y4.fTag,.int .i64 y4.fWire,.int .i64 y4.fN,.str y4.fB]]:ze)∧a0.fEntries=p16++q16∧x14=(qa p16:Int)∧wm.l16 x2 (wm.l4 a0 q4) y4 q16 x14=some r) _ ⟨[],a0.fEntries,0,rfl,rfl,rfl,rfl,rfl,h⟩ .s ?_;rintro m L τ ⟨p16,q16,x14,rfl,rfl,rfl,hE16,hi16,h⟩
 rcases q16 with _|⟨y16,q16⟩
 · have hz16:=xw hE16 hi16;simp only[wm.l16] at h
   refine rg tok [1,4,8,9,10,18,19,20,21] fun K hK=>?_
   simp only[go_sem,qd,qb,hz16];apply hK
   refine zd fun Z17 hZ17=>?_
   refine zF rfl ?_;apply yc;apply hZ8
   refine rgE tok [1,8,9,10] fun K hK=>?_
   simp only[go_sem,qd,qb,hw4];apply hK
   exact⟨_,_,_,qx q4.length,⟨p4++[y4],q4,x2+1,rfl,rfl,rfl,hE'4,hi'4,h⟩,(.t [0] false)⟩
 obtain⟨hz16,hw16,hx16,hE'16,hi'16⟩:=y3 hE16 hi16 hb16;simp only[wm.l16] at h
 refine rg tok [1,4,8,9,10,18,19,20,21] fun K hK=>?_
 simp only[go_sem,qd,qb,hz16];apply hK
 refine zd fun Z18 hZ18=>?_
 refine zJ rfl ?_;apply zj;apply hZ18
 refine zd fun Z19 hZ19=>?_
 apply zn;have f20:=E34.idxS hx16;have f21:=E34.loadS rfl rfl hx16
 refine rg tok [1,4,6,8,9,10,18,19,20] fun K hK=>?_
 simp only[go_sem,qd,qf,qb,qe,zW,xd,f20,f21];apply hK
 refine rgN [1,4,8,9,10,18,19,20,28] ?_;refine yf rfl (fun hc22=>?_) (fun hc22=>?_)
 · rw[if_pos hc22] at h;have t23:=eq_true hc22
   refine rg tok [2] fun K hK=>?_
   simp only[go_sem,qd,qb,t23];apply hK
   cases h;exact rtA
 rw[if_neg hc22] at h;have t24:=eq_false hc22;apply zj;apply hZ19
 refine rgE tok [1,4,8,9,10,18,19,20] fun K hK=>?_
 simp only[go_sem,qd,qb,hw16,t24];apply hK
 exact⟨_,_,_,qx q16.length,⟨p16++[y16],q16,x14+1,rfl,rfl,rfl,hE'16,hi'16,h⟩,(.t [0,1] false)⟩
def yj.j25 (x16:Int)(rec18:Int→Option Bool)(x24:Bool):Option Bool:=
 (if x24=true then some false else (rec18 (x16+1)))
def yj.l18 (yE:zp→Option Bool)(x3:Int)(rec6:Int→Int→Option Bool)(y6:zE):List zp→Int→Option Bool
 |[],x16=>(rec6 (x3+1) y6.fTag)
 |y18::q18,x16=>(Xe y6.fTrees 0).bind fun y27=>(if y18.fKind=y27.fKind then (yE y18).bind fun r32=>(yj.j25 x16 (yj.l18 yE x3 rec6 y6 q18) (!r32)) else (yj.j25 x16 (yj.l18 yE x3 rec6 y6 q18) true))
def yj.l6 (yE:zp→Option Bool):List zE→Int→Int→Option Bool
 |[],x3,x2=>some true
 |y6::q6,x3,x2=>(if ((((decide (y6.fTag≤x2))||(decide (500<y6.fTag)))||(decide ((qa y6.fTrees:Int)<1)))||(decide (64<(qa y6.fTrees:Int))))=true then some false else (yj.l18 yE x3 (yj.l6 yE q6) y6 y6.fTrees 0))
def yj.body (wi:zp→Option Bool)(yE:zp→Option Bool)(a0:zp):Option Bool:=
 (yj.l6 yE a0.fEntries 0 0)
theorem yj.step (wi:zp→Option Bool)(yE:zp→Option Bool)(YY:∀ (a0:zp) (r:Bool),wi a0=some r→ACalls qg 180 [.agg (zg a0)] [] (fun r' _=>r'=.bool r))(XB:∀ (a0:zp) (r:Bool),yE a0=some r→ACalls qg 140 [.agg (zg a0)] [] (fun r' _=>r'=.bool r))(a0:zp)(r:Bool)(h:yj.body wi yE a0=some r):ACalls qg 180 [.agg (zg a0)] [] (fun r' _=>r'=.bool r):=by
 have ev_value_entries:=fun a0 r h σ=>(YY a0 r h).c σ
 have ev_value_right:=fun a0 r h σ=>(XB a0 r h).c σ
 refine zr (rs:=[.tmp 2]) tok Tryz.func180 rfl Tryz.ntmps180 rfl Tryz.call180 (by simp) ?_;refine zA [(0,.agg (zg a0))] ⟨rfl,trivial⟩ ?_;unfold yj.body at h
 refine rg tok [1] fun K hK=>?_
 simp only[go_sem,qd,qb,qe,reduceCtorEq,zg];apply hK
 refine rgN [1,3] ?_
 refine zd fun Z1 hZ1=>?_
 refine rgN [3,9,10,11] ?_;apply zn
 refine y5 9 fun hb6=>?_
 replace hb6:qa a0.fEntries≤9223372036854775807:=hb6.1;refine yh (fun m L τ=>∃ (p6 q6:List zE) (x3:Int) (x2:Int),m=qa q6∧L=[(3,.int .i64 x2),(9,.ds true (qc zu a0.fEntries) (qa a0.fEntries) false),(10,.int .i64 (qa a0.fEntries:Int)),(11,.int .i64 x3)]∧τ=([]:ze)∧a0.fEntries=p6++q6∧x3=(qa p6:Int)∧yj.l6 yE q6 x3 x2=some r) _ ⟨[],a0.fEntries,0,0,rfl,rfl,rfl,rfl,rfl,h⟩ (.t [] false) ?_;rintro m L τ ⟨p6,q6,x3,x2,rfl,rfl,rfl,hE6,hi6,h⟩
 rcases q6 with _|⟨y6,q6⟩
 · have hz6:=xw hE6 hi6;simp only[yj.l6] at h
   refine rg tok [3,9,10,11,12] fun K hK=>?_
   simp only[go_sem,qd,qb,hz6];apply hK
   refine zd fun Z7 hZ7=>?_
   refine zF rfl ?_;apply yc;apply hZ1;refine rgN [2] ?_;cases h;exact rtA
 obtain⟨hz6,hw6,hx6,hE'6,hi'6⟩:=y3 hE6 hi6 hb6;simp only[yj.l6] at h
 refine rg tok [3,9,10,11,12] fun K hK=>?_
 simp only[go_sem,qd,qb,hz6];apply hK
 refine zd fun Z8 hZ8=>?_
 refine zJ rfl ?_;apply zj;apply hZ8
 refine zd fun Z9 hZ9=>?_
 apply zn;have f10:=E34.idxS hx6;have f11:=E34.loadS rfl rfl hx6
 refine rg tok [3,5,9,10,11] fun K hK=>?_
 simp only[go_sem,qd,qf,qb,qe,zW,xd,f10,f11];apply hK
 refine zd fun Z12 hZ12=>?_
 refine rc [5,9,10,11,35] fun K hK=>?_
 refine rnN 5 ?_;refine zG 4 (fun L τ=>L=[(5,.op 0 0 0),(9,.ds true (qc zu a0.fEntries) (qa a0.fEntries) false),(10,.int .i64 (qa a0.fEntries:Int)),(11,.int .i64 x3),(23,.bool ((decide (y6.fTag≤x2))||(decide (500<y6.fTag))))]∧τ=([.cells 0 (zW y6)]:ze)) ?_ ?_
 · refine xS 19 rfl (fun hg19=>?_) (fun hg19=>?_)
   · have t13:=eq_true hg19;refine rnN 4 ?_;refine zh ⟨rfl,_,_,⟨rfl,rfl⟩,.p t13⟩
   have t14:=eq_false hg19;refine rnN 4 ?_;refine zh ⟨rfl,_,_,⟨rfl,rfl⟩,.p t14⟩
 rintro _ _ ⟨rfl,rfl⟩;refine rnN 1 ?_;refine zG 5 (fun L τ=>L=[(5,.op 0 0 0),(9,.ds true (qc zu a0.fEntries) (qa a0.fEntries) false),(10,.int .i64 (qa a0.fEntries:Int)),(11,.int .i64 x3),(29,.bool (((decide (y6.fTag≤x2))||(decide (500<y6.fTag)))||(decide ((qa y6.fTrees:Int)<1))))]∧τ=([.cells 0 (zW y6)]:ze)) ?_ ?_
 · refine yv (b:=((decide (y6.fTag≤x2))||(decide (500<y6.fTag)))) 24 rfl (fun hg24=>?_) (fun hg24=>?_)
   · refine rnN 5 ?_;refine zh ⟨rfl,_,_,⟨rfl,rfl⟩,.b hg24⟩
   refine rnN 5 ?_;refine zh ⟨rfl,_,_,⟨rfl,rfl⟩,.b hg24⟩
 rintro _ _ ⟨rfl,rfl⟩;refine rnN 1 ?_;refine zG 5 (fun L τ=>L=[(5,.op 0 0 0),(9,.ds true (qc zu a0.fEntries) (qa a0.fEntries) false),(10,.int .i64 (qa a0.fEntries:Int)),(11,.int .i64 x3),(35,.bool ((((decide (y6.fTag≤x2))||(decide (500<y6.fTag)))||(decide ((qa y6.fTrees:Int)<1)))||(decide (64<(qa y6.fTrees:Int)))))]∧τ=([.cells 0 (zW y6)]:ze)) ?_ ?_
 · refine yv (b:=(((decide (y6.fTag≤x2))||(decide (500<y6.fTag)))||(decide ((qa y6.fTrees:Int)<1)))) 30 rfl (fun hg30=>?_) (fun hg30=>?_)
   · refine rnN 5 ?_;refine zh ⟨rfl,_,_,⟨rfl,rfl⟩,.b hg30⟩
   refine rnN 5 ?_;refine zh ⟨rfl,_,_,⟨rfl,rfl⟩,.b hg30⟩
 rintro _ _ ⟨rfl,rfl⟩;refine nkN hK ?_;refine zT (b:=((((decide (y6.fTag≤x2))||(decide (500<y6.fTag)))||(decide ((qa y6.fTrees:Int)<1)))||(decide (64<(qa y6.fTrees:Int))))) rfl (fun hc15=>?_) (fun hc15=>?_)
 · rw[if_pos hc15] at h;refine rgN [2] ?_;cases h;exact rtA
 rw[wO hc15] at h;apply zj;apply hZ12;refine rgN [3,5,9,10,11] ?_;refine rgN [3,5,9,10,11,39,40,41] ?_;apply zn
 refine y5 39 fun hb18=>?_
 replace hb18:qa y6.fTrees≤9223372036854775807:=hb18.1;refine yh (fun m L τ=>∃ (p18 q18:List zp) (x16:Int),m=qa q18∧L=[(3,.int .i64 y6.fTag),(5,.op 0 0 0),(9,.ds true (qc zu a0.fEntries) (qa a0.fEntries) false),(10,.int .i64 (qa a0.fEntries:Int)),(11,.int .i64 x3),(39,.ds true (qc z2 y6.fTrees) (qa y6.fTrees) false),(40,.int .i64 (qa y6.fTrees:Int)),(41,.int .i64 x16)]∧τ=([.cells 0 (zW y6)]:ze)∧y6.fTrees=p18++q18∧x16=(qa p18:Int)∧yj.l18 yE x3 (yj.l6 yE q6) y6 q18 x16=some r) _ ⟨[],y6.fTrees,0,rfl,rfl,rfl,rfl,rfl,h⟩ .s ?_;rintro m L τ ⟨p18,q18,x16,rfl,rfl,rfl,hE18,hi18,h⟩
 rcases q18 with _|⟨y18,q18⟩
 · have hz18:=xw hE18 hi18;simp only[yj.l18] at h
   refine rg tok [3,5,9,10,11,39,40,41,42] fun K hK=>?_
   simp only[go_sem,qd,qb,hz18];apply hK
   refine zd fun Z19 hZ19=>?_
   refine zF rfl ?_;apply yc;apply hZ9
   refine rgE tok [3,9,10,11] fun K hK=>?_
   simp only[go_sem,qd,qb,hw6];apply hK
   exact⟨_,_,_,qx q6.length,⟨p6++[y6],q6,x3+1,y6.fTag,rfl,rfl,rfl,hE'6,hi'6,h⟩,(.t [] false)⟩
 obtain⟨hz18,hw18,hx18,hE'18,hi'18⟩:=y3 hE18 hi18 hb18;simp only[yj.l18] at h
 refine rg tok [3,5,9,10,11,39,40,41,42] fun K hK=>?_
 simp only[go_sem,qd,qb,hz18];apply hK
 refine zd fun Z20 hZ20=>?_
 refine zJ rfl ?_;apply zj;apply hZ20
 refine zd fun Z21 hZ21=>?_
 apply zn;have f22:=E38.idxS hx18;have f23:=E38.loadS rfl rfl hx18
 refine rg tok [3,5,7,9,10,11,39,40,41] fun K hK=>?_
 simp only[go_sem,qd,qf,qb,qe,zg,yi,f22,f23];apply hK
 refine xC (fun L τ=>∃ (x24:Bool),L=[(3,.int .i64 y6.fTag),(5,.op 0 0 0),(9,.ds true (qc zu a0.fEntries) (qa a0.fEntries) false),(10,.int .i64 (qa a0.fEntries:Int)),(11,.int .i64 x3),(39,.ds true (qc z2 y6.fTrees) (qa y6.fTrees) false),(40,.int .i64 (qa y6.fTrees:Int)),(41,.int .i64 x16),(57,.bool x24)]∧τ=([.cells 0 (zW y6)]:ze)∧yj.j25 x16 (yj.l18 yE x3 (yj.l6 yE q6) y6 q18) x24=some r) ?_ ?_
 · refine rdE [3,5,9,10,11,39,40,41,57] fun K hK=>?_
   refine DW.start (T:=tab) [.any,.at [],.any,.at [],.any,.any,.at [],.any,.any,.at [],.eff,.any,.any] [] ?_;obtain⟨y27,hy27,h⟩:=bind_some h;have f28:=E38.idxS hy27;have f29:=E38.fldS0 (f:=3) rfl rfl hy27;refine DW.runN tok 8 ?_;simp only[go_sem,qd,qb,qe,zg,yi,f28,f29];refine DW.runN tok 1 ?_;simp only[go_sem,qd,qb]
   refine DW.if 53 rfl (fun hg53=>?_) (fun hg53=>?_)
   · rw[if_neg hg53] at h;have t30:=eq_false hg53;refine DW.runN tok 4 ?_;simp only[go_sem,qd,qb,t30];refine DW.fin tok (by decide +kernel) rfl ?_;simp only[zz,upd,qb,reduceIte,yS,xD];apply hK
     exact⟨_,_,⟨true,rfl,rfl,h⟩,(.t [0] false)⟩
   rw[if_pos hg53] at h;have t31:=eq_true hg53;obtain⟨r32,hr32,h⟩:=bind_some h;refine DW.runN tok 1 ?_;simp only[go_sem,qd,qf,qb,qe,t31];refine DW.call rfl rfl rfl (ev_value_right y18 r32 hr32 _) ?_;refine DW.runN tok 2 ?_;simp only[go_sem,qd,qb];refine DW.fin tok (by decide +kernel) rfl ?_;simp only[zz,upd,qb,reduceIte,yS,xD];apply hK
   exact⟨_,_,⟨!r32,rfl,rfl,h⟩,(.t [0] false)⟩
 rintro _ _ ⟨x24,rfl,rfl,h⟩;unfold yj.j25 at h;refine zT (b:=x24) rfl (fun hc26=>?_) (fun hc26=>?_)
 · rw[if_pos hc26] at h;refine rgN [2] ?_;cases h;exact rtA
 rw[wO hc26] at h;apply zj;apply hZ21
 refine rgE tok [3,5,9,10,11,39,40,41] fun K hK=>?_
 simp only[go_sem,qd,qb,hw18];apply hK
 exact⟨_,_,_,qx q18.length,⟨p18++[y18],q18,x16+1,rfl,rfl,rfl,hE'18,hi'18,h⟩,.s⟩
def wv.body (wi:zp→Option Bool)(yE:zp→Option Bool)(a0:zp):Option Bool:=
 (if a0.fKind=1 then some (((decide (a0.fS=[]))&&(decide ((qa a0.fEntries:Int)=0)))&&(decide ((qa a0.fRest:Int)=0))) else (if a0.fKind=2 then some (((decide (a0.fN=0))&&(decide ((qa a0.fEntries:Int)=0)))&&(decide ((qa a0.fRest:Int)=0))) else (if a0.fKind=3 then (if ((decide (a0.fN=0))&&(decide (a0.fS=[])))=true then (wi a0).bind fun r16=>some r16 else some false).bind fun c16=>(if c16=true then (wm a0).bind fun r18=>some r18 else some false).bind fun c18=>some c18 else some false)))
theorem wv.step (wi:zp→Option Bool)(yE:zp→Option Bool)(YY:∀ (a0:zp) (r:Bool),wi a0=some r→ACalls qg 180 [.agg (zg a0)] [] (fun r' _=>r'=.bool r))(XB:∀ (a0:zp) (r:Bool),yE a0=some r→ACalls qg 140 [.agg (zg a0)] [] (fun r' _=>r'=.bool r))(a0:zp)(r:Bool)(h:wv.body wi yE a0=some r):ACalls qg 140 [.agg (zg a0)] [] (fun r' _=>r'=.bool r):=by
 have ev_value_entries:=fun a0 r h σ=>(YY a0 r h).c σ
 have ev_value_right:=fun a0 r h σ=>(XB a0 r h).c σ
 refine zr (rs:=[.tmp 2]) tok Tryz.func140 rfl Tryz.ntmps140 rfl Tryz.call140 (by simp) ?_;refine zA [(0,.agg (zg a0))] ⟨rfl,trivial⟩ ?_;unfold wv.body at h
 refine rg tok [1] fun K hK=>?_
 simp only[go_sem,qd,qb,qe,reduceCtorEq,zg];apply hK
 refine zd fun Z1 hZ1=>?_
 refine rgN [1,4] ?_;apply zn;refine rgN [1,4,5] ?_;refine yf rfl (fun hc2=>?_) (fun hc2=>?_)
 · rw[if_pos hc2] at h;have t3:=eq_true hc2
   refine rc [2] fun K hK=>?_
   refine zw tok 4 ?_;simp only[go_sem,qd,qb,qe,t3];refine zG 5 (fun L τ=>L=[(1,.op 0 0 0),(15,.bool ((decide (a0.fS=[]))&&(decide ((qa a0.fEntries:Int)=0))))]∧τ=([.cells 0 (zg a0)]:ze)) ?_ ?_
   · refine xS 10 rfl (fun hg10=>?_) (fun hg10=>?_)
     · have t4:=eq_true hg10;refine rnN 5 ?_;refine zh ⟨rfl,_,_,⟨rfl,rfl⟩,.p t4⟩
     have t5:=eq_false hg10;refine rnN 5 ?_;refine zh ⟨rfl,_,_,⟨rfl,rfl⟩,.p t5⟩
   rintro _ _ ⟨rfl,rfl⟩;refine rnN 1 ?_;refine zG 5 (fun L τ=>L=[(21,.bool (((decide (a0.fS=[]))&&(decide ((qa a0.fEntries:Int)=0)))&&(decide ((qa a0.fRest:Int)=0))))]∧τ=([.cells 0 (zg a0)]:ze)) ?_ ?_
   · refine yv (b:=((decide (a0.fS=[]))&&(decide ((qa a0.fEntries:Int)=0)))) 16 rfl (fun hg16=>?_) (fun hg16=>?_)
     · refine rnN 5 ?_;refine zh ⟨rfl,_,_,⟨rfl,rfl⟩,.b hg16⟩
     refine rnN 5 ?_;refine zh ⟨rfl,_,_,⟨rfl,rfl⟩,.b hg16⟩
   rintro _ _ ⟨rfl,rfl⟩;refine rnN 1 ?_;refine nkN hK ?_;cases h;exact rtA
 rw[if_neg hc2] at h;have t6:=eq_false hc2
 refine rg tok [1,4,22] fun K hK=>?_
 simp only[go_sem,qd,qb,t6];apply hK
 refine yf rfl (fun hc7=>?_) (fun hc7=>?_)
 · rw[if_pos hc7] at h;have t8:=eq_true hc7
   refine rc [2] fun K hK=>?_
   refine zw tok 4 ?_;simp only[go_sem,qd,qb,qe,t8];refine zG 5 (fun L τ=>L=[(1,.op 0 0 0),(32,.bool ((decide (a0.fN=0))&&(decide ((qa a0.fEntries:Int)=0))))]∧τ=([.cells 0 (zg a0)]:ze)) ?_ ?_
   · refine xS 27 rfl (fun hg27=>?_) (fun hg27=>?_)
     · have t9:=eq_true hg27;refine rnN 5 ?_;refine zh ⟨rfl,_,_,⟨rfl,rfl⟩,.p t9⟩
     have t10:=eq_false hg27;refine rnN 5 ?_;refine zh ⟨rfl,_,_,⟨rfl,rfl⟩,.p t10⟩
   rintro _ _ ⟨rfl,rfl⟩;refine rnN 1 ?_;refine zG 5 (fun L τ=>L=[(38,.bool (((decide (a0.fN=0))&&(decide ((qa a0.fEntries:Int)=0)))&&(decide ((qa a0.fRest:Int)=0))))]∧τ=([.cells 0 (zg a0)]:ze)) ?_ ?_
   · refine yv (b:=((decide (a0.fN=0))&&(decide ((qa a0.fEntries:Int)=0)))) 33 rfl (fun hg33=>?_) (fun hg33=>?_)
     · refine rnN 5 ?_;refine zh ⟨rfl,_,_,⟨rfl,rfl⟩,.b hg33⟩
     refine rnN 5 ?_;refine zh ⟨rfl,_,_,⟨rfl,rfl⟩,.b hg33⟩
   rintro _ _ ⟨rfl,rfl⟩;refine rnN 1 ?_;refine nkN hK ?_;cases h;exact rtA
 rw[if_neg hc7] at h;have t11:=eq_false hc7
 refine rg tok [1,39] fun K hK=>?_
 simp only[go_sem,qd,qb,t11];apply hK
 refine yf rfl (fun hc12=>?_) (fun hc12=>?_)
 · rw[if_pos hc12] at h;have t13:=eq_true hc12
   refine rc [2] fun K hK=>?_
   refine zw tok 4 ?_;simp only[go_sem,qd,qb,qe,t13];refine zG 4 (fun L τ=>L=[(1,.op 0 0 0),(48,.bool ((decide (a0.fN=0))&&(decide (a0.fS=[]))))]∧τ=([.cells 0 (zg a0)]:ze)) ?_ ?_
   · refine xS 44 rfl (fun hg44=>?_) (fun hg44=>?_)
     · have t14:=eq_true hg44;refine rnN 4 ?_;refine zh ⟨rfl,_,_,⟨rfl,rfl⟩,.p t14⟩
     have t15:=eq_false hg44;refine rnN 4 ?_;refine zh ⟨rfl,_,_,⟨rfl,rfl⟩,.p t15⟩
   rintro _ _ ⟨rfl,rfl⟩;refine rnN 1 ?_;obtain⟨c16,hc16,h⟩:=bind_some h;refine zG 3 (fun L τ=>L=[(1,.op 0 0 0),(52,.bool c16)]∧τ=([.cells 0 (zg a0)]:ze)) ?_ ?_
   · refine yv (b:=((decide (a0.fN=0))&&(decide (a0.fS=[])))) 49 rfl (fun hg49=>?_) (fun hg49=>?_)
     · rw[if_pos hg49] at hc16;obtain⟨r17,hr17,hc16⟩:=bind_some hc16;refine rnN 1 ?_;refine clN rfl rfl rfl (ev_value_entries a0 r17 hr17 _) ?_;refine rnN 1 ?_;cases hc16;refine zh ⟨rfl,_,_,⟨rfl,rfl⟩,.b hg49⟩
     rw[wO hg49] at hc16;refine rnN 3 ?_;cases hc16;refine zh ⟨rfl,_,_,⟨rfl,rfl⟩,.b hg49⟩
   rintro _ _ ⟨rfl,rfl⟩;refine rnN 1 ?_;obtain⟨c18,hc18,h⟩:=bind_some h;refine zG 3 (fun L τ=>L=[(56,.bool c18)]∧τ=([.cells 0 (zg a0)]:ze)) ?_ ?_
   · refine yv (b:=c16) 53 rfl (fun hg53=>?_) (fun hg53=>?_)
     · rw[if_pos hg53] at hc18;obtain⟨r19,hr19,hc18⟩:=bind_some hc18;refine rnN 1 ?_;refine clN rfl rfl rfl ((wm.ok hr19).c _) ?_;refine rnN 1 ?_;cases hc18;refine zh ⟨rfl,_,_,⟨rfl,rfl⟩,.b hg53⟩
     rw[wO hg53] at hc18;refine rnN 3 ?_;cases hc18;refine zh ⟨rfl,_,_,⟨rfl,rfl⟩,.b hg53⟩
   rintro _ _ ⟨rfl,rfl⟩;refine rnN 1 ?_;refine nkN hK ?_;cases h;exact rtA
 rw[if_neg hc12] at h;have t20:=eq_false hc12;apply zj;apply hZ1
 refine rg tok [2] fun K hK=>?_
 simp only[go_sem,qd,qb,t20];apply hK
 cases h;exact rtA
mutual
def yj : Nat→zp→Option Bool
 |0,_=>none
 |k+1,a0=>yj.body (yj k) (wv k) a0
def wv : Nat→zp→Option Bool
 |0,_=>none
 |k+1,a0=>wv.body (yj k) (wv k) a0
end
theorem yj.all (k:Nat):(∀ (a0:zp) (r:Bool),yj k a0=some r→ACalls qg 180 [.agg (zg a0)] [] (fun r' _=>r'=.bool r))∧(∀ (a0:zp) (r:Bool),wv k a0=some r→ACalls qg 140 [.agg (zg a0)] [] (fun r' _=>r'=.bool r)):=by
 induction k with
 |zero=>exact⟨(fun a0 r h=>by simp only[yj] at h; cases h),(fun a0 r h=>by simp only[wv] at h; cases h)⟩
 |succ k ih=>exact⟨(fun a0 r h=>yj.step _ _ ih.1 ih.2 a0 r (by simpa only [yj] using h)),(fun a0 r h=>wv.step _ _ ih.1 ih.2 a0 r (by simpa only [wv] using h))⟩
theorem wv.ev (k:Nat)(a0:zp)(r:Bool)(h:wv k a0=some r)(σ:ze):ACalls qg 140 [.agg (zg a0)] σ (fun r' σ'=>r'=.bool r∧σ'=σ):=
 ((yj.all k).2 a0 r h).c σ
def Yb (a0:zp):Option Bool:=
 (Xc a0).bind fun r1=>(if r1≤10 then (wv xK a0).bind fun r2=>some r2 else some false).bind fun c2=>some c2
theorem Yb.ok {a0 r}(h:Yb a0=some r):ACalls qg 93 [.agg (zg a0)] [] (fun r' _=>r'=.bool r):=by
 refine zr (rs:=[.tmp 2]) tok Tryz.func93 rfl Tryz.ntmps93 rfl Tryz.call93 (by simp) ?_;refine zA [(0,.agg (zg a0))] ⟨rfl,trivial⟩ ?_;unfold Yb at h
 refine rg tok [1] fun K hK=>?_
 simp only[go_sem,qd,qb,qe,reduceCtorEq,zg];apply hK
 refine rc [2] fun K hK=>?_
 obtain⟨r1,hr1,h⟩:=bind_some h;refine rnN 1 ?_;refine clN rfl rfl rfl ((Xc.ok hr1).c _) ?_;refine rnN 2 ?_;obtain⟨c2,hc2,h⟩:=bind_some h;refine zG 3 (fun L τ=>L=[(9,.bool c2)]∧τ=([.cells 0 (zg a0)]:ze)) ?_ ?_
 · refine xS 6 rfl (fun hg6=>?_) (fun hg6=>?_)
   · have t3:=eq_true hg6;rw[if_pos hg6] at hc2;obtain⟨r4,hr4,hc2⟩:=bind_some hc2;refine rnN 1 ?_;refine clN rfl rfl rfl (wv.ev xK a0 r4 hr4 _) ?_;refine rnN 1 ?_;cases hc2;refine zh ⟨rfl,_,_,⟨rfl,rfl⟩,.p t3⟩
   have t5:=eq_false hg6;rw[if_neg hg6] at hc2;refine rnN 3 ?_;cases hc2;refine zh ⟨rfl,_,_,⟨rfl,rfl⟩,.p t5⟩
 rintro _ _ ⟨rfl,rfl⟩;refine rnN 1 ?_;refine nkN hK ?_;cases h;exact rtA
def vag (a0:Int):zo:=
 (zo.num a0)
theorem vag.ok {a0 r}(h:vag a0=r):ACalls qg 225 [.int .i64 a0] [] (fun r' _=>r'=.agg (zk r)):=by
 refine zr (rs:=[.cell 2 228]) tok Tryz.func225 rfl Tryz.ntmps225 rfl Tryz.call225 (by simp) ?_;refine zA [(0,.int .i64 a0)] ⟨rfl,trivial⟩ ?_;unfold vag at h;refine rgN [0,2] ?_;refine rgN [2] ?_;cases h;exact rtA
def vaf (a0:List UInt8):zo:=
 (zo.str a0)
theorem vaf.ok {a0 r}(h:vaf a0=r):ACalls qg 226 [.str a0] [] (fun r' _=>r'=.agg (zk r)):=by
 refine zr (rs:=[.cell 2 228]) tok Tryz.func226 rfl Tryz.ntmps226 rfl Tryz.call226 (by simp) ?_;refine zA [(0,.str a0)] ⟨rfl,trivial⟩ ?_;unfold vaf at h;refine rgN [0,2] ?_;refine rgN [2] ?_;cases h;exact rtA
def xR (a0:List xh):Option (List xh):=(vac (qa a0) 40).bind fun _=>some a0
theorem xR.ok (a0 r:List xh)(h:xR a0=some r):ACalls qg 227 [.ds true (qc zx a0) (qa a0) false] [] (fun r' _=>r'=.ds true (qc zx r) (qa r) false):=by
 obtain⟨_u,hu,h⟩:=bind_some h;have gu:=xb hu;cases h
 have f1:=fun nl tt σ=>Zq E35.len a0 nl tt σ
 have f2:=zU E35.len a0;have f3:=Xt zx a0
 have fin:∀ σ id ver tt,ze.at σ id ver=some (qc zx a0)→tell σ [] true 12 (.os true 4 id ver 0 (qa a0) tt)=.ds true (qc zx a0) (qa a0) false:=by
  intro σ id ver tt hs
  simp only[w8,wG,hs,qw,qj];rw[if_pos (by rw[f2]; exact qv _),← f2,qZ,zt]
 refine zr (rs:=[.tmp 2]) tok Tryz.func227 rfl Tryz.ntmps227 rfl Tryz.call227 (by simp) ?_;refine zA [(0,.ds true (qc zx a0) (qa a0) false)] ⟨rfl,trivial⟩ ?_;refine rgN [0] ?_
 refine zd fun Z1 hZ1=>?_
 refine rc [0,4] fun K hK=>?_
 refine rnN 1 ?_
 refine YD tok rfl rfl rfl rfl rfl rfl fun b hnil=>?_
 have hb:b=true→a0=[]:=fun hb=>by
  have:=hnil hb;simp only[yL,go_sem,reduceCtorEq] at this;exact qY this
 clear hnil
 refine nkN hK ?_;cases b
 · refine zF rfl ?_;apply zj;apply hZ1
   refine rg tok [2] fun K hK=>?_
   by_cases h0:qa a0=0
   · obtain rfl:=qY h0;simp only[go_sem,qd,qb,qe,reduceCtorEq,zL,ym,qJ,uC,yM,yl,yL,yz,ug,qu,um,qV];apply hK
     apply zY;simp only[w7,yy,yI,xq,exists_eq_left',go_sem]
     first|rfl|(simp only[go_sem,qd,qf,qb,qe,qi,ql,reduceIte,reduceCtorEq,w8,wG,qk]<;>rfl)
   have h1:=eq_false h0;simp only[go_sem,qd,qb,qe,reduceCtorEq,zL,ym,qJ,uC,yM,yl,yL,f1,f3,h1,gu,xa,qk,qK,um];apply hK
   apply zY;simp only[w7,yy,yI,xq,exists_eq_left',go_sem];exact fin _ _ _ _ (by simp only[ze.at_hd,ze.at_tl,if_true])
 obtain rfl:=hb rfl;refine zJ rfl ?_;refine rgN [2] ?_;apply zY;simp only[w7,yy,yI,xq,exists_eq_left',go_sem]
 first|rfl|(simp only[go_sem,qd,qf,qb,qe,qi,ql,reduceIte,reduceCtorEq,Yy,qk,qo,qr,qs]<;>rfl)
theorem xR.own (a0 r:List xh)(h:xR a0=some r):ACalls qg 227 [.ds true (qc zx a0) (qa a0) false] [] (fun r' σ'=>r'=.os true 4 0 0 0 (qa r) false∧σ'=[.cells 0 (qc zx r)]):=by
 obtain⟨_u,hu,h⟩:=bind_some h;have gu:=xb hu;cases h
 have f1:=fun nl tt σ=>Zq E35.len a0 nl tt σ
 have f2:=zU E35.len a0;have f3:=Xt zx a0;refine vcs (rs:=[.tmp 2]) tok Tryz.func227 rfl Tryz.ntmps227 rfl Tryz.call227 (by simp) ?_;refine zA [(0,.ds true (qc zx a0) (qa a0) false)] ⟨rfl,trivial⟩ ?_;refine rgN [0] ?_
 refine zd fun Z1 hZ1=>?_
 refine rc [0,4] fun K hK=>?_
 refine rnN 1 ?_
 refine YD tok rfl rfl rfl rfl rfl rfl fun b hnil=>?_
 have hb:b=true→a0=[]:=fun hb=>by
  have:=hnil hb;simp only[yL,go_sem,reduceCtorEq] at this;exact qY this
 clear hnil
 refine nkN hK ?_;cases b
 · refine zF rfl ?_;apply zj;apply hZ1
   refine rg tok [2] fun K hK=>?_
   by_cases h0:qa a0=0
   · obtain rfl:=qY h0;simp only[go_sem,qd,qb,qe,reduceCtorEq,zL,ym,qJ,uC,yM,yl,yL,yz,ug,qu,um,qV];apply hK
     apply zY;simp only[w7,yy,yI,xq,exists_eq_left',go_sem];refine .inl ⟨0,true,by simp,?_,?_⟩
     · first|rfl|(simp only[go_sem,qd,qf,qb,qe,qi,ql,reduceIte,reduceCtorEq,w8,ZE,if_true]<;>rfl)
     first|rfl|(simp only[go_sem,qd,qf,qb,qe,qi,ql,reduceIte,reduceCtorEq,Yf,vah,ZL,Yg,Yz,qk]<;>rfl)
   have h1:=eq_false h0;simp only[go_sem,qd,qb,qe,reduceCtorEq,zL,ym,qJ,uC,yM,yl,yL,f1,f3,h1,gu,xa,qk,qK,um];apply hK
   apply zY;simp only[w7,yy,yI,xq,exists_eq_left',go_sem,qe];refine .inl ⟨1,false,by simp,?_,?_⟩
   · first|rfl|(simp only[go_sem,qd,qf,qb,qe,qi,ql,reduceIte,reduceCtorEq,w8,ZE,if_true]<;>rfl)
   first|rfl|(simp only[go_sem,Yf,ZL,Yg,Yz,zt]<;>rfl)
 obtain rfl:=hb rfl;refine zJ rfl ?_;refine rgN [2] ?_;apply zY;simp only[w7,yy,yI,xq,exists_eq_left',go_sem];refine .inr ?_
 first|rfl|(simp only[go_sem,qd,qf,qb,qe,qi,ql,reduceIte,reduceCtorEq,Yy,qk,qo,qH,qp,qC]<;>rfl)
theorem xR.ev (a0 r:List xh)(h:xR a0=some r)(σ:ze):ACalls qg 227 [.ds true (qc zx a0) (qa a0) false] σ (fun r' σ'=>r'=.ds true (qc zx r) (qa r) false∧σ'=σ):=
 (xR.ok a0 r h).pureAt (by simp only[AV.canon,yU,yZ,qE,qp,uG]) (by simp only[AV.canon,yZ,qE,qp,uG]) σ
def yQ.l35 (yY:zp→Option zo)(l14:List yK)(x16:Int)(rec20:List yK→Int→Option zo)(y25:zE):List zp→Int→List zo→Option zo
 |[],x31,l29=>(vac (qa l14+1) 32).bind fun _u37=>(rec20 (l14++[(⟨y25.fTag,l29⟩:yK)]) (IntKind.i64.wrap (x16+1)))
 |y35::q35,x31,l29=>(yY y35).bind fun r43=>(vac (qa l29+1) 16).bind fun _u45=>((yQ.l35 yY l14 x16 rec20 y25 q35) (x31+1) (l29++[r43]))
def yQ.l20 (yY:zp→Option zo)(a0:zp)(r12:List xh):Nat→List yK→Int→Option zo
 |0,_,_=>none
 |k20+1,l14,x16=>(if x16<(qa a0.fEntries:Int) then (Xe a0.fEntries x16).bind fun y25=>(yQ.l35 yY l14 x16 (yQ.l20 yY a0 r12 k20) y25 y25.fTrees 0 ([]:List zo)) else some (zo.node l14 r12))
def yQ.l62 (yY:zp→Option zo)(a0:zp)(r12:List xh)(y52:zE):List zp→Int→List zo→Option zo
 |[],x58,l56=>(yQ.l20 yY a0 r12 xK [(⟨y52.fTag,l56⟩:yK)] (IntKind.i64.wrap (0+1)))
 |y62::q62,x58,l56=>(yY y62).bind fun r68=>(vac (qa l56+1) 16).bind fun _u70=>((yQ.l62 yY a0 r12 y52 q62) (x58+1) (l56++[r68]))
def yQ.body (yY:zp→Option zo)(a0:zp):Option zo:=
 (if a0.fKind=1 then bnd (vag a0.fN) fun r4=>some r4 else (if a0.fKind=2 then bnd (vaf a0.fS) fun r9=>some r9 else (xR a0.fRest).bind fun r12=>(if 0<(qa a0.fEntries:Int) then (Xe a0.fEntries 0).bind fun y52=>(yQ.l62 yY a0 r12 y52 y52.fTrees 0 ([]:List zo)) else some (zo.node ([]:List yK) r12))))
theorem yQ.step (yY:zp→Option zo)(ih_value_made:∀ (a0:zp) (r:zo),yY a0=some r→ACalls qg 185 [.agg (zg a0)] [] (fun r' _=>r'=.agg (zk r)))(a0:zp)(r:zo)(h:yQ.body yY a0=some r):ACalls qg 185 [.agg (zg a0)] [] (fun r' _=>r'=.agg (zk r)):=by
 have ev_value_made:=fun a0 r h σ=>(ih_value_made a0 r h).c σ
 refine zr (rs:=[.cell 2 228]) tok Tryz.func185 rfl Tryz.ntmps185 rfl Tryz.call185 (by simp) ?_;refine zA [(0,.agg (zg a0))] ⟨rfl,trivial⟩ ?_;unfold yQ.body at h
 refine rg tok [1,2] fun K hK=>?_
 simp only[go_sem,qd,qb,qe,reduceCtorEq,zg];apply hK
 refine zd fun Z1 hZ1=>?_
 refine rgN [1,2,10] ?_;apply zn;refine rgN [1,2,10,11] ?_;refine yf rfl (fun hc2=>?_) (fun hc2=>?_)
 · rw[if_pos hc2] at h;have t3:=eq_true hc2
   refine rc [2] fun K hK=>?_
   obtain⟨r4,hr4,h⟩:=yg h;refine zw tok 2 ?_;simp only[go_sem,qd,qb,qe,t3];refine clN rfl rfl rfl ((vag.ok hr4).c _) ?_;have f5:=Zw r4;unfold AV.one at f5;refine zw tok 1 ?_;simp only[go_sem,qf,qb,zk,f5];refine nkN hK ?_;cases h;exact rtA
 rw[if_neg hc2] at h;have t6:=eq_false hc2
 refine rg tok [1,2,16] fun K hK=>?_
 simp only[go_sem,qd,qb,t6];apply hK
 refine yf rfl (fun hc7=>?_) (fun hc7=>?_)
 · rw[if_pos hc7] at h;have t8:=eq_true hc7
   refine rc [2] fun K hK=>?_
   obtain⟨r9,hr9,h⟩:=yg h;refine zw tok 2 ?_;simp only[go_sem,qd,qb,qe,t8];refine clN rfl rfl rfl ((vaf.ok hr9).c _) ?_;have f10:=Zw r9;unfold AV.one at f10;refine zw tok 1 ?_;simp only[go_sem,qf,qb,zk,f10];refine nkN hK ?_;cases h;exact rtA
 rw[if_neg hc7] at h;have t11:=eq_false hc7;apply zj;apply hZ1
 refine rc [1,2,3] fun K hK=>?_
 obtain⟨r12,hr12,h⟩:=bind_some h;refine zw tok 2 ?_;simp only[go_sem,qd,qb,qe,t11];refine clN rfl rfl rfl (xR.ev a0.fRest r12 hr12 _) ?_;refine rnN 3 ?_;refine nkN hK ?_
 refine zd fun Z13 hZ13=>?_
 refine rgN [2,3,27,28,29] ?_;apply zn;refine awp_loopS1 (fun m L τ=>∃ (k20:Nat) (l14:List yK) (x16:Int) (v15:Nat),m=0+k20∧L=[(2,.op 0 0 0),(3,.op 1 0 0),(27,.ds true (qc zu a0.fEntries) (qa a0.fEntries) false),(28,.int .i64 (qa a0.fEntries:Int)),(29,.int .i64 x16)]∧τ=([.cells 0 [.nilI],.cells 0 [.os true 2 2 v15 0 (qa l14) false,.ds true (qc zx r12) (qa r12) false],.cells v15 (qc yD l14)]:ze)∧yQ.l20 yY a0 r12 k20 l14 x16=some r) (xK+1) ?_ ?_
 · refine rgN [2,3,27,28,29,30] ?_
   refine zd fun Z48 hZ48=>?_
   refine yf rfl (fun hc49=>?_) (fun hc49=>?_)
   · rw[if_pos hc49] at h;have t50:=eq_true hc49;apply zj;apply hZ48
     refine zd fun Z51 hZ51=>?_
     apply zn;obtain⟨y52,hy52,h⟩:=bind_some h;have f53:=E34.idxS hy52;have f54:=E34.loadS rfl rfl hy52
     refine rg tok [2,3,5,27,28,29] fun K hK=>?_
     simp only[go_sem,qd,qf,qb,qe,zW,xd,t50,f53,f54];apply hK
     refine rgN [2,3,5,6,27,28,29] ?_;refine w4 4 1 1 rfl (by simp) rfl (L:=[(2,.op 1 0 0),(3,.op 2 0 0),(5,.op 3 0 0),(6,.op 4 0 0),(27,.ds true (qc zu a0.fEntries) (qa a0.fEntries) false),(28,.int .i64 (qa a0.fEntries:Int)),(29,.int .i64 0)]) (τ:=[.cells 0 (zg a0),.cells 0 [.nilI],.cells 0 [.ds true [] 0 true,.ds true (qc zx r12) (qa r12) false],.cells 0 (zW y52),.cells 0 [.int .i64 y52.fTag,.os true 1 5 0 0 (qa ([]:List zo)) false],.cells 0 (qc zk ([]:List zo))]) .s ?_
     refine zd fun Z55 hZ55=>?_
     refine rgN [2,3,6,27,28,29,37,38,39] ?_;apply zn
     refine y5 37 fun hb62=>?_
     replace hb62:qa y52.fTrees≤9223372036854775807:=hb62.1;refine yh (fun m L τ=>∃ (p62 q62:List zp) (x58:Int) (l56:List zo) (v57:Nat),m=qa q62∧L=[(2,.op 0 0 0),(3,.op 1 0 0),(6,.op 2 0 0),(27,.ds true (qc zu a0.fEntries) (qa a0.fEntries) false),(28,.int .i64 (qa a0.fEntries:Int)),(29,.int .i64 0),(37,.ds true (qc z2 y52.fTrees) (qa y52.fTrees) false),(38,.int .i64 (qa y52.fTrees:Int)),(39,.int .i64 x58)]∧τ=([.cells 0 [.nilI],.cells 0 [.ds true [] 0 true,.ds true (qc zx r12) (qa r12) false],.cells 0 [.int .i64 y52.fTag,.os true 1 3 v57 0 (qa l56) false],.cells v57 (qc zk l56)]:ze)∧y52.fTrees=p62++q62∧x58=(qa p62:Int)∧yQ.l62 yY a0 r12 y52 q62 x58 l56=some r) _ ⟨[],y52.fTrees,0,([]:List zo),0,rfl,rfl,rfl,rfl,rfl,h⟩ (.t [1,2,4,5] false) ?_;rintro m L τ ⟨p62,q62,x58,l56,v57,rfl,rfl,rfl,hE62,hi62,h⟩
     rcases q62 with _|⟨y62,q62⟩
     · have hz62:=xw hE62 hi62;simp only[yQ.l62] at h
       refine rg tok [2,3,6,27,28,29,37,38,39,40] fun K hK=>?_
       simp only[go_sem,qd,qb,hz62];apply hK
       refine zd fun Z63 hZ63=>?_
       refine zF rfl ?_;apply yc;apply hZ55
       refine rdE [2,3,27,28,29] fun K hK=>?_
       refine DW.start (T:=tab) [.any,.any,.any,.any,.own 1 [],.at [],.eff,.eff,.any,.any,.eff] [(1,[])] ?_;refine DW.runN tok 8 ?_;simp only[go_sem,qd,qf,qb,qe,qi,reduceCtorEq,zL,ym,qP,qJ,true_and,qW,yM,yl,yL,xa,qV,qX,AV.one,qE,qK,qq,qu,qj,qL];refine DW.runN tok 3 ?_;simp only[go_sem,qd,qf,qb,qe,qq,qu,qj];refine DW.fin tok (by decide +kernel) rfl ?_;simp only[zz,upd,qb,reduceIte,yS,xD];apply hK
       apply hZ51
       refine rgE tok [2,3,27,28,29] fun K hK=>?_
       simp only[go_sem,qd,qb];apply hK
       exact⟨_,_,_,(Nat.lt_succ_of_le (Nat.le_of_eq (qj xK))),⟨xK,[(⟨y52.fTag,l56⟩:yK)],IntKind.i64.wrap (0+1),0,rfl,rfl,rfl,h⟩,(.t [0,1,5] false)⟩
     obtain⟨hz62,hw62,hx62,hE'62,hi'62⟩:=y3 hE62 hi62 hb62;simp only[yQ.l62] at h
     refine rg tok [2,3,6,27,28,29,37,38,39,40] fun K hK=>?_
     simp only[go_sem,qd,qb,hz62];apply hK
     refine zd fun Z64 hZ64=>?_
     refine zJ rfl ?_;apply zj;apply hZ64
     refine zd fun Z65 hZ65=>?_
     apply zn;have f66:=E38.idxS hx62;have f67:=E38.loadS rfl rfl hx62
     refine rg tok [2,3,6,8,27,28,29,37,38,39] fun K hK=>?_
     simp only[go_sem,qd,qf,qb,qe,zg,yi,f66,f67];apply hK
     obtain⟨r68,hr68,h⟩:=bind_some h;have f69:=Zw r68;unfold AV.one at f69;obtain⟨_u70,hu70,h⟩:=bind_some h;have gu70:=xb hu70;have f71:=(zU E282.len l56)
     refine rdE [2,3,6,27,28,29,37,38,39] fun K hK=>?_
     refine DW.start (T:=tab) [.any,.own 2 [],.at [],.eff,.eff,.eff,.any,.eff] [(2,[])] ?_;refine DW.runN tok 3 ?_;simp only[go_sem,qd,qf,qb,qe,zk,qq,qu,qj];refine DW.call rfl rfl rfl (ev_value_made y62 r68 hr68 _) ?_;refine DW.runN tok 4 ?_;simp only[go_sem,qd,qf,qb,qe,qi,zL,ym,qP,qJ,true_and,qW,yM,yl,yL,zk,f69,gu70,f71,xa,qV,qX,AV.one,qE,qK,qq,qu,qj,qL];refine DW.fin tok (by decide +kernel) rfl ?_;simp only[zz,upd,qb,reduceIte,yS,xD];apply hK
     apply hZ65
     refine rgE tok [2,3,6,27,28,29,37,38,39] fun K hK=>?_
     simp only[go_sem,qd,qb,hw62];apply hK
     exact⟨_,_,_,qx q62.length,⟨p62++[y62],q62,x58+1,l56++[r68],v57+1,rfl,rfl,rfl,hE'62,hi'62,h⟩,(.t [0,1,2,3] false)⟩
   rw[if_neg hc49] at h;have t72:=eq_false hc49;apply yc;apply hZ13
   refine rg tok [2] fun K hK=>?_
   simp only[go_sem,qd,qf,qb,t72];apply hK
   cases h;exact rtA
 clear h
 rintro m L τ ⟨k20,l14,x16,v15,rfl,rfl,rfl,h⟩
 rcases k20 with _|k20
 · cases h
 simp only[yQ.l20] at h;refine rgN [2,3,27,28,29,30] ?_
 refine zd fun Z21 hZ21=>?_
 refine yf rfl (fun hc22=>?_) (fun hc22=>?_)
 · rw[if_pos hc22] at h;have t23:=eq_true hc22;apply zj;apply hZ21
   refine zd fun Z24 hZ24=>?_
   apply zn;obtain⟨y25,hy25,h⟩:=bind_some h;have f26:=E34.idxS hy25;have f27:=E34.loadS rfl rfl hy25
   refine rg tok [2,3,5,27,28,29] fun K hK=>?_
   simp only[go_sem,qd,qf,qb,qe,zW,xd,t23,f26,f27];apply hK
   refine rgN [2,3,5,6,27,28,29] ?_;refine w4 4 1 1 rfl (by simp) rfl (L:=[(2,.op 0 0 0),(3,.op 1 0 0),(5,.op 3 0 0),(6,.op 4 0 0),(27,.ds true (qc zu a0.fEntries) (qa a0.fEntries) false),(28,.int .i64 (qa a0.fEntries:Int)),(29,.int .i64 x16)]) (τ:=[.cells 0 [.nilI],.cells 0 [.os true 2 2 v15 0 (qa l14) false,.ds true (qc zx r12) (qa r12) false],.cells v15 (qc yD l14),.cells 0 (zW y25),.cells 0 [.int .i64 y25.fTag,.os true 1 5 0 0 (qa ([]:List zo)) false],.cells 0 (qc zk ([]:List zo))]) .s ?_
   refine zd fun Z28 hZ28=>?_
   refine rgN [2,3,6,27,28,29,37,38,39] ?_;apply zn
   refine y5 37 fun hb35=>?_
   replace hb35:qa y25.fTrees≤9223372036854775807:=hb35.1;refine yh (fun m L τ=>∃ (p35 q35:List zp) (x31:Int) (l29:List zo) (v30:Nat),m=qa q35∧L=[(2,.op 0 0 0),(3,.op 1 0 0),(6,.op 3 0 0),(27,.ds true (qc zu a0.fEntries) (qa a0.fEntries) false),(28,.int .i64 (qa a0.fEntries:Int)),(29,.int .i64 x16),(37,.ds true (qc z2 y25.fTrees) (qa y25.fTrees) false),(38,.int .i64 (qa y25.fTrees:Int)),(39,.int .i64 x31)]∧τ=([.cells 0 [.nilI],.cells 0 [.os true 2 2 v15 0 (qa l14) false,.ds true (qc zx r12) (qa r12) false],.cells v15 (qc yD l14),.cells 0 [.int .i64 y25.fTag,.os true 1 4 v30 0 (qa l29) false],.cells v30 (qc zk l29)]:ze)∧y25.fTrees=p35++q35∧x31=(qa p35:Int)∧yQ.l35 yY l14 x16 (yQ.l20 yY a0 r12 k20) y25 q35 x31 l29=some r) _ ⟨[],y25.fTrees,0,([]:List zo),0,rfl,rfl,rfl,rfl,rfl,h⟩ (.t [0,1,2,4,5] false) ?_;rintro m L τ ⟨p35,q35,x31,l29,v30,rfl,rfl,rfl,hE35,hi35,h⟩
   rcases q35 with _|⟨y35,q35⟩
   · have hz35:=xw hE35 hi35;simp only[yQ.l35] at h
     refine rg tok [2,3,6,27,28,29,37,38,39,40] fun K hK=>?_
     simp only[go_sem,qd,qb,hz35];apply hK
     refine zd fun Z36 hZ36=>?_
     refine zF rfl ?_;apply yc;apply hZ28;obtain⟨_u37,hu37,h⟩:=bind_some h;have gu37:=xb hu37;have f38:=(zU E324.len l14)
     refine rdE [2,3,27,28,29] fun K hK=>?_
     refine DW.start (T:=tab) [.any,.any,.any,.any,.own 1 [],.at [],.eff,.eff,.any,.any,.eff] [(1,[])] ?_;refine DW.runN tok 8 ?_;simp only[go_sem,qd,qf,qb,qe,qi,zL,ym,qP,qJ,true_and,qW,yM,yl,yL,gu37,f38,xa,qV,qX,AV.one,qE,qK,qq,qu,qj,qL];refine DW.runN tok 3 ?_;simp only[go_sem,qd,qf,qb,qe,qq,qu,qj];refine DW.fin tok (by decide +kernel) rfl ?_;simp only[zz,upd,qb,reduceIte,yS,xD];apply hK
     apply hZ24
     refine rgE tok [2,3,27,28,29] fun K hK=>?_
     simp only[go_sem,qd,qb];apply hK
     exact⟨_,_,_,qx (0+k20),⟨k20,l14++[(⟨y25.fTag,l29⟩:yK)],IntKind.i64.wrap (x16+1),v15+1,rfl,rfl,rfl,h⟩,(.t [0,1,2] false)⟩
   obtain⟨hz35,hw35,hx35,hE'35,hi'35⟩:=y3 hE35 hi35 hb35;simp only[yQ.l35] at h
   refine rg tok [2,3,6,27,28,29,37,38,39,40] fun K hK=>?_
   simp only[go_sem,qd,qb,hz35];apply hK
   refine zd fun Z39 hZ39=>?_
   refine zJ rfl ?_;apply zj;apply hZ39
   refine zd fun Z40 hZ40=>?_
   apply zn;have f41:=E38.idxS hx35;have f42:=E38.loadS rfl rfl hx35
   refine rg tok [2,3,6,8,27,28,29,37,38,39] fun K hK=>?_
   simp only[go_sem,qd,qf,qb,qe,zg,yi,f41,f42];apply hK
   obtain⟨r43,hr43,h⟩:=bind_some h;have f44:=Zw r43;unfold AV.one at f44;obtain⟨_u45,hu45,h⟩:=bind_some h;have gu45:=xb hu45;have f46:=(zU E282.len l29)
   refine rdE [2,3,6,27,28,29,37,38,39] fun K hK=>?_
   refine DW.start (T:=tab) [.any,.own 2 [],.at [],.eff,.eff,.eff,.any,.eff] [(2,[])] ?_;refine DW.runN tok 3 ?_;simp only[go_sem,qd,qf,qb,qe,zk,qq,qu,qj];refine DW.call rfl rfl rfl (ev_value_made y35 r43 hr43 _) ?_;refine DW.runN tok 4 ?_;simp only[go_sem,qd,qf,qb,qe,qi,zL,ym,qP,qJ,true_and,qW,yM,yl,yL,zk,f44,gu45,f46,xa,qV,qX,AV.one,qE,qK,qq,qu,qj,qL];refine DW.fin tok (by decide +kernel) rfl ?_;simp only[zz,upd,qb,reduceIte,yS,xD];apply hK
   apply hZ40
   refine rgE tok [2,3,6,27,28,29,37,38,39] fun K hK=>?_
   simp only[go_sem,qd,qb,hw35];apply hK
   exact⟨_,_,_,qx q35.length,⟨p35++[y35],q35,x31+1,l29++[r43],v30+1,rfl,rfl,rfl,hE'35,hi'35,h⟩,(.t [0,1,2,3,4] false)⟩
 rw[if_neg hc22] at h;have t47:=eq_false hc22;apply yc;apply hZ13
 refine rg tok [2] fun K hK=>?_
 simp only[go_sem,qd,qf,qb,t47];apply hK
 cases h;exact rtA
def yQ : Nat→zp→Option zo
 |0,_=>none
 |k+1,a0=>yQ.body (yQ k) a0
theorem yQ.all (k:Nat):(∀ (a0:zp) (r:zo),yQ k a0=some r→ACalls qg 185 [.agg (zg a0)] [] (fun r' _=>r'=.agg (zk r))):=by
 induction k with
 |zero=>exact (fun a0 r h=>by simp only[yQ] at h; cases h)
 |succ k ih=>exact (fun a0 r h=>yQ.step _ ih a0 r (by simpa only [yQ] using h))
theorem yQ.ev (k:Nat)(a0:zp)(r:zo)(h:yQ k a0=some r)(σ:ze):ACalls qg 185 [.agg (zg a0)] σ (fun r' σ'=>r'=.agg (zk r)∧σ'=σ):=
 ((yQ.all k) a0 r h).c σ
def XY (a0:zp):Option (zo×Bool):=
 (Yb a0).bind fun r2=>(if (!r2)=true then some (zo.nil,false) else (yQ xK a0).bind fun r4=>some (r4,true))
theorem XY.ok {a0 r}(h:XY a0=some r):ACalls qg 144 [.agg (zg a0)] [] (fun r' _=>r'=.tup [.agg (zk r.1),.bool r.2]):=by
 refine zr (rs:=[.cell 2 228,.tmp 3]) tok Tryz.func144 rfl Tryz.ntmps144 rfl Tryz.call144 (by simp) ?_;refine zA [(0,.agg (zg a0))] ⟨rfl,trivial⟩ ?_;unfold XY at h
 refine rg tok [1,2] fun K hK=>?_
 simp only[go_sem,qd,qb,qe,reduceCtorEq,zg];apply hK
 refine zd fun Z1 hZ1=>?_
 refine rc [1,2,6] fun K hK=>?_
 obtain⟨r2,hr2,h⟩:=bind_some h;refine rnN 1 ?_;refine clN rfl rfl rfl ((Yb.ok hr2).c _) ?_;refine rnN 1 ?_;refine nkN hK ?_;refine zT (b:=(!r2)) rfl (fun hc3=>?_) (fun hc3=>?_)
 · rw[if_pos hc3] at h;refine rgN [2,3] ?_;cases h;exact rtA
 rw[wO hc3] at h;apply zj;apply hZ1
 refine rc [2,3] fun K hK=>?_
 obtain⟨r4,hr4,h⟩:=bind_some h;refine rnN 1 ?_;refine clN rfl rfl rfl (yQ.ev xK a0 r4 hr4 _) ?_;have f5:=Zw r4;unfold AV.one at f5;refine zw tok 2 ?_;simp only[go_sem,qd,qf,qb,zk,f5];refine nkN hK ?_;cases h;exact rtA
def xE (a0:zo):Option ya:=
 (match a0 with|.nil=>none|.num n2=>none|.str s2=>none|.node e2 r2=>some (⟨e2,r2⟩:ya))
theorem xE.ok {a0 r}(h:xE a0=some r):ACalls qg 146 [.agg (zk a0)] [] (fun r' _=>r'=.dp (zH r) 0):=by
 refine zr (rs:=[.tmp 2]) tok Tryz.func146 rfl Tryz.ntmps146 rfl Tryz.call146 (by simp) ?_;refine zA [(0,.agg (zk a0))] ⟨rfl,trivial⟩ ?_;unfold xE at h;have f1:=Zw a0;unfold AV.one at f1
 refine rg tok [1] fun K hK=>?_
 simp only[go_sem,qd,qb,reduceCtorEq,zk,f1];apply hK
 rcases a0 with _|n2|s2|⟨e2,r2⟩
 · dsimp only at h
   try simp only[X6]
   cases h
 · dsimp only at h
   try simp only[X5]
   cases h
 · dsimp only at h
   try simp only[X4]
   cases h
 dsimp only at h
 try simp only[YU]
 refine rg tok [2] fun K hK=>?_
 simp only[go_sem,qd,qb,xe,xg,TypeDesc.isIface];apply hK
 cases h;exact rtA
def wo (a0:ya):Option (List xh):=
 (xR a0.frest).bind fun r1=>some r1
theorem wo.own {a0 r}(h:wo a0=some r):ACalls qg 186 [.dp (zH a0) 0] [] (fun r' σ'=>r'=.os true 4 0 0 0 (qa r) false∧σ'=[.cells 0 (qc zx r)]):=by
 refine ACalls.own0 (by simp only[push_cast]) ?_;refine vbI (rs:=[.tmp 2]) tok Tryz.func186 rfl Tryz.ntmps186 rfl Tryz.call186 (by simp) ?_;refine zA [(0,.dp (zH a0) 0)] ⟨rfl,trivial⟩ ?_;unfold wo at h;refine rgN [0] ?_
 refine rc [2] fun K hK=>?_
 obtain⟨r1,hr1,h⟩:=bind_some h;refine zw tok 4 ?_;simp only[go_sem,qd,qb,qe,reduceCtorEq,zH,vau];refine clN rfl rfl rfl (@id (ACalls qg 227 [.ds true (qc zx a0.frest) (qa a0.frest) false] [] (fun r' σ'=>r'=.os true 4 0 0 0 (qa r1) false∧σ'=[.cells 0 (qc zx r1)])) ((xR.own a0.frest r1 hr1).ownAt0 (by simp only[push_cast]) (by simp only[push_cast]) _)) ?_;refine rnN 1 ?_;refine nkN hK ?_;apply zY;cases h;simp only[w7,yy,yI,xq,exists_eq_left',go_sem];refine⟨0,0,by simp,?_,?_⟩
 · first|rfl|(simp only[go_sem,qd,qf,qb,qe,qi,ql,reduceIte,reduceCtorEq,push_cast,if_true,qw,qj,qn,qk,qz,qo,qH,qC,qs,qr,qp,zt,zx]<;>rfl)
 first|rfl|(simp only[go_sem,push_cast,qk,zt]<;>rfl)
theorem wo.ok {a0 r}(h:wo a0=some r):ACalls qg 186 [.dp (zH a0) 0] [] (fun r' _=>r'=.ds true (qc zx r) (qa r) false):=
 (wo.own h).ownData (zU E35.len r) (by simp only[push_cast])
def xx.l8 : List yK→Int→List Int→Option (List Int)
 |[],x4,l2=>some l2
 |y8::q8,x4,l2=>(vac (qa l2+1) 8).bind fun _u14=>((xx.l8 q8) (x4+1) (l2++[y8.ftag]))
def xx (a0:ya):Option (List Int):=
 (xx.l8 a0.fentries 0 ([]:List Int))
theorem xx.own {a0 r}(h:xx a0=some r):ACalls qg 187 [.dp (zH a0) 0] [] (fun r' σ'=>r'=.os true 1 0 0 0 (qa r) false∧σ'=[.cells 0 (qc wh r)]):=by
 refine ACalls.own0 (by simp only[push_cast]) ?_;refine vbI (rs:=[.tmp 2]) tok Tryz.func187 rfl Tryz.ntmps187 rfl Tryz.call187 (by simp) ?_;refine zA [(0,.dp (zH a0) 0)] ⟨rfl,trivial⟩ ?_;unfold xx at h;refine rgN [0] ?_;refine rgN [0,3] ?_;refine YW 3 1 rfl ?_;refine y0 (L:=[(0,.dp (zH a0) 0),(3,.os true 1 0 0 0 (qa ([]:List Int)) false)]) (τ:=[.cells 0 (qc wh ([]:List Int))]) .s ?_
 refine zd fun Z1 hZ1=>?_
 refine rg tok [3,9,10,11] fun K hK=>?_
 simp only[go_sem,qd,qb,qe,reduceCtorEq,zH,vau];apply hK
 apply zn
 refine y5 9 fun hb8=>?_
 replace hb8:qa a0.fentries≤9223372036854775807:=hb8.1;refine yh (fun m L τ=>∃ (p8 q8:List yK) (x4:Int) (l2:List Int) (v3:Nat),m=qa q8∧L=[(3,.os true 1 0 v3 0 (qa l2) false),(9,.ds true (qc yD a0.fentries) (qa a0.fentries) false),(10,.int .i64 (qa a0.fentries:Int)),(11,.int .i64 x4)]∧τ=([.cells v3 (qc wh l2)]:ze)∧a0.fentries=p8++q8∧x4=(qa p8:Int)∧xx.l8 q8 x4 l2=some r) _ ⟨[],a0.fentries,0,([]:List Int),0,rfl,rfl,rfl,rfl,rfl,h⟩ .s ?_;rintro m L τ ⟨p8,q8,x4,l2,v3,rfl,rfl,rfl,hE8,hi8,h⟩
 rcases q8 with _|⟨y8,q8⟩
 · have hz8:=xw hE8 hi8;simp only[xx.l8] at h
   refine rg tok [3,9,10,11,12] fun K hK=>?_
   simp only[go_sem,qd,qb,hz8];apply hK
   refine zd fun Z9 hZ9=>?_
   refine zF rfl ?_;apply yc;apply hZ1;refine rgN [2] ?_;apply zY;cases h;simp only[w7,yy,yI,xq,exists_eq_left',go_sem];refine⟨0,v3,by simp,?_,?_⟩
   · first|rfl|(simp only[go_sem,qd,qf,qb,qe,qi,ql,reduceIte,reduceCtorEq,push_cast,if_true,qw,qj,qn,qk,qz,qo,qH,qC,qs,qr,qp,zt]<;>rfl)
   first|rfl|(simp only[go_sem,push_cast,qk,zt]<;>rfl)
 obtain⟨hz8,hw8,hx8,hE'8,hi'8⟩:=y3 hE8 hi8 hb8;simp only[xx.l8] at h
 refine rg tok [3,9,10,11,12] fun K hK=>?_
 simp only[go_sem,qd,qb,hz8];apply hK
 refine zd fun Z10 hZ10=>?_
 refine zJ rfl ?_;apply zj;apply hZ10
 refine zd fun Z11 hZ11=>?_
 apply zn;have f12:=E324.idxS hx8;have f13:=E324.loadS rfl rfl hx8
 refine rg tok [3,5,9,10,11] fun K hK=>?_
 simp only[go_sem,qd,qf,qb,qe,xv,xu,f12,f13];apply hK
 obtain⟨_u14,hu14,h⟩:=bind_some h;have gu14:=xb hu14;have f15:=(zU E26.len l2)
 refine rgE tok [3,9,10,11] fun K hK=>?_
 simp only[go_sem,qd,qf,qb,qe,qi,zL,ym,qP,qJ,true_and,qW,yM,yl,yL,gu14,f15,xa,qV,qX,AV.one,qE,qK,qq,qu,qj,qL];apply hK
 apply hZ11
 refine rgE tok [3,9,10,11] fun K hK=>?_
 simp only[go_sem,qd,qb,hw8];apply hK
 exact⟨_,_,_,qx q8.length,⟨p8++[y8],q8,x4+1,l2++[y8.ftag],v3+1,rfl,rfl,rfl,hE'8,hi'8,h⟩,(.t [0] false)⟩
theorem xx.ok {a0 r}(h:xx a0=some r):ACalls qg 187 [.dp (zH a0) 0] [] (fun r' _=>r'=.ds true (qc wh r) (qa r) false):=
 (xx.own h).ownData (zU E26.len r) (by simp only[push_cast])
def ZF (a0:List zo):Option (List zo):=(vac (qa a0) 16).bind fun _=>some a0
theorem ZF.own (a0 r:List zo)(h:ZF a0=some r):ACalls qg 228 [.ds true (qc zk a0) (qa a0) false] [] (fun r' σ'=>r'=.os true 1 0 0 0 (qa r) false∧σ'=[.cells 0 (qc zk r)]):=by
 obtain⟨_u,hu,h⟩:=bind_some h;have gu:=xb hu;cases h
 have f1:=fun nl tt σ=>Zq E282.len a0 nl tt σ
 have f2:=zU E282.len a0;have f3:=Xt zk a0;refine vcs (rs:=[.tmp 2]) tok Tryz.func228 rfl Tryz.ntmps228 rfl Tryz.call228 (by simp) ?_;refine zA [(0,.ds true (qc zk a0) (qa a0) false)] ⟨rfl,trivial⟩ ?_;refine rgN [0] ?_
 refine zd fun Z1 hZ1=>?_
 refine rc [0,4] fun K hK=>?_
 refine rnN 1 ?_
 refine YD tok rfl rfl rfl rfl rfl rfl fun b hnil=>?_
 have hb:b=true→a0=[]:=fun hb=>by
  have:=hnil hb;simp only[yL,go_sem,reduceCtorEq] at this;exact qY this
 clear hnil
 refine nkN hK ?_;cases b
 · refine zF rfl ?_;apply zj;apply hZ1
   refine rg tok [2] fun K hK=>?_
   by_cases h0:qa a0=0
   · obtain rfl:=qY h0;simp only[go_sem,qd,qb,reduceCtorEq,zL,ym,qJ,uC,yM,yl,yL,yz,ug,qu,um,qV];apply hK
     apply zY;simp only[w7,yy,yI,xq,exists_eq_left',go_sem];refine .inl ⟨0,true,by simp,?_,?_⟩
     · first|rfl|(simp only[go_sem,qd,qf,qb,qe,qi,ql,reduceIte,reduceCtorEq,w8,ZE,if_true]<;>rfl)
     first|rfl|(simp only[go_sem,qd,qf,qb,qe,qi,ql,reduceIte,reduceCtorEq,Yf,vah,ZL,Yg,Yz,qk]<;>rfl)
   have h1:=eq_false h0;simp only[go_sem,qd,qb,reduceCtorEq,zL,ym,qJ,uC,yM,yl,yL,f1,f3,h1,gu,xa,qk,qK,um];apply hK
   apply zY;simp only[w7,yy,yI,xq,exists_eq_left',go_sem,qe];refine .inl ⟨1,false,by simp,?_,?_⟩
   · first|rfl|(simp only[go_sem,qd,qf,qb,qe,qi,ql,reduceIte,reduceCtorEq,w8,ZE,if_true]<;>rfl)
   first|rfl|(simp only[go_sem,Yf,ZL,Yg,Yz,zt]<;>rfl)
 obtain rfl:=hb rfl;refine zJ rfl ?_;refine rgN [2] ?_;apply zY;simp only[w7,yy,yI,xq,exists_eq_left',go_sem];refine .inr ?_
 first|rfl|(simp only[go_sem,qd,qf,qb,qe,qi,ql,reduceIte,reduceCtorEq,Yy,qk,qo,qH,qp,qC]<;>rfl)
def xT.l4 (a1:Int):List yK→Int→Option (List zo)
 |[],x2=>some ([]:List zo)
 |y4::q4,x2=>(if y4.ftag=a1 then (ZF y4.fl).bind fun r12=>some r12 else ((xT.l4 a1 q4) (x2+1)))
def xT (a0:ya)(a1:Int):Option (List zo):=
 (xT.l4 a1 a0.fentries 0)
theorem xT.ok {a0 a1 r}(h:xT a0 a1=some r):ACalls qg 188 [.dp (zH a0) 0,.int .i64 a1] [] (fun r' _=>r'=.ds true (qc zk r) (qa r) false):=by
 refine zr (rs:=[.tmp 4]) tok Tryz.func188 rfl Tryz.ntmps188 rfl Tryz.call188 (by simp) ?_;refine zA [(0,.dp (zH a0) 0),(1,.int .i64 a1)] ⟨rfl,rfl,trivial⟩ ?_;unfold xT at h;refine rgN [0,1] ?_
 refine zd fun Z1 hZ1=>?_
 refine rg tok [1,10,11,12] fun K hK=>?_
 simp only[go_sem,qd,qb,qe,reduceCtorEq,zH,vau];apply hK
 apply zn
 refine y5 10 fun hb4=>?_
 replace hb4:qa a0.fentries≤9223372036854775807:=hb4.1;refine yh (fun m L τ=>∃ (p4 q4:List yK) (x2:Int),m=qa q4∧L=[(1,.int .i64 a1),(10,.ds true (qc yD a0.fentries) (qa a0.fentries) false),(11,.int .i64 (qa a0.fentries:Int)),(12,.int .i64 x2)]∧τ=([]:ze)∧a0.fentries=p4++q4∧x2=(qa p4:Int)∧xT.l4 a1 q4 x2=some r) _ ⟨[],a0.fentries,0,rfl,rfl,rfl,rfl,rfl,h⟩ .s ?_;rintro m L τ ⟨p4,q4,x2,rfl,rfl,rfl,hE4,hi4,h⟩
 rcases q4 with _|⟨y4,q4⟩
 · have hz4:=xw hE4 hi4;simp only[xT.l4] at h
   refine rg tok [1,10,11,12,13] fun K hK=>?_
   simp only[go_sem,qd,qb,hz4];apply hK
   refine zd fun Z5 hZ5=>?_
   refine zF rfl ?_;apply yc;apply hZ1;refine rgN [4] ?_;cases h;exact rtA
 obtain⟨hz4,hw4,hx4,hE'4,hi'4⟩:=y3 hE4 hi4 hb4;simp only[xT.l4] at h
 refine rg tok [1,10,11,12,13] fun K hK=>?_
 simp only[go_sem,qd,qb,hz4];apply hK
 refine zd fun Z6 hZ6=>?_
 refine zJ rfl ?_;apply zj;apply hZ6
 refine zd fun Z7 hZ7=>?_
 apply zn;have f8:=E324.idxS hx4;have f9:=E324.loadS rfl rfl hx4
 refine rg tok [1,6,10,11,12] fun K hK=>?_
 simp only[go_sem,qd,qf,qb,qe,xv,xu,f8,f9];apply hK
 refine rgN [1,6,10,11,12,19] ?_;refine yf rfl (fun hc10=>?_) (fun hc10=>?_)
 · rw[if_pos hc10] at h;have t11:=eq_true hc10
   refine rc [4] fun K hK=>?_
   obtain⟨r12,hr12,h⟩:=bind_some h;refine zw tok 2 ?_;simp only[go_sem,qd,qb,qe,t11];refine clN rfl rfl rfl (@id (ACalls qg 228 [.ds true (qc zk y4.fl) (qa y4.fl) false] [.cells 0 (xv y4)] (fun r' σ'=>r'=.os true 1 1 0 0 (qa r12) false∧σ'=[.cells 0 (xv y4),.cells 0 (qc zk r12)])) ((ZF.own y4.fl r12 hr12).ownAt0 (by simp only[push_cast]) (by simp only[push_cast]) _)) ?_;refine rnN 1 ?_;refine nkN hK ?_;cases h;exact rtA
 rw[if_neg hc10] at h;have t13:=eq_false hc10;apply zj;apply hZ7
 refine rgE tok [1,10,11,12] fun K hK=>?_
 simp only[go_sem,qd,qb,hw4,t13];apply hK
 exact⟨_,_,_,qx q4.length,⟨p4++[y4],q4,x2+1,rfl,rfl,rfl,hE'4,hi'4,h⟩,(.t [] false)⟩
end
section
set_option maxRecDepth 4000
set_option maxHeartbeats 1000000
open AM
def wI (a0:zo):Int×Bool:=
 (match a0 with|.nil=>(0,false)|.num n2=>(n2,true)|.str s2=>(0,false)|.node e2 r2=>(0,false))
theorem wI.ok {a0 r}(h:wI a0=r):ACalls qg 243 [.agg (zk a0)] [] (fun r' _=>r'=.tup [.int .i64 r.1,.bool r.2]):=by
 refine zr (rs:=[.tmp 2,.tmp 3]) tok Tryz.func243 rfl Tryz.ntmps243 rfl Tryz.call243 (by simp) ?_;refine zA [(0,.agg (zk a0))] ⟨rfl,trivial⟩ ?_;unfold wI at h;have f1:=Zw a0;unfold AV.one at f1
 refine rg tok [1] fun K hK=>?_
 simp only[go_sem,qd,qb,reduceCtorEq,zk,f1];apply hK
 rcases a0 with _|n2|s2|⟨e2,r2⟩
 · dsimp only at h
   try simp only[X6]
   refine rg tok [4,5] fun K hK=>?_
   simp only[go_sem,qd,qb,qe,xe,xg,TypeDesc.isIface];apply hK
   refine rgN [2,3] ?_;cases h;exact rtA
 · dsimp only at h
   try simp only[X5]
   refine rg tok [4,5] fun K hK=>?_
   simp only[go_sem,qd,qb,qe,xe,xg,TypeDesc.isIface];apply hK
   refine rgN [2,3] ?_;cases h;exact rtA
 · dsimp only at h
   try simp only[X4]
   refine rg tok [4,5] fun K hK=>?_
   simp only[go_sem,qd,qb,qe,xe,xg,TypeDesc.isIface];apply hK
   refine rgN [2,3] ?_;cases h;exact rtA
 dsimp only at h
 try simp only[YU]
 refine rg tok [4,5] fun K hK=>?_
 simp only[go_sem,qd,qb,qe,xe,xg,TypeDesc.isIface];apply hK
 refine rgN [2,3] ?_;cases h;exact rtA
def Zk (a0:zo):List UInt8×Bool:=
 (match a0 with|.nil=>([],false)|.num n2=>([],false)|.str s2=>(s2,true)|.node e2 r2=>([],false))
theorem Zk.ok {a0 r}(h:Zk a0=r):ACalls qg 244 [.agg (zk a0)] [] (fun r' _=>r'=.tup [.str r.1,.bool r.2]):=by
 refine zr (rs:=[.tmp 2,.tmp 3]) tok Tryz.func244 rfl Tryz.ntmps244 rfl Tryz.call244 (by simp) ?_;refine zA [(0,.agg (zk a0))] ⟨rfl,trivial⟩ ?_;unfold Zk at h;have f1:=Zw a0;unfold AV.one at f1
 refine rg tok [1] fun K hK=>?_
 simp only[go_sem,qd,qb,reduceCtorEq,zk,f1];apply hK
 rcases a0 with _|n2|s2|⟨e2,r2⟩
 · dsimp only at h
   try simp only[X6]
   refine rg tok [4,5] fun K hK=>?_
   simp only[go_sem,qd,qb,qe,xe,xg,TypeDesc.isIface];apply hK
   refine rgN [2,3] ?_;cases h;exact rtA
 · dsimp only at h
   try simp only[X5]
   refine rg tok [4,5] fun K hK=>?_
   simp only[go_sem,qd,qb,qe,xe,xg,TypeDesc.isIface];apply hK
   refine rgN [2,3] ?_;cases h;exact rtA
 · dsimp only at h
   try simp only[X4]
   refine rg tok [4,5] fun K hK=>?_
   simp only[go_sem,qd,qb,qe,xe,xg,TypeDesc.isIface];apply hK
   refine rgN [2,3] ?_;cases h;exact rtA
 dsimp only at h
 try simp only[YU]
 refine rg tok [4,5] fun K hK=>?_
 simp only[go_sem,qd,qb,qe,xe,xg,TypeDesc.isIface];apply hK
 refine rgN [2,3] ?_;cases h;exact rtA
def Xf (a0:zo):Option zo:=
 bnd (wI a0) fun r3=>(if r3.2=true then some (zo.num r3.1) else bnd (Zk a0) fun r6=>(if r6.2=true then some (zo.str r6.1) else (xE a0).bind fun r8=>some (zo.node r8.fentries r8.frest)))
theorem Xf.ok {a0 r}(h:Xf a0=some r):ACalls qg 229 [.agg (zk a0)] [] (fun r' _=>r'=anyV r):=by
 refine zr (rs:=[.tmp 2]) tok Tryz.func229 rfl Tryz.ntmps229 rfl Tryz.call229 (by simp) ?_;refine zA [(0,.agg (zk a0))] ⟨rfl,trivial⟩ ?_;unfold Xf at h;have f1:=Zw a0;unfold AV.one at f1
 refine rg tok [1] fun K hK=>?_
 simp only[go_sem,qd,qb,reduceCtorEq,zk,f1];apply hK
 refine zd fun Z2 hZ2=>?_
 refine rc [1,3,4] fun K hK=>?_
 obtain⟨r3,hr3,h⟩:=yg h;refine rnN 1 ?_;refine clN rfl rfl rfl ((wI.ok hr3).c _) ?_;refine rnN 5 ?_;refine nkN hK ?_;refine rgN [1,3,12] ?_;refine zT (b:=r3.2) rfl (fun hc4=>?_) (fun hc4=>?_)
 · rw[if_pos hc4] at h;refine rgN [2] ?_;cases h;exact rtA
 rw[wO hc4] at h;apply zj;apply hZ2
 refine zd fun Z5 hZ5=>?_
 refine rc [1,5,6] fun K hK=>?_
 obtain⟨r6,hr6,h⟩:=yg h;refine rnN 1 ?_;refine clN rfl rfl rfl ((Zk.ok hr6).c _) ?_;refine rnN 5 ?_;refine nkN hK ?_;refine rgN [1,5,20] ?_;refine zT (b:=r6.2) rfl (fun hc7=>?_) (fun hc7=>?_)
 · rw[if_pos hc7] at h;refine rgN [2] ?_;cases h;exact rtA
 rw[wO hc7] at h;apply zj;apply hZ5
 refine rc [2] fun K hK=>?_
 obtain⟨r8,hr8,h⟩:=bind_some h;refine rnN 1 ?_;refine clN rfl rfl rfl ((xE.ok hr8).c _) ?_;refine rnN 2 ?_;refine nkN hK ?_;cases h;exact rtA
def Zc.l9 : Nat→List UInt8→Int→Option (List UInt8)
 |0,_,_=>none
 |k9+1,l3,x5=>(if 128≤x5 then (vac (qa l3+1) 1).bind fun _u14=>((Zc.l9 k9) (l3++[ua (qA (IntKind.u8.wrap ((qO (qt 8 (IntKind.u8.wrap x5) ||| qt 8 128):Nat):Int)))]) (ur x5 (2^(min (qA 7) 64)))) else (vac (qa l3+1) 1).bind fun _u18=>some (l3++[ua (qA (IntKind.u8.wrap x5))]))
def Zc (a0:List UInt8)(a1:Int):Option (List UInt8):=
 (if 128≤a1 then (vac (qa a0+1) 1).bind fun _u24=>(Zc.l9 xK (a0++[ua (qA (IntKind.u8.wrap ((qO (qt 8 (IntKind.u8.wrap a1) ||| qt 8 128):Nat):Int)))]) (ur a1 (2^(min (qA 7) 64)))) else (vac (qa a0+1) 1).bind fun _u28=>some (a0++[ua (qA (IntKind.u8.wrap a1))]))
theorem Zc.own {a0 a1 r}(h:Zc a0 a1=some r):ACalls qg 191 [.ds true (qc ZT a0) (qa a0) false,.int .u64 a1] [] (fun r' σ'=>r'=.os true 1 0 0 0 (qa r) false∧σ'=[.cells 0 (qc ZT r)]):=by
 refine ACalls.own0 (by simp only[push_cast]) ?_;refine vbI (rs:=[.tmp 4]) tok Tryz.func191 rfl Tryz.ntmps191 rfl Tryz.call191 (by simp) ?_;refine zA [(0,.ds true (qc ZT a0) (qa a0) false),(1,.int .u64 a1)] ⟨rfl,rfl,trivial⟩ ?_;unfold Zc at h;refine rgN [0,1] ?_;have f1:=E48.sl_tight a0 .i64 .i64
 refine rg tok [0,1] fun K hK=>?_
 simp only[go_sem,qd,qb,reduceCtorEq,f1];apply hK
 refine zd fun Z2 hZ2=>?_
 apply zn;refine awp_loopS1 (fun m L τ=>∃ (k9:Nat) (l3:List UInt8) (x5:Int) (v4:Nat),m=0+k9∧L=[(0,.os true 1 0 v4 0 (qa l3) false),(1,.int .u64 x5)]∧τ=([.cells v4 (qc ZT l3)]:ze)∧Zc.l9 k9 l3 x5=some r) (xK+1) ?_ ?_
 · refine zd fun Z20 hZ20=>?_
   refine rgN [0,1,12] ?_;refine yf rfl (fun hc21=>?_) (fun hc21=>?_)
   · rw[if_pos hc21] at h;have t22:=eq_true hc21;apply zj;apply hZ20;apply zn;have f23:=wu (T:=tab) (src:=287) (dst:=5) rfl rfl rfl;obtain⟨_u24,hu24,h⟩:=bind_some h;have gu24:=xb hu24;have f25:=app_tight E48.len a0 (m:=1) (by decide)
     refine rg tok [0,1] fun K hK=>?_
     simp only[go_sem,qd,qf,qb,qi,reduceCtorEq,zL,ym,qP,qJ,true_and,qW,yM,yL,t22,f23,gu24,f25,xa,qV,qX,AV.one,qE,qK,qq,qu,qj,qL];apply hK
     refine y0 (L:=[(0,.os true 1 1 0 0 (qa (a0++[ua (qA (IntKind.u8.wrap ((qO (qt 8 (IntKind.u8.wrap a1) ||| qt 8 128):Nat):Int)))])) false),(1,.int .u64 a1)]) (τ:=[.cells 0 [.int .u8 (IntKind.u8.wrap ((qO (qt 8 (IntKind.u8.wrap a1) ||| qt 8 128):Nat):Int))],.cells 0 (qc ZT (a0++[ua (qA (IntKind.u8.wrap ((qO (qt 8 (IntKind.u8.wrap a1) ||| qt 8 128):Nat):Int)))]))]) (.same (by first|exact⟨rfl,rfl,trivial⟩|rfl|(simp only[go_sem,reduceCtorEq,Fits,qD,qq,qu,qj,and_self]<;>rfl)) (by first|exact⟨rfl,rfl,trivial⟩|rfl|(simp only[go_sem,ZT,ub,qR,ug,qT,vaN]<;>rfl))) ?_
     refine rgE tok [0,1] fun K hK=>?_
     simp only[go_sem,qd,qb,reduceCtorEq,Yc,Int.reduceLT];apply hK
     exact⟨_,_,_,(Nat.lt_succ_of_le (Nat.le_of_eq (qj xK))),⟨xK,a0++[ua (qA (IntKind.u8.wrap ((qO (qt 8 (IntKind.u8.wrap a1) ||| qt 8 128):Nat):Int)))],ur a1 (2^(min (qA 7) 64)),0,rfl,rfl,rfl,h⟩,(.t [1] false)⟩
   rw[if_neg hc21] at h;have t26:=eq_false hc21;apply yc;apply hZ2;have f27:=wu (T:=tab) (src:=287) (dst:=5) rfl rfl rfl;obtain⟨_u28,hu28,h⟩:=bind_some h;have gu28:=xb hu28;have f29:=app_tight E48.len a0 (m:=1) (by decide)
   refine rg tok [4] fun K hK=>?_
   simp only[go_sem,qd,qf,qb,qi,reduceCtorEq,zL,ym,qP,qJ,true_and,qW,yM,yL,t26,f27,gu28,f29,xa,qV,qX,AV.one,qE,qK,qq,qu,qj,qL];apply hK
   refine y0 (L:=[(4,.os true 1 1 0 0 (qa (a0++[ua (qA (IntKind.u8.wrap a1))])) false)]) (τ:=[.cells 0 [.int .u8 (IntKind.u8.wrap a1)],.cells 0 (qc ZT (a0++[ua (qA (IntKind.u8.wrap a1))]))]) (.same (by first|exact⟨rfl,trivial⟩|rfl|(simp only[go_sem,Fits,qD,qq,qu,qj,and_self]<;>rfl)) (by first|exact⟨rfl,trivial⟩|rfl|(simp only[go_sem,ZT,ub,qR,ug,qT,vaN]<;>rfl))) ?_;apply zY;cases h;simp only[w7,yy,yI,xq,exists_eq_left',go_sem,qe];refine⟨1,0,by simp,?_,?_⟩
   · first|rfl|(simp only[go_sem,qd,qf,qb,qe,qi,ql,reduceIte,reduceCtorEq,push_cast,if_true,qw,qj,qn,qk,qz,qo,qH,qC,qs,qr,qp,zt]<;>rfl)
   first|rfl|(simp only[go_sem,push_cast,qk,zt]<;>rfl)
 clear h
 rintro m L τ ⟨k9,l3,x5,v4,rfl,rfl,rfl,h⟩
 rcases k9 with _|k9
 · cases h
 simp only[Zc.l9] at h
 refine zd fun Z10 hZ10=>?_
 refine rgN [0,1,12] ?_;refine yf rfl (fun hc11=>?_) (fun hc11=>?_)
 · rw[if_pos hc11] at h;have t12:=eq_true hc11;apply zj;apply hZ10;apply zn;have f13:=wu (T:=tab) (src:=287) (dst:=5) rfl rfl rfl;obtain⟨_u14,hu14,h⟩:=bind_some h;have gu14:=xb hu14;have f15:=(zU E48.len l3)
   refine rg tok [0,1] fun K hK=>?_
   simp only[go_sem,qd,qf,qb,qi,reduceCtorEq,zL,ym,qP,qJ,true_and,qW,yM,yl,yL,t12,f13,gu14,f15,xa,qV,qX,AV.one,qE,qK,qq,qu,qj,qL];apply hK
   refine y0 (L:=[(0,.os true 1 0 (v4+1) 0 (qa (l3++[ua (qA (IntKind.u8.wrap ((qO (qt 8 (IntKind.u8.wrap x5) ||| qt 8 128):Nat):Int)))])) false),(1,.int .u64 x5)]) (τ:=[.cells (v4+1) (qc ZT (l3++[ua (qA (IntKind.u8.wrap ((qO (qt 8 (IntKind.u8.wrap x5) ||| qt 8 128):Nat):Int)))])),.cells 0 [.int .u8 (IntKind.u8.wrap ((qO (qt 8 (IntKind.u8.wrap x5) ||| qt 8 128):Nat):Int))]]) (.same (by first|exact⟨rfl,rfl,trivial⟩|rfl|(simp only[go_sem,reduceCtorEq,Fits,qD,qq,qu,qj,and_self]<;>rfl)) (by first|exact⟨rfl,rfl,trivial⟩|rfl|(simp only[go_sem,ZT,ub,qR,ug,qT,vaN]<;>rfl))) ?_
   refine rgE tok [0,1] fun K hK=>?_
   simp only[go_sem,qd,qb,reduceCtorEq,Yc,Int.reduceLT];apply hK
   exact⟨_,_,_,qx (0+k9),⟨k9,l3++[ua (qA (IntKind.u8.wrap ((qO (qt 8 (IntKind.u8.wrap x5) ||| qt 8 128):Nat):Int)))],ur x5 (2^(min (qA 7) 64)),v4+1,rfl,rfl,rfl,h⟩,(.t [0] false)⟩
 rw[if_neg hc11] at h;have t16:=eq_false hc11;apply yc;apply hZ2;have f17:=wu (T:=tab) (src:=287) (dst:=5) rfl rfl rfl;obtain⟨_u18,hu18,h⟩:=bind_some h;have gu18:=xb hu18;have f19:=(zU E48.len l3)
 refine rg tok [4] fun K hK=>?_
 simp only[go_sem,qd,qf,qb,qi,reduceCtorEq,zL,ym,qP,qJ,true_and,qW,yM,yl,yL,t16,f17,gu18,f19,xa,qV,qX,AV.one,qE,qK,qq,qu,qj,qL];apply hK
 refine y0 (L:=[(4,.os true 1 0 (v4+1) 0 (qa (l3++[ua (qA (IntKind.u8.wrap x5))])) false)]) (τ:=[.cells (v4+1) (qc ZT (l3++[ua (qA (IntKind.u8.wrap x5))])),.cells 0 [.int .u8 (IntKind.u8.wrap x5)]]) (.same (by first|exact⟨rfl,trivial⟩|rfl|(simp only[go_sem,Fits,qD,qq,qu,qj,and_self]<;>rfl)) (by first|exact⟨rfl,trivial⟩|rfl|(simp only[go_sem,ZT,ub,qR,ug,qT,vaN]<;>rfl))) ?_;apply zY;cases h;simp only[w7,yy,yI,xq,exists_eq_left',go_sem,qe];refine⟨0,v4+1,by simp,?_,?_⟩
 · first|rfl|(simp only[go_sem,qd,qf,qb,qe,qi,ql,reduceIte,reduceCtorEq,push_cast,if_true,qw,qj,qn,qk,qz,qo,qH,qC,qs,qr,qp,zt]<;>rfl)
 first|rfl|(simp only[go_sem,push_cast,qk,zt]<;>rfl)
theorem Zc.ok {a0 a1 r}(h:Zc a0 a1=some r):ACalls qg 191 [.ds true (qc ZT a0) (qa a0) false,.int .u64 a1] [] (fun r' _=>r'=.ds true (qc ZT r) (qa r) false):=
 (Zc.own h).ownData (zU E48.len r) (by simp only[push_cast])
def vaZ (a0:Int):Int:=
 IntKind.u64.wrap ((qO (qt 64 (IntKind.u64.wrap ((IntKind.u64.wrap a0)*2^(min (qA 1) 64))) ^^^ qt 64 (IntKind.u64.wrap (ur a0 (2^(min (qA 63) 64))))):Nat):Int)
theorem vaZ.ok {a0 r}(h:vaZ a0=r):ACalls qg 192 [.int .i64 a0] [] (fun r' _=>r'=.int .u64 r):=by
 refine zr (rs:=[.tmp 2]) tok Tryz.func192 rfl Tryz.ntmps192 rfl Tryz.call192 (by simp) ?_;refine zA [(0,.int .i64 a0)] ⟨rfl,trivial⟩ ?_;unfold vaZ at h;refine rgN [0] ?_;have f1:=wu (T:=tab) (src:=3) (dst:=287) rfl rfl rfl;have f2:=wu (T:=tab) (src:=3) (dst:=287) rfl rfl rfl
 refine rg tok [2] fun K hK=>?_
 simp only[go_sem,qd,qb,reduceCtorEq,f1,Yc,Int.reduceLT];apply hK
 cases h;exact rtA
def vaY (a0:List UInt8)(a1:xh):Option (List UInt8×Bool):=
 bnd (ZU a1) fun r2=>(if (!r2)=true then some (a0,false) else (Zc a0 (IntKind.u64.wrap (IntKind.i64.wrap ((IntKind.i64.wrap (2*a1.fTag))+a1.fWire)))).bind fun r5=>(if a1.fWire=0 then bnd (vaZ a1.fN) fun r9=>(Zc r5 r9).bind fun r10=>some (r10,true) else (Zc r5 (IntKind.u64.wrap (qa a1.fB:Int))).bind fun r13=>(vac (qa r13+qa a1.fB) 1).bind fun _u14=>some (r13++a1.fB,true)))
theorem vaY.ok {a0 a1 r}(h:vaY a0 a1=some r):ACalls qg 148 [.ds true (qc ZT a0) (qa a0) false,.agg (zx a1)] [] (fun r' _=>r'=.tup [.ds true (qc ZT r.1) (qa r.1) false,.bool r.2]):=by
 refine zr (rs:=[.tmp 4,.tmp 5]) tok Tryz.func148 rfl Tryz.ntmps148 rfl Tryz.call148 (by simp) ?_;refine zA [(0,.ds true (qc ZT a0) (qa a0) false),(1,.agg (zx a1))] ⟨rfl,rfl,trivial⟩ ?_;unfold vaY at h
 refine rg tok [0,3] fun K hK=>?_
 simp only[go_sem,qd,qb,qe,reduceCtorEq,zx];apply hK
 refine zd fun Z1 hZ1=>?_
 refine rc [0,3,9] fun K hK=>?_
 obtain⟨r2,hr2,h⟩:=yg h;refine rnN 1 ?_;refine clN rfl rfl rfl ((ZU.ok hr2).c _) ?_;refine rnN 1 ?_;refine nkN hK ?_;refine zT (b:=(!r2)) rfl (fun hc3=>?_) (fun hc3=>?_)
 · rw[if_pos hc3] at h;refine rgN [4,5] ?_;cases h;exact rtA
 rw[wO hc3] at h;apply zj;apply hZ1
 refine rc [3,6] fun K hK=>?_
 have f4:=wu (T:=tab) (src:=3) (dst:=287) rfl rfl rfl;obtain⟨r5,hr5,h⟩:=bind_some h;refine zw tok 8 ?_;simp only[go_sem,qd,qb,qe,reduceCtorEq,f4];refine clN rfl rfl rfl ((Zc.ok hr5).c _) ?_;refine rnN 1 ?_;refine nkN hK ?_
 refine zd fun Z6 hZ6=>?_
 refine rgN [3,6,22] ?_;refine yf rfl (fun hc7=>?_) (fun hc7=>?_)
 · rw[if_pos hc7] at h;have t8:=eq_true hc7
   refine rc [4,5] fun K hK=>?_
   obtain⟨r9,hr9,h⟩:=yg h;refine zw tok 3 ?_;simp only[go_sem,qd,qb,qe,t8];refine clN rfl rfl rfl ((vaZ.ok hr9).c _) ?_;obtain⟨r10,hr10,h⟩:=bind_some h;refine clN rfl rfl rfl ((Zc.ok hr10).c _) ?_;refine rnN 2 ?_;refine nkN hK ?_;cases h;exact rtA
 rw[if_neg hc7] at h;have t11:=eq_false hc7;apply zj;apply hZ6;have f12:=wu (T:=tab) (src:=3) (dst:=287) rfl rfl rfl;obtain⟨r13,hr13,h⟩:=bind_some h;obtain⟨_u14,hu14,h⟩:=bind_some h;have gu14:=xb hu14;have f15:=(zU E48.len r13)
 refine rd [4,5] fun K hK=>?_
 refine DW.start (T:=tab) [.any,.any,.at [],.at [],.at [],.eff,.any,.own 1 [],.eff,.any,.any] [(1,[])] ?_;refine DW.runN tok 5 ?_;simp only[go_sem,qd,qb,qe,t11,f12,qq,qu,qj];refine DW.callS rfl rfl rfl (@id (ACalls qg 191 [.ds true (qc ZT r5) (qa r5) false,.int .u64 (IntKind.u64.wrap (qa a1.fB:Int))] [.cells 0 [.int .i64 a1.fTag,.int .i64 a1.fWire,.int .i64 a1.fN,.str a1.fB]] (fun r' σ'=>r'=.os true 1 1 0 0 (qa r13) false∧σ'=[.cells 0 [.int .i64 a1.fTag,.int .i64 a1.fWire,.int .i64 a1.fN,.str a1.fB],.cells 0 (qc ZT r13)])) ((Zc.own hr13).ownAt0 (by simp only[push_cast]) (by simp only[push_cast]) _)) (Xl (by simp only[go_sem,qf])) ?_;refine DW.runN tok 5 ?_;simp only[go_sem,qd,qf,qb,qe,yM,yl,yL,true_and,gu14,f15,srcCells_s,X8,Xt,qq,qu,qj];refine DW.fin tok (by decide +kernel) rfl ?_;simp only[zz,upd,qb,reduceIte,yS,xD];apply hK
 refine y0 (L:=[(4,.os true 1 1 (0+1) 0 (qa (r13++a1.fB)) false),(5,.bool true)]) (τ:=[.cells 0 [.int .i64 a1.fTag,.int .i64 a1.fWire,.int .i64 a1.fN,.str a1.fB],.cells (0+1) (qc ZT (r13++a1.fB))]) .s ?_;cases h;exact rtA
def xN.l11 : List xh→Int→List UInt8→Option (List UInt8×Int)
 |[],x8,x7=>some (x7,0)
 |y11::q11,x8,x7=>(vaY x7 y11).bind fun r17=>(if 4096<(qa r17.1:Int) then some (([]:List UInt8),4) else ((xN.l11 q11) (x8+1) r17.1))
def xN.l4 (a0:List xh):List xh→Int→Option (List UInt8×Int)
 |[],x2=>(xN.l11 a0 0 ([]:List UInt8))
 |y4::q4,x2=>bnd (ZU y4) fun r25=>(if (!r25)=true then some (([]:List UInt8),1) else ((xN.l4 a0 q4) (x2+1)))
def xN (a0:List xh):Option (List UInt8×Int):=
 (xN.l4 a0 a0 0)
theorem xN.ok {a0 r}(h:xN a0=some r):ACalls qg 96 [.ds true (qc zx a0) (qa a0) false] [] (fun r' _=>r'=.tup [.ds true (qc ZT r.1) (qa r.1) false,.int .i64 r.2]):=by
 refine zr (rs:=[.tmp 2,.tmp 3]) tok Tryz.func96 rfl Tryz.ntmps96 rfl Tryz.call96 (by simp) ?_;refine zA [(0,.ds true (qc zx a0) (qa a0) false)] ⟨rfl,trivial⟩ ?_;unfold xN at h;refine rgN [0] ?_
 refine zd fun Z1 hZ1=>?_
 refine rgN [0,9,10,11] ?_;apply zn
 refine y5 0 fun hb4=>?_
 replace hb4:qa a0≤9223372036854775807:=hb4.1;refine yh (fun m L τ=>∃ (p4 q4:List xh) (x2:Int),m=qa q4∧L=[(0,.ds true (qc zx a0) (qa a0) false),(9,.ds true (qc zx a0) (qa a0) false),(10,.int .i64 (qa a0:Int)),(11,.int .i64 x2)]∧τ=([]:ze)∧a0=p4++q4∧x2=(qa p4:Int)∧xN.l4 a0 q4 x2=some r) _ ⟨[],a0,0,rfl,rfl,rfl,rfl,rfl,h⟩ .s ?_;rintro m L τ ⟨p4,q4,x2,rfl,rfl,rfl,hE4,hi4,h⟩
 rcases q4 with _|⟨y4,q4⟩
 · have hz4:=xw hE4 hi4;simp only[xN.l4] at h
   refine rg tok [0,9,10,11,12] fun K hK=>?_
   simp only[go_sem,qd,qb,reduceCtorEq,hz4];apply hK
   refine zd fun Z5 hZ5=>?_
   refine zF rfl ?_;apply yc;apply hZ1;refine rgN [0,6] ?_
   refine zd fun Z6 hZ6=>?_
   refine rgN [6,19,20,21] ?_;apply zn
   refine y5 19 fun hb11=>?_
   replace hb11:qa a0≤9223372036854775807:=hb11.1;refine yh (fun m L τ=>∃ (p11 q11:List xh) (x8:Int) (x7:List UInt8),m=qa q11∧L=[(6,.ds true (qc ZT x7) (qa x7) false),(19,.ds true (qc zx a0) (qa a0) false),(20,.int .i64 (qa a0:Int)),(21,.int .i64 x8)]∧τ=([]:ze)∧a0=p11++q11∧x8=(qa p11:Int)∧xN.l11 q11 x8 x7=some r) _ ⟨[],a0,0,([]:List UInt8),rfl,rfl,rfl,rfl,rfl,h⟩ (.t [] true) ?_;rintro m L τ ⟨p11,q11,x8,x7,rfl,rfl,rfl,hE11,hi11,h⟩
   rcases q11 with _|⟨y11,q11⟩
   · have hz11:=xw hE11 hi11;simp only[xN.l11] at h
     refine rg tok [6,19,20,21,22] fun K hK=>?_
     simp only[go_sem,qd,qb,hz11];apply hK
     refine zd fun Z12 hZ12=>?_
     refine zF rfl ?_;apply yc;apply hZ6;refine rgN [2,3] ?_;cases h;exact rtA
   obtain⟨hz11,hw11,hx11,hE'11,hi'11⟩:=y3 hE11 hi11 hb11;simp only[xN.l11] at h
   refine rg tok [6,19,20,21,22] fun K hK=>?_
   simp only[go_sem,qd,qb,hz11];apply hK
   refine zd fun Z13 hZ13=>?_
   refine zJ rfl ?_;apply zj;apply hZ13
   refine zd fun Z14 hZ14=>?_
   apply zn;have f15:=E35.idxS hx11;have f16:=E35.loadS rfl rfl hx11
   refine rg tok [6,8,19,20,21] fun K hK=>?_
   simp only[go_sem,qd,qf,qb,qe,zx,f15,f16];apply hK
   refine rc [6,19,20,21] fun K hK=>?_
   obtain⟨r17,hr17,h⟩:=bind_some h;refine rnN 2 ?_;refine clN rfl rfl rfl ((vaY.ok hr17).c _) ?_;refine rnN 4 ?_;refine nkN hK ?_;refine rgN [6,19,20,21,33] ?_;refine yf rfl (fun hc18=>?_) (fun hc18=>?_)
   · rw[if_pos hc18] at h;have t19:=eq_true hc18
     refine rg tok [2,3] fun K hK=>?_
     simp only[go_sem,qd,qb,t19];apply hK
     cases h;exact rtA
   rw[if_neg hc18] at h;have t20:=eq_false hc18;apply zj;apply hZ14
   refine rgE tok [6,19,20,21] fun K hK=>?_
   simp only[go_sem,qd,qb,hw11,t20];apply hK
   exact⟨_,_,_,qx q11.length,⟨p11++[y11],q11,x8+1,r17.1,rfl,rfl,rfl,hE'11,hi'11,h⟩,(.t [] false)⟩
 obtain⟨hz4,hw4,hx4,hE'4,hi'4⟩:=y3 hE4 hi4 hb4;simp only[xN.l4] at h
 refine rg tok [0,9,10,11,12] fun K hK=>?_
 simp only[go_sem,qd,qb,reduceCtorEq,hz4];apply hK
 refine zd fun Z21 hZ21=>?_
 refine zJ rfl ?_;apply zj;apply hZ21
 refine zd fun Z22 hZ22=>?_
 apply zn;have f23:=E35.idxS hx4;have f24:=E35.loadS rfl rfl hx4
 refine rg tok [0,5,9,10,11] fun K hK=>?_
 simp only[go_sem,qd,qf,qb,qe,reduceCtorEq,zx,f23,f24];apply hK
 refine rc [0,9,10,11,17] fun K hK=>?_
 obtain⟨r25,hr25,h⟩:=yg h;refine rnN 1 ?_;refine clN rfl rfl rfl ((ZU.ok hr25).c _) ?_;refine rnN 1 ?_;refine nkN hK ?_;refine zT (b:=(!r25)) rfl (fun hc26=>?_) (fun hc26=>?_)
 · rw[if_pos hc26] at h;refine rgN [2,3] ?_;cases h;exact rtA
 rw[wO hc26] at h;apply zj;apply hZ22
 refine rgE tok [0,9,10,11] fun K hK=>?_
 simp only[go_sem,qd,qb,reduceCtorEq,hw4];apply hK
 exact⟨_,_,_,qx q4.length,⟨p4++[y4],q4,x2+1,rfl,rfl,rfl,hE'4,hi'4,h⟩,(.t [] false)⟩
def wk.body (xr:ya→Option (List UInt8×Int))(yH:Int→zo→Option (xh×Int))(xG:ya→Option (List xh×Int))(a0:ya):Option (List UInt8×Int):=
 (xG a0).bind fun r1=>(if r1.2=0 then (xN r1.1).bind fun r6=>some (r6.1,r6.2) else some (([]:List UInt8),r1.2))
theorem wk.step (xr:ya→Option (List UInt8×Int))(yH:Int→zo→Option (xh×Int))(xG:ya→Option (List xh×Int))(ZP:∀ (a0:ya) (r:List UInt8×Int),xr a0=some r→ACalls qg 230 [.dp (zH a0) 0] [] (fun r' _=>r'=.tup [.ds true (qc ZT r.1) (qa r.1) false,.int .i64 r.2]))(Yo:∀ (a0:Int) (a1:zo) (r:xh×Int),yH a0 a1=some r→ACalls qg 189 [.int .i64 a0,.agg (zk a1)] [] (fun r' _=>r'=.tup [.agg (zx r.1),.int .i64 r.2]))(Ya:∀ (a0:ya) (r:List xh×Int),xG a0=some r→ACalls qg 145 [.dp (zH a0) 0] [] (fun r' _=>r'=.tup [.ds true (qc zx r.1) (qa r.1) false,.int .i64 r.2]))(a0:ya)(r:List UInt8×Int)(h:wk.body xr yH xG a0=some r):ACalls qg 230 [.dp (zH a0) 0] [] (fun r' _=>r'=.tup [.ds true (qc ZT r.1) (qa r.1) false,.int .i64 r.2]):=by
 have ev_encode_bytes:=fun a0 r h σ=>(ZP a0 r h).c σ
 have ev_encode_raw:=fun a0 a1 r h σ=>(Yo a0 a1 r h).c σ
 have ev_encode_raws:=fun a0 r h σ=>(Ya a0 r h).c σ
 refine zr (rs:=[.tmp 2,.tmp 3]) tok Tryz.func230 rfl Tryz.ntmps230 rfl Tryz.call230 (by simp) ?_;refine zA [(0,.dp (zH a0) 0)] ⟨rfl,trivial⟩ ?_;unfold wk.body at h;refine rgN [0] ?_
 refine rc [4,5] fun K hK=>?_
 obtain⟨r1,hr1,h⟩:=bind_some h;refine rnN 1 ?_;refine clN rfl rfl rfl (ev_encode_raws a0 r1 hr1 _) ?_;refine rnN 5 ?_;refine nkN hK ?_
 refine zd fun Z2 hZ2=>?_
 refine rgN [4,5,12] ?_;refine yf rfl (fun hc3=>?_) (fun hc3=>?_)
 · rw[if_neg hc3] at h;have t4:=eq_false hc3
   refine rg tok [2,3] fun K hK=>?_
   simp only[go_sem,qd,qb,t4];apply hK
   cases h;exact rtA
 rw[if_pos hc3] at h;have t5:=eq_true hc3;apply zj;apply hZ2
 refine rc [2,3] fun K hK=>?_
 obtain⟨r6,hr6,h⟩:=bind_some h;refine zw tok 1 ?_;simp only[go_sem,qd,qb,t5];refine clN rfl rfl rfl ((xN.ok hr6).c _) ?_;refine rnN 4 ?_;refine nkN hK ?_;cases h;exact rtA
def wn.j3 (m1_2:xh):Option (xh×Int):=
 (if 4096<(qa m1_2.fB:Int) then some ((⟨0,0,0,[]⟩:xh),4) else some (m1_2,0))
def wn.body (xr:ya→Option (List UInt8×Int))(yH:Int→zo→Option (xh×Int))(xG:ya→Option (List xh×Int))(a0:Int)(a1:zo):Option (xh×Int):=
 (Xf a1).bind fun r8=>(match r8 with|.nil=>(wn.j3 (⟨a0,1,0,[]⟩:xh))|.num n9=>some ((⟨a0,0,n9,[]⟩:xh),0)|.str s9=>(wn.j3 (⟨a0,1,0,s9⟩:xh))|.node e9 r9=>(xr (⟨e9,r9⟩:ya)).bind fun r10=>(if r10.2=0 then (wn.j3 (⟨a0,1,0,r10.1⟩:xh)) else some ((⟨0,0,0,[]⟩:xh),r10.2)))
theorem wn.step (xr:ya→Option (List UInt8×Int))(yH:Int→zo→Option (xh×Int))(xG:ya→Option (List xh×Int))(ZP:∀ (a0:ya) (r:List UInt8×Int),xr a0=some r→ACalls qg 230 [.dp (zH a0) 0] [] (fun r' _=>r'=.tup [.ds true (qc ZT r.1) (qa r.1) false,.int .i64 r.2]))(Yo:∀ (a0:Int) (a1:zo) (r:xh×Int),yH a0 a1=some r→ACalls qg 189 [.int .i64 a0,.agg (zk a1)] [] (fun r' _=>r'=.tup [.agg (zx r.1),.int .i64 r.2]))(Ya:∀ (a0:ya) (r:List xh×Int),xG a0=some r→ACalls qg 145 [.dp (zH a0) 0] [] (fun r' _=>r'=.tup [.ds true (qc zx r.1) (qa r.1) false,.int .i64 r.2]))(a0:Int)(a1:zo)(r:xh×Int)(h:wn.body xr yH xG a0 a1=some r):ACalls qg 189 [.int .i64 a0,.agg (zk a1)] [] (fun r' _=>r'=.tup [.agg (zx r.1),.int .i64 r.2]):=by
 have ev_encode_bytes:=fun a0 r h σ=>(ZP a0 r h).c σ
 have ev_encode_raw:=fun a0 a1 r h σ=>(Yo a0 a1 r h).c σ
 have ev_encode_raws:=fun a0 r h σ=>(Ya a0 r h).c σ
 refine zr (rs:=[.cell 4 139,.tmp 5]) tok Tryz.func189 rfl Tryz.ntmps189 rfl Tryz.call189 (by simp) ?_;refine zA [(0,.int .i64 a0),(1,.agg (zk a1))] ⟨rfl,rfl,trivial⟩ ?_;unfold wn.body at h;have f1:=Zw a1;unfold AV.one at f1
 refine rg tok [0,3,4] fun K hK=>?_
 simp only[go_sem,qd,qb,reduceCtorEq,zk,f1];apply hK
 refine rgN [0,3,4,6] ?_;refine xC (fun L τ=>∃ (m1_2:xh),L=[(4,.op 0 0 0),(6,.op 1 0 0)]∧τ=([.cells 0 [.int .i64 0,.int .i64 0,.int .i64 0,.str []],.cells 0 [.int .i64 m1_2.fTag,.int .i64 m1_2.fWire,.int .i64 m1_2.fN,.str m1_2.fB]]:ze)∧wn.j3 m1_2=some r) ?_ ?_
 · refine rc [0,4,6,15] fun K hK=>?_
   obtain⟨r8,hr8,h⟩:=bind_some h;refine rnN 1 ?_;refine clN rfl rfl rfl ((Xf.ok hr8).c _) ?_;refine nkN hK ?_;apply zn
   rcases r8 with _|n9|s9|⟨e9,r9⟩
   · dsimp only at h
     try simp only[vb3]
     refine rg tok [0,4,6,15,17,18] fun K hK=>?_
     simp only[go_sem,qd,qb,qe,reduceCtorEq,xe,xg,TypeDesc.isIface];apply hK
     refine zF rfl ?_
     refine rg tok [4,6,15,23,24] fun K hK=>?_
     simp only[go_sem,qd,qb,qe,reduceCtorEq,xe,xg,TypeDesc.isIface];apply hK
     refine zF rfl ?_
     refine rg tok [4,6,28,29] fun K hK=>?_
     simp only[go_sem,qd,qb,qe,xe,xg,TypeDesc.isIface];apply hK
     refine zF rfl ?_;apply zj;exact⟨_,_,⟨(⟨a0,1,0,[]⟩:xh),rfl,rfl,h⟩,(.t [1,2] false)⟩
   · dsimp only at h
     try simp only[vb2]
     refine rg tok [0,4,6,15,17,18] fun K hK=>?_
     simp only[go_sem,qd,qb,qe,reduceCtorEq,xe,xg,TypeDesc.isIface];apply hK
     refine zJ rfl ?_;refine rgN [0,4,7] ?_;refine rgN [4,5] ?_;cases h;exact rtA
   · dsimp only at h
     try simp only[vb1]
     refine rg tok [0,4,6,15,17,18] fun K hK=>?_
     simp only[go_sem,qd,qb,qe,reduceCtorEq,xe,xg,TypeDesc.isIface];apply hK
     refine zF rfl ?_
     refine rg tok [4,6,15,23,24] fun K hK=>?_
     simp only[go_sem,qd,qb,qe,reduceCtorEq,xe,xg,TypeDesc.isIface];apply hK
     refine zJ rfl ?_;refine rgN [4,6,8] ?_
     refine rgE tok [4,6] fun K hK=>?_
     simp only[go_sem,qd,qf,qb,qe];apply hK
     exact⟨_,_,⟨(⟨a0,1,0,s9⟩:xh),rfl,rfl,h⟩,(.t [1,2] false)⟩
   dsimp only at h
   try simp only[vbo]
   refine rg tok [0,4,6,15,17,18] fun K hK=>?_
   simp only[go_sem,qd,qb,qe,reduceCtorEq,xe,xg,TypeDesc.isIface];apply hK
   refine zF rfl ?_
   refine rg tok [4,6,15,23,24] fun K hK=>?_
   simp only[go_sem,qd,qb,qe,reduceCtorEq,xe,xg,TypeDesc.isIface];apply hK
   refine zF rfl ?_
   refine rg tok [4,6,28,29] fun K hK=>?_
   simp only[go_sem,qd,qb,qe,xe,xg,TypeDesc.isIface];apply hK
   refine zJ rfl ?_;refine rgN [4,6,9] ?_
   refine rc [4,6,10,11] fun K hK=>?_
   obtain⟨r10,hr10,h⟩:=bind_some h;refine rnN 1 ?_;refine clN rfl rfl rfl (ev_encode_bytes (⟨e9,r9⟩:ya) r10 hr10 _) ?_;refine rnN 5 ?_;refine nkN hK ?_
   refine zd fun Z11 hZ11=>?_
   refine rgN [4,6,10,11,36] ?_;refine yf rfl (fun hc12=>?_) (fun hc12=>?_)
   · rw[if_neg hc12] at h;have t13:=eq_false hc12
     refine rg tok [4,5] fun K hK=>?_
     simp only[go_sem,qd,qf,qb,qe,t13];apply hK
     cases h;exact rtA
   rw[if_pos hc12] at h;have t14:=eq_true hc12;apply zj;apply hZ11;have f15:=conv_b2s (T:=tab) (src:=48) (dst:=9) rfl rfl rfl rfl rfl rfl r10.1
   refine rgE tok [4,6] fun K hK=>?_
   simp only[go_sem,qd,qf,qb,qe,t14,f15];apply hK
   exact⟨_,_,⟨(⟨a0,1,0,r10.1⟩:xh),rfl,rfl,h⟩,(.t [1,2] false)⟩
 rintro _ _ ⟨m1_2,rfl,rfl,h⟩;unfold wn.j3 at h
 refine zd fun Z4 hZ4=>?_
 refine rgN [4,6,45] ?_;refine yf rfl (fun hc5=>?_) (fun hc5=>?_)
 · rw[if_pos hc5] at h;have t6:=eq_true hc5
   refine rg tok [4,5] fun K hK=>?_
   simp only[go_sem,qd,qf,qb,qe,t6];apply hK
   cases h;exact rtA
 rw[if_neg hc5] at h;have t7:=eq_false hc5;apply zj;apply hZ4
 refine rg tok [4,5] fun K hK=>?_
 simp only[go_sem,qd,qf,qb,qe,t7];apply hK
 cases h;exact rtA
def yT.l24 (yH:Int→zo→Option (xh×Int))(x6:Int)(rec10:Int→List xh→Option (List xh×Int))(y10:Int):List zo→Int→List xh→Option (List xh×Int)
 |[],x20,l18=>(rec10 (x6+1) l18)
 |y24::q24,x20,l18=>(yH y10 y24).bind fun r31=>(if r31.2=0 then (vac (qa l18+1) 40).bind fun _u36=>((yT.l24 yH x6 rec10 y10 q24) (x20+1) (l18++[r31.1])) else some (([]:List xh),r31.2))
def yT.l10 (yH:Int→zo→Option (xh×Int))(a0:ya):List Int→Int→List xh→Option (List xh×Int)
 |[],x6,l4=>(yV l4).bind fun r12=>some (r12,0)
 |y10::q10,x6,l4=>(xT a0 y10).bind fun r17=>(yT.l24 yH x6 (yT.l10 yH a0 q10) y10 r17 0 l4)
def yT.body (xr:ya→Option (List UInt8×Int))(yH:Int→zo→Option (xh×Int))(xG:ya→Option (List xh×Int))(a0:ya):Option (List xh×Int):=
 (wo a0).bind fun r1=>(xx a0).bind fun r3=>(yT.l10 yH a0 r3 0 r1)
theorem yT.step (xr:ya→Option (List UInt8×Int))(yH:Int→zo→Option (xh×Int))(xG:ya→Option (List xh×Int))(ZP:∀ (a0:ya) (r:List UInt8×Int),xr a0=some r→ACalls qg 230 [.dp (zH a0) 0] [] (fun r' _=>r'=.tup [.ds true (qc ZT r.1) (qa r.1) false,.int .i64 r.2]))(Yo:∀ (a0:Int) (a1:zo) (r:xh×Int),yH a0 a1=some r→ACalls qg 189 [.int .i64 a0,.agg (zk a1)] [] (fun r' _=>r'=.tup [.agg (zx r.1),.int .i64 r.2]))(Ya:∀ (a0:ya) (r:List xh×Int),xG a0=some r→ACalls qg 145 [.dp (zH a0) 0] [] (fun r' _=>r'=.tup [.ds true (qc zx r.1) (qa r.1) false,.int .i64 r.2]))(a0:ya)(r:List xh×Int)(h:yT.body xr yH xG a0=some r):ACalls qg 145 [.dp (zH a0) 0] [] (fun r' _=>r'=.tup [.ds true (qc zx r.1) (qa r.1) false,.int .i64 r.2]):=by
 have ev_encode_bytes:=fun a0 r h σ=>(ZP a0 r h).c σ
 have ev_encode_raw:=fun a0 a1 r h σ=>(Yo a0 a1 r h).c σ
 have ev_encode_raws:=fun a0 r h σ=>(Ya a0 r h).c σ
 refine zr (rs:=[.tmp 2,.tmp 3]) tok Tryz.func145 rfl Tryz.ntmps145 rfl Tryz.call145 (by simp) ?_;refine zA [(0,.dp (zH a0) 0)] ⟨rfl,trivial⟩ ?_;unfold yT.body at h;refine rgN [0] ?_
 refine rc [0,4] fun K hK=>?_
 obtain⟨r1,hr1,h⟩:=bind_some h;refine rnN 1 ?_;refine clN rfl rfl rfl (@id (ACalls qg 186 [.dp (zH a0) 0] [] (fun r' σ'=>r'=.os true 4 0 0 0 (qa r1) false∧σ'=[.cells 0 (qc zx r1)])) ((wo.own hr1).ownAt0 (by simp only[push_cast]) (by simp only[push_cast]) _)) ?_;refine rnN 1 ?_;refine nkN hK ?_
 refine zd fun Z2 hZ2=>?_
 refine rc [0,4,14,15,16] fun K hK=>?_
 obtain⟨r3,hr3,h⟩:=bind_some h;refine rnN 1 ?_;refine clN rfl rfl rfl ((xx.ok hr3).c _) ?_;refine rnN 2 ?_;refine nkN hK ?_;apply zn
 refine y5 14 fun hb10=>?_
 replace hb10:qa r3≤9223372036854775807:=hb10.1;refine yh (fun m L τ=>∃ (p10 q10:List Int) (x6:Int) (l4:List xh) (v5:Nat),m=qa q10∧L=[(0,.dp (zH a0) 0),(4,.os true 4 0 v5 0 (qa l4) false),(14,.ds true (qc wh r3) (qa r3) false),(15,.int .i64 (qa r3:Int)),(16,.int .i64 x6)]∧τ=([.cells v5 (qc zx l4)]:ze)∧r3=p10++q10∧x6=(qa p10:Int)∧yT.l10 yH a0 q10 x6 l4=some r) _ ⟨[],r3,0,r1,0,rfl,rfl,rfl,rfl,rfl,h⟩ .s ?_;rintro m L τ ⟨p10,q10,x6,l4,v5,rfl,rfl,rfl,hE10,hi10,h⟩
 rcases q10 with _|⟨y10,q10⟩
 · have hz10:=xw hE10 hi10;simp only[yT.l10] at h
   refine rg tok [0,4,14,15,16,17] fun K hK=>?_
   simp only[go_sem,qd,qb,reduceCtorEq,hz10];apply hK
   refine zd fun Z11 hZ11=>?_
   refine zF rfl ?_;apply yc;apply hZ2
   refine rc [2,3] fun K hK=>?_
   obtain⟨r12,hr12,h⟩:=bind_some h;refine rnN 1 ?_;refine var (L:=[(43,.ds true (qc zx l4) (qa l4) false)]) (τ:=[]) (.t [] false) ?_;refine clN rfl rfl rfl ((yV.ok hr12).c _) ?_;refine rnN 2 ?_;refine nkN hK ?_;cases h;exact rtA
 obtain⟨hz10,hw10,hx10,hE'10,hi'10⟩:=y3 hE10 hi10 hb10;simp only[yT.l10] at h
 refine rg tok [0,4,14,15,16,17] fun K hK=>?_
 simp only[go_sem,qd,qb,reduceCtorEq,hz10];apply hK
 refine zd fun Z13 hZ13=>?_
 refine zJ rfl ?_;apply zj;apply hZ13
 refine zd fun Z14 hZ14=>?_
 apply zn;have f15:=E26.idxS hx10;have f16:=E26.fldS0 (f:=3) rfl rfl hx10
 refine rg tok [0,4,6,14,15,16] fun K hK=>?_
 simp only[go_sem,qd,qb,reduceCtorEq,wh,f15,f16];apply hK
 refine rc [0,4,6,14,15,16,22,23,24] fun K hK=>?_
 obtain⟨r17,hr17,h⟩:=bind_some h;refine rnN 2 ?_;refine clN rfl rfl rfl ((xT.ok hr17).c _) ?_;refine rnN 2 ?_;refine nkN hK ?_;apply zn
 refine y5 22 fun hb24=>?_
 replace hb24:qa r17≤9223372036854775807:=hb24.1;refine yh (fun m L τ=>∃ (p24 q24:List zo) (x20:Int) (l18:List xh) (v19:Nat),m=qa q24∧L=[(0,.dp (zH a0) 0),(4,.os true 4 0 v19 0 (qa l18) false),(6,.int .i64 y10),(14,.ds true (qc wh r3) (qa r3) false),(15,.int .i64 (qa r3:Int)),(16,.int .i64 x6),(22,.ds true (qc zk r17) (qa r17) false),(23,.int .i64 (qa r17:Int)),(24,.int .i64 x20)]∧τ=([.cells v19 (qc zx l18)]:ze)∧r17=p24++q24∧x20=(qa p24:Int)∧yT.l24 yH x6 (yT.l10 yH a0 q10) y10 q24 x20 l18=some r) _ ⟨[],r17,0,l4,v5,rfl,rfl,rfl,rfl,rfl,h⟩ .s ?_;rintro m L τ ⟨p24,q24,x20,l18,v19,rfl,rfl,rfl,hE24,hi24,h⟩
 rcases q24 with _|⟨y24,q24⟩
 · have hz24:=xw hE24 hi24;simp only[yT.l24] at h
   refine rg tok [0,4,6,14,15,16,22,23,24,25] fun K hK=>?_
   simp only[go_sem,qd,qb,reduceCtorEq,hz24];apply hK
   refine zd fun Z25 hZ25=>?_
   refine zF rfl ?_;apply yc;apply hZ14
   refine rgE tok [0,4,14,15,16] fun K hK=>?_
   simp only[go_sem,qd,qb,reduceCtorEq,hw10];apply hK
   exact⟨_,_,_,qx q10.length,⟨p10++[y10],q10,x6+1,l18,v19,rfl,rfl,rfl,hE'10,hi'10,h⟩,.s⟩
 obtain⟨hz24,hw24,hx24,hE'24,hi'24⟩:=y3 hE24 hi24 hb24;simp only[yT.l24] at h
 refine rg tok [0,4,6,14,15,16,22,23,24,25] fun K hK=>?_
 simp only[go_sem,qd,qb,reduceCtorEq,hz24];apply hK
 refine zd fun Z26 hZ26=>?_
 refine zJ rfl ?_;apply zj;apply hZ26
 refine zd fun Z27 hZ27=>?_
 apply zn;have f28:=E282.idxS hx24;have f29:=E282.loadS rfl rfl hx24;have f30:=Zw y24;unfold AV.one at f30
 refine rg tok [0,4,6,8,14,15,16,22,23,24] fun K hK=>?_
 simp only[go_sem,qd,qf,qb,reduceCtorEq,zk,f28,f29,f30];apply hK
 refine rc [0,4,6,9,10,14,15,16,22,23,24] fun K hK=>?_
 obtain⟨r31,hr31,h⟩:=bind_some h;refine rnN 2 ?_;refine clN rfl rfl rfl (ev_encode_raw y10 y24 r31 hr31 _) ?_;refine zw tok 6 ?_;simp only[go_sem,qd,qf,qb,qe,reduceCtorEq,zx];refine nkN hK ?_
 refine zd fun Z32 hZ32=>?_
 refine rgN [0,4,6,9,10,14,15,16,22,23,24,35] ?_;refine yf rfl (fun hc33=>?_) (fun hc33=>?_)
 · rw[if_neg hc33] at h;have t34:=eq_false hc33
   refine rg tok [2,3] fun K hK=>?_
   simp only[go_sem,qd,qb,reduceCtorEq,t34];apply hK
   cases h;exact rtA
 rw[if_pos hc33] at h;have t35:=eq_true hc33;apply zj;apply hZ32;obtain⟨_u36,hu36,h⟩:=bind_some h;have gu36:=xb hu36;have f37:=(zU E35.len l18)
 refine rgE tok [0,4,6,14,15,16,22,23,24] fun K hK=>?_
 simp only[go_sem,qd,qf,qb,qe,qi,reduceCtorEq,zL,ym,qP,qJ,true_and,qW,yM,yl,yL,t35,gu36,f37,xa,qV,qX,AV.one,qE,qK,qq,qu,qj,qL];apply hK
 apply hZ27
 refine rgE tok [0,4,6,14,15,16,22,23,24] fun K hK=>?_
 simp only[go_sem,qd,qb,reduceCtorEq,hw24];apply hK
 exact⟨_,_,_,qx q24.length,⟨p24++[y24],q24,x20+1,l18++[r31.1],v19+1,rfl,rfl,rfl,hE'24,hi'24,h⟩,(.t [0] false)⟩
end
section
set_option maxRecDepth 4000
set_option maxHeartbeats 1000000
open AM
mutual
def wk : Nat→ya→Option (List UInt8×Int)
 |0,_=>none
 |k+1,a0=>wk.body (wk k) (wn k) (yT k) a0
def wn : Nat→Int→zo→Option (xh×Int)
 |0,_,_=>none
 |k+1,a0,a1=>wn.body (wk k) (wn k) (yT k) a0 a1
def yT : Nat→ya→Option (List xh×Int)
 |0,_=>none
 |k+1,a0=>yT.body (wk k) (wn k) (yT k) a0
end
theorem wk.all (k:Nat):(∀ (a0:ya) (r:List UInt8×Int),wk k a0=some r→ACalls qg 230 [.dp (zH a0) 0] [] (fun r' _=>r'=.tup [.ds true (qc ZT r.1) (qa r.1) false,.int .i64 r.2]))∧(∀ (a0:Int) (a1:zo) (r:xh×Int),wn k a0 a1=some r→ACalls qg 189 [.int .i64 a0,.agg (zk a1)] [] (fun r' _=>r'=.tup [.agg (zx r.1),.int .i64 r.2]))∧(∀ (a0:ya) (r:List xh×Int),yT k a0=some r→ACalls qg 145 [.dp (zH a0) 0] [] (fun r' _=>r'=.tup [.ds true (qc zx r.1) (qa r.1) false,.int .i64 r.2])):=by
 induction k with
 |zero=>exact⟨(fun a0 r h=>by simp only[wk] at h; cases h),(fun a0 a1 r h=>by simp only[wn] at h; cases h),(fun a0 r h=>by simp only[yT] at h; cases h)⟩
 |succ k ih=>exact⟨(fun a0 r h=>wk.step _ _ _ ih.1 ih.2.1 ih.2.2 a0 r (by simpa only [wk] using h)),(fun a0 a1 r h=>wn.step _ _ _ ih.1 ih.2.1 ih.2.2 a0 a1 r (by simpa only [wn] using h)),(fun a0 r h=>yT.step _ _ _ ih.1 ih.2.1 ih.2.2 a0 r (by simpa only [yT] using h))⟩
theorem yT.ev (k:Nat)(a0:ya)(r:List xh×Int)(h:yT k a0=some r)(σ:ze):ACalls qg 145 [.dp (zH a0) 0] σ (fun r' σ'=>r'=.tup [.ds true (qc zx r.1) (qa r.1) false,.int .i64 r.2]∧σ'=σ):=
 ((wk.all k).2.2 a0 r h).c σ
def Xg (a0:zp):Option (List xh×Int):=
 (XY a0).bind fun r1=>(if ((!r1.2)||(!(decide (a0.fKind=3))))=true then some (([]:List xh),1) else (xE r1.1).bind fun r5=>(yT xK r5).bind fun r6=>some (r6.1,r6.2))
theorem Xg.ok {a0 r}(h:Xg a0=some r):ACalls qg 95 [.agg (zg a0)] [] (fun r' _=>r'=.tup [.ds true (qc zx r.1) (qa r.1) false,.int .i64 r.2]):=by
 refine zr (rs:=[.tmp 2,.tmp 3]) tok Tryz.func95 rfl Tryz.ntmps95 rfl Tryz.call95 (by simp) ?_;refine zA [(0,.agg (zg a0))] ⟨rfl,trivial⟩ ?_;unfold Xg at h
 refine rg tok [1] fun K hK=>?_
 simp only[go_sem,qd,qb,qe,reduceCtorEq,zg];apply hK
 refine rc [1,4,5] fun K hK=>?_
 obtain⟨r1,hr1,h⟩:=bind_some h;refine rnN 1 ?_;refine clN rfl rfl rfl ((XY.ok hr1).c _) ?_;have f2:=Zw r1.1;unfold AV.one at f2;refine zw tok 6 ?_;simp only[go_sem,qd,qf,qb,qe,zk,f2];refine nkN hK ?_
 refine zd fun Z3 hZ3=>?_
 refine rc [4,17] fun K hK=>?_
 refine rnN 3 ?_;refine zG 4 (fun L τ=>L=[(4,.op 1 0 0),(17,.bool ((!r1.2)||(!(decide (a0.fKind=3)))))]∧τ=([.cells 0 (zg a0),.cells 0 [vbV r1.1]]:ze)) ?_ ?_
 · refine yv (b:=(!r1.2)) 13 rfl (fun hg13=>?_) (fun hg13=>?_)
   · refine rnN 4 ?_;refine zh ⟨rfl,_,_,⟨rfl,rfl⟩,.b hg13⟩
   refine rnN 4 ?_;refine zh ⟨rfl,_,_,⟨rfl,rfl⟩,.b hg13⟩
 rintro _ _ ⟨rfl,rfl⟩;refine nkN hK ?_;refine zT (b:=((!r1.2)||(!(decide (a0.fKind=3))))) rfl (fun hc4=>?_) (fun hc4=>?_)
 · rw[if_pos hc4] at h;refine rgN [2,3] ?_;cases h;exact rtA
 rw[wO hc4] at h;apply zj;apply hZ3
 refine rc [2,3] fun K hK=>?_
 obtain⟨r5,hr5,h⟩:=bind_some h;refine rnN 1 ?_;refine clN rfl rfl rfl ((xE.ok hr5).c _) ?_;obtain⟨r6,hr6,h⟩:=bind_some h;refine clN rfl rfl rfl (yT.ev xK r5 r6 hr6 _) ?_;refine rnN 4 ?_;refine nkN hK ?_;cases h;exact rtA
def Ys (a0:zp):Option (List UInt8×Int):=
 (Xg a0).bind fun r1=>(if r1.2=0 then (xN r1.1).bind fun r6=>some (r6.1,r6.2) else some (([]:List UInt8),r1.2))
theorem Ys.ok {a0 r}(h:Ys a0=some r):ACalls qg 62 [.agg (zg a0)] [] (fun r' _=>r'=.tup [.ds true (qc ZT r.1) (qa r.1) false,.int .i64 r.2]):=by
 refine zr (rs:=[.tmp 2,.tmp 3]) tok Tryz.func62 rfl Tryz.ntmps62 rfl Tryz.call62 (by simp) ?_;refine zA [(0,.agg (zg a0))] ⟨rfl,trivial⟩ ?_;unfold Ys at h
 refine rg tok [1] fun K hK=>?_
 simp only[go_sem,qd,qb,qe,reduceCtorEq,zg];apply hK
 refine rc [4,5] fun K hK=>?_
 obtain⟨r1,hr1,h⟩:=bind_some h;refine rnN 1 ?_;refine clN rfl rfl rfl ((Xg.ok hr1).c _) ?_;refine rnN 5 ?_;refine nkN hK ?_
 refine zd fun Z2 hZ2=>?_
 refine rgN [4,5,12] ?_;refine yf rfl (fun hc3=>?_) (fun hc3=>?_)
 · rw[if_neg hc3] at h;have t4:=eq_false hc3
   refine rg tok [2,3] fun K hK=>?_
   simp only[go_sem,qd,qb,t4];apply hK
   cases h;exact rtA
 rw[if_pos hc3] at h;have t5:=eq_true hc3;apply zj;apply hZ2
 refine rc [2,3] fun K hK=>?_
 obtain⟨r6,hr6,h⟩:=bind_some h;refine zw tok 1 ?_;simp only[go_sem,qd,qb,t5];refine clN rfl rfl rfl ((xN.ok hr6).c _) ?_;refine rnN 4 ?_;refine nkN hK ?_;cases h;exact rtA
def xI.j6 (a0:w6)(l2:List yx)(v3:Nat)(l4:List (yx×Int))(x5:Int):Option (Int×w6):=
 some (x5,(⟨a0.ffrom,a0.fto,l2,v3,l4⟩:w6))
def xI (a0:w6)(a1:yx):Option (Int×w6):=
 (if (!((Xp a0.fplace a1).isSome))=true then (vac (qa a0.fl+1) 32).bind fun _u9=>(xI.j6 a0 (a0.fl++[a1]) (a0.vl+1) (setM a0.fplace a1 (qa a0.fl:Int)) (qa a0.fl:Int)) else (xI.j6 a0 a0.fl a0.vl a0.fplace ((Xp a0.fplace a1).getD 0)))
theorem xI.ok {a0 a1 r}(h:xI a0 a1=some r):ACalls qg 150 [.op 0 0 0,.agg (zM a1)] [.cells 0 [.str a0.ffrom.fName,.ds true (qc zb a0.ffrom.fMessages) (qa a0.ffrom.fMessages) false,.ds true (qc zf a0.ffrom.fEnums) (qa a0.ffrom.fEnums) false,.ds true (qc zm a0.ffrom.fMethods) (qa a0.ffrom.fMethods) false,.str a0.fto.fName,.ds true (qc zb a0.fto.fMessages) (qa a0.fto.fMessages) false,.ds true (qc zf a0.fto.fEnums) (qa a0.fto.fEnums) false,.ds true (qc zm a0.fto.fMethods) (qa a0.fto.fMethods) false,.os true 2 1 (a0.vl) 0 (qa a0.fl) false,.mp 2],.cells (a0.vl) (qc zM a0.fl),.map (yq yo (AV.int .i64) a0.fplace)] (fun r' σ'=>r'=.int .i64 r.1∧σ'=[.cells 0 [.str r.2.ffrom.fName,.ds true (qc zb r.2.ffrom.fMessages) (qa r.2.ffrom.fMessages) false,.ds true (qc zf r.2.ffrom.fEnums) (qa r.2.ffrom.fEnums) false,.ds true (qc zm r.2.ffrom.fMethods) (qa r.2.ffrom.fMethods) false,.str r.2.fto.fName,.ds true (qc zb r.2.fto.fMessages) (qa r.2.fto.fMessages) false,.ds true (qc zf r.2.fto.fEnums) (qa r.2.fto.fEnums) false,.ds true (qc zm r.2.fto.fMethods) (qa r.2.fto.fMethods) false,.os true 2 1 (r.2.vl) 0 (qa r.2.fl) false,.mp 2],.cells (r.2.vl) (qc zM r.2.fl),.map (yq yo (AV.int .i64) r.2.fplace)]):=by
 refine w5 [0,1,2] (rs:=[.tmp 4]) tok Tryz.func150 rfl Tryz.ntmps150 rfl Tryz.call150 (by simp) rfl ?_;refine zA [(0,.op 0 0 0),(1,.agg (zM a1))] ⟨rfl,rfl,trivial⟩ ?_;unfold xI at h
 refine rg tok [0,3] fun K hK=>?_
 simp only[go_sem,qd,qb,qe,reduceCtorEq,zM];apply hK
 have f1:=fun (o0:ZJ) (o1:ZJ) (x:ze)=>X2 (T:=tab) (t:=239) (ek:=yo) (ev:=(AV.int .i64)) (z:=0) KA245 rfl rfl rfl rfl a0.fplace a1 true (o0::o1::.map (yq yo (AV.int .i64) a0.fplace)::x) 2 rfl
 simp only[yo,zM] at f1
 refine rd [0,3,5,6] fun K hK=>?_
 refine DW.start (T:=tab) [.any,.any,.any,.at [],.at [],.at [],.any,.any,.any,.any,.any] [] ?_;refine DW.runN tok 8 ?_;simp only[go_sem,qd,qf,qb,qe,reduceCtorEq,XK,if_false,if_true,f1];refine DW.runN tok 3 ?_;simp only[go_sem,qd,qb,qe,reduceCtorEq];refine DW.fin tok (by decide +kernel) rfl ?_;simp only[zz,upd,qb,reduceIte,yS,xD];apply hK
 refine xC (fun L τ=>∃ (l2:List yx) (v3:Nat) (l4:List (yx×Int)) (x5:Int),L=[(5,.int .i64 x5)]∧τ=([.cells 0 [.str a0.ffrom.fName,.ds true (qc zb a0.ffrom.fMessages) (qa a0.ffrom.fMessages) false,.ds true (qc zf a0.ffrom.fEnums) (qa a0.ffrom.fEnums) false,.ds true (qc zm a0.ffrom.fMethods) (qa a0.ffrom.fMethods) false,.str a0.fto.fName,.ds true (qc zb a0.fto.fMessages) (qa a0.fto.fMessages) false,.ds true (qc zf a0.fto.fEnums) (qa a0.fto.fEnums) false,.ds true (qc zm a0.fto.fMethods) (qa a0.fto.fMethods) false,.os true 2 1 v3 0 (qa l2) false,.mp 2],.cells v3 (qc zM l2),.map (yq yo (AV.int .i64) l4)]:ze)∧xI.j6 a0 l2 v3 l4 x5=some r) ?_ ?_
 · refine rgN [0,3,5,17] ?_;refine zT (b:=(!((Xp a0.fplace a1).isSome))) rfl (fun hc7=>?_) (fun hc7=>?_)
   · rw[if_pos hc7] at h;refine rgN [0,3,5] ?_
     have f8:=fun (o0:ZJ) (o1:ZJ) (x:ze)=>va2 (T:=tab) (t:=239) (ek:=yo) (ev:=(AV.int .i64)) KA245 rfl rfl a0.fplace a1 (qa a0.fl:Int) (o0::o1::.map (yq yo (AV.int .i64) a0.fplace)::x) 2 rfl
     simp only[yo,zM] at f8
     refine rd [0,3,5] fun K hK=>?_
     refine DW.start (T:=tab) [.any,.any,.any,.at [],.at [],.any,.eff] [] ?_;refine DW.runN tok 7 ?_;simp only[go_sem,qd,qf,qb,qe,reduceCtorEq,f8];refine DW.fin tok (by decide +kernel) rfl ?_;simp only[zz,upd,qb,reduceIte,yS,xD];apply hK
     obtain⟨_u9,hu9,h⟩:=bind_some h;have gu9:=xb hu9;have f10:=(zU E240.len a0.fl)
     refine rdE [5] fun K hK=>?_
     refine DW.start (T:=tab) [.any,.any,.any,.any,.own 1 [],.at [],.eff,.eff,.any,.any,.eff] [(1,[])] ?_;refine DW.runN tok 8 ?_;simp only[go_sem,qd,qf,qb,qe,qi,reduceCtorEq,zL,ym,qP,qJ,true_and,qW,yM,yl,yL,gu9,f10,xa,qV,qX,AV.one,qE,qK,qq,qu,qj,qL];refine DW.runN tok 3 ?_;simp only[go_sem,qd,qf,qb,qe,reduceCtorEq,qq,qu,qj];refine DW.fin tok (by decide +kernel) rfl ?_;simp only[zz,upd,qb,reduceIte,yS,xD];apply hK
     exact⟨_,_,⟨a0.fl++[a1],a0.vl+1,setM a0.fplace a1 (qa a0.fl:Int),(qa a0.fl:Int),rfl,rfl,h⟩,(.t [0,1,2] false)⟩
   rw[wO hc7] at h;apply zj;exact⟨_,_,⟨a0.fl,a0.vl,a0.fplace,(Xp a0.fplace a1).getD 0,rfl,rfl,h⟩,(.t [0,1,2] false)⟩
 rintro _ _ ⟨l2,v3,l4,x5,rfl,rfl,h⟩;unfold xI.j6 at h;refine rgN [4] ?_;apply zY;cases h;simp only[w7,yy,yI,xq,exists_eq_left',go_sem,qe];refine⟨by decide,by simp,?_,?_⟩
 · first|rfl|(simp only[go_sem,qd,qf,qb,qe,qi,ql,reduceIte,reduceCtorEq,push_cast,if_true,qw,qj,qn,qk,qz,qo,qH,qC,qs,qr,qp,zt,zM,za]<;>rfl)
 first|rfl|(simp only[go_sem,qb,qe,reduceCtorEq,push_cast,if_true,qj,qn,qk,qo,qs,qr,zt]<;>rfl)
def xH.j9 (m0__03:zD)(m0__14:zD)(l5:List yx)(v6:Nat)(l7:List (yx×Int))(m4_8:wB):Option (wB×Bool×w6):=
 some (m4_8,true,(⟨m0__03,m0__14,l5,v6,l7⟩:w6))
def xH (a0:w6)(a1:yp)(a2:yp)(a3:Int):Option (wB×Bool×w6):=
 bnd (xO a1 a3) fun r1=>bnd (xO a2 a3) fun r2=>(if (((!r1.2)||(!r2.2))||(!(decide (r1.1.fLabel=r2.1.fLabel))))=true then some ((⟨0,0,0⟩:wB),false,a0) else (if ((decide (r1.1.fType.fKind=7))&&(decide (r2.1.fType.fKind=7)))=true then (xI a0 (⟨r1.1.fType.fName,r2.1.fType.fName⟩:yx)).bind fun r14=>(if r1.1.fLabel=1 then (xH.j9 r14.2.ffrom r14.2.fto r14.2.fl r14.2.vl r14.2.fplace (⟨4,a3,r14.1⟩:wB)) else (xH.j9 r14.2.ffrom r14.2.fto r14.2.fl r14.2.vl r14.2.fplace (⟨3,a3,r14.1⟩:wB))) else (if ((decide (r1.1.fType.fKind=2))&&(decide (r2.1.fType.fKind=1)))=true then (xH.j9 a0.ffrom a0.fto a0.fl a0.vl a0.fplace (⟨2,a3,0⟩:wB)) else (if ((!(decide (r1.1.fType.fKind=r2.1.fType.fKind)))&&((!(decide (r1.1.fType.fKind=1)))||(!(decide (r2.1.fType.fKind=2)))))=true then some ((⟨0,0,0⟩:wB),false,a0) else (xH.j9 a0.ffrom a0.fto a0.fl a0.vl a0.fplace (⟨1,a3,0⟩:wB))))))
theorem xH.ok {a0 a1 a2 a3 r}(h:xH a0 a1 a2 a3=some r):ACalls qg 151 [.op 0 0 0,.agg (zb a1),.agg (zb a2),.int .i64 a3] [.cells 0 [.str a0.ffrom.fName,.ds true (qc zb a0.ffrom.fMessages) (qa a0.ffrom.fMessages) false,.ds true (qc zf a0.ffrom.fEnums) (qa a0.ffrom.fEnums) false,.ds true (qc zm a0.ffrom.fMethods) (qa a0.ffrom.fMethods) false,.str a0.fto.fName,.ds true (qc zb a0.fto.fMessages) (qa a0.fto.fMessages) false,.ds true (qc zf a0.fto.fEnums) (qa a0.fto.fEnums) false,.ds true (qc zm a0.fto.fMethods) (qa a0.fto.fMethods) false,.os true 2 1 (a0.vl) 0 (qa a0.fl) false,.mp 2],.cells (a0.vl) (qc zM a0.fl),.map (yq yo (AV.int .i64) a0.fplace)] (fun r' σ'=>r'=.tup [.agg (yr r.1),.bool r.2.1]∧σ'=[.cells 0 [.str r.2.2.ffrom.fName,.ds true (qc zb r.2.2.ffrom.fMessages) (qa r.2.2.ffrom.fMessages) false,.ds true (qc zf r.2.2.ffrom.fEnums) (qa r.2.2.ffrom.fEnums) false,.ds true (qc zm r.2.2.ffrom.fMethods) (qa r.2.2.ffrom.fMethods) false,.str r.2.2.fto.fName,.ds true (qc zb r.2.2.fto.fMessages) (qa r.2.2.fto.fMessages) false,.ds true (qc zf r.2.2.fto.fEnums) (qa r.2.2.fto.fEnums) false,.ds true (qc zm r.2.2.fto.fMethods) (qa r.2.2.fto.fMethods) false,.os true 2 1 (r.2.2.vl) 0 (qa r.2.2.fl) false,.mp 2],.cells (r.2.2.vl) (qc zM r.2.2.fl),.map (yq yo (AV.int .i64) r.2.2.fplace)]):=by
 refine w5 [0,1,2] (rs:=[.cell 8 248,.tmp 9]) tok Tryz.func151 rfl Tryz.ntmps151 rfl Tryz.call151 (by simp) rfl ?_;refine zA [(0,.op 0 0 0),(1,.agg (zb a1)),(2,.agg (zb a2)),(3,.int .i64 a3)] ⟨rfl,rfl,rfl,rfl,trivial⟩ ?_;unfold xH at h
 refine rg tok [0,3,5,6,8] fun K hK=>?_
 simp only[go_sem,qd,qb,qe,reduceCtorEq,zb];apply hK
 refine rc [0,3,6,8,10,11] fun K hK=>?_
 obtain⟨r1,hr1,h⟩:=yg h;refine rnN 2 ?_;refine clN rfl rfl rfl ((xO.ok hr1).c _) ?_;refine zw tok 6 ?_;simp only[go_sem,qd,qf,qb,qe,reduceCtorEq,z8];refine nkN hK ?_
 refine rc [0,3,8,10,11,12,13] fun K hK=>?_
 obtain⟨r2,hr2,h⟩:=yg h;refine rnN 2 ?_;refine clN rfl rfl rfl ((xO.ok hr2).c _) ?_;refine zw tok 6 ?_;simp only[go_sem,qd,qf,qb,qe,reduceCtorEq,z8];refine nkN hK ?_;refine rgN [0,8,10,11,12,13,14] ?_;refine xC (fun L τ=>∃ (m0__03:zD) (m0__14:zD) (l5:List yx) (v6:Nat) (l7:List (yx×Int)) (m4_8:wB),L=[(8,.op 3 0 0),(14,.op 4 0 0)]∧τ=([.cells 0 [.str m0__03.fName,.ds true (qc zb m0__03.fMessages) (qa m0__03.fMessages) false,.ds true (qc zf m0__03.fEnums) (qa m0__03.fEnums) false,.ds true (qc zm m0__03.fMethods) (qa m0__03.fMethods) false,.str m0__14.fName,.ds true (qc zb m0__14.fMessages) (qa m0__14.fMessages) false,.ds true (qc zf m0__14.fEnums) (qa m0__14.fEnums) false,.ds true (qc zm m0__14.fMethods) (qa m0__14.fMethods) false,.os true 2 1 v6 0 (qa l5) false,.mp 2],.cells v6 (qc zM l5),.map (yq yo (AV.int .i64) l7),.cells 0 [.int .i64 0,.int .i64 0,.int .i64 0],.cells 0 [.int .i64 m4_8.fOp,.int .i64 m4_8.fTag,.int .i64 m4_8.fSub]]:ze)∧xH.j9 m0__03 m0__14 l5 v6 l7 m4_8=some r) ?_ ?_
 · refine rd [0,8,10,11,12,13,14,15,16] fun K hK=>?_
   refine DW.start (T:=tab) [.any,.any,.at [],.any,.any,.at [],.any,.any] [] ?_;refine DW.runN tok 8 ?_;simp only[go_sem,qd,qb,qe,reduceCtorEq];refine DW.fin tok (by decide +kernel) rfl ?_;simp only[zz,upd,qb,reduceIte,yS,xD];apply hK
   apply zn
   refine rc [0,8,10,12,14,15,16,37] fun K hK=>?_
   refine rnN 3 ?_;refine zG 3 (fun L τ=>L=[(0,.op 0 0 0),(8,.op 5 0 0),(10,.op 6 0 0),(12,.op 7 0 0),(14,.op 8 0 0),(15,.int .i64 r1.1.fType.fKind),(16,.int .i64 r2.1.fType.fKind),(43,.bool ((!r1.2)||(!r2.2)))]∧τ=([.cells 0 [.str a0.ffrom.fName,.ds true (qc zb a0.ffrom.fMessages) (qa a0.ffrom.fMessages) false,.ds true (qc zf a0.ffrom.fEnums) (qa a0.ffrom.fEnums) false,.ds true (qc zm a0.ffrom.fMethods) (qa a0.ffrom.fMethods) false,.str a0.fto.fName,.ds true (qc zb a0.fto.fMessages) (qa a0.fto.fMessages) false,.ds true (qc zf a0.fto.fEnums) (qa a0.fto.fEnums) false,.ds true (qc zm a0.fto.fMethods) (qa a0.fto.fMethods) false,.os true 2 1 (a0.vl) 0 (qa a0.fl) false,.mp 2],.cells (a0.vl) (qc zM a0.fl),.map (yq yo (AV.int .i64) a0.fplace),.cells 0 (zb a1),.cells 0 (zb a2),.cells 0 [.int .i64 0,.int .i64 0,.int .i64 0],.cells 0 (z8 r1.1),.cells 0 (z8 r2.1),.cells 0 [.int .i64 1,.int .i64 a3,.int .i64 0]]:ze)) ?_ ?_
   · refine yv (b:=(!r1.2)) 40 rfl (fun hg40=>?_) (fun hg40=>?_)
     · refine rnN 3 ?_;refine zh ⟨rfl,_,_,⟨rfl,rfl⟩,.b hg40⟩
     refine rnN 3 ?_;refine zh ⟨rfl,_,_,⟨rfl,rfl⟩,.b hg40⟩
   rintro _ _ ⟨rfl,rfl⟩;refine rnN 1 ?_;refine zG 6 (fun L τ=>L=[(0,.op 0 0 0),(8,.op 5 0 0),(10,.op 6 0 0),(12,.op 7 0 0),(14,.op 8 0 0),(15,.int .i64 r1.1.fType.fKind),(16,.int .i64 r2.1.fType.fKind),(50,.bool (((!r1.2)||(!r2.2))||(!(decide (r1.1.fLabel=r2.1.fLabel)))))]∧τ=([.cells 0 [.str a0.ffrom.fName,.ds true (qc zb a0.ffrom.fMessages) (qa a0.ffrom.fMessages) false,.ds true (qc zf a0.ffrom.fEnums) (qa a0.ffrom.fEnums) false,.ds true (qc zm a0.ffrom.fMethods) (qa a0.ffrom.fMethods) false,.str a0.fto.fName,.ds true (qc zb a0.fto.fMessages) (qa a0.fto.fMessages) false,.ds true (qc zf a0.fto.fEnums) (qa a0.fto.fEnums) false,.ds true (qc zm a0.fto.fMethods) (qa a0.fto.fMethods) false,.os true 2 1 (a0.vl) 0 (qa a0.fl) false,.mp 2],.cells (a0.vl) (qc zM a0.fl),.map (yq yo (AV.int .i64) a0.fplace),.cells 0 (zb a1),.cells 0 (zb a2),.cells 0 [.int .i64 0,.int .i64 0,.int .i64 0],.cells 0 (z8 r1.1),.cells 0 (z8 r2.1),.cells 0 [.int .i64 1,.int .i64 a3,.int .i64 0]]:ze)) ?_ ?_
   · refine yv (b:=((!r1.2)||(!r2.2))) 44 rfl (fun hg44=>?_) (fun hg44=>?_)
     · refine rnN 6 ?_;refine zh ⟨rfl,_,_,⟨rfl,rfl⟩,.b hg44⟩
     refine rnN 6 ?_;refine zh ⟨rfl,_,_,⟨rfl,rfl⟩,.b hg44⟩
   rintro _ _ ⟨rfl,rfl⟩;refine rnN 1 ?_;refine nkN hK ?_;refine zT (b:=(((!r1.2)||(!r2.2))||(!(decide (r1.1.fLabel=r2.1.fLabel))))) rfl (fun hc10=>?_) (fun hc10=>?_)
   · rw[if_pos hc10] at h;refine rgN [8,9] ?_;apply zY;cases h;simp only[w7,yy,yI,xq,exists_eq_left',go_sem,qf,qb,qe,yr];refine⟨by decide,by simp,?_,?_⟩
     · first|rfl|(simp only[go_sem,qd,qf,qb,qe,qi,ql,reduceIte,reduceCtorEq,push_cast,if_true,qw,qj,qn,qk,qz,qo,qH,qC,qs,qr,qp,zt,zM,za,yr]<;>rfl)
     first|rfl|(simp only[go_sem,qb,qe,reduceCtorEq,push_cast,if_true,qj,qn,qk,qo,qs,qr,zt]<;>rfl)
   rw[wO hc10] at h
   refine rc [0,8,10,12,14,15,16,52] fun K hK=>?_
   refine rnN 3 ?_;refine zG 3 (fun L τ=>L=[(0,.op 0 0 0),(8,.op 5 0 0),(10,.op 6 0 0),(12,.op 7 0 0),(14,.op 8 0 0),(15,.int .i64 r1.1.fType.fKind),(16,.int .i64 r2.1.fType.fKind),(58,.bool ((decide (r1.1.fType.fKind=7))&&(decide (r2.1.fType.fKind=7))))]∧τ=([.cells 0 [.str a0.ffrom.fName,.ds true (qc zb a0.ffrom.fMessages) (qa a0.ffrom.fMessages) false,.ds true (qc zf a0.ffrom.fEnums) (qa a0.ffrom.fEnums) false,.ds true (qc zm a0.ffrom.fMethods) (qa a0.ffrom.fMethods) false,.str a0.fto.fName,.ds true (qc zb a0.fto.fMessages) (qa a0.fto.fMessages) false,.ds true (qc zf a0.fto.fEnums) (qa a0.fto.fEnums) false,.ds true (qc zm a0.fto.fMethods) (qa a0.fto.fMethods) false,.os true 2 1 (a0.vl) 0 (qa a0.fl) false,.mp 2],.cells (a0.vl) (qc zM a0.fl),.map (yq yo (AV.int .i64) a0.fplace),.cells 0 (zb a1),.cells 0 (zb a2),.cells 0 [.int .i64 0,.int .i64 0,.int .i64 0],.cells 0 (z8 r1.1),.cells 0 (z8 r2.1),.cells 0 [.int .i64 1,.int .i64 a3,.int .i64 0]]:ze)) ?_ ?_
   · refine xS 55 rfl (fun hg55=>?_) (fun hg55=>?_)
     · have t11:=eq_true hg55;refine rnN 3 ?_;refine zh ⟨rfl,_,_,⟨rfl,rfl⟩,.p t11⟩
     have t12:=eq_false hg55;refine rnN 3 ?_;refine zh ⟨rfl,_,_,⟨rfl,rfl⟩,.p t12⟩
   rintro _ _ ⟨rfl,rfl⟩;refine rnN 1 ?_;refine nkN hK ?_;refine zT (b:=((decide (r1.1.fType.fKind=7))&&(decide (r2.1.fType.fKind=7)))) rfl (fun hc13=>?_) (fun hc13=>?_)
   · rw[if_pos hc13] at h
     refine rc [8,10,14] fun K hK=>?_
     obtain⟨r14,hr14,h⟩:=bind_some h;refine rnN 8 ?_;refine clN rfl rfl rfl (@id (ACalls qg 150 [.op 0 0 0,.agg [.str r1.1.fType.fName,.str r2.1.fType.fName]] [.cells 0 [.str a0.ffrom.fName,.ds true (qc zb a0.ffrom.fMessages) (qa a0.ffrom.fMessages) false,.ds true (qc zf a0.ffrom.fEnums) (qa a0.ffrom.fEnums) false,.ds true (qc zm a0.ffrom.fMethods) (qa a0.ffrom.fMethods) false,.str a0.fto.fName,.ds true (qc zb a0.fto.fMessages) (qa a0.fto.fMessages) false,.ds true (qc zf a0.fto.fEnums) (qa a0.fto.fEnums) false,.ds true (qc zm a0.fto.fMethods) (qa a0.fto.fMethods) false,.os true 2 1 (a0.vl) 0 (qa a0.fl) false,.mp 2],.cells (a0.vl) (qc zM a0.fl),.map (yq yo (AV.int .i64) a0.fplace),.cells 0 (zb a1),.cells 0 (zb a2),.cells 0 [.int .i64 0,.int .i64 0,.int .i64 0],.cells 0 (z8 r1.1),.cells 0 (z8 r2.1),.cells 0 [.int .i64 1,.int .i64 a3,.int .i64 0]] (fun r' σ'=>r'=.int .i64 r14.1∧σ'=[.cells 0 [.str r14.2.ffrom.fName,.ds true (qc zb r14.2.ffrom.fMessages) (qa r14.2.ffrom.fMessages) false,.ds true (qc zf r14.2.ffrom.fEnums) (qa r14.2.ffrom.fEnums) false,.ds true (qc zm r14.2.ffrom.fMethods) (qa r14.2.ffrom.fMethods) false,.str r14.2.fto.fName,.ds true (qc zb r14.2.fto.fMessages) (qa r14.2.fto.fMessages) false,.ds true (qc zf r14.2.fto.fEnums) (qa r14.2.fto.fEnums) false,.ds true (qc zm r14.2.fto.fMethods) (qa r14.2.fto.fMethods) false,.os true 2 1 (r14.2.vl) 0 (qa r14.2.fl) false,.mp 2],.cells (r14.2.vl) (qc zM r14.2.fl),.map (yq yo (AV.int .i64) r14.2.fplace),.cells 0 (zb a1),.cells 0 (zb a2),.cells 0 [.int .i64 0,.int .i64 0,.int .i64 0],.cells 0 (z8 r1.1),.cells 0 (z8 r2.1),.cells 0 [.int .i64 1,.int .i64 a3,.int .i64 0]])) ((xI.ok hr14).ix [0,1,2])) ?_;refine zw tok 4 ?_;simp only[go_sem,qd,qf,qb,qe,reduceCtorEq,yr];refine nkN hK ?_;refine rgN [8,14,72] ?_;refine yf rfl (fun hc15=>?_) (fun hc15=>?_)
     · rw[if_pos hc15] at h;have t16:=eq_true hc15
       refine rgE tok [8,14] fun K hK=>?_
       simp only[go_sem,qd,qf,qb,qe,t16];apply hK
       exact⟨_,_,⟨r14.2.ffrom,r14.2.fto,r14.2.fl,r14.2.vl,r14.2.fplace,(⟨4,a3,r14.1⟩:wB),rfl,rfl,h⟩,(.t [0,1,2,5,8] false)⟩
     rw[if_neg hc15] at h;have t17:=eq_false hc15;apply zj;exact⟨_,_,⟨r14.2.ffrom,r14.2.fto,r14.2.fl,r14.2.vl,r14.2.fplace,(⟨3,a3,r14.1⟩:wB),rfl,rfl,h⟩,(.t [0,1,2,5,8] false)⟩
   rw[wO hc13] at h
   refine rc [8,14,15,16,74] fun K hK=>?_
   refine rnN 3 ?_;refine zG 3 (fun L τ=>L=[(8,.op 5 0 0),(14,.op 8 0 0),(15,.int .i64 r1.1.fType.fKind),(16,.int .i64 r2.1.fType.fKind),(80,.bool ((decide (r1.1.fType.fKind=2))&&(decide (r2.1.fType.fKind=1))))]∧τ=([.cells 0 [.str a0.ffrom.fName,.ds true (qc zb a0.ffrom.fMessages) (qa a0.ffrom.fMessages) false,.ds true (qc zf a0.ffrom.fEnums) (qa a0.ffrom.fEnums) false,.ds true (qc zm a0.ffrom.fMethods) (qa a0.ffrom.fMethods) false,.str a0.fto.fName,.ds true (qc zb a0.fto.fMessages) (qa a0.fto.fMessages) false,.ds true (qc zf a0.fto.fEnums) (qa a0.fto.fEnums) false,.ds true (qc zm a0.fto.fMethods) (qa a0.fto.fMethods) false,.os true 2 1 (a0.vl) 0 (qa a0.fl) false,.mp 2],.cells (a0.vl) (qc zM a0.fl),.map (yq yo (AV.int .i64) a0.fplace),.cells 0 (zb a1),.cells 0 (zb a2),.cells 0 [.int .i64 0,.int .i64 0,.int .i64 0],.cells 0 (z8 r1.1),.cells 0 (z8 r2.1),.cells 0 [.int .i64 1,.int .i64 a3,.int .i64 0]]:ze)) ?_ ?_
   · refine xS 77 rfl (fun hg77=>?_) (fun hg77=>?_)
     · have t18:=eq_true hg77;refine rnN 3 ?_;refine zh ⟨rfl,_,_,⟨rfl,rfl⟩,.p t18⟩
     have t19:=eq_false hg77;refine rnN 3 ?_;refine zh ⟨rfl,_,_,⟨rfl,rfl⟩,.p t19⟩
   rintro _ _ ⟨rfl,rfl⟩;refine rnN 1 ?_;refine nkN hK ?_;refine zT (b:=((decide (r1.1.fType.fKind=2))&&(decide (r2.1.fType.fKind=1)))) rfl (fun hc20=>?_) (fun hc20=>?_)
   · rw[if_pos hc20] at h
     refine rgE tok [8,14] fun K hK=>?_
     simp only[go_sem,qd,qf,qb,qe];apply hK
     exact⟨_,_,⟨a0.ffrom,a0.fto,a0.fl,a0.vl,a0.fplace,(⟨2,a3,0⟩:wB),rfl,rfl,h⟩,(.t [0,1,2,5,8] false)⟩
   rw[wO hc20] at h
   refine rc [8,14,82] fun K hK=>?_
   refine rnN 4 ?_;refine zG 7 (fun L τ=>L=[(8,.op 5 0 0),(14,.op 8 0 0),(93,.bool ((!(decide (r1.1.fType.fKind=r2.1.fType.fKind)))&&((!(decide (r1.1.fType.fKind=1)))||(!(decide (r2.1.fType.fKind=2))))))]∧τ=([.cells 0 [.str a0.ffrom.fName,.ds true (qc zb a0.ffrom.fMessages) (qa a0.ffrom.fMessages) false,.ds true (qc zf a0.ffrom.fEnums) (qa a0.ffrom.fEnums) false,.ds true (qc zm a0.ffrom.fMethods) (qa a0.ffrom.fMethods) false,.str a0.fto.fName,.ds true (qc zb a0.fto.fMessages) (qa a0.fto.fMessages) false,.ds true (qc zf a0.fto.fEnums) (qa a0.fto.fEnums) false,.ds true (qc zm a0.fto.fMethods) (qa a0.fto.fMethods) false,.os true 2 1 (a0.vl) 0 (qa a0.fl) false,.mp 2],.cells (a0.vl) (qc zM a0.fl),.map (yq yo (AV.int .i64) a0.fplace),.cells 0 (zb a1),.cells 0 (zb a2),.cells 0 [.int .i64 0,.int .i64 0,.int .i64 0],.cells 0 (z8 r1.1),.cells 0 (z8 r2.1),.cells 0 [.int .i64 1,.int .i64 a3,.int .i64 0]]:ze)) ?_ ?_
   · refine xS 86 rfl (fun hg86=>?_) (fun hg86=>?_)
     · have t21:=eq_false hg86;refine rnN 3 ?_;refine zG 3 (fun L τ=>L=[(8,.op 5 0 0),(14,.op 8 0 0),(86,.bool true),(92,.bool ((!(decide (r1.1.fType.fKind=1)))||(!(decide (r2.1.fType.fKind=2)))))]∧τ=([.cells 0 [.str a0.ffrom.fName,.ds true (qc zb a0.ffrom.fMessages) (qa a0.ffrom.fMessages) false,.ds true (qc zf a0.ffrom.fEnums) (qa a0.ffrom.fEnums) false,.ds true (qc zm a0.ffrom.fMethods) (qa a0.ffrom.fMethods) false,.str a0.fto.fName,.ds true (qc zb a0.fto.fMessages) (qa a0.fto.fMessages) false,.ds true (qc zf a0.fto.fEnums) (qa a0.fto.fEnums) false,.ds true (qc zm a0.fto.fMethods) (qa a0.fto.fMethods) false,.os true 2 1 (a0.vl) 0 (qa a0.fl) false,.mp 2],.cells (a0.vl) (qc zM a0.fl),.map (yq yo (AV.int .i64) a0.fplace),.cells 0 (zb a1),.cells 0 (zb a2),.cells 0 [.int .i64 0,.int .i64 0,.int .i64 0],.cells 0 (z8 r1.1),.cells 0 (z8 r2.1),.cells 0 [.int .i64 1,.int .i64 a3,.int .i64 0]]:ze)) ?_ ?_
       · refine xS 89 rfl (fun hg89=>?_) (fun hg89=>?_)
         · have t22:=eq_false hg89;refine rnN 3 ?_;refine zh ⟨rfl,_,_,⟨rfl,rfl⟩,.p t22⟩
         have t23:=eq_true hg89;refine rnN 3 ?_;refine zh ⟨rfl,_,_,⟨rfl,rfl⟩,.p t23⟩
       rintro _ _ ⟨rfl,rfl⟩;refine rnN 1 ?_;refine zh ⟨rfl,_,_,⟨rfl,rfl⟩,.p t21⟩
     have t24:=eq_true hg86;refine rnN 7 ?_;refine zh ⟨rfl,_,_,⟨rfl,rfl⟩,.p t24⟩
   rintro _ _ ⟨rfl,rfl⟩;refine rnN 1 ?_;refine nkN hK ?_;refine zT (b:=((!(decide (r1.1.fType.fKind=r2.1.fType.fKind)))&&((!(decide (r1.1.fType.fKind=1)))||(!(decide (r2.1.fType.fKind=2)))))) rfl (fun hc25=>?_) (fun hc25=>?_)
   · rw[if_pos hc25] at h;refine rgN [8,9] ?_;apply zY;cases h;simp only[w7,yy,yI,xq,exists_eq_left',go_sem,qf,qb,qe,yr];refine⟨by decide,by simp,?_,?_⟩
     · first|rfl|(simp only[go_sem,qd,qf,qb,qe,qi,ql,reduceIte,reduceCtorEq,push_cast,if_true,qw,qj,qn,qk,qz,qo,qH,qC,qs,qr,qp,zt,zM,za,yr]<;>rfl)
     first|rfl|(simp only[go_sem,qb,qe,reduceCtorEq,push_cast,if_true,qj,qn,qk,qo,qs,qr,zt]<;>rfl)
   rw[wO hc25] at h;apply zj;exact⟨_,_,⟨a0.ffrom,a0.fto,a0.fl,a0.vl,a0.fplace,(⟨1,a3,0⟩:wB),rfl,rfl,h⟩,(.t [0,1,2,5,8] false)⟩
 rintro _ _ ⟨m0__03,m0__14,l5,v6,l7,m4_8,rfl,rfl,h⟩;unfold xH.j9 at h;refine rgN [8,9] ?_;apply zY;cases h;simp only[w7,yy,yI,xq,exists_eq_left',go_sem,qf,qb,qe,yr];refine⟨by decide,by simp,?_,?_⟩
 · first|rfl|(simp only[go_sem,qd,qf,qb,qe,qi,ql,reduceIte,reduceCtorEq,push_cast,if_true,qw,qj,qn,qk,qz,qo,qH,qC,qs,qr,qp,zt,zM,za,yr]<;>rfl)
 first|rfl|(simp only[go_sem,qb,qe,reduceCtorEq,push_cast,if_true,qj,qn,qk,qo,qs,qr,zt]<;>rfl)
def xn.j70 (x50:Int)(rec59:List (yx×Int)→zD→zD→List yx→Nat→List wB→Int→Option (xF×Int))(l63:List (yx×Int))(m4__064:zD)(m4__165:zD)(l66:List yx)(v67:Nat)(l68:List wB):Option (xF×Int):=
 (rec59 l63 m4__064 m4__165 l66 v67 l68 (IntKind.i64.wrap (x50+1)))
def xn.l59 (l19:List (List wB))(x21:Int)(rec30:List (yx×Int)→zD→zD→List yx→Nat→List (List wB)→Int→Option (xF×Int))(r38:yp×Bool)(r41:yp×Bool):Nat→List (yx×Int)→zD→zD→List yx→Nat→List wB→Int→Option (xF×Int)
 |0,_,_,_,_,_,_,_=>none
 |k59+1,l43,m4__044,m4__145,l46,v47,l48,x50=>(if x50≤500 then (xH (⟨m4__044,m4__145,l46,v47,l43⟩:w6) r38.1 r41.1 x50).bind fun r71=>(if r71.2.1=true then (vac (qa l48+1) 24).bind fun _u73=>(xn.j70 x50 (xn.l59 l19 x21 rec30 r38 r41 k59) r71.2.2.fplace r71.2.2.ffrom r71.2.2.fto r71.2.2.fl r71.2.2.vl (l48++[r71.1])) else (xn.j70 x50 (xn.l59 l19 x21 rec30 r38 r41 k59) r71.2.2.fplace r71.2.2.ffrom r71.2.2.fto r71.2.2.fl r71.2.2.vl l48)) else (vac (qa l19+1) 24).bind fun _u76=>(rec30 l43 m4__044 m4__145 l46 v47 (l19++[l48]) (IntKind.i64.wrap (x21+1))))
def xn.l30 (a0:zD)(a1:zD):Nat→List (yx×Int)→zD→zD→List yx→Nat→List (List wB)→Int→Option (xF×Int)
 |0,_,_,_,_,_,_,_=>none
 |k30+1,l14,m4__015,m4__116,l17,v18,l19,x21=>(if x21<(qa l17:Int) then (Xe l17 x21).bind fun y35=>bnd (yn a0 y35.ffrom) fun r38=>bnd (yn a1 y35.fto) fun r41=>(xn.l59 l19 x21 (xn.l30 a0 a1 k30) r38 r41 xK l14 m4__015 m4__116 l17 v18 ([]:List wB) 1) else some ((⟨l19⟩:xF),0))
def xn (a0:zD)(a1:zD)(a2:List UInt8)(a3:List UInt8):Option (xF×Int):=
 (yB a0).bind fun r2=>(if r2=0 then (yB a1).bind fun r3=>some (!(decide (r3=0))) else some true).bind fun c3=>(if c3=true then some ((⟨([]:List (List wB))⟩:xF),1) else bnd (yn a0 a2) fun r8=>bnd (yn a1 a3) fun r9=>(if ((!r8.2)||(!r9.2))=true then some ((⟨([]:List (List wB))⟩:xF),14) else (xI (⟨a0,a1,([]:List yx),0,([]:List (yx×Int))⟩:w6) (⟨a2,a3⟩:yx)).bind fun r12=>(xn.l30 a0 a1 xK r12.2.fplace r12.2.ffrom r12.2.fto r12.2.fl r12.2.vl ([]:List (List wB)) 0)))
theorem xn.ok {a0 a1 a2 a3 r}(h:xn a0 a1 a2 a3=some r):ACalls qg 99 [.agg (za a0),.agg (za a1),.str a2,.str a3] [] (fun r' _=>r'=.tup [.agg (zO r.1),.int .i64 r.2]):=by
 refine zr (rs:=[.cell 8 178,.tmp 9]) tok Tryz.func99 rfl Tryz.ntmps99 rfl Tryz.call99 (by simp) ?_;refine zA [(0,.agg (za a0)),(1,.agg (za a1)),(2,.str a2),(3,.str a3)] ⟨rfl,rfl,rfl,rfl,trivial⟩ ?_;unfold xn at h
 refine rg tok [2,3,4,5,8] fun K hK=>?_
 simp only[go_sem,qd,qb,qe,reduceCtorEq,za];apply hK
 refine zd fun Z1 hZ1=>?_
 refine rc [2,3,4,5,8,32] fun K hK=>?_
 obtain⟨r2,hr2,h⟩:=bind_some h;refine rnN 1 ?_;refine clN rfl rfl rfl ((yB.ok hr2).c _) ?_;refine rnN 2 ?_;obtain⟨c3,hc3,h⟩:=bind_some h;refine zG 4 (fun L τ=>L=[(2,.str a2),(3,.str a3),(4,.op 0 0 0),(5,.op 1 0 0),(8,.op 2 0 0),(32,.bool c3)]∧τ=([.cells 0 (za a0),.cells 0 (za a1),.cells 0 [.ds true [] 0 true]]:ze)) ?_ ?_
 · refine xS 28 rfl (fun hg28=>?_) (fun hg28=>?_)
   · have t4:=eq_false hg28;rw[if_neg hg28] at hc3;refine rnN 4 ?_;cases hc3;refine zh ⟨rfl,_,_,⟨rfl,rfl⟩,.p t4⟩
   have t5:=eq_true hg28;rw[if_pos hg28] at hc3;obtain⟨r6,hr6,hc3⟩:=bind_some hc3;refine rnN 1 ?_;refine clN rfl rfl rfl ((yB.ok hr6).c _) ?_;refine rnN 2 ?_;cases hc3;refine zh ⟨rfl,_,_,⟨rfl,rfl⟩,.p t5⟩
 rintro _ _ ⟨rfl,rfl⟩;refine nkN hK ?_;refine zT (b:=c3) rfl (fun hc7=>?_) (fun hc7=>?_)
 · rw[if_pos hc7] at h;refine rgN [8,9] ?_;cases h;exact rtA
 rw[wO hc7] at h;apply zj;apply hZ1
 refine rc [2,3,4,5,8,11] fun K hK=>?_
 obtain⟨r8,hr8,h⟩:=yg h;refine rnN 2 ?_;refine clN rfl rfl rfl ((yn.ok hr8).c _) ?_;refine zw tok 6 ?_;simp only[go_sem,qd,qf,qb,qe,zb];refine nkN hK ?_
 refine rc [2,3,4,5,8,11,13] fun K hK=>?_
 obtain⟨r9,hr9,h⟩:=yg h;refine rnN 2 ?_;refine clN rfl rfl rfl ((yn.ok hr9).c _) ?_;refine zw tok 6 ?_;simp only[go_sem,qd,qf,qb,qe,zb];refine nkN hK ?_
 refine zd fun Z10 hZ10=>?_
 refine rc [2,3,4,5,8,51] fun K hK=>?_
 refine rnN 3 ?_;refine zG 3 (fun L τ=>L=[(2,.str a2),(3,.str a3),(4,.op 0 0 0),(5,.op 1 0 0),(8,.op 2 0 0),(51,.bool ((!r8.2)||(!r9.2)))]∧τ=([.cells 0 (za a0),.cells 0 (za a1),.cells 0 [.ds true [] 0 true],.cells 0 (zb r8.1),.cells 0 (zb r9.1)]:ze)) ?_ ?_
 · refine yv (b:=(!r8.2)) 48 rfl (fun hg48=>?_) (fun hg48=>?_)
   · refine rnN 3 ?_;refine zh ⟨rfl,_,_,⟨rfl,rfl⟩,.b hg48⟩
   refine rnN 3 ?_;refine zh ⟨rfl,_,_,⟨rfl,rfl⟩,.b hg48⟩
 rintro _ _ ⟨rfl,rfl⟩;refine nkN hK ?_;refine zT (b:=((!r8.2)||(!r9.2))) rfl (fun hc11=>?_) (fun hc11=>?_)
 · rw[if_pos hc11] at h;refine rgN [8,9] ?_;cases h;exact rtA
 rw[wO hc11] at h;apply zj;apply hZ10;refine rgN [2,3,4,5,8,14] ?_;refine YL 5 rfl (τ:=[.cells 0 (za a0),.cells 0 (za a1),.cells 0 [.ds true [] 0 true],.cells 0 (zb r8.1),.cells 0 (zb r9.1),.map (yq yo (AV.int .i64) []),.cells 0 [.str a0.fName,.ds true (qc zb a0.fMessages) (qa a0.fMessages) false,.ds true (qc zf a0.fEnums) (qa a0.fEnums) false,.ds true (qc zm a0.fMethods) (qa a0.fMethods) false,.str a1.fName,.ds true (qc zb a1.fMessages) (qa a1.fMessages) false,.ds true (qc zf a1.fEnums) (qa a1.fEnums) false,.ds true (qc zm a1.fMethods) (qa a1.fMethods) false,.ds true [] 0 true,.mp 5]]) rfl ?_;refine w4 6 8 2 rfl (by simp) rfl (L:=[(2,.str a2),(3,.str a3),(4,.op 0 0 0),(5,.op 1 0 0),(8,.op 2 0 0),(14,.op 6 0 0)]) (τ:=[.cells 0 (za a0),.cells 0 (za a1),.cells 0 [.ds true [] 0 true],.cells 0 (zb r8.1),.cells 0 (zb r9.1),.map (yq yo (AV.int .i64) []),.cells 0 [.str a0.fName,.ds true (qc zb a0.fMessages) (qa a0.fMessages) false,.ds true (qc zf a0.fEnums) (qa a0.fEnums) false,.ds true (qc zm a0.fMethods) (qa a0.fMethods) false,.str a1.fName,.ds true (qc zb a1.fMessages) (qa a1.fMessages) false,.ds true (qc zf a1.fEnums) (qa a1.fEnums) false,.ds true (qc zm a1.fMethods) (qa a1.fMethods) false,.os true 2 7 0 0 (qa ([]:List yx)) false,.mp 5],.cells 0 (qc zM ([]:List yx))]) .s ?_;refine y0 (L:=[(2,.str a2),(3,.str a3),(4,.op 0 0 0),(5,.op 1 0 0),(8,.op 2 0 0),(14,.op 6 0 0)]) (τ:=[.cells 0 (za a0),.cells 0 (za a1),.cells 0 [.ds true [] 0 true],.cells 0 (zb r8.1),.cells 0 (zb r9.1),.map (yq yo (AV.int .i64) []),.cells 0 [.str a0.fName,.ds true (qc zb a0.fMessages) (qa a0.fMessages) false,.ds true (qc zf a0.fEnums) (qa a0.fEnums) false,.ds true (qc zm a0.fMethods) (qa a0.fMethods) false,.str a1.fName,.ds true (qc zb a1.fMessages) (qa a1.fMessages) false,.ds true (qc zf a1.fEnums) (qa a1.fEnums) false,.ds true (qc zm a1.fMethods) (qa a1.fMethods) false,.os true 2 7 0 0 (qa ([]:List yx)) false,.mp 5],.cells 0 (qc zM ([]:List yx))]) .s ?_
 refine rc [4,5,8,14] fun K hK=>?_
 obtain⟨r12,hr12,h⟩:=bind_some h;refine rnN 4 ?_;refine clN rfl rfl rfl (@id (ACalls qg 150 [.op 6 0 0,.agg [.str a2,.str a3]] [.cells 0 (za a0),.cells 0 (za a1),.cells 0 [.ds true [] 0 true],.cells 0 (zb r8.1),.cells 0 (zb r9.1),.map (yq yo (AV.int .i64) []),.cells 0 [.str a0.fName,.ds true (qc zb a0.fMessages) (qa a0.fMessages) false,.ds true (qc zf a0.fEnums) (qa a0.fEnums) false,.ds true (qc zm a0.fMethods) (qa a0.fMethods) false,.str a1.fName,.ds true (qc zb a1.fMessages) (qa a1.fMessages) false,.ds true (qc zf a1.fEnums) (qa a1.fEnums) false,.ds true (qc zm a1.fMethods) (qa a1.fMethods) false,.os true 2 7 0 0 (qa ([]:List yx)) false,.mp 5],.cells 0 (qc zM ([]:List yx))] (fun r' σ'=>r'=.int .i64 r12.1∧σ'=[.cells 0 (za a0),.cells 0 (za a1),.cells 0 [.ds true [] 0 true],.cells 0 (zb r8.1),.cells 0 (zb r9.1),.map (yq yo (AV.int .i64) r12.2.fplace),.cells 0 [.str r12.2.ffrom.fName,.ds true (qc zb r12.2.ffrom.fMessages) (qa r12.2.ffrom.fMessages) false,.ds true (qc zf r12.2.ffrom.fEnums) (qa r12.2.ffrom.fEnums) false,.ds true (qc zm r12.2.ffrom.fMethods) (qa r12.2.ffrom.fMethods) false,.str r12.2.fto.fName,.ds true (qc zb r12.2.fto.fMessages) (qa r12.2.fto.fMessages) false,.ds true (qc zf r12.2.fto.fEnums) (qa r12.2.fto.fEnums) false,.ds true (qc zm r12.2.fto.fMethods) (qa r12.2.fto.fMethods) false,.os true 2 7 (r12.2.vl) 0 (qa r12.2.fl) false,.mp 5],.cells (r12.2.vl) (qc zM r12.2.fl)])) ((xI.ok hr12).ix [6,7,5])) ?_;refine nkN hK ?_;refine rgN [4,5,8,14,15] ?_;refine w4 8 0 1 rfl (by simp) rfl (L:=[(4,.op 0 0 0),(5,.op 1 0 0),(8,.op 2 0 0),(14,.op 6 0 0),(15,.op 8 0 0)]) (τ:=[.cells 0 (za a0),.cells 0 (za a1),.cells 0 [.ds true [] 0 true],.cells 0 (zb r8.1),.cells 0 (zb r9.1),.map (yq yo (AV.int .i64) r12.2.fplace),.cells 0 [.str r12.2.ffrom.fName,.ds true (qc zb r12.2.ffrom.fMessages) (qa r12.2.ffrom.fMessages) false,.ds true (qc zf r12.2.ffrom.fEnums) (qa r12.2.ffrom.fEnums) false,.ds true (qc zm r12.2.ffrom.fMethods) (qa r12.2.ffrom.fMethods) false,.str r12.2.fto.fName,.ds true (qc zb r12.2.fto.fMessages) (qa r12.2.fto.fMessages) false,.ds true (qc zf r12.2.fto.fEnums) (qa r12.2.fto.fEnums) false,.ds true (qc zm r12.2.fto.fMethods) (qa r12.2.fto.fMethods) false,.os true 2 7 (r12.2.vl) 0 (qa r12.2.fl) false,.mp 5],.cells (r12.2.vl) (qc zM r12.2.fl),.cells 0 [.os true 1 9 0 0 (qa ([]:List (List wB))) false],.cells 0 (qc (Xh yr) ([]:List (List wB)))]) .s ?_
 refine zd fun Z13 hZ13=>?_
 refine rgN [4,5,8,14,15,16] ?_;apply zn;refine yh (fun m L τ=>∃ (k30:Nat) (l14:List (yx×Int)) (m4__015:zD) (m4__116:zD) (l17:List yx) (v18:Nat) (l19:List (List wB)) (x21:Int) (v20:Nat),m=0+k30∧L=[(4,.op 0 0 0),(5,.op 1 0 0),(8,.op 2 0 0),(14,.op 4 0 0),(15,.op 6 0 0),(16,.int .i64 x21)]∧τ=([.cells 0 (za a0),.cells 0 (za a1),.cells 0 [.ds true [] 0 true],.map (yq yo (AV.int .i64) l14),.cells 0 [.str m4__015.fName,.ds true (qc zb m4__015.fMessages) (qa m4__015.fMessages) false,.ds true (qc zf m4__015.fEnums) (qa m4__015.fEnums) false,.ds true (qc zm m4__015.fMethods) (qa m4__015.fMethods) false,.str m4__116.fName,.ds true (qc zb m4__116.fMessages) (qa m4__116.fMessages) false,.ds true (qc zf m4__116.fEnums) (qa m4__116.fEnums) false,.ds true (qc zm m4__116.fMethods) (qa m4__116.fMethods) false,.os true 2 5 v18 0 (qa l17) false,.mp 3],.cells v18 (qc zM l17),.cells 0 [.os true 1 7 v20 0 (qa l19) false],.cells v20 (qc (Xh yr) l19)]:ze)∧xn.l30 a0 a1 k30 l14 m4__015 m4__116 l17 v18 l19 x21=some r) _ ⟨xK,r12.2.fplace,r12.2.ffrom,r12.2.fto,r12.2.fl,r12.2.vl,([]:List (List wB)),0,0,rfl,rfl,rfl,h⟩ (.t [0,1,2,5,6,7,8,9] false) ?_;rintro m L τ ⟨k30,l14,m4__015,m4__116,l17,v18,l19,x21,v20,rfl,rfl,rfl,h⟩
 rcases k30 with _|k30
 · cases h
 simp only[xn.l30] at h
 refine zd fun Z31 hZ31=>?_
 refine rgN [4,5,8,14,15,16,69] ?_;refine yf rfl (fun hc32=>?_) (fun hc32=>?_)
 · rw[if_pos hc32] at h;have t33:=eq_true hc32;apply zj;apply hZ31
   refine zd fun Z34 hZ34=>?_
   apply zn;obtain⟨y35,hy35,h⟩:=bind_some h;have f36:=E240.idxO hy35;have f37:=E240.rdfO0 hy35;obtain⟨r38,hr38,h⟩:=yg h
   refine rd [4,5,8,14,15,16,17] fun K hK=>?_
   refine DW.start (T:=tab) [.at [],.any,.any,.any,.at [],.any,.any,.any,.at [],.eff,.any,.any,.any,.flt,.eff,.any] [] ?_;refine DW.runN tok 8 ?_;simp only[go_sem,qd,qf,qb,qe,t33,f36];refine DW.runN tok 1 ?_;simp only[go_sem,qd,qb,zM,f37];refine DW.call rfl rfl rfl ((yn.ok hr38).c _) ?_;refine DW.runN tok 6 ?_;simp only[go_sem,qd,qf,qb,qe,zb];refine DW.fin tok (by decide +kernel) rfl ?_;simp only[zz,upd,qb,reduceIte,yS,xD];apply hK
   have f39:=E240.idxO hy35;have f40:=E240.rdfO hy35 (o:=1) (by decide);obtain⟨r41,hr41,h⟩:=yg h
   refine rd [4,5,8,14,15,16,17,19] fun K hK=>?_
   refine DW.start (T:=tab) [.at [],.any,.any,.any,.at [],.any,.any,.any,.at [],.eff,.any,.any,.any,.flt,.eff,.any] [] ?_;refine DW.runN tok 8 ?_;simp only[go_sem,qd,qf,qb,qe,f39];refine DW.runN tok 1 ?_;simp only[go_sem,qd,qb,zM,f40];refine DW.call rfl rfl rfl ((yn.ok hr41).c _) ?_;refine DW.runN tok 6 ?_;simp only[go_sem,qd,qf,qb,qe,zb];refine DW.fin tok (by decide +kernel) rfl ?_;simp only[zz,upd,qb,reduceIte,yS,xD];apply hK
   refine rgN [4,5,8,14,15,16,17,19,21] ?_;refine YW 21 3 rfl ?_;refine y0 (L:=[(4,.op 0 0 0),(5,.op 1 0 0),(8,.op 2 0 0),(14,.op 4 0 0),(15,.op 6 0 0),(16,.int .i64 x21),(17,.op 8 0 0),(19,.op 9 0 0),(21,.os true 3 10 0 0 (qa ([]:List wB)) false)]) (τ:=[.cells 0 (za a0),.cells 0 (za a1),.cells 0 [.ds true [] 0 true],.map (yq yo (AV.int .i64) l14),.cells 0 [.str m4__015.fName,.ds true (qc zb m4__015.fMessages) (qa m4__015.fMessages) false,.ds true (qc zf m4__015.fEnums) (qa m4__015.fEnums) false,.ds true (qc zm m4__015.fMethods) (qa m4__015.fMethods) false,.str m4__116.fName,.ds true (qc zb m4__116.fMessages) (qa m4__116.fMessages) false,.ds true (qc zf m4__116.fEnums) (qa m4__116.fEnums) false,.ds true (qc zm m4__116.fMethods) (qa m4__116.fMethods) false,.os true 2 5 v18 0 (qa l17) false,.mp 3],.cells v18 (qc zM l17),.cells 0 [.os true 1 7 v20 0 (qa l19) false],.cells v20 (qc (Xh yr) l19),.cells 0 (zb r38.1),.cells 0 (zb r41.1),.cells 0 (qc yr ([]:List wB))]) .s ?_
   refine zd fun Z42 hZ42=>?_
   refine rgN [4,5,8,14,15,16,17,19,21,22] ?_;apply zn;refine yh (fun m L τ=>∃ (k59:Nat) (l43:List (yx×Int)) (m4__044:zD) (m4__145:zD) (l46:List yx) (v47:Nat) (l48:List wB) (x50:Int) (v49:Nat),m=0+k59∧L=[(4,.op 0 0 0),(5,.op 1 0 0),(8,.op 2 0 0),(14,.op 4 0 0),(15,.op 6 0 0),(16,.int .i64 x21),(17,.op 8 0 0),(19,.op 9 0 0),(21,.os true 3 10 v49 0 (qa l48) false),(22,.int .i64 x50)]∧τ=([.cells 0 (za a0),.cells 0 (za a1),.cells 0 [.ds true [] 0 true],.map (yq yo (AV.int .i64) l43),.cells 0 [.str m4__044.fName,.ds true (qc zb m4__044.fMessages) (qa m4__044.fMessages) false,.ds true (qc zf m4__044.fEnums) (qa m4__044.fEnums) false,.ds true (qc zm m4__044.fMethods) (qa m4__044.fMethods) false,.str m4__145.fName,.ds true (qc zb m4__145.fMessages) (qa m4__145.fMessages) false,.ds true (qc zf m4__145.fEnums) (qa m4__145.fEnums) false,.ds true (qc zm m4__145.fMethods) (qa m4__145.fMethods) false,.os true 2 5 v47 0 (qa l46) false,.mp 3],.cells v47 (qc zM l46),.cells 0 [.os true 1 7 v20 0 (qa l19) false],.cells v20 (qc (Xh yr) l19),.cells 0 (zb r38.1),.cells 0 (zb r41.1),.cells v49 (qc yr l48)]:ze)∧xn.l59 l19 x21 (xn.l30 a0 a1 k30) r38 r41 k59 l43 m4__044 m4__145 l46 v47 l48 x50=some r) _ ⟨xK,l14,m4__015,m4__116,l17,v18,([]:List wB),1,0,rfl,rfl,rfl,h⟩ .s ?_;rintro m L τ ⟨k59,l43,m4__044,m4__145,l46,v47,l48,x50,v49,rfl,rfl,rfl,h⟩
   rcases k59 with _|k59
   · cases h
   simp only[xn.l59] at h
   refine zd fun Z60 hZ60=>?_
   refine rgN [4,5,8,14,15,16,17,19,21,22,99] ?_;refine yf rfl (fun hc61=>?_) (fun hc61=>?_)
   · rw[if_pos hc61] at h;have t62:=eq_true hc61;apply zj;apply hZ60;refine xC (fun L τ=>∃ (l63:List (yx×Int)) (m4__064:zD) (m4__165:zD) (l66:List yx) (v67:Nat) (l68:List wB) (v69:Nat),L=[(4,.op 0 0 0),(5,.op 1 0 0),(8,.op 2 0 0),(14,.op 4 0 0),(15,.op 6 0 0),(16,.int .i64 x21),(17,.op 8 0 0),(19,.op 9 0 0),(21,.os true 3 10 v69 0 (qa l68) false),(22,.int .i64 x50)]∧τ=([.cells 0 (za a0),.cells 0 (za a1),.cells 0 [.ds true [] 0 true],.map (yq yo (AV.int .i64) l63),.cells 0 [.str m4__064.fName,.ds true (qc zb m4__064.fMessages) (qa m4__064.fMessages) false,.ds true (qc zf m4__064.fEnums) (qa m4__064.fEnums) false,.ds true (qc zm m4__064.fMethods) (qa m4__064.fMethods) false,.str m4__165.fName,.ds true (qc zb m4__165.fMessages) (qa m4__165.fMessages) false,.ds true (qc zf m4__165.fEnums) (qa m4__165.fEnums) false,.ds true (qc zm m4__165.fMethods) (qa m4__165.fMethods) false,.os true 2 5 v67 0 (qa l66) false,.mp 3],.cells v67 (qc zM l66),.cells 0 [.os true 1 7 v20 0 (qa l19) false],.cells v20 (qc (Xh yr) l19),.cells 0 (zb r38.1),.cells 0 (zb r41.1),.cells v69 (qc yr l68)]:ze)∧xn.j70 x50 (xn.l59 l19 x21 (xn.l30 a0 a1 k30) r38 r41 k59) l63 m4__064 m4__165 l66 v67 l68=some r) ?_ ?_
     · apply zn
       refine rc [4,5,8,14,15,16,17,19,21,22,23,24] fun K hK=>?_
       obtain⟨r71,hr71,h⟩:=bind_some h;refine zw tok 4 ?_;simp only[go_sem,qd,qf,qb,qe,t62];refine clN rfl rfl rfl (@id (ACalls qg 151 [.op 4 0 0,.agg (zb r38.1),.agg (zb r41.1),.int .i64 x50] [.cells 0 (za a0),.cells 0 (za a1),.cells 0 [.ds true [] 0 true],.map (yq yo (AV.int .i64) l43),.cells 0 [.str m4__044.fName,.ds true (qc zb m4__044.fMessages) (qa m4__044.fMessages) false,.ds true (qc zf m4__044.fEnums) (qa m4__044.fEnums) false,.ds true (qc zm m4__044.fMethods) (qa m4__044.fMethods) false,.str m4__145.fName,.ds true (qc zb m4__145.fMessages) (qa m4__145.fMessages) false,.ds true (qc zf m4__145.fEnums) (qa m4__145.fEnums) false,.ds true (qc zm m4__145.fMethods) (qa m4__145.fMethods) false,.os true 2 5 v47 0 (qa l46) false,.mp 3],.cells v47 (qc zM l46),.cells 0 [.os true 1 7 v20 0 (qa l19) false],.cells v20 (qc (Xh yr) l19),.cells 0 (zb r38.1),.cells 0 (zb r41.1),.cells v49 (qc yr l48)] (fun r' σ'=>r'=.tup [.agg (yr r71.1),.bool r71.2.1]∧σ'=[.cells 0 (za a0),.cells 0 (za a1),.cells 0 [.ds true [] 0 true],.map (yq yo (AV.int .i64) r71.2.2.fplace),.cells 0 [.str r71.2.2.ffrom.fName,.ds true (qc zb r71.2.2.ffrom.fMessages) (qa r71.2.2.ffrom.fMessages) false,.ds true (qc zf r71.2.2.ffrom.fEnums) (qa r71.2.2.ffrom.fEnums) false,.ds true (qc zm r71.2.2.ffrom.fMethods) (qa r71.2.2.ffrom.fMethods) false,.str r71.2.2.fto.fName,.ds true (qc zb r71.2.2.fto.fMessages) (qa r71.2.2.fto.fMessages) false,.ds true (qc zf r71.2.2.fto.fEnums) (qa r71.2.2.fto.fEnums) false,.ds true (qc zm r71.2.2.fto.fMethods) (qa r71.2.2.fto.fMethods) false,.os true 2 5 (r71.2.2.vl) 0 (qa r71.2.2.fl) false,.mp 3],.cells (r71.2.2.vl) (qc zM r71.2.2.fl),.cells 0 [.os true 1 7 v20 0 (qa l19) false],.cells v20 (qc (Xh yr) l19),.cells 0 (zb r38.1),.cells 0 (zb r41.1),.cells v49 (qc yr l48)])) ((xH.ok hr71).ix [4,5,3])) ?_;refine zw tok 6 ?_;simp only[go_sem,qd,qf,qb,qe,yr];refine nkN hK ?_;refine rgN [4,5,8,14,15,16,17,19,21,22,23,110] ?_;refine zT (b:=r71.2.1) rfl (fun hc72=>?_) (fun hc72=>?_)
       · rw[if_pos hc72] at h;obtain⟨_u73,hu73,h⟩:=bind_some h;have gu73:=xb hu73;have f74:=(zU E246.len l48)
         refine rgE tok [4,5,8,14,15,16,17,19,21,22] fun K hK=>?_
         simp only[go_sem,qd,qf,qb,qe,qi,zL,ym,qP,qJ,true_and,qW,yM,yl,yL,gu73,f74,xa,qV,qX,AV.one,qE,qK,qq,qu,qj,qL];apply hK
         exact⟨_,_,⟨r71.2.2.fplace,r71.2.2.ffrom,r71.2.2.fto,r71.2.2.fl,r71.2.2.vl,l48++[r71.1],v49+1,rfl,rfl,h⟩,(.t [0,1,2,3,4,5,6,7,8,9,10] false)⟩
       rw[wO hc72] at h;apply zj;exact⟨_,_,⟨r71.2.2.fplace,r71.2.2.ffrom,r71.2.2.fto,r71.2.2.fl,r71.2.2.vl,l48,v49,rfl,rfl,h⟩,(.t [0,1,2,3,4,5,6,7,8,9,10] false)⟩
     rintro _ _ ⟨l63,m4__064,m4__165,l66,v67,l68,v69,rfl,rfl,h⟩;unfold xn.j70 at h
     refine rgE tok [4,5,8,14,15,16,17,19,21,22] fun K hK=>?_
     simp only[go_sem,qd,qb];apply hK
     exact⟨_,_,_,qx (0+k59),⟨k59,l63,m4__064,m4__165,l66,v67,l68,IntKind.i64.wrap (x50+1),v69,rfl,rfl,rfl,h⟩,.s⟩
   rw[if_neg hc61] at h;have t75:=eq_false hc61;apply yc;apply hZ42;obtain⟨_u76,hu76,h⟩:=bind_some h;have gu76:=xb hu76;have f77:=(zU E176.len l19)
   refine rgE tok [4,5,8,14,15,16] fun K hK=>?_
   simp only[go_sem,qd,qf,qb,qe,qi,zL,ym,qP,qJ,true_and,qW,yM,yl,yL,t75,gu76,f77,xa,qV,qX,AV.one,qE,qK,qq,qu,qj,qL];apply hK
   apply hZ34
   refine rgE tok [4,5,8,14,15,16] fun K hK=>?_
   simp only[go_sem,qd,qb];apply hK
   exact⟨_,_,_,qx (0+k30),⟨k30,l43,m4__044,m4__145,l46,v47,l19++[l48],IntKind.i64.wrap (x21+1),v20+1,rfl,rfl,rfl,h⟩,(.t [0,1,2,3,4,5,6,7] false)⟩
 rw[if_neg hc32] at h;have t78:=eq_false hc32;apply yc;apply hZ13
 refine rg tok [8,9] fun K hK=>?_
 simp only[go_sem,qd,qf,qb,t78];apply hK
 cases h;exact rtA
end
section
set_option maxRecDepth 4000
set_option maxHeartbeats 1000000
open AM
def wJ.j6 (a0:wB)(a1:Int)(x5:Bool):Bool:=
 (if x5=true then ((decide (0≤a0.fSub))&&(decide (a0.fSub<a1))) else false)
def wJ.j3 (a0:wB)(a1:Int)(x2:Bool):Bool:=
 (if x2=true then decide (a0.fSub=0) else (if a0.fOp=3 then (wJ.j6 a0 a1 (decide (a0.fOp=3))) else (wJ.j6 a0 a1 (decide (a0.fOp=4)))))
def wJ (a0:wB)(a1:Int):Bool:=
 (if a0.fOp=1 then (wJ.j3 a0 a1 (decide (a0.fOp=1))) else (wJ.j3 a0 a1 (decide (a0.fOp=2))))
theorem wJ.ok {a0 a1 r}(h:wJ a0 a1=r):ACalls qg 236 [.agg (yr a0),.int .i64 a1] [] (fun r' _=>r'=.bool r):=by
 refine zr (rs:=[.tmp 4]) tok Tryz.func236 rfl Tryz.ntmps236 rfl Tryz.call236 (by simp) ?_;refine zA [(0,.agg (yr a0)),(1,.int .i64 a1)] ⟨rfl,rfl,trivial⟩ ?_;unfold wJ at h
 refine rg tok [1,2] fun K hK=>?_
 simp only[go_sem,qd,qb,qe,reduceCtorEq,yr];apply hK
 refine zd fun Z1 hZ1=>?_
 refine rgN [1,2,6] ?_;apply zn;refine xC (fun L τ=>∃ (x2:Bool),L=[(1,.int .i64 a1),(2,.op 0 0 0),(6,.int .i64 a0.fOp),(7,.bool x2)]∧τ=([.cells 0 [.int .i64 a0.fOp,.int .i64 a0.fTag,.int .i64 a0.fSub]]:ze)∧wJ.j3 a0 a1 x2=r) ?_ ?_
 · refine rgN [1,2,6,7] ?_;refine yf rfl (fun hc13=>?_) (fun hc13=>?_)
   · rw[if_pos hc13] at h;have t14:=eq_true hc13;apply zj;exact⟨_,_,⟨decide (a0.fOp=1),rfl,rfl,h⟩,.s⟩
   rw[if_neg hc13] at h;have t15:=eq_false hc13
   refine rgE tok [1,2,6,7] fun K hK=>?_
   simp only[go_sem,qd,qb,t15];apply hK
   exact⟨_,_,⟨decide (a0.fOp=2),rfl,rfl,h⟩,.s⟩
 rintro _ _ ⟨x2,rfl,rfl,h⟩;unfold wJ.j3 at h;refine zT (b:=x2) rfl (fun hc4=>?_) (fun hc4=>?_)
 · rw[if_pos hc4] at h;refine rgN [4] ?_;cases h;exact rtA
 rw[wO hc4] at h;refine xC (fun L τ=>∃ (x5:Bool),L=[(1,.int .i64 a1),(2,.op 0 0 0),(13,.bool x5)]∧τ=([.cells 0 [.int .i64 a0.fOp,.int .i64 a0.fTag,.int .i64 a0.fSub]]:ze)∧wJ.j6 a0 a1 x5=r) ?_ ?_
 · refine rgN [1,2,6,13] ?_;refine yf rfl (fun hc10=>?_) (fun hc10=>?_)
   · rw[if_pos hc10] at h;have t11:=eq_true hc10;apply zj;exact⟨_,_,⟨decide (a0.fOp=3),rfl,rfl,h⟩,.s⟩
   rw[if_neg hc10] at h;have t12:=eq_false hc10
   refine rgE tok [1,2,13] fun K hK=>?_
   simp only[go_sem,qd,qb,t12];apply hK
   exact⟨_,_,⟨decide (a0.fOp=4),rfl,rfl,h⟩,.s⟩
 rintro _ _ ⟨x5,rfl,rfl,h⟩;unfold wJ.j6 at h;refine zT (b:=x5) rfl (fun hc7=>?_) (fun hc7=>?_)
 · rw[if_pos hc7] at h
   refine rc [4] fun K hK=>?_
   refine rnN 4 ?_;refine zG 5 (fun L τ=>L=[(24,.bool ((decide (0≤a0.fSub))&&(decide (a0.fSub<a1))))]∧τ=([.cells 0 [.int .i64 a0.fOp,.int .i64 a0.fTag,.int .i64 a0.fSub]]:ze)) ?_ ?_
   · refine xS 19 rfl (fun hg19=>?_) (fun hg19=>?_)
     · have t8:=eq_true hg19;refine rnN 5 ?_;refine zh ⟨rfl,_,_,⟨rfl,rfl⟩,.p t8⟩
     have t9:=eq_false hg19;refine rnN 5 ?_;refine zh ⟨rfl,_,_,⟨rfl,rfl⟩,.p t9⟩
   rintro _ _ ⟨rfl,rfl⟩;refine rnN 1 ?_;refine nkN hK ?_;cases h;exact rtA
 rw[wO hc7] at h;apply zj;apply hZ1;refine rgN [4] ?_;cases h;exact rtA
def xV.l18 (a0:xF)(x6:Int)(rec8:Int→Bool):List wB→Int→Int→Bool
 |[],x15,x14=>(rec8 (x6+1))
 |y18::q18,x15,x14=>bnd (if ((decide (y18.fTag≤x14))||(decide (500<y18.fTag)))=true then true else bnd (wJ y18 (qa a0.fParts:Int)) fun r27 => !r27) fun c27=>(if c27=true then false else ((xV.l18 a0 x6 rec8 q18) (x15+1) y18.fTag))
def xV.l8 (a0:xF):List (List wB)→Int→Bool
 |[],x6=>true
 |y8::q8,x6=>(xV.l18 a0 x6 (xV.l8 a0 q8) y8 0 0)
def xV (a0:xF):Bool:=
 (if ((decide ((qa a0.fParts:Int)<1))||(decide (100<(qa a0.fParts:Int))))=true then false else (xV.l8 a0 a0.fParts 0))
theorem xV.ok {a0 r}(h:xV a0=r):ACalls qg 198 [.agg (zO a0)] [] (fun r' _=>r'=.bool r):=by
 refine zr (rs:=[.tmp 2]) tok Tryz.func198 rfl Tryz.ntmps198 rfl Tryz.call198 (by simp) ?_;refine zA [(0,.agg (zO a0))] ⟨rfl,trivial⟩ ?_;unfold xV at h
 refine rg tok [1] fun K hK=>?_
 simp only[go_sem,qd,qb,reduceCtorEq,zO];apply hK
 refine zd fun Z1 hZ1=>?_
 refine rc [1,17] fun K hK=>?_
 refine rnN 5 ?_;refine zG 5 (fun L τ=>L=[(1,.op 0 0 0),(17,.bool ((decide ((qa a0.fParts:Int)<1))||(decide (100<(qa a0.fParts:Int)))))]∧τ=([.cells 0 (zO a0)]:ze)) ?_ ?_
 · refine xS 12 rfl (fun hg12=>?_) (fun hg12=>?_)
   · have t2:=eq_true hg12;refine rnN 5 ?_;refine zh ⟨rfl,_,_,⟨rfl,rfl⟩,.p t2⟩
   have t3:=eq_false hg12;refine rnN 5 ?_;refine zh ⟨rfl,_,_,⟨rfl,rfl⟩,.p t3⟩
 rintro _ _ ⟨rfl,rfl⟩;refine nkN hK ?_;refine zT (b:=((decide ((qa a0.fParts:Int)<1))||(decide (100<(qa a0.fParts:Int))))) rfl (fun hc4=>?_) (fun hc4=>?_)
 · rw[if_pos hc4] at h;refine rgN [2] ?_;cases h;exact rtA
 rw[wO hc4] at h;apply zj;apply hZ1
 refine zd fun Z5 hZ5=>?_
 refine rgN [1,19,20,21] ?_;apply zn
 refine y5 19 fun hb8=>?_
 replace hb8:qa a0.fParts≤9223372036854775807:=hb8.1;refine yh (fun m L τ=>∃ (p8 q8:List (List wB)) (x6:Int),m=qa q8∧L=[(1,.op 0 0 0),(19,.ds true (qc (Xh yr) a0.fParts) (qa a0.fParts) false),(20,.int .i64 (qa a0.fParts:Int)),(21,.int .i64 x6)]∧τ=([.cells 0 (zO a0)]:ze)∧a0.fParts=p8++q8∧x6=(qa p8:Int)∧xV.l8 a0 q8 x6=r) _ ⟨[],a0.fParts,0,rfl,rfl,rfl,rfl,rfl,h⟩ .s ?_;rintro m L τ ⟨p8,q8,x6,rfl,rfl,rfl,hE8,hi8,h⟩
 rcases q8 with _|⟨y8,q8⟩
 · have hz8:=xw hE8 hi8;simp only[xV.l8] at h
   refine rg tok [1,19,20,21,22] fun K hK=>?_
   simp only[go_sem,qd,qb,hz8];apply hK
   refine zd fun Z9 hZ9=>?_
   refine zF rfl ?_;apply yc;apply hZ5;refine rgN [2] ?_;cases h;exact rtA
 obtain⟨hz8,hw8,hx8,hE'8,hi'8⟩:=y3 hE8 hi8 hb8;simp only[xV.l8] at h
 refine rg tok [1,19,20,21,22] fun K hK=>?_
 simp only[go_sem,qd,qb,hz8];apply hK
 refine zd fun Z10 hZ10=>?_
 refine zJ rfl ?_;apply zj;apply hZ10
 refine zd fun Z11 hZ11=>?_
 apply zn;have f12:=E176.idxS hx8;have f13:=E176.fldS0 (f:=246) rfl rfl hx8
 refine rg tok [1,4,19,20,21] fun K hK=>?_
 simp only[go_sem,qd,qb,Xh,f12,f13];apply hK
 refine rgN [1,4,5,19,20,21] ?_;refine rgN [1,5,19,20,21,25,26,27] ?_;apply zn
 refine y5 25 fun hb18=>?_
 replace hb18:qa y8≤9223372036854775807:=hb18.1;refine yh (fun m L τ=>∃ (p18 q18:List wB) (x15:Int) (x14:Int),m=qa q18∧L=[(1,.op 0 0 0),(5,.int .i64 x14),(19,.ds true (qc (Xh yr) a0.fParts) (qa a0.fParts) false),(20,.int .i64 (qa a0.fParts:Int)),(21,.int .i64 x6),(25,.ds true (qc yr y8) (qa y8) false),(26,.int .i64 (qa y8:Int)),(27,.int .i64 x15)]∧τ=([.cells 0 (zO a0)]:ze)∧y8=p18++q18∧x15=(qa p18:Int)∧xV.l18 a0 x6 (xV.l8 a0 q8) q18 x15 x14=r) _ ⟨[],y8,0,0,rfl,rfl,rfl,rfl,rfl,h⟩ .s ?_;rintro m L τ ⟨p18,q18,x15,x14,rfl,rfl,rfl,hE18,hi18,h⟩
 rcases q18 with _|⟨y18,q18⟩
 · have hz18:=xw hE18 hi18;simp only[xV.l18] at h
   refine rg tok [1,5,19,20,21,25,26,27,28] fun K hK=>?_
   simp only[go_sem,qd,qb,hz18];apply hK
   refine zd fun Z19 hZ19=>?_
   refine zF rfl ?_;apply yc;apply hZ11
   refine rgE tok [1,19,20,21] fun K hK=>?_
   simp only[go_sem,qd,qb,hw8];apply hK
   exact⟨_,_,_,qx q8.length,⟨p8++[y8],q8,x6+1,rfl,rfl,rfl,hE'8,hi'8,h⟩,.s⟩
 obtain⟨hz18,hw18,hx18,hE'18,hi'18⟩:=y3 hE18 hi18 hb18;simp only[xV.l18] at h
 refine rg tok [1,5,19,20,21,25,26,27,28] fun K hK=>?_
 simp only[go_sem,qd,qb,hz18];apply hK
 refine zd fun Z20 hZ20=>?_
 refine zJ rfl ?_;apply zj;apply hZ20
 refine zd fun Z21 hZ21=>?_
 apply zn;have f22:=E246.idxS hx18;have f23:=E246.loadS rfl rfl hx18
 refine rg tok [1,5,7,19,20,21,25,26,27] fun K hK=>?_
 simp only[go_sem,qd,qf,qb,qe,yr,f22,f23];apply hK
 refine zd fun Z24 hZ24=>?_
 refine rc [1,7,19,20,21,25,26,27,47] fun K hK=>?_
 refine rnN 5 ?_;refine zG 4 (fun L τ=>L=[(1,.op 0 0 0),(7,.op 1 0 0),(19,.ds true (qc (Xh yr) a0.fParts) (qa a0.fParts) false),(20,.int .i64 (qa a0.fParts:Int)),(21,.int .i64 x6),(25,.ds true (qc yr y8) (qa y8) false),(26,.int .i64 (qa y8:Int)),(27,.int .i64 x15),(39,.bool ((decide (y18.fTag≤x14))||(decide (500<y18.fTag))))]∧τ=([.cells 0 (zO a0),.cells 0 [.int .i64 y18.fOp,.int .i64 y18.fTag,.int .i64 y18.fSub]]:ze)) ?_ ?_
 · refine xS 35 rfl (fun hg35=>?_) (fun hg35=>?_)
   · have t25:=eq_true hg35;refine rnN 4 ?_;refine zh ⟨rfl,_,_,⟨rfl,rfl⟩,.p t25⟩
   have t26:=eq_false hg35;refine rnN 4 ?_;refine zh ⟨rfl,_,_,⟨rfl,rfl⟩,.p t26⟩
 rintro _ _ ⟨rfl,rfl⟩;refine rnN 1 ?_;obtain⟨c27,hc27,h⟩:=yg h;refine zG 7 (fun L τ=>L=[(1,.op 0 0 0),(7,.op 1 0 0),(19,.ds true (qc (Xh yr) a0.fParts) (qa a0.fParts) false),(20,.int .i64 (qa a0.fParts:Int)),(21,.int .i64 x6),(25,.ds true (qc yr y8) (qa y8) false),(26,.int .i64 (qa y8:Int)),(27,.int .i64 x15),(47,.bool c27)]∧τ=([.cells 0 (zO a0),.cells 0 [.int .i64 y18.fOp,.int .i64 y18.fTag,.int .i64 y18.fSub]]:ze)) ?_ ?_
 · refine yv (b:=((decide (y18.fTag≤x14))||(decide (500<y18.fTag)))) 40 rfl (fun hg40=>?_) (fun hg40=>?_)
   · rw[if_pos hg40] at hc27;refine rnN 7 ?_;subst hc27;refine zh ⟨rfl,_,_,⟨rfl,rfl⟩,.b hg40⟩
   rw[wO hg40] at hc27;obtain⟨r28,hr28,hc27⟩:=yg hc27;refine rnN 4 ?_;refine clN rfl rfl rfl ((wJ.ok hr28).c _) ?_;refine rnN 2 ?_;subst hc27;refine zh ⟨rfl,_,_,⟨rfl,rfl⟩,.b hg40⟩
 rintro _ _ ⟨rfl,rfl⟩;refine nkN hK ?_;refine zT (b:=c27) rfl (fun hc29=>?_) (fun hc29=>?_)
 · rw[if_pos hc29] at h;refine rgN [2] ?_;cases h;exact rtA
 rw[wO hc29] at h;apply zj;apply hZ24
 refine rgE tok [1,5,19,20,21,25,26,27] fun K hK=>?_
 simp only[go_sem,qd,qb,qe];apply hK
 apply hZ21
 refine rgE tok [1,5,19,20,21,25,26,27] fun K hK=>?_
 simp only[go_sem,qd,qb,hw18];apply hK
 exact⟨_,_,_,qx q18.length,⟨p18++[y18],q18,x15+1,y18.fTag,rfl,rfl,rfl,hE'18,hi'18,h⟩,(.t [0] false)⟩
def zN.j8 (r2:Int)(m1__13:Int)(m1__24:List UInt8)(m1__45:List xh)(l6:List zE):Option zp:=
 some (⟨r2,m1__13,m1__24,l6,m1__45⟩:zp)
def zN.l30 (yO:zo→Option zp)(x13:Int)(l11:List zE)(rec17:Int→List zE→Option zp)(y17:yK):List zo→Int→List zp→Option zp
 |[],x26,l24=>(vac (qa l11+1) 32).bind fun _u32=>(rec17 (x13+1) (l11++[(⟨y17.ftag,l24⟩:zE)]))
 |y30::q30,x26,l24=>(yO y30).bind fun r39=>(vac (qa l24+1) 80).bind fun _u40=>((zN.l30 yO x13 l11 rec17 y17 q30) (x26+1) (l24++[r39]))
def zN.l17 (yO:zo→Option zp)(r2:Int)(r10:List xh):List yK→Int→List zE→Option zp
 |[],x13,l11=>(zN.j8 r2 0 [] r10 l11)
 |y17::q17,x13,l11=>(zN.l30 yO x13 l11 (zN.l17 yO r2 r10 q17) y17 y17.fl 0 ([]:List zp))
def zN.body (yO:zo→Option zp)(a0:zo):Option zp:=
 bnd (wC a0) fun r2=>(match a0 with|.nil=>(zN.j8 r2 0 [] ([]:List xh) ([]:List zE))|.num n9=>(zN.j8 r2 n9 [] ([]:List xh) ([]:List zE))|.str s9=>(zN.j8 r2 0 s9 ([]:List xh) ([]:List zE))|.node e9 r9=>(wo (⟨e9,r9⟩:ya)).bind fun r10=>(zN.l17 yO r2 r10 e9 0 ([]:List zE)))
theorem zN.step (yO:zo→Option zp)(vaR:∀ (a0:zo) (r:zp),yO a0=some r→ACalls qg 249 [.agg (zk a0)] [] (fun r' _=>r'=.agg (zg r)))(a0:zo)(r:zp)(h:zN.body yO a0=some r):ACalls qg 249 [.agg (zk a0)] [] (fun r' _=>r'=.agg (zg r)):=by
 have ev_value_Value_Tree:=fun a0 r h σ=>(vaR a0 r h).c σ
 refine zr (rs:=[.cell 2 37]) tok Tryz.func249 rfl Tryz.ntmps249 rfl Tryz.call249 (by simp) ?_;refine zA [(0,.agg (zk a0))] ⟨rfl,trivial⟩ ?_;unfold zN.body at h;have f1:=Zw a0;unfold AV.one at f1
 refine rg tok [1,2] fun K hK=>?_
 simp only[go_sem,qd,qb,reduceCtorEq,zk,f1];apply hK
 refine rc [1,2,3] fun K hK=>?_
 obtain⟨r2,hr2,h⟩:=yg h;refine rnN 1 ?_;refine clN rfl rfl rfl (wC.ev a0 r2 hr2 _) ?_;refine zw tok 3 ?_;simp only[go_sem,qd,qf,qb,qe,zg];refine nkN hK ?_;refine w4 2 3 2 rfl (by simp) rfl (L:=[(1,.op 0 0 0),(2,.op 1 0 0),(3,.op 2 0 0)]) (τ:=[.cells 0 [vbV a0],.cells 0 [.int .i64 0,.int .i64 0,.str [],.ds true [] 0 true,.ds true [] 0 true],.cells 0 [.int .i64 r2,.int .i64 0,.str [],.os true 2 3 0 0 (qa ([]:List zE)) false,.ds true [] 0 true],.cells 0 (qc zu ([]:List zE))]) .s ?_;refine xC (fun L τ=>∃ (m1__13:Int) (m1__24:List UInt8) (m1__45:List xh) (l6:List zE) (v7:Nat),L=[(2,.op 0 0 0),(3,.op 1 0 0)]∧τ=([.cells 0 [.int .i64 0,.int .i64 0,.str [],.ds true (qc zu ([]:List zE)) (qa ([]:List zE)) false,.ds true (qc zx ([]:List xh)) (qa ([]:List xh)) false],.cells 0 [.int .i64 r2,.int .i64 m1__13,.str m1__24,.os true 2 2 v7 0 (qa l6) false,.ds true (qc zx m1__45) (qa m1__45) false],.cells v7 (qc zu l6)]:ze)∧zN.j8 r2 m1__13 m1__24 m1__45 l6=some r) ?_ ?_
 · refine rgN [2,3,16] ?_;apply zn
   rcases a0 with _|n9|s9|⟨e9,r9⟩
   · dsimp only at h
     try simp only[X6]
     refine rg tok [2,3,16,18,19] fun K hK=>?_
     simp only[go_sem,qd,qb,qe,xe,xg,TypeDesc.isIface];apply hK
     refine zF rfl ?_
     refine rg tok [2,3,16,23,24] fun K hK=>?_
     simp only[go_sem,qd,qb,qe,xe,xg,TypeDesc.isIface];apply hK
     refine zF rfl ?_
     refine rg tok [2,3,28,29] fun K hK=>?_
     simp only[go_sem,qd,qb,qe,xe,xg,TypeDesc.isIface];apply hK
     refine zF rfl ?_;apply zj;exact⟨_,_,⟨0,[],([]:List xh),([]:List zE),0,rfl,rfl,h⟩,(.t [1,2,3] true)⟩
   · dsimp only at h
     try simp only[X5]
     refine rg tok [2,3,16,18,19] fun K hK=>?_
     simp only[go_sem,qd,qb,qe,xe,xg,TypeDesc.isIface];apply hK
     refine zJ rfl ?_;refine rgN [2,3,4] ?_
     refine rgE tok [2,3] fun K hK=>?_
     simp only[go_sem,qd,qf,qb,qe];apply hK
     exact⟨_,_,⟨n9,[],([]:List xh),([]:List zE),0,rfl,rfl,h⟩,(.t [1,2,3] true)⟩
   · dsimp only at h
     try simp only[X4]
     refine rg tok [2,3,16,18,19] fun K hK=>?_
     simp only[go_sem,qd,qb,qe,xe,xg,TypeDesc.isIface];apply hK
     refine zF rfl ?_
     refine rg tok [2,3,16,23,24] fun K hK=>?_
     simp only[go_sem,qd,qb,qe,xe,xg,TypeDesc.isIface];apply hK
     refine zJ rfl ?_;refine rgN [2,3,5] ?_
     refine rgE tok [2,3] fun K hK=>?_
     simp only[go_sem,qd,qf,qb,qe];apply hK
     exact⟨_,_,⟨0,s9,([]:List xh),([]:List zE),0,rfl,rfl,h⟩,(.t [1,2,3] true)⟩
   dsimp only at h
   try simp only[YU]
   refine rg tok [2,3,16,18,19] fun K hK=>?_
   simp only[go_sem,qd,qb,qe,xe,xg,TypeDesc.isIface];apply hK
   refine zF rfl ?_
   refine rg tok [2,3,16,23,24] fun K hK=>?_
   simp only[go_sem,qd,qb,qe,xe,xg,TypeDesc.isIface];apply hK
   refine zF rfl ?_
   refine rg tok [2,3,28,29] fun K hK=>?_
   simp only[go_sem,qd,qb,qe,xe,xg,TypeDesc.isIface];apply hK
   refine zJ rfl ?_;refine rgN [2,3,6] ?_
   refine rc [2,3,6] fun K hK=>?_
   obtain⟨r10,hr10,h⟩:=bind_some h;refine rnN 1 ?_;refine clN rfl rfl rfl ((wo.ok hr10).c _) ?_;refine zw tok 2 ?_;simp only[go_sem,qd,qf,qb,qe,zg];refine nkN hK ?_
   refine rg tok [2,3,36,37,38] fun K hK=>?_
   simp only[go_sem,qd,qb,qe,vau];apply hK
   apply zn
   refine y5 36 fun hb17=>?_
   replace hb17:qa e9≤9223372036854775807:=hb17.1;refine yh (fun m L τ=>∃ (p17 q17:List yK) (x13:Int) (l11:List zE) (v12:Nat),m=qa q17∧L=[(2,.op 0 0 0),(3,.op 1 0 0),(36,.ds true (qc yD e9) (qa e9) false),(37,.int .i64 (qa e9:Int)),(38,.int .i64 x13)]∧τ=([.cells 0 [.int .i64 0,.int .i64 0,.str [],.ds true [] 0 true,.ds true [] 0 true],.cells 0 [.int .i64 r2,.int .i64 0,.str [],.os true 2 2 v12 0 (qa l11) false,.ds true (qc zx r10) (qa r10) false],.cells v12 (qc zu l11)]:ze)∧e9=p17++q17∧x13=(qa p17:Int)∧zN.l17 yO r2 r10 q17 x13 l11=some r) _ ⟨[],e9,0,([]:List zE),0,rfl,rfl,rfl,rfl,rfl,h⟩ (.t [1,2,3] false) ?_;rintro m L τ ⟨p17,q17,x13,l11,v12,rfl,rfl,rfl,hE17,hi17,h⟩
   rcases q17 with _|⟨y17,q17⟩
   · have hz17:=xw hE17 hi17;simp only[zN.l17] at h
     refine rg tok [2,3,36,37,38,39] fun K hK=>?_
     simp only[go_sem,qd,qb,hz17];apply hK
     refine zd fun Z18 hZ18=>?_
     refine zF rfl ?_;apply yc;exact⟨_,_,⟨0,[],r10,l11,v12,rfl,rfl,h⟩,(.t [0,1,2] true)⟩
   obtain⟨hz17,hw17,hx17,hE'17,hi'17⟩:=y3 hE17 hi17 hb17;simp only[zN.l17] at h
   refine rg tok [2,3,36,37,38,39] fun K hK=>?_
   simp only[go_sem,qd,qb,hz17];apply hK
   refine zd fun Z19 hZ19=>?_
   refine zJ rfl ?_;apply zj;apply hZ19
   refine zd fun Z20 hZ20=>?_
   apply zn;have f21:=E324.idxS hx17;have f22:=E324.loadS rfl rfl hx17
   refine rg tok [2,3,8,36,37,38] fun K hK=>?_
   simp only[go_sem,qd,qf,qb,qe,xv,xu,f21,f22];apply hK
   refine rgN [2,3,8,9,36,37,38] ?_;refine w4 4 1 5 rfl (by simp) rfl (L:=[(2,.op 0 0 0),(3,.op 1 0 0),(8,.op 3 0 0),(9,.op 4 0 0),(36,.ds true (qc yD e9) (qa e9) false),(37,.int .i64 (qa e9:Int)),(38,.int .i64 x13)]) (τ:=[.cells 0 [.int .i64 0,.int .i64 0,.str [],.ds true [] 0 true,.ds true [] 0 true],.cells 0 [.int .i64 r2,.int .i64 0,.str [],.os true 2 2 v12 0 (qa l11) false,.ds true (qc zx r10) (qa r10) false],.cells v12 (qc zu l11),.cells 0 (xv y17),.cells 0 [.int .i64 y17.ftag,.os true 5 5 0 0 (qa ([]:List zp)) false],.cells 0 (qc z2 ([]:List zp))]) .s ?_
   refine zd fun Z23 hZ23=>?_
   refine rgN [2,3,9,36,37,38,46,47,48] ?_;apply zn
   refine y5 46 fun hb30=>?_
   replace hb30:qa y17.fl≤9223372036854775807:=hb30.1;refine yh (fun m L τ=>∃ (p30 q30:List zo) (x26:Int) (l24:List zp) (v25:Nat),m=qa q30∧L=[(2,.op 0 0 0),(3,.op 1 0 0),(9,.op 3 0 0),(36,.ds true (qc yD e9) (qa e9) false),(37,.int .i64 (qa e9:Int)),(38,.int .i64 x13),(46,.ds true (qc zk y17.fl) (qa y17.fl) false),(47,.int .i64 (qa y17.fl:Int)),(48,.int .i64 x26)]∧τ=([.cells 0 [.int .i64 0,.int .i64 0,.str [],.ds true [] 0 true,.ds true [] 0 true],.cells 0 [.int .i64 r2,.int .i64 0,.str [],.os true 2 2 v12 0 (qa l11) false,.ds true (qc zx r10) (qa r10) false],.cells v12 (qc zu l11),.cells 0 [.int .i64 y17.ftag,.os true 5 4 v25 0 (qa l24) false],.cells v25 (qc z2 l24)]:ze)∧y17.fl=p30++q30∧x26=(qa p30:Int)∧zN.l30 yO x13 l11 (zN.l17 yO r2 r10 q17) y17 q30 x26 l24=some r) _ ⟨[],y17.fl,0,([]:List zp),0,rfl,rfl,rfl,rfl,rfl,h⟩ (.t [0,1,2,4,5] false) ?_;rintro m L τ ⟨p30,q30,x26,l24,v25,rfl,rfl,rfl,hE30,hi30,h⟩
   rcases q30 with _|⟨y30,q30⟩
   · have hz30:=xw hE30 hi30;simp only[zN.l30] at h
     refine rg tok [2,3,9,36,37,38,46,47,48,49] fun K hK=>?_
     simp only[go_sem,qd,qb,hz30];apply hK
     refine zd fun Z31 hZ31=>?_
     refine zF rfl ?_;apply yc;apply hZ23;obtain⟨_u32,hu32,h⟩:=bind_some h;have gu32:=xb hu32;have f33:=(zU E34.len l11)
     refine rgE tok [2,3,36,37,38] fun K hK=>?_
     simp only[go_sem,qd,qf,qb,qe,qi,zL,ym,qP,qJ,true_and,qW,yM,yl,yL,gu32,f33,xa,qV,qX,AV.one,qE,qK,qq,qu,qj,qL];apply hK
     apply hZ20
     refine rgE tok [2,3,36,37,38] fun K hK=>?_
     simp only[go_sem,qd,qb,hw17];apply hK
     exact⟨_,_,_,qx q17.length,⟨p17++[y17],q17,x13+1,l11++[(⟨y17.ftag,l24⟩:zE)],v12+1,rfl,rfl,rfl,hE'17,hi'17,h⟩,(.t [0,1,2] false)⟩
   obtain⟨hz30,hw30,hx30,hE'30,hi'30⟩:=y3 hE30 hi30 hb30;simp only[zN.l30] at h
   refine rg tok [2,3,9,36,37,38,46,47,48,49] fun K hK=>?_
   simp only[go_sem,qd,qb,hz30];apply hK
   refine zd fun Z34 hZ34=>?_
   refine zJ rfl ?_;apply zj;apply hZ34
   refine zd fun Z35 hZ35=>?_
   apply zn;have f36:=E282.idxS hx30;have f37:=E282.loadS rfl rfl hx30;have f38:=Zw y30;unfold AV.one at f38
   refine rg tok [2,3,9,11,36,37,38,46,47,48] fun K hK=>?_
   simp only[go_sem,qd,qf,qb,qe,zk,f36,f37,f38];apply hK
   obtain⟨r39,hr39,h⟩:=bind_some h;obtain⟨_u40,hu40,h⟩:=bind_some h;have gu40:=xb hu40;have f41:=(zU E38.len l24)
   refine rdE [2,3,9,36,37,38,46,47,48] fun K hK=>?_
   refine DW.start (T:=tab) [.any,.own 2 [],.at [],.eff,.eff,.eff,.any,.eff] [(2,[])] ?_;refine DW.runN tok 3 ?_;simp only[go_sem,qd,qf,qb,qe,zg,ug,qq,qu,qj];refine DW.call rfl rfl rfl (ev_value_Value_Tree y30 r39 hr39 _) ?_;refine DW.runN tok 4 ?_;simp only[go_sem,qd,qf,qb,qe,qi,zL,ym,qP,qJ,true_and,qW,yM,yl,yL,zg,gu40,f41,xa,qV,qX,AV.one,qE,qK,qq,qu,qj,qL];refine DW.fin tok (by decide +kernel) rfl ?_;simp only[zz,upd,qb,reduceIte,yS,xD];apply hK
   apply hZ35
   refine rgE tok [2,3,9,36,37,38,46,47,48] fun K hK=>?_
   simp only[go_sem,qd,qb,hw30];apply hK
   exact⟨_,_,_,qx q30.length,⟨p30++[y30],q30,x26+1,l24++[r39],v25+1,rfl,rfl,rfl,hE'30,hi'30,h⟩,(.t [0,1,2,3,4] false)⟩
 rintro _ _ ⟨m1__13,m1__24,m1__45,l6,v7,rfl,rfl,h⟩;unfold zN.j8 at h;refine rgN [2] ?_;cases h;exact rtA
def zN : Nat→zo→Option zp
 |0,_=>none
 |k+1,a0=>zN.body (zN k) a0
theorem zN.all (k:Nat):(∀ (a0:zo) (r:zp),zN k a0=some r→ACalls qg 249 [.agg (zk a0)] [] (fun r' _=>r'=.agg (zg r))):=by
 induction k with
 |zero=>exact (fun a0 r h=>by simp only[zN] at h; cases h)
 |succ k ih=>exact (fun a0 r h=>zN.step _ ih a0 r (by simpa only [zN] using h))
theorem zN.ev (k:Nat)(a0:zo)(r:zp)(h:zN k a0=some r)(σ:ze):ACalls qg 249 [.agg (zk a0)] σ (fun r' σ'=>r'=.agg (zg r)∧σ'=σ):=
 ((zN.all k) a0 r h).c σ
def wX.j5  : zo:=
 zo.nil
def wX (a0:zo):zo:=
 bnd (wI a0) fun r3=>(if r3.2=true then (zo.num r3.1) else (match a0 with|.nil=>wX.j5|.num n6=>wX.j5|.str s6=>wX.j5|.node e6 r6=>(zo.node e6 r6)))
theorem wX.ok {a0 r}(h:wX a0=r):ACalls qg 250 [.agg (zk a0)] [] (fun r' _=>r'=anyV r):=by
 refine zr (rs:=[.tmp 2]) tok Tryz.func250 rfl Tryz.ntmps250 rfl Tryz.call250 (by simp) ?_;refine zA [(0,.agg (zk a0))] ⟨rfl,trivial⟩ ?_;unfold wX at h;have f1:=Zw a0;unfold AV.one at f1
 refine rg tok [1] fun K hK=>?_
 simp only[go_sem,qd,qb,reduceCtorEq,zk,f1];apply hK
 refine zd fun Z2 hZ2=>?_
 refine rc [1,3,4] fun K hK=>?_
 obtain⟨r3,hr3,h⟩:=yg h;refine rnN 1 ?_;refine clN rfl rfl rfl ((wI.ok hr3).c _) ?_;refine rnN 5 ?_;refine nkN hK ?_;refine rgN [1,3,12] ?_;refine zT (b:=r3.2) rfl (fun hc4=>?_) (fun hc4=>?_)
 · rw[if_pos hc4] at h;refine rgN [2] ?_;cases h;exact rtA
 rw[wO hc4] at h;apply zj;apply hZ2;refine xC (fun L τ=>L=[]∧τ=([]:ze)∧wX.j5=r) ?_ ?_
 · rcases a0 with _|n6|s6|⟨e6,r6⟩
   · dsimp only at h
     try simp only[X6]
     refine rc [5,6] fun K hK=>?_
     refine rnN 1 ?_;refine clN rfl rfl rfl (asNode_nil    _) ?_;refine rnN 5 ?_;refine nkN hK ?_;refine rgN [5,20] ?_;refine zF rfl ?_;apply zj;exact⟨_,_,⟨rfl,rfl,h⟩,(.t [] false)⟩
   · dsimp only at h
     try simp only[X5]
     refine rc [5,6] fun K hK=>?_
     refine rnN 1 ?_;refine clN rfl rfl rfl (asNode_num n6   _) ?_;refine rnN 5 ?_;refine nkN hK ?_;refine rgN [5,20] ?_;refine zF rfl ?_;apply zj;exact⟨_,_,⟨rfl,rfl,h⟩,(.t [] false)⟩
   · dsimp only at h
     try simp only[X4]
     refine rc [5,6] fun K hK=>?_
     refine rnN 1 ?_;refine clN rfl rfl rfl (asNode_str s6   _) ?_;refine rnN 5 ?_;refine nkN hK ?_;refine rgN [5,20] ?_;refine zF rfl ?_;apply zj;exact⟨_,_,⟨rfl,rfl,h⟩,(.t [] false)⟩
   dsimp only at h
   try simp only[YU]
   refine rc [5,6] fun K hK=>?_
   refine rnN 1 ?_;refine clN rfl rfl rfl (asNode_node e6 r6   _) ?_;refine rnN 5 ?_;refine nkN hK ?_;refine rgN [5,20] ?_;refine zJ rfl ?_;refine rgN [2] ?_;cases h;exact rtA
 rintro _ _ ⟨rfl,rfl,h⟩;unfold wX.j5 at h;refine rgN [2] ?_;cases h;exact rtA
def Zv (a0:Int):Int:=
 (if (-2147483648)<(if 2147483647<a0 then 2147483647 else a0) then (if 2147483647<a0 then 2147483647 else a0) else (-2147483648))
theorem Zv.ok {a0 r}(h:Zv a0=r):ACalls qg 208 [.int .i64 a0] [] (fun r' _=>r'=.int .i64 r):=by
 refine zr (rs:=[.tmp 2]) tok Tryz.func208 rfl Tryz.ntmps208 rfl Tryz.call208 (by simp) ?_;refine zA [(0,.int .i64 a0)] ⟨rfl,trivial⟩ ?_;unfold Zv at h;refine rgN [0] ?_
 refine rg tok [2] fun K hK=>?_
 simp only[go_sem,qd,qb,reduceCtorEq,vbf,foldO,vbL,vbM];apply hK
 cases h;exact rtA
def z7.j19 (x8:Int)(rec13:Int→zI→List zE→Option (zp×zI))(m0_16:zI)(l17:List zE):Option (zp×zI):=
 (rec13 (x8+1) m0_16 l17)
def z7.l13 (yF:zI→wB→(List zo)→Option (List zp×zI))(a2:ya):List wB→Int→zI→List zE→Option (zp×zI)
 |[],x8,m0_5,l6=>some ((⟨3,0,[],l6,([]:List xh)⟩:zp),m0_5)
 |y13::q13,x8,m0_5,l6=>(xT a2 y13.fTag).bind fun r22=>(if (qa r22:Int)=0 then (z7.j19 x8 (z7.l13 yF a2 q13) (⟨m0_5.fp,IntKind.i64.wrap (m0_5.flooks+1)⟩:zI) l6) else (yF (⟨m0_5.fp,IntKind.i64.wrap (m0_5.flooks+1)⟩:zI) y13 r22).bind fun r27=>(if 0<(qa r27.1:Int) then (vac (qa l6+1) 32).bind fun _u30=>(z7.j19 x8 (z7.l13 yF a2 q13) r27.2 (l6++[(⟨y13.fTag,r27.1⟩:zE)])) else (z7.j19 x8 (z7.l13 yF a2 q13) r27.2 l6)))
def z7.body (zV:zI→Int→ya→Option (zp×zI))(yF:zI→wB→(List zo)→Option (List zp×zI))(a0:zI)(a1:Int)(a2:ya):Option (zp×zI):=
 (Xe a0.fp.fParts a1).bind fun y2=>(z7.l13 yF a2 y2 0 a0 ([]:List zE))
theorem z7.step (zV:zI→Int→ya→Option (zp×zI))(yF:zI→wB→(List zo)→Option (List zp×zI))(Xv:∀ (a0:zI) (a1:Int) (a2:ya) (r:zp×zI),zV a0 a1 a2=some r→ACalls qg 199 [.op 0 0 0,.int .i64 a1,.dp (zH a2) 0] [.cells 0 (zP a0)] (fun r' σ'=>r'=.agg (zg r.1)∧σ'=[.cells 0 (zP r.2)]))(Xu:∀ (a0:zI) (a1:wB) (a2:List zo) (r:List zp×zI),yF a0 a1 a2=some r→ACalls qg 237 [.op 0 0 0,.agg (yr a1),.ds true (qc zk a2) (qa a2) false] [.cells 0 (zP a0)] (fun r' σ'=>r'=.ds true (qc z2 r.1) (qa r.1) false∧σ'=[.cells 0 (zP r.2)]))(a0:zI)(a1:Int)(a2:ya)(r:zp×zI)(h:z7.body zV yF a0 a1 a2=some r):ACalls qg 199 [.op 0 0 0,.int .i64 a1,.dp (zH a2) 0] [.cells 0 (zP a0)] (fun r' σ'=>r'=.agg (zg r.1)∧σ'=[.cells 0 (zP r.2)]):=by
 refine w5 [0] (rs:=[.cell 6 37]) tok Tryz.func199 rfl Tryz.ntmps199 rfl Tryz.call199 (by simp) rfl ?_;refine zA [(0,.op 0 0 0),(1,.int .i64 a1),(2,.dp (zH a2) 0)] ⟨rfl,rfl,rfl,trivial⟩ ?_;unfold z7.body at h;refine rgN [0,1,2,6] ?_;refine rgN [0,1,2,6,7] ?_;refine w4 2 3 2 rfl (by simp) rfl (L:=[(0,.op 0 0 0),(1,.int .i64 a1),(2,.dp (zH a2) 0),(6,.op 1 0 0),(7,.op 2 0 0)]) (τ:=[.cells 0 (zP a0),.cells 0 [.int .i64 0,.int .i64 0,.str [],.ds true [] 0 true,.ds true [] 0 true],.cells 0 [.int .i64 3,.int .i64 0,.str [],.os true 2 3 0 0 (qa ([]:List zE)) false,.ds true [] 0 true],.cells 0 (qc zu ([]:List zE))]) .s ?_
 refine zd fun Z1 hZ1=>?_
 obtain⟨y2,hy2,h⟩:=bind_some h;have f3:=E176.idxS hy2;have f4:=E176.fldS0 (f:=246) rfl rfl hy2
 refine rg tok [0,2,6,7,20,21,22] fun K hK=>?_
 simp only[go_sem,qd,qb,qe,reduceCtorEq,Xh,f3,f4];apply hK
 apply zn
 refine y5 20 fun hb13=>?_
 replace hb13:qa y2≤9223372036854775807:=hb13.1;refine yh (fun m L τ=>∃ (p13 q13:List wB) (x8:Int) (m0_5:zI) (l6:List zE) (v7:Nat),m=qa q13∧L=[(0,.op 0 0 0),(2,.dp (zH a2) 0),(6,.op 1 0 0),(7,.op 2 0 0),(20,.ds true (qc yr y2) (qa y2) false),(21,.int .i64 (qa y2:Int)),(22,.int .i64 x8)]∧τ=([.cells 0 (zP m0_5),.cells 0 [.int .i64 0,.int .i64 0,.str [],.ds true [] 0 true,.ds true [] 0 true],.cells 0 [.int .i64 3,.int .i64 0,.str [],.os true 2 3 v7 0 (qa l6) false,.ds true [] 0 true],.cells v7 (qc zu l6)]:ze)∧y2=p13++q13∧x8=(qa p13:Int)∧z7.l13 yF a2 q13 x8 m0_5 l6=some r) _ ⟨[],y2,0,a0,([]:List zE),0,rfl,rfl,rfl,rfl,rfl,h⟩ .s ?_;rintro m L τ ⟨p13,q13,x8,m0_5,l6,v7,rfl,rfl,rfl,hE13,hi13,h⟩
 rcases q13 with _|⟨y13,q13⟩
 · have hz13:=xw hE13 hi13;simp only[z7.l13] at h
   refine rg tok [0,2,6,7,20,21,22,23] fun K hK=>?_
   simp only[go_sem,qd,qb,reduceCtorEq,hz13];apply hK
   refine zd fun Z14 hZ14=>?_
   refine zF rfl ?_;apply yc;apply hZ1;refine rgN [6] ?_;apply zY;cases h;simp only[w7,yy,yI,xq,exists_eq_left',go_sem,qf,qe,zg];refine⟨by decide,by simp,?_,?_⟩
   · first|rfl|(simp only[go_sem,reduceCtorEq,push_cast,if_true,qw,qj,qn,qk,qo,qs,qr,zt]<;>rfl)
   first|rfl|(simp only[go_sem,push_cast,qn,qk,qo,qs,qr,zt]<;>rfl)
 obtain⟨hz13,hw13,hx13,hE'13,hi'13⟩:=y3 hE13 hi13 hb13;simp only[z7.l13] at h
 refine rg tok [0,2,6,7,20,21,22,23] fun K hK=>?_
 simp only[go_sem,qd,qb,reduceCtorEq,hz13];apply hK
 refine zd fun Z15 hZ15=>?_
 refine zJ rfl ?_;apply zj;apply hZ15;refine xC (fun L τ=>∃ (m0_16:zI) (l17:List zE) (v18:Nat),L=[(0,.op 0 0 0),(2,.dp (zH a2) 0),(6,.op 1 0 0),(7,.op 2 0 0),(20,.ds true (qc yr y2) (qa y2) false),(21,.int .i64 (qa y2:Int)),(22,.int .i64 x8)]∧τ=([.cells 0 (zP m0_16),.cells 0 [.int .i64 0,.int .i64 0,.str [],.ds true [] 0 true,.ds true [] 0 true],.cells 0 [.int .i64 3,.int .i64 0,.str [],.os true 2 3 v18 0 (qa l17) false,.ds true [] 0 true],.cells v18 (qc zu l17)]:ze)∧z7.j19 x8 (z7.l13 yF a2 q13) m0_16 l17=some r) ?_ ?_
 · apply zn;have f20:=E246.idxS hx13;have f21:=E246.loadS rfl rfl hx13
   refine rg tok [0,2,6,7,9,20,21,22] fun K hK=>?_
   simp only[go_sem,qd,qf,qb,qe,reduceCtorEq,yr,f20,f21];apply hK
   refine rgN [0,2,6,7,9,20,21,22] ?_
   refine rc [0,2,6,7,9,10,20,21,22] fun K hK=>?_
   obtain⟨r22,hr22,h⟩:=bind_some h;refine rnN 3 ?_;refine clN rfl rfl rfl ((xT.ok hr22).c _) ?_;refine rnN 1 ?_;refine nkN hK ?_
   refine zd fun Z23 hZ23=>?_
   refine rgN [0,2,6,7,9,10,20,21,22,39] ?_;refine yf rfl (fun hc24=>?_) (fun hc24=>?_)
   · rw[if_pos hc24] at h;have t25:=eq_true hc24;apply yc;exact⟨_,_,⟨(⟨m0_5.fp,IntKind.i64.wrap (m0_5.flooks+1)⟩:zI),l6,v7,rfl,rfl,h⟩,(.t [0,1,2,3] false)⟩
   rw[if_neg hc24] at h;have t26:=eq_false hc24;apply zj;apply hZ23
   refine rc [0,2,6,7,9,11,20,21,22] fun K hK=>?_
   obtain⟨r27,hr27,h⟩:=bind_some h;refine zw tok 3 ?_;simp only[go_sem,qd,qf,qb,qe,reduceCtorEq,t26];refine clN rfl rfl rfl (@id (ACalls qg 237 [.op 0 0 0,.agg (yr y13),.ds true (qc zk r22) (qa r22) false] [.cells 0 [.ds true (qc (Xh yr) m0_5.fp.fParts) (qa m0_5.fp.fParts) false,.int .i64 (IntKind.i64.wrap (m0_5.flooks+1))],.cells 0 [.int .i64 0,.int .i64 0,.str [],.ds true [] 0 true,.ds true [] 0 true],.cells 0 [.int .i64 3,.int .i64 0,.str [],.os true 2 3 v7 0 (qa l6) false,.ds true [] 0 true],.cells v7 (qc zu l6),.cells 0 [.int .i64 y13.fOp,.int .i64 y13.fTag,.int .i64 y13.fSub]] (fun r' σ'=>r'=.ds true (qc z2 r27.1) (qa r27.1) false∧σ'=[.cells 0 (zP r27.2),.cells 0 [.int .i64 0,.int .i64 0,.str [],.ds true [] 0 true,.ds true [] 0 true],.cells 0 [.int .i64 3,.int .i64 0,.str [],.os true 2 3 v7 0 (qa l6) false,.ds true [] 0 true],.cells v7 (qc zu l6),.cells 0 [.int .i64 y13.fOp,.int .i64 y13.fTag,.int .i64 y13.fSub]])) ((Xu (⟨m0_5.fp,IntKind.i64.wrap (m0_5.flooks+1)⟩:zI) y13 r22 r27 hr27).i [0])) ?_;refine rnN 1 ?_;refine nkN hK ?_;refine rgN [0,2,6,7,9,11,20,21,22,46] ?_;refine yf rfl (fun hc28=>?_) (fun hc28=>?_)
   · rw[if_pos hc28] at h;have t29:=eq_true hc28;obtain⟨_u30,hu30,h⟩:=bind_some h;have gu30:=xb hu30;have f31:=(zU E34.len l6)
     refine rgE tok [0,2,6,7,20,21,22] fun K hK=>?_
     simp only[go_sem,qd,qf,qb,qe,qi,reduceCtorEq,zL,ym,qP,qJ,true_and,qW,yM,yl,yL,t29,gu30,f31,xa,qV,qX,AV.one,qE,qK,qq,qu,qj,qL];apply hK
     exact⟨_,_,⟨r27.2,l6++[(⟨y13.fTag,r27.1⟩:zE)],v7+1,rfl,rfl,h⟩,(.t [0,1,2,3] false)⟩
   rw[if_neg hc28] at h;have t32:=eq_false hc28;apply zj;exact⟨_,_,⟨r27.2,l6,v7,rfl,rfl,h⟩,(.t [0,1,2,3] false)⟩
 rintro _ _ ⟨m0_16,l17,v18,rfl,rfl,h⟩;unfold z7.j19 at h
 refine rgE tok [0,2,6,7,20,21,22] fun K hK=>?_
 simp only[go_sem,qd,qb,reduceCtorEq,hw13];apply hK
 exact⟨_,_,_,qx q13.length,⟨p13++[y13],q13,x8+1,m0_16,l17,v18,rfl,rfl,rfl,hE'13,hi'13,h⟩,.s⟩
def zS.j22 (x7:Int)(l5:List zp)(rec12:Int→zI→List zp→Option (List zp×zI))(m0_20:zI)(m3_21:zp):Option (List zp×zI):=
 (vac (qa l5+1) 80).bind fun _u23=>(rec12 (x7+1) m0_20 (l5++[m3_21]))
def zS.j36 (zV:zI→Int→ya→Option (zp×zI))(a1:wB)(x7:Int)(m0_4:zI)(l5:List zp)(rec12:Int→zI→List zp→Option (List zp×zI))(r19:zp)(r25:zo)(x35:Bool):Option (List zp×zI):=
 (if x35=true then (match r25 with|.nil=>some (([]:List zp),m0_4)|.num n38=>some (([]:List zp),m0_4)|.str s38=>some (([]:List zp),m0_4)|.node e38 r38=>(zV m0_4 a1.fSub (⟨e38,r38⟩:ya)).bind fun r43=>(if ((decide (a1.fOp=4))&&(decide ((qa r43.1.fEntries:Int)=0)))=true then some (([]:List zp),r43.2) else (zS.j22 x7 l5 rec12 r43.2 r43.1))) else (zS.j22 x7 l5 rec12 m0_4 r19))
end
section
set_option maxRecDepth 4000
set_option maxHeartbeats 1000000
open AM
def zS.l12 (zV:zI→Int→ya→Option (zp×zI))(a1:wB):List zo→Int→zI→List zp→Option (List zp×zI)
 |[],x7,m0_4,l5=>some (l5,m0_4)
 |y12::q12,x7,m0_4,l5=>(zN xK y12).bind fun r19=>bnd (wX y12) fun r25=>(if a1.fOp=2 then (match r25 with|.nil=>some (([]:List zp),m0_4)|.num n28=>bnd (Zv n28) fun r31=>(zS.j22 x7 l5 (zS.l12 zV a1 q12) m0_4 (⟨r19.fKind,r31,r19.fS,r19.fEntries,r19.fRest⟩:zp))|.str s28=>some (([]:List zp),m0_4)|.node e28 r28=>some (([]:List zp),m0_4)) else (if a1.fOp=3 then (zS.j36 zV a1 x7 m0_4 l5 (zS.l12 zV a1 q12) r19 r25 (decide (a1.fOp=3))) else (zS.j36 zV a1 x7 m0_4 l5 (zS.l12 zV a1 q12) r19 r25 (decide (a1.fOp=4)))))
def zS.j2 (zV:zI→Int→ya→Option (zp×zI))(a0:zI)(a1:wB)(x1:List zo):Option (List zp×zI):=
 (zS.l12 zV a1 x1 0 a0 ([]:List zp))
def zS.body (zV:zI→Int→ya→Option (zp×zI))(yF:zI→wB→(List zo)→Option (List zp×zI))(a0:zI)(a1:wB)(a2:List zo):Option (List zp×zI):=
 (if a1.fOp=4 then (grd ((0:Int)≤IntKind.i64.wrap ((qa a2:Int)-1)∧IntKind.i64.wrap ((qa a2:Int)-1)≤(qa a2:Int)∧(qa a2:Int)≤(qa a2:Int))).bind fun _u52=>(zS.j2 zV a0 a1 (vbC a2 (IntKind.i64.wrap ((qa a2:Int)-1)) (qa a2:Int))) else (zS.j2 zV a0 a1 a2))
theorem zS.step (zV:zI→Int→ya→Option (zp×zI))(yF:zI→wB→(List zo)→Option (List zp×zI))(Xv:∀ (a0:zI) (a1:Int) (a2:ya) (r:zp×zI),zV a0 a1 a2=some r→ACalls qg 199 [.op 0 0 0,.int .i64 a1,.dp (zH a2) 0] [.cells 0 (zP a0)] (fun r' σ'=>r'=.agg (zg r.1)∧σ'=[.cells 0 (zP r.2)]))(Xu:∀ (a0:zI) (a1:wB) (a2:List zo) (r:List zp×zI),yF a0 a1 a2=some r→ACalls qg 237 [.op 0 0 0,.agg (yr a1),.ds true (qc zk a2) (qa a2) false] [.cells 0 (zP a0)] (fun r' σ'=>r'=.ds true (qc z2 r.1) (qa r.1) false∧σ'=[.cells 0 (zP r.2)]))(a0:zI)(a1:wB)(a2:List zo)(r:List zp×zI)(h:zS.body zV yF a0 a1 a2=some r):ACalls qg 237 [.op 0 0 0,.agg (yr a1),.ds true (qc zk a2) (qa a2) false] [.cells 0 (zP a0)] (fun r' σ'=>r'=.ds true (qc z2 r.1) (qa r.1) false∧σ'=[.cells 0 (zP r.2)]):=by
 refine w5 [0] (rs:=[.tmp 6]) tok Tryz.func237 rfl Tryz.ntmps237 rfl Tryz.call237 (by simp) rfl ?_;refine zA [(0,.op 0 0 0),(1,.agg (yr a1)),(2,.ds true (qc zk a2) (qa a2) false)] ⟨rfl,rfl,rfl,trivial⟩ ?_;unfold zS.body at h
 refine rg tok [0,2,4] fun K hK=>?_
 simp only[go_sem,qd,qb,qe,reduceCtorEq,yr];apply hK
 refine rgN [0,2,4,7] ?_;refine YW 7 5 rfl ?_;refine y0 (L:=[(0,.op 0 0 0),(2,.ds true (qc zk a2) (qa a2) false),(4,.op 1 0 0),(7,.os true 5 2 0 0 (qa ([]:List zp)) false)]) (τ:=[.cells 0 (zP a0),.cells 0 [.int .i64 a1.fOp,.int .i64 a1.fTag,.int .i64 a1.fSub],.cells 0 (qc z2 ([]:List zp))]) .s ?_;refine xC (fun L τ=>∃ (x1:List zo),L=[(0,.op 0 0 0),(2,.ds true (qc zk x1) (qa x1) false),(4,.op 1 0 0),(7,.os true 5 2 0 0 (qa ([]:List zp)) false)]∧τ=([.cells 0 (zP a0),.cells 0 [.int .i64 a1.fOp,.int .i64 a1.fTag,.int .i64 a1.fSub],.cells 0 (qc z2 ([]:List zp))]:ze)∧zS.j2 zV a0 a1 x1=some r) ?_ ?_
 · refine rgN [0,2,4,7,18] ?_;refine yf rfl (fun hc50=>?_) (fun hc50=>?_)
   · rw[if_pos hc50] at h;have t51:=eq_true hc50;obtain⟨_u52,hu52,h⟩:=bind_some h;have gu52:=wA hu52;have f53:=E282.sl_lo gu52
     refine rgE tok [0,2,4,7] fun K hK=>?_
     simp only[go_sem,qd,qb,reduceCtorEq,t51,f53];apply hK
     exact⟨_,_,⟨vbC a2 (IntKind.i64.wrap ((qa a2:Int)-1)) (qa a2:Int),rfl,rfl,h⟩,.s⟩
   rw[if_neg hc50] at h;have t54:=eq_false hc50;apply zj;exact⟨_,_,⟨a2,rfl,rfl,h⟩,.s⟩
 rintro _ _ ⟨x1,rfl,rfl,h⟩;unfold zS.j2 at h
 refine zd fun Z3 hZ3=>?_
 refine rgN [0,4,7,24,25,26] ?_;apply zn
 refine y5 24 fun hb12=>?_
 replace hb12:qa x1≤9223372036854775807:=hb12.1;refine yh (fun m L τ=>∃ (p12 q12:List zo) (x7:Int) (m0_4:zI) (l5:List zp) (v6:Nat),m=qa q12∧L=[(0,.op 0 0 0),(4,.op 1 0 0),(7,.os true 5 2 v6 0 (qa l5) false),(24,.ds true (qc zk x1) (qa x1) false),(25,.int .i64 (qa x1:Int)),(26,.int .i64 x7)]∧τ=([.cells 0 (zP m0_4),.cells 0 [.int .i64 a1.fOp,.int .i64 a1.fTag,.int .i64 a1.fSub],.cells v6 (qc z2 l5)]:ze)∧x1=p12++q12∧x7=(qa p12:Int)∧zS.l12 zV a1 q12 x7 m0_4 l5=some r) _ ⟨[],x1,0,a0,([]:List zp),0,rfl,rfl,rfl,rfl,rfl,h⟩ .s ?_;rintro m L τ ⟨p12,q12,x7,m0_4,l5,v6,rfl,rfl,rfl,hE12,hi12,h⟩
 rcases q12 with _|⟨y12,q12⟩
 · have hz12:=xw hE12 hi12;simp only[zS.l12] at h
   refine rg tok [0,4,7,24,25,26,27] fun K hK=>?_
   simp only[go_sem,qd,qb,reduceCtorEq,hz12];apply hK
   refine zd fun Z13 hZ13=>?_
   refine zF rfl ?_;apply yc;apply hZ3;refine rgN [6] ?_;apply zY;cases h;simp only[w7,yy,yI,xq,exists_eq_left',go_sem,qe];refine⟨by decide,by simp,?_,?_⟩
   · first|rfl|(simp only[go_sem,reduceCtorEq,push_cast,if_true,qw,qj,zt]<;>rfl)
   first|rfl|(simp only[go_sem,push_cast,qn,qk,qo,qs,qr,zt]<;>rfl)
 obtain⟨hz12,hw12,hx12,hE'12,hi'12⟩:=y3 hE12 hi12 hb12;simp only[zS.l12] at h
 refine rg tok [0,4,7,24,25,26,27] fun K hK=>?_
 simp only[go_sem,qd,qb,reduceCtorEq,hz12];apply hK
 refine zd fun Z14 hZ14=>?_
 refine zJ rfl ?_;apply zj;apply hZ14
 refine zd fun Z15 hZ15=>?_
 apply zn;have f16:=E282.idxS hx12;have f17:=E282.loadS rfl rfl hx12;have f18:=Zw y12;unfold AV.one at f18
 refine rg tok [0,4,7,9,24,25,26] fun K hK=>?_
 simp only[go_sem,qd,qf,qb,qe,reduceCtorEq,zk,f16,f17,f18];apply hK
 refine rc [0,4,7,9,10,24,25,26] fun K hK=>?_
 obtain⟨r19,hr19,h⟩:=bind_some h;refine rnN 1 ?_;refine clN rfl rfl rfl (zN.ev xK y12 r19 hr19 _) ?_;refine zw tok 2 ?_;simp only[go_sem,qd,qf,qb,qe,reduceCtorEq,zg];refine nkN hK ?_;refine xC (fun L τ=>∃ (m0_20:zI) (m3_21:zp),L=[(0,.op 0 0 0),(4,.op 1 0 0),(7,.os true 5 2 v6 0 (qa l5) false),(10,.op 3 0 0),(24,.ds true (qc zk x1) (qa x1) false),(25,.int .i64 (qa x1:Int)),(26,.int .i64 x7)]∧τ=([.cells 0 (zP m0_20),.cells 0 [.int .i64 a1.fOp,.int .i64 a1.fTag,.int .i64 a1.fSub],.cells v6 (qc z2 l5),.cells 0 (zg m3_21)]:ze)∧zS.j22 x7 l5 (zS.l12 zV a1 q12) m0_20 m3_21=some r) ?_ ?_
 · refine rc [0,4,7,10,11,24,25,26] fun K hK=>?_
   obtain⟨r25,hr25,h⟩:=yg h;refine rnN 1 ?_;refine clN rfl rfl rfl ((wX.ok hr25).c _) ?_;refine rnN 1 ?_;refine nkN hK ?_;refine rgN [0,4,7,10,11,24,25,26,35] ?_;apply zn;refine rgN [0,4,7,10,11,24,25,26,35,36] ?_;refine yf rfl (fun hc26=>?_) (fun hc26=>?_)
   · rw[if_pos hc26] at h;have t27:=eq_true hc26
     rcases r25 with _|n28|s28|⟨e28,r28⟩
     · dsimp only at h
       try simp only[vb3]
       refine rg tok [0,4,7,10,12,13,24,25,26] fun K hK=>?_
       simp only[go_sem,qd,qb,qe,reduceCtorEq,t27,xe,xg,TypeDesc.isIface];apply hK
       refine zd fun Z29 hZ29=>?_
       refine rgN [0,4,7,10,12,24,25,26,44] ?_;refine zJ rfl ?_;refine rgN [6] ?_;apply zY;cases h;simp only[w7,yy,yI,xq,exists_eq_left',go_sem,qe];refine⟨by decide,by simp,?_,?_⟩
       · first|rfl|(simp only[go_sem,qd,qf,qb,qe,qi,ql,reduceIte,reduceCtorEq,push_cast,if_true,qw,qj,qn,qk,qz,qo,qH,qC,qs,qr,qp,zt,zg,zO,zP,yi]<;>rfl)
       first|rfl|(simp only[go_sem,push_cast,qn,qk,qo,qs,qr,zt]<;>rfl)
     · dsimp only at h
       try simp only[vb2]
       refine rg tok [0,4,7,10,12,13,24,25,26] fun K hK=>?_
       simp only[go_sem,qd,qb,qe,reduceCtorEq,t27,xe,xg,TypeDesc.isIface];apply hK
       refine zd fun Z30 hZ30=>?_
       refine rgN [0,4,7,10,12,24,25,26,44] ?_;refine zF rfl ?_;apply zj;apply hZ30
       refine rcE [0,4,7,10,24,25,26] fun K hK=>?_
       obtain⟨r31,hr31,h⟩:=yg h;refine rnN 1 ?_;refine clN rfl rfl rfl ((Zv.ok hr31).c _) ?_;refine rnN 2 ?_;refine nkN hK ?_;exact⟨_,_,⟨m0_4,(⟨r19.fKind,r31,r19.fS,r19.fEntries,r19.fRest⟩:zp),rfl,rfl,h⟩,(.t [0,1,2,4] false)⟩
     · dsimp only at h
       try simp only[vb1]
       refine rg tok [0,4,7,10,12,13,24,25,26] fun K hK=>?_
       simp only[go_sem,qd,qb,qe,reduceCtorEq,t27,xe,xg,TypeDesc.isIface];apply hK
       refine zd fun Z32 hZ32=>?_
       refine rgN [0,4,7,10,12,24,25,26,44] ?_;refine zJ rfl ?_;refine rgN [6] ?_;apply zY;cases h;simp only[w7,yy,yI,xq,exists_eq_left',go_sem,qe];refine⟨by decide,by simp,?_,?_⟩
       · first|rfl|(simp only[go_sem,qd,qf,qb,qe,qi,ql,reduceIte,reduceCtorEq,push_cast,if_true,qw,qj,qn,qk,qz,qo,qH,qC,qs,qr,qp,zt,zg,zO,zP,yi]<;>rfl)
       first|rfl|(simp only[go_sem,push_cast,qn,qk,qo,qs,qr,zt]<;>rfl)
     dsimp only at h
     try simp only[vbo]
     refine rg tok [0,4,7,10,12,13,24,25,26] fun K hK=>?_
     simp only[go_sem,qd,qb,qe,reduceCtorEq,t27,xe,xg,TypeDesc.isIface];apply hK
     refine zd fun Z33 hZ33=>?_
     refine rgN [0,4,7,10,12,24,25,26,44] ?_;refine zJ rfl ?_;refine rgN [6] ?_;apply zY;cases h;simp only[w7,yy,yI,xq,exists_eq_left',go_sem,qe];refine⟨by decide,by simp,?_,?_⟩
     · first|rfl|(simp only[go_sem,qd,qf,qb,qe,qi,ql,reduceIte,reduceCtorEq,push_cast,if_true,qw,qj,qn,qk,qz,qo,qH,qC,qs,qr,qp,zt,zg,zO,zP,yi]<;>rfl)
     first|rfl|(simp only[go_sem,push_cast,qn,qk,qo,qs,qr,zt]<;>rfl)
   rw[if_neg hc26] at h;have t34:=eq_false hc26;refine xC (fun L τ=>∃ (x35:Bool),L=[(0,.op 0 0 0),(4,.op 1 0 0),(7,.os true 5 2 v6 0 (qa l5) false),(10,.op 3 0 0),(11,anyV r25),(24,.ds true (qc zk x1) (qa x1) false),(25,.int .i64 (qa x1:Int)),(26,.int .i64 x7),(48,.bool x35)]∧τ=([.cells 0 (zP m0_4),.cells 0 [.int .i64 a1.fOp,.int .i64 a1.fTag,.int .i64 a1.fSub],.cells v6 (qc z2 l5),.cells 0 (zg r19)]:ze)∧zS.j36 zV a1 x7 m0_4 l5 (zS.l12 zV a1 q12) r19 r25 x35=some r) ?_ ?_
   · refine rg tok [0,4,7,10,11,24,25,26,35,48] fun K hK=>?_
     simp only[go_sem,qd,qb,reduceCtorEq,t34];apply hK
     refine yf rfl (fun hc47=>?_) (fun hc47=>?_)
     · rw[if_pos hc47] at h;have t48:=eq_true hc47;apply zj;exact⟨_,_,⟨decide (a1.fOp=3),rfl,rfl,h⟩,(.t [0,1,2,4] false)⟩
     rw[if_neg hc47] at h;have t49:=eq_false hc47
     refine rgE tok [0,4,7,10,11,24,25,26,48] fun K hK=>?_
     simp only[go_sem,qd,qb,reduceCtorEq,t49];apply hK
     exact⟨_,_,⟨decide (a1.fOp=4),rfl,rfl,h⟩,(.t [0,1,2,4] false)⟩
   rintro _ _ ⟨x35,rfl,rfl,h⟩;unfold zS.j36 at h;refine zT (b:=x35) rfl (fun hc37=>?_) (fun hc37=>?_)
   · rw[if_pos hc37] at h
     rcases r25 with _|n38|s38|⟨e38,r38⟩
     · dsimp only at h
       try simp only[vb3]
       refine rg tok [0,4,7,10,14,15,24,25,26] fun K hK=>?_
       simp only[go_sem,qd,qb,qe,reduceCtorEq,xe,xg,TypeDesc.isIface];apply hK
       refine zd fun Z39 hZ39=>?_
       refine rgN [0,4,7,10,14,24,25,26,57] ?_;refine zJ rfl ?_;refine rgN [6] ?_;apply zY;cases h;simp only[w7,yy,yI,xq,exists_eq_left',go_sem,qe];refine⟨by decide,by simp,?_,?_⟩
       · first|rfl|(simp only[go_sem,qd,qf,qb,qe,qi,ql,reduceIte,reduceCtorEq,push_cast,if_true,qw,qj,qn,qk,qz,qo,qH,qC,qs,qr,qp,zt,zg,zO,zP,yi]<;>rfl)
       first|rfl|(simp only[go_sem,push_cast,qn,qk,qo,qs,qr,zt]<;>rfl)
     · dsimp only at h
       try simp only[vb2]
       refine rg tok [0,4,7,10,14,15,24,25,26] fun K hK=>?_
       simp only[go_sem,qd,qb,qe,reduceCtorEq,xe,xg,TypeDesc.isIface];apply hK
       refine zd fun Z40 hZ40=>?_
       refine rgN [0,4,7,10,14,24,25,26,57] ?_;refine zJ rfl ?_;refine rgN [6] ?_;apply zY;cases h;simp only[w7,yy,yI,xq,exists_eq_left',go_sem,qe];refine⟨by decide,by simp,?_,?_⟩
       · first|rfl|(simp only[go_sem,qd,qf,qb,qe,qi,ql,reduceIte,reduceCtorEq,push_cast,if_true,qw,qj,qn,qk,qz,qo,qH,qC,qs,qr,qp,zt,zg,zO,zP,yi]<;>rfl)
       first|rfl|(simp only[go_sem,push_cast,qn,qk,qo,qs,qr,zt]<;>rfl)
     · dsimp only at h
       try simp only[vb1]
       refine rg tok [0,4,7,10,14,15,24,25,26] fun K hK=>?_
       simp only[go_sem,qd,qb,qe,reduceCtorEq,xe,xg,TypeDesc.isIface];apply hK
       refine zd fun Z41 hZ41=>?_
       refine rgN [0,4,7,10,14,24,25,26,57] ?_;refine zJ rfl ?_;refine rgN [6] ?_;apply zY;cases h;simp only[w7,yy,yI,xq,exists_eq_left',go_sem,qe];refine⟨by decide,by simp,?_,?_⟩
       · first|rfl|(simp only[go_sem,qd,qf,qb,qe,qi,ql,reduceIte,reduceCtorEq,push_cast,if_true,qw,qj,qn,qk,qz,qo,qH,qC,qs,qr,qp,zt,zg,zO,zP,yi]<;>rfl)
       first|rfl|(simp only[go_sem,push_cast,qn,qk,qo,qs,qr,zt]<;>rfl)
     dsimp only at h
     try simp only[vbo]
     refine rg tok [0,4,7,10,14,15,24,25,26] fun K hK=>?_
     simp only[go_sem,qd,qb,qe,reduceCtorEq,xe,xg,TypeDesc.isIface];apply hK
     refine zd fun Z42 hZ42=>?_
     refine rgN [0,4,7,10,14,24,25,26,57] ?_;refine zF rfl ?_;apply zj;apply hZ42
     refine rc [0,4,7,10,24,25,26] fun K hK=>?_
     obtain⟨r43,hr43,h⟩:=bind_some h;refine rnN 4 ?_;refine clN rfl rfl rfl (@id (ACalls qg 199 [.op 0 0 0,.int .i64 a1.fSub,.dp [.ds true (qc yD e38) (qa e38) false,.ds true (qc zx r38) (qa r38) false] 0] [.cells 0 (zP m0_4),.cells 0 [.int .i64 a1.fOp,.int .i64 a1.fTag,.int .i64 a1.fSub],.cells v6 (qc z2 l5),.cells 0 (zg r19)] (fun r' σ'=>r'=.agg (zg r43.1)∧σ'=[.cells 0 (zP r43.2),.cells 0 [.int .i64 a1.fOp,.int .i64 a1.fTag,.int .i64 a1.fSub],.cells v6 (qc z2 l5),.cells 0 (zg r19)])) ((Xv m0_4 a1.fSub (⟨e38,r38⟩:ya) r43 hr43).i [0])) ?_;refine zw tok 1 ?_;simp only[go_sem,qf,qb,qe,reduceCtorEq,zg];refine nkN hK ?_
     refine rc [0,4,7,10,24,25,26,71] fun K hK=>?_
     refine rnN 4 ?_;refine zG 5 (fun L τ=>L=[(0,.op 0 0 0),(4,.op 1 0 0),(7,.os true 5 2 v6 0 (qa l5) false),(10,.op 3 0 0),(24,.ds true (qc zk x1) (qa x1) false),(25,.int .i64 (qa x1:Int)),(26,.int .i64 x7),(71,.bool ((decide (a1.fOp=4))&&(decide ((qa r43.1.fEntries:Int)=0))))]∧τ=([.cells 0 (zP r43.2),.cells 0 [.int .i64 a1.fOp,.int .i64 a1.fTag,.int .i64 a1.fSub],.cells v6 (qc z2 l5),.cells 0 (zg r43.1)]:ze)) ?_ ?_
     · refine xS 66 rfl (fun hg66=>?_) (fun hg66=>?_)
       · have t44:=eq_true hg66;refine rnN 5 ?_;refine zh ⟨rfl,_,_,⟨rfl,rfl⟩,.p t44⟩
       have t45:=eq_false hg66;refine rnN 5 ?_;refine zh ⟨rfl,_,_,⟨rfl,rfl⟩,.p t45⟩
     rintro _ _ ⟨rfl,rfl⟩;refine nkN hK ?_;refine zT (b:=((decide (a1.fOp=4))&&(decide ((qa r43.1.fEntries:Int)=0)))) rfl (fun hc46=>?_) (fun hc46=>?_)
     · rw[if_pos hc46] at h;refine rgN [6] ?_;apply zY;cases h;simp only[w7,yy,yI,xq,exists_eq_left',go_sem,qe];refine⟨by decide,by simp,?_,?_⟩
       · first|rfl|(simp only[go_sem,qd,qf,qb,qe,qi,ql,reduceIte,reduceCtorEq,push_cast,if_true,qw,qj,qn,qk,qz,qo,qH,qC,qs,qr,qp,zt,zg,zO,zP,yi]<;>rfl)
       first|rfl|(simp only[go_sem,push_cast,qn,qk,qo,qs,qr,zt]<;>rfl)
     rw[wO hc46] at h;apply zj;exact⟨_,_,⟨r43.2,r43.1,rfl,rfl,h⟩,.s⟩
   rw[wO hc37] at h;apply zj;exact⟨_,_,⟨m0_4,r19,rfl,rfl,h⟩,.s⟩
 rintro _ _ ⟨m0_20,m3_21,rfl,rfl,h⟩;unfold zS.j22 at h;obtain⟨_u23,hu23,h⟩:=bind_some h;have gu23:=xb hu23;have f24:=(zU E38.len l5)
 refine rgE tok [0,4,7,24,25,26] fun K hK=>?_
 simp only[go_sem,qd,qf,qb,qe,qi,reduceCtorEq,zL,ym,qP,qJ,true_and,qW,yM,yl,yL,gu23,f24,xa,qV,qX,AV.one,qE,qK,qq,qu,qj,qL];apply hK
 apply hZ15
 refine rgE tok [0,4,7,24,25,26] fun K hK=>?_
 simp only[go_sem,qd,qb,reduceCtorEq,hw12];apply hK
 exact⟨_,_,_,qx q12.length,⟨p12++[y12],q12,x7+1,m0_20,l5++[m3_21],v6+1,rfl,rfl,rfl,hE'12,hi'12,h⟩,(.t [0,1,2] false)⟩
mutual
def z7 : Nat→zI→Int→ya→Option (zp×zI)
 |0,_,_,_=>none
 |k+1,a0,a1,a2=>z7.body (z7 k) (zS k) a0 a1 a2
def zS : Nat→zI→wB→(List zo)→Option (List zp×zI)
 |0,_,_,_=>none
 |k+1,a0,a1,a2=>zS.body (z7 k) (zS k) a0 a1 a2
end
theorem z7.all (k:Nat):(∀ (a0:zI) (a1:Int) (a2:ya) (r:zp×zI),z7 k a0 a1 a2=some r→ACalls qg 199 [.op 0 0 0,.int .i64 a1,.dp (zH a2) 0] [.cells 0 (zP a0)] (fun r' σ'=>r'=.agg (zg r.1)∧σ'=[.cells 0 (zP r.2)]))∧(∀ (a0:zI) (a1:wB) (a2:List zo) (r:List zp×zI),zS k a0 a1 a2=some r→ACalls qg 237 [.op 0 0 0,.agg (yr a1),.ds true (qc zk a2) (qa a2) false] [.cells 0 (zP a0)] (fun r' σ'=>r'=.ds true (qc z2 r.1) (qa r.1) false∧σ'=[.cells 0 (zP r.2)])):=by
 induction k with
 |zero=>exact⟨(fun a0 a1 a2 r h=>by simp only[z7] at h; cases h),(fun a0 a1 a2 r h=>by simp only[zS] at h; cases h)⟩
 |succ k ih=>exact⟨(fun a0 a1 a2 r h=>z7.step _ _ ih.1 ih.2 a0 a1 a2 r (by simpa only [z7] using h)),(fun a0 a1 a2 r h=>zS.step _ _ ih.1 ih.2 a0 a1 a2 r (by simpa only [zS] using h))⟩
theorem z7.ok {k a0 a1 a2 r}(h:z7 k a0 a1 a2=some r):ACalls qg 199 [.op 0 0 0,.int .i64 a1,.dp (zH a2) 0] [.cells 0 (zP a0)] (fun r' σ'=>r'=.agg (zg r.1)∧σ'=[.cells 0 (zP r.2)]):=(z7.all k).1 a0 a1 a2 r h
def YT (a0:xF)(a1:zp):Option (zp×Int×Int):=
 bnd (xV a0) fun r2=>(if ((!r2)||(!(decide (a1.fKind=3))))=true then some ((⟨0,0,[],([]:List zE),([]:List xh)⟩:zp),0,1) else (XY a1).bind fun r4=>(if (!r4.2)=true then some ((⟨0,0,[],([]:List zE),([]:List xh)⟩:zp),0,1) else (xE r4.1).bind fun r8=>(z7 xK (⟨a0,0⟩:zI) 0 r8).bind fun r9=>some (r9.1,r9.2.flooks,0)))
theorem YT.ok {a0 a1 r}(h:YT a0 a1=some r):ACalls qg 152 [.agg (zO a0),.agg (zg a1)] [] (fun r' _=>r'=.tup [.agg (zg r.1),.int .i64 r.2.1,.int .i64 r.2.2]):=by
 refine zr (rs:=[.cell 4 37,.tmp 5,.tmp 6]) tok Tryz.func152 rfl Tryz.ntmps152 rfl Tryz.call152 (by simp) ?_;refine zA [(0,.agg (zO a0)),(1,.agg (zg a1))] ⟨rfl,rfl,trivial⟩ ?_;unfold YT at h
 refine rg tok [2,3,4] fun K hK=>?_
 simp only[go_sem,qd,qb,qe,reduceCtorEq,zg,zO];apply hK
 refine zd fun Z1 hZ1=>?_
 refine rc [2,3,4,18] fun K hK=>?_
 obtain⟨r2,hr2,h⟩:=yg h;refine rnN 1 ?_;refine clN rfl rfl rfl ((xV.ok hr2).c _) ?_;refine rnN 2 ?_;refine zG 4 (fun L τ=>L=[(2,.op 0 0 0),(3,.op 1 0 0),(4,.op 2 0 0),(18,.bool ((!r2)||(!(decide (a1.fKind=3)))))]∧τ=([.cells 0 (zO a0),.cells 0 (zg a1),.cells 0 [.int .i64 0,.int .i64 0,.str [],.ds true [] 0 true,.ds true [] 0 true]]:ze)) ?_ ?_
 · refine yv (b:=(!r2)) 14 rfl (fun hg14=>?_) (fun hg14=>?_)
   · refine rnN 4 ?_;refine zh ⟨rfl,_,_,⟨rfl,rfl⟩,.b hg14⟩
   refine rnN 4 ?_;refine zh ⟨rfl,_,_,⟨rfl,rfl⟩,.b hg14⟩
 rintro _ _ ⟨rfl,rfl⟩;refine nkN hK ?_;refine zT (b:=((!r2)||(!(decide (a1.fKind=3))))) rfl (fun hc3=>?_) (fun hc3=>?_)
 · rw[if_pos hc3] at h;refine rgN [4,5,6] ?_;cases h;exact rtA
 rw[wO hc3] at h;apply zj;apply hZ1
 refine rc [2,4,7,8] fun K hK=>?_
 obtain⟨r4,hr4,h⟩:=bind_some h;refine zw tok 1 ?_;simp only[go_sem,qd,qf,qb,qe,zg];refine clN rfl rfl rfl ((XY.ok hr4).c _) ?_;have f5:=Zw r4.1;unfold AV.one at f5;refine zw tok 6 ?_;simp only[go_sem,qd,qf,qb,qe,zk,f5];refine nkN hK ?_
 refine zd fun Z6 hZ6=>?_
 refine rgN [2,4,7,26] ?_;refine zT (b:=(!r4.2)) rfl (fun hc7=>?_) (fun hc7=>?_)
 · rw[if_pos hc7] at h;refine rgN [4,5,6] ?_;cases h;exact rtA
 rw[wO hc7] at h;apply zj;apply hZ6;refine rgN [4,7,9] ?_
 refine rc [4,9,10] fun K hK=>?_
 obtain⟨r8,hr8,h⟩:=bind_some h;refine rnN 2 ?_;refine clN rfl rfl rfl ((xE.ok hr8).c _) ?_;obtain⟨r9,hr9,h⟩:=bind_some h;refine clN rfl rfl rfl (@id (ACalls qg 199 [.op 4 0 0,.int .i64 0,.dp (zH r8) 0] [.cells 0 (zO a0),.cells 0 (zg a1),.cells 0 [.int .i64 0,.int .i64 0,.str [],.ds true [] 0 true,.ds true [] 0 true],.cells 0 [vbV r4.1],.cells 0 [.ds true (qc (Xh yr) a0.fParts) (qa a0.fParts) false,.int .i64 0]] (fun r' σ'=>r'=.agg (zg r9.1)∧σ'=[.cells 0 (zO a0),.cells 0 (zg a1),.cells 0 [.int .i64 0,.int .i64 0,.str [],.ds true [] 0 true,.ds true [] 0 true],.cells 0 [vbV r4.1],.cells 0 (zP r9.2)])) ((z7.ok hr9).i [4])) ?_;refine zw tok 2 ?_;simp only[go_sem,qd,qf,qb,qe,zg];refine nkN hK ?_
 refine rd [4,5,6] fun K hK=>?_
 refine DW.start (T:=tab) [.at [],.any,.any,.any,.own 1 [2],.eff,.any,.any] [(1,[2])] ?_;refine DW.runN tok 8 ?_;simp only[go_sem,qd,qf,qb,qe,reduceCtorEq,zg];refine DW.fin tok (by decide +kernel) rfl ?_;simp only[zz,upd,qb,reduceIte,yS,xD];apply hK
 cases h;exact rtA
def YG (a0:xF)(a1:zp):Option (zp×Int):=
 (YT a0 a1).bind fun r1=>some (r1.1,r1.2.2)
theorem YG.ok {a0 a1 r}(h:YG a0 a1=some r):ACalls qg 100 [.agg (zO a0),.agg (zg a1)] [] (fun r' _=>r'=.tup [.agg (zg r.1),.int .i64 r.2]):=by
 refine zr (rs:=[.cell 4 37,.tmp 5]) tok Tryz.func100 rfl Tryz.ntmps100 rfl Tryz.call100 (by simp) ?_;refine zA [(0,.agg (zO a0)),(1,.agg (zg a1))] ⟨rfl,rfl,trivial⟩ ?_;unfold YG at h
 refine rg tok [2,3,4] fun K hK=>?_
 simp only[go_sem,qd,qb,qe,reduceCtorEq,zg,zO];apply hK
 refine rc [4,6,8] fun K hK=>?_
 obtain⟨r1,hr1,h⟩:=bind_some h;refine zw tok 2 ?_;simp only[go_sem,qd,qf,qb,qe,zg];refine clN rfl rfl rfl ((YT.ok hr1).c _) ?_;refine zw tok 8 ?_;simp only[go_sem,qd,qf,qb,qe,zg];refine nkN hK ?_;refine rgN [4,5] ?_;cases h;exact rtA
def Yv (a0:zD)(a1:List UInt8)(a2:List UInt8):Option (zp×Int):=
 (yB a0).bind fun r2=>(if r2=0 then bnd (yn a0 a1) fun r6=>(if (!r6.2)=true then some ((⟨0,0,[],([]:List zE),([]:List xh)⟩:zp),14) else (yk xK a0 r6.1 a2 1).bind fun r9=>some (r9.1,r9.2)) else some ((⟨0,0,[],([]:List zE),([]:List xh)⟩:zp),1))
theorem Yv.ok {a0 a1 a2 r}(h:Yv a0 a1 a2=some r):ACalls qg 98 [.agg (za a0),.str a1,.ds true (qc ZT a2) (qa a2) false] [] (fun r' _=>r'=.tup [.agg (zg r.1),.int .i64 r.2]):=by
 refine zr (rs:=[.cell 6 37,.tmp 7]) tok Tryz.func98 rfl Tryz.ntmps98 rfl Tryz.call98 (by simp) ?_;refine zA [(0,.agg (za a0)),(1,.str a1),(2,.ds true (qc ZT a2) (qa a2) false)] ⟨rfl,rfl,rfl,trivial⟩ ?_;unfold Yv at h
 refine rg tok [1,2,3,6] fun K hK=>?_
 simp only[go_sem,qd,qb,qe,reduceCtorEq,za];apply hK
 refine zd fun Z1 hZ1=>?_
 refine rc [1,2,3,6,12] fun K hK=>?_
 obtain⟨r2,hr2,h⟩:=bind_some h;refine rnN 1 ?_;refine clN rfl rfl rfl ((yB.ok hr2).c _) ?_;refine rnN 1 ?_;refine nkN hK ?_;refine yf rfl (fun hc3=>?_) (fun hc3=>?_)
 · rw[if_neg hc3] at h;have t4:=eq_false hc3
   refine rg tok [6,7] fun K hK=>?_
   simp only[go_sem,qd,qf,qb,qe,t4];apply hK
   cases h;exact rtA
 rw[if_pos hc3] at h;have t5:=eq_true hc3;apply zj;apply hZ1
 refine rc [2,3,6,8,9] fun K hK=>?_
 obtain⟨r6,hr6,h⟩:=yg h;refine zw tok 2 ?_;simp only[go_sem,qd,qf,qb,qe,t5];refine clN rfl rfl rfl ((yn.ok hr6).c _) ?_;refine zw tok 6 ?_;simp only[go_sem,qd,qf,qb,qe,zb];refine nkN hK ?_
 refine zd fun Z7 hZ7=>?_
 refine rgN [2,3,6,8,21] ?_;refine zT (b:=(!r6.2)) rfl (fun hc8=>?_) (fun hc8=>?_)
 · rw[if_pos hc8] at h;refine rgN [6,7] ?_;cases h;exact rtA
 rw[wO hc8] at h;apply zj;apply hZ7
 refine rc [6,7] fun K hK=>?_
 obtain⟨r9,hr9,h⟩:=bind_some h;refine rnN 3 ?_;refine clN rfl rfl rfl (yk.ev xK a0 r6.1 a2 1 r9 hr9 _) ?_;refine zw tok 4 ?_;simp only[go_sem,qd,qf,qb,qe,zg];refine nkN hK ?_;cases h;exact rtA
def wz.j3 (x2:Int):Option Int:=
 some x2
def wz (a0:Int)(a1:Int):Option Int:=
 (grd (a1≠0)).bind fun _u1=>(if (a0).tmod a1<0 then (wz.j3 (IntKind.i64.wrap ((a0).tmod a1+a1))) else (wz.j3 ((a0).tmod a1)))
theorem wz.ok {a0 a1 r}(h:wz a0 a1=some r):ACalls qg 25 [.int .i64 a0,.int .i64 a1] [] (fun r' _=>r'=.int .i64 r):=by
 refine zr (rs:=[.tmp 4]) tok Tryz.func25 rfl Tryz.ntmps25 rfl Tryz.call25 (by simp) ?_;refine zA [(0,.int .i64 a0),(1,.int .i64 a1)] ⟨rfl,rfl,trivial⟩ ?_;unfold wz at h;refine rgN [0,1] ?_;obtain⟨_u1,hu1,h⟩:=bind_some h;have gu1:=wA hu1;have gu1f:=eq_false gu1
 refine rg tok [1,5] fun K hK=>?_
 simp only[go_sem,qd,qb,reduceCtorEq,gu1f];apply hK
 refine xC (fun L τ=>∃ (x2:Int),L=[(5,.int .i64 x2)]∧τ=([]:ze)∧wz.j3 x2=some r) ?_ ?_
 · refine rgN [1,5,10] ?_;refine yf rfl (fun hc4=>?_) (fun hc4=>?_)
   · rw[if_pos hc4] at h;have t5:=eq_true hc4
     refine rgE tok [5] fun K hK=>?_
     simp only[go_sem,qd,qb,t5];apply hK
     exact⟨_,_,⟨IntKind.i64.wrap ((a0).tmod a1+a1),rfl,rfl,h⟩,.s⟩
   rw[if_neg hc4] at h;have t6:=eq_false hc4;apply zj;exact⟨_,_,⟨(a0).tmod a1,rfl,rfl,h⟩,.s⟩
 rintro _ _ ⟨x2,rfl,rfl,h⟩;unfold wz.j3 at h;refine rgN [4] ?_;cases h;exact rtA
def ZB (a0:Int):zD:=
 (⟨[97],[(⟨[109],[(⟨[120],1,1,(⟨a0,[]⟩:Xr)⟩:Zj)],([]:List Int)⟩:yp)],([]:List wd),[(⟨[99],[109],[109]⟩:Za)]⟩:zD)
theorem ZB.ok {a0 r}(h:ZB a0=r):ACalls qg 46 [.int .i64 a0] [] (fun r' _=>r'=.agg (za r)):=by
 refine zr (rs:=[.cell 2 31]) tok Tryz.func46 rfl Tryz.ntmps46 rfl Tryz.call46 (by simp) ?_;refine zA [(0,.int .i64 a0)] ⟨rfl,trivial⟩ ?_;unfold ZB at h;refine rgN [0,2] ?_
 refine rg tok [2] fun K hK=>?_
 simp only[go_sem,qd,qf,qb,qe,qi,reduceCtorEq,zL,ym,qP,qJ,true_and,qW];apply hK
 cases h;exact rtA
def YE (a0:Int):zp:=
 (if a0=0 then (⟨3,0,[],([]:List zE),([]:List xh)⟩:zp) else (⟨3,0,[],[(⟨1,[(⟨1,a0,[],([]:List zE),([]:List xh)⟩:zp)]⟩:zE)],([]:List xh)⟩:zp))
theorem YE.ok {a0 r}(h:YE a0=r):ACalls qg 49 [.int .i64 a0] [] (fun r' _=>r'=.agg (zg r)):=by
 refine zr (rs:=[.cell 2 37]) tok Tryz.func49 rfl Tryz.ntmps49 rfl Tryz.call49 (by simp) ?_;refine zA [(0,.int .i64 a0)] ⟨rfl,trivial⟩ ?_;unfold YE at h;refine rgN [0,2] ?_;refine rgN [0,2,3] ?_
 refine zd fun Z1 hZ1=>?_
 refine rgN [0,2,3,6] ?_;refine yf rfl (fun hc2=>?_) (fun hc2=>?_)
 · rw[if_neg hc2] at h;have t3:=eq_false hc2
   refine rgE tok [2,3] fun K hK=>?_
   simp only[go_sem,qd,qf,qb,qe,qi,reduceCtorEq,zL,ym,qP,qJ,true_and,qW,t3];apply hK
   apply hZ1;refine rgN [2] ?_;cases h;exact rtA
 rw[if_pos hc2] at h;have t4:=eq_true hc2;apply zj;apply hZ1
 refine rg tok [2] fun K hK=>?_
 simp only[go_sem,qd,qf,qb,qe,reduceCtorEq,t4];apply hK
 cases h;exact rtA
def wE (a0:List GRow):Option (List GRow):=(vac (qa a0) 176).bind fun _=>some a0
theorem wE.ok (a0 r:List GRow)(h:wE a0=some r):ACalls qg 83 [.ds true (qc yd a0) (qa a0) false] [] (fun r' _=>r'=.ds true (qc yd r) (qa r) false):=by
 obtain⟨_u,hu,h⟩:=bind_some h;have gu:=xb hu;cases h
 have f1:=fun nl tt σ=>Zq E82.len a0 nl tt σ
 have f2:=zU E82.len a0;have f3:=Xt yd a0
 have fin:∀ σ id ver tt,ze.at σ id ver=some (qc yd a0)→tell σ [] true 12 (.os true 11 id ver 0 (qa a0) tt)=.ds true (qc yd a0) (qa a0) false:=by
  intro σ id ver tt hs
  simp only[w8,wG,hs,qw,qj];rw[if_pos (by rw[f2]; exact qv _),← f2,qZ,zt]
 refine zr (rs:=[.tmp 2]) tok Tryz.func83 rfl Tryz.ntmps83 rfl Tryz.call83 (by simp) ?_;refine zA [(0,.ds true (qc yd a0) (qa a0) false)] ⟨rfl,trivial⟩ ?_;refine rgN [0] ?_
 refine zd fun Z1 hZ1=>?_
 refine rc [0,4] fun K hK=>?_
 refine rnN 1 ?_
 refine YD tok rfl rfl rfl rfl rfl rfl fun b hnil=>?_
 have hb:b=true→a0=[]:=fun hb=>by
  have:=hnil hb;simp only[yL,go_sem,reduceCtorEq] at this;exact qY this
 clear hnil
 refine nkN hK ?_;cases b
 · refine zF rfl ?_;apply zj;apply hZ1
   refine rg tok [2] fun K hK=>?_
   by_cases h0:qa a0=0
   · obtain rfl:=qY h0;simp only[go_sem,qd,qb,qe,reduceCtorEq,zL,ym,qJ,uC,yM,yl,yL,yz,ug,qu,um,qV];apply hK
     apply zY;simp only[w7,yy,yI,xq,exists_eq_left',go_sem]
     first|rfl|(simp only[go_sem,qd,qf,qb,qe,qi,ql,reduceIte,reduceCtorEq,w8,wG,qk]<;>rfl)
   have h1:=eq_false h0;simp only[go_sem,qd,qb,qe,reduceCtorEq,zL,ym,qJ,uC,yM,yl,yL,f1,f3,h1,gu,xa,qk,qK,um];apply hK
   apply zY;simp only[w7,yy,yI,xq,exists_eq_left',go_sem];exact fin _ _ _ _ (by simp only[ze.at_hd,ze.at_tl,if_true])
 obtain rfl:=hb rfl;refine zJ rfl ?_;refine rgN [2] ?_;apply zY;simp only[w7,yy,yI,xq,exists_eq_left',go_sem]
 first|rfl|(simp only[go_sem,qd,qf,qb,qe,qi,ql,reduceIte,reduceCtorEq,Yy,qk,qo,qr,qs]<;>rfl)
theorem wE.ev (a0 r:List GRow)(h:wE a0=some r)(σ:ze):ACalls qg 83 [.ds true (qc yd a0) (qa a0) false] σ (fun r' σ'=>r'=.ds true (qc yd r) (qa r) false∧σ'=σ):=
 (wE.ok a0 r h).pureAt (by simp only[AV.canon,yU,yZ,qE,qp,uG]) (by simp only[AV.canon,yZ,qE,qp,uG]) σ
def XR (a0:Int):ZA:=
 (⟨(if 1<(if 8<a0 then 8 else a0) then (if 8<a0 then 8 else a0) else 1),([]:List y1),0,(⟨[],[],0⟩:XW y1 xo),(⟨[],[],0⟩:XW Int Int)⟩:ZA)
theorem XR.ok {a0 r}(h:XR a0=r):ACalls qg 84 [.int .i64 a0] [] (fun r' σ'=>r'=.op 0 0 0∧σ'=[.cells 0 [.int .i64 r.fsize,.os true 2 1 (r.vorder) 0 (qa r.forder) false,.mp 2,.mp 3],.cells (r.vorder) (qc zl r.forder),.map (yq zs zK r.freplies.l) (some (r.freplies.bs,r.freplies.ck)),.map (yq (AV.int .i64) (AV.int .i64) r.flast.l) (some (r.flast.bs,r.flast.ck))]):=by
 refine acalls_ptr (rs:=[.tmp 2]) tok Tryz.func84 rfl Tryz.ntmps84 rfl Tryz.call84 (by simp) ?_;refine zA [(0,.int .i64 a0)] ⟨rfl,trivial⟩ ?_;unfold XR at h;refine rgN [0] ?_
 refine rg tok [2] fun K hK=>?_
 simp only[go_sem,qd,qf,qb,qe,reduceCtorEq,vbf,foldO,vbL,vbM];apply hK
 refine w4 2 1 2 rfl (by simp) rfl (L:=[(2,.op 2 0 0)]) (τ:=[.map (yq zs zK []) (some ([],0)),.map (yq (AV.int .i64) (AV.int .i64) []) (some ([],0)),.cells 0 [.int .i64 (if 1<(if 8<a0 then 8 else a0) then (if 8<a0 then 8 else a0) else 1),.os true 2 3 0 0 (qa ([]:List y1)) false,.mp 0,.mp 1],.cells 0 (qc zl ([]:List y1))]) .s ?_;refine y0 (L:=[(2,.op 2 0 0)]) (τ:=[.map (yq zs zK []) (some ([],0)),.map (yq (AV.int .i64) (AV.int .i64) []) (some ([],0)),.cells 0 [.int .i64 (if 1<(if 8<a0 then 8 else a0) then (if 8<a0 then 8 else a0) else 1),.os true 2 3 0 0 (qa ([]:List y1)) false,.mp 0,.mp 1],.cells 0 (qc zl ([]:List y1))]) .s ?_;apply zY;obtain rfl:=h;simp only[w7,yy,yI,xq,exists_eq_left',go_sem,qe];refine⟨[2,3,0,1],by decide,by simp,?_,?_⟩
 · first|rfl|(simp only[go_sem,qd,qf,qb,qe,qi,ql,reduceIte,reduceCtorEq,push_cast,if_true,qw,qj,qn,qk,qz,qo,qH,qC,qs,qr,qp,zt,zl]<;>rfl)
 first|rfl|(simp only[go_sem,qd,qf,qb,qe,qi,ql,reduceIte,reduceCtorEq,push_cast,if_true,qw,qj,qn,qk,qz,qo,qH,qC,qs,qr,qp,zt,zl]<;>rfl)
def wD (a0:List Int):Option (List Int):=(vac (qa a0) 8).bind fun _=>some a0
theorem wD.ok (a0 r:List Int)(h:wD a0=some r):ACalls qg 129 [.ds true (qc wh a0) (qa a0) false] [] (fun r' _=>r'=.ds true (qc wh r) (qa r) false):=by
 obtain⟨_u,hu,h⟩:=bind_some h;have gu:=xb hu;cases h
 have f1:=fun nl tt σ=>Zq E26.len a0 nl tt σ
 have f2:=zU E26.len a0;have f3:=Xt wh a0
 have fin:∀ σ id ver tt,ze.at σ id ver=some (qc wh a0)→tell σ [] true 12 (.os true 1 id ver 0 (qa a0) tt)=.ds true (qc wh a0) (qa a0) false:=by
  intro σ id ver tt hs
  simp only[w8,wG,hs,qw,qj];rw[if_pos (by rw[f2]; exact qv _),← f2,qZ,zt]
 refine zr (rs:=[.tmp 2]) tok Tryz.func129 rfl Tryz.ntmps129 rfl Tryz.call129 (by simp) ?_;refine zA [(0,.ds true (qc wh a0) (qa a0) false)] ⟨rfl,trivial⟩ ?_;refine rgN [0] ?_
 refine zd fun Z1 hZ1=>?_
 refine rc [0,4] fun K hK=>?_
 refine rnN 1 ?_
 refine YD tok rfl rfl rfl rfl rfl rfl fun b hnil=>?_
 have hb:b=true→a0=[]:=fun hb=>by
  have:=hnil hb;simp only[yL,go_sem,reduceCtorEq] at this;exact qY this
 clear hnil
 refine nkN hK ?_;cases b
 · refine zF rfl ?_;apply zj;apply hZ1
   refine rg tok [2] fun K hK=>?_
   by_cases h0:qa a0=0
   · obtain rfl:=qY h0;simp only[go_sem,qd,qb,reduceCtorEq,zL,ym,qJ,uC,yM,yl,yL,yz,ug,qu,um,qV];apply hK
     apply zY;simp only[w7,yy,yI,xq,exists_eq_left',go_sem]
     first|rfl|(simp only[go_sem,qd,qf,qb,qe,qi,ql,reduceIte,reduceCtorEq,w8,wG,qk]<;>rfl)
   have h1:=eq_false h0;simp only[go_sem,qd,qb,reduceCtorEq,zL,ym,qJ,uC,yM,yl,yL,f1,f3,h1,gu,xa,qk,qK,um];apply hK
   apply zY;simp only[w7,yy,yI,xq,exists_eq_left',go_sem];exact fin _ _ _ _ (by simp only[ze.at_hd,ze.at_tl,if_true])
 obtain rfl:=hb rfl;refine zJ rfl ?_;refine rgN [2] ?_;apply zY;simp only[w7,yy,yI,xq,exists_eq_left',go_sem]
 first|rfl|(simp only[go_sem,qd,qf,qb,qe,qi,ql,reduceIte,reduceCtorEq,Yy,qk,qo,qr,qs]<;>rfl)
end
section
set_option maxRecDepth 4000
set_option maxHeartbeats 1000000
open AM
theorem wD.ev (a0 r:List Int)(h:wD a0=some r)(σ:ze):ACalls qg 129 [.ds true (qc wh a0) (qa a0) false] σ (fun r' σ'=>r'=.ds true (qc wh r) (qa r) false∧σ'=σ):=
 (wD.ok a0 r h).pureAt (by simp only[AV.canon,yU,yZ,qE,qp,uG]) (by simp only[AV.canon,yZ,qE,qp,uG]) σ
def xY (a0:List zD):Option (List zD):=(vac (qa a0) 88).bind fun _=>some a0
theorem xY.ok (a0 r:List zD)(h:xY a0=some r):ACalls qg 130 [.ds true (qc za a0) (qa a0) false] [] (fun r' _=>r'=.ds true (qc za r) (qa r) false):=by
 obtain⟨_u,hu,h⟩:=bind_some h;have gu:=xb hu;cases h
 have f1:=fun nl tt σ=>Zq E33.len a0 nl tt σ
 have f2:=zU E33.len a0;have f3:=Xt za a0
 have fin:∀ σ id ver tt,ze.at σ id ver=some (qc za a0)→tell σ [] true 12 (.os true 4 id ver 0 (qa a0) tt)=.ds true (qc za a0) (qa a0) false:=by
  intro σ id ver tt hs
  simp only[w8,wG,hs,qw,qj];rw[if_pos (by rw[f2]; exact qv _),← f2,qZ,zt]
 refine zr (rs:=[.tmp 2]) tok Tryz.func130 rfl Tryz.ntmps130 rfl Tryz.call130 (by simp) ?_;refine zA [(0,.ds true (qc za a0) (qa a0) false)] ⟨rfl,trivial⟩ ?_;refine rgN [0] ?_
 refine zd fun Z1 hZ1=>?_
 refine rc [0,4] fun K hK=>?_
 refine rnN 1 ?_
 refine YD tok rfl rfl rfl rfl rfl rfl fun b hnil=>?_
 have hb:b=true→a0=[]:=fun hb=>by
  have:=hnil hb;simp only[yL,go_sem,reduceCtorEq] at this;exact qY this
 clear hnil
 refine nkN hK ?_;cases b
 · refine zF rfl ?_;apply zj;apply hZ1
   refine rg tok [2] fun K hK=>?_
   by_cases h0:qa a0=0
   · obtain rfl:=qY h0;simp only[go_sem,qd,qb,qe,reduceCtorEq,zL,ym,qJ,uC,yM,yl,yL,yz,ug,qu,um,qV];apply hK
     apply zY;simp only[w7,yy,yI,xq,exists_eq_left',go_sem]
     first|rfl|(simp only[go_sem,qd,qf,qb,qe,qi,ql,reduceIte,reduceCtorEq,w8,wG,qk]<;>rfl)
   have h1:=eq_false h0;simp only[go_sem,qd,qb,qe,reduceCtorEq,zL,ym,qJ,uC,yM,yl,yL,f1,f3,h1,gu,xa,qk,qK,um];apply hK
   apply zY;simp only[w7,yy,yI,xq,exists_eq_left',go_sem];exact fin _ _ _ _ (by simp only[ze.at_hd,ze.at_tl,if_true])
 obtain rfl:=hb rfl;refine zJ rfl ?_;refine rgN [2] ?_;apply zY;simp only[w7,yy,yI,xq,exists_eq_left',go_sem]
 first|rfl|(simp only[go_sem,qd,qf,qb,qe,qi,ql,reduceIte,reduceCtorEq,Yy,qk,qo,qr,qs]<;>rfl)
theorem xY.ev (a0 r:List zD)(h:xY a0=some r)(σ:ze):ACalls qg 130 [.ds true (qc za a0) (qa a0) false] σ (fun r' σ'=>r'=.ds true (qc za r) (qa r) false∧σ'=σ):=
 (xY.ok a0 r h).pureAt (by simp only[AV.canon,yU,yZ,qE,qp,uG]) (by simp only[AV.canon,yZ,qE,qp,uG]) σ
def wT (a0:yW)(a1:List Int)(a2:List zD):Option yW:=
 (wD a1).bind fun r1=>(xY a2).bind fun r2=>some (⟨a0.fself,r1,r2,a0.fnewest,a0.frows,a0.fcache,a0.feffects,a0.veffects⟩:yW)
theorem wT.ok {a0 a1 a2 r}(h:wT a0 a1 a2=some r):ACalls qg 85 [.op 0 0 0,.ds true (qc wh a1) (qa a1) false,.ds true (qc za a2) (qa a2) false] [.cells 0 [.int .i64 a0.fself,.ds true (qc wh a0.fnumbers) (qa a0.fnumbers) false,.ds true (qc za a0.fschemas) (qa a0.fschemas) false,.str a0.fnewest.fName,.ds true (qc zb a0.fnewest.fMessages) (qa a0.fnewest.fMessages) false,.ds true (qc zf a0.fnewest.fEnums) (qa a0.fnewest.fEnums) false,.ds true (qc zm a0.fnewest.fMethods) (qa a0.fnewest.fMethods) false,.ds true (qc yd a0.frows) (qa a0.frows) false,.op 1 0 0,.os true 8 5 (a0.veffects) 0 (qa a0.feffects) false],.cells 0 [.int .i64 a0.fcache.fsize,.os true 2 2 (a0.fcache.vorder) 0 (qa a0.fcache.forder) false,.mp 3,.mp 4],.cells (a0.fcache.vorder) (qc zl a0.fcache.forder),.map (yq zs zK a0.fcache.freplies.l) (some (a0.fcache.freplies.bs,a0.fcache.freplies.ck)),.map (yq (AV.int .i64) (AV.int .i64) a0.fcache.flast.l) (some (a0.fcache.flast.bs,a0.fcache.flast.ck)),.cells (a0.veffects) (qc zi a0.feffects)] (fun r' σ'=>r'=.tup []∧σ'=[.cells 0 [.int .i64 r.fself,.ds true (qc wh r.fnumbers) (qa r.fnumbers) false,.ds true (qc za r.fschemas) (qa r.fschemas) false,.str r.fnewest.fName,.ds true (qc zb r.fnewest.fMessages) (qa r.fnewest.fMessages) false,.ds true (qc zf r.fnewest.fEnums) (qa r.fnewest.fEnums) false,.ds true (qc zm r.fnewest.fMethods) (qa r.fnewest.fMethods) false,.ds true (qc yd r.frows) (qa r.frows) false,.op 1 0 0,.os true 8 5 (r.veffects) 0 (qa r.feffects) false],.cells 0 [.int .i64 r.fcache.fsize,.os true 2 2 (r.fcache.vorder) 0 (qa r.fcache.forder) false,.mp 3,.mp 4],.cells (r.fcache.vorder) (qc zl r.fcache.forder),.map (yq zs zK r.fcache.freplies.l) (some (r.fcache.freplies.bs,r.fcache.freplies.ck)),.map (yq (AV.int .i64) (AV.int .i64) r.fcache.flast.l) (some (r.fcache.flast.bs,r.fcache.flast.ck)),.cells (r.veffects) (qc zi r.feffects)]):=by
 refine w5 [0,1,2,3,4,5] (rs:=[]) tok Tryz.func85 rfl Tryz.ntmps85 rfl Tryz.call85 (by simp) rfl ?_;refine zA [(0,.op 0 0 0),(1,.ds true (qc wh a1) (qa a1) false),(2,.ds true (qc za a2) (qa a2) false)] ⟨rfl,rfl,rfl,trivial⟩ ?_;unfold wT at h
 refine rcE [] fun K hK=>?_
 obtain⟨r1,hr1,h⟩:=bind_some h;refine rnN 3 ?_;refine clN rfl rfl rfl (wD.ev a1 r1 hr1 _) ?_;obtain⟨r2,hr2,h⟩:=bind_some h;refine rnN 1 ?_;refine clN rfl rfl rfl (xY.ev a2 r2 hr2 _) ?_;refine rnN 6 ?_;refine nkN hK ?_
 -- end
 cases h;simp only[w7,yy,xq,exists_eq_left',go_sem,qe];refine⟨by decide,by simp,?_,?_⟩
 · first|rfl|(simp only[go_sem,qd,qf,qb,qe,qi,ql,reduceIte,reduceCtorEq,push_cast,if_true,qw,qj,qn,qk,qz,qo,qH,qC,qs,qr,qp,zt,zg,zl,za,zi,yi]<;>rfl)
 first|rfl|(simp only[go_sem,qb,qe,reduceCtorEq,push_cast,if_true,qj,qn,qk,qo,qs,qr,zt]<;>rfl)
def wj (o:Option yW):ze:=match o with
 |none=>[]
 |some x=>[.cells 0 [.int .i64 x.fself,.ds true (qc wh x.fnumbers) (qa x.fnumbers) false,.ds true (qc za x.fschemas) (qa x.fschemas) false,.str x.fnewest.fName,.ds true (qc zb x.fnewest.fMessages) (qa x.fnewest.fMessages) false,.ds true (qc zf x.fnewest.fEnums) (qa x.fnewest.fEnums) false,.ds true (qc zm x.fnewest.fMethods) (qa x.fnewest.fMethods) false,.ds true (qc yd x.frows) (qa x.frows) false,.op 1 0 0,.os true 8 5 (x.veffects) 0 (qa x.feffects) false],.cells 0 [.int .i64 x.fcache.fsize,.os true 2 2 (x.fcache.vorder) 0 (qa x.fcache.forder) false,.mp 3,.mp 4],.cells (x.fcache.vorder) (qc zl x.fcache.forder),.map (yq zs zK x.fcache.freplies.l) (some (x.fcache.freplies.bs,x.fcache.freplies.ck)),.map (yq (AV.int .i64) (AV.int .i64) x.fcache.flast.l) (some (x.fcache.flast.bs,x.fcache.flast.ck)),.cells (x.veffects) (qc zi x.feffects)]
def wU (a0:Int)(a1:List Int)(a2:List zD)(a3:zD)(a4:List GRow)(a5:Int):Option (Option yW×Int):=
 (wa a0 a1 a2).bind fun r2=>(if ((!r2)||(decide (32<(qa a4:Int))))=true then some true else (yB a3).bind fun r3=>some (!(decide (r3=0)))).bind fun c3=>(if c3=true then some ((none:Option yW),1) else (wE a4).bind fun r6=>bnd (XR a5) fun r7=>(wT (⟨a0,([]:List Int),([]:List zD),a3,r6,r7,([]:List yX),0⟩:yW) a1 a2).bind fun r8=>some ((some r8),0))
theorem wU.ok {a0 a1 a2 a3 a4 a5 r}(h:wU a0 a1 a2 a3 a4 a5=some r):ACalls qg 45 [.int .i64 a0,.ds true (qc wh a1) (qa a1) false,.ds true (qc za a2) (qa a2) false,.agg (za a3),.ds true (qc yd a4) (qa a4) false,.int .i64 a5] [] (fun r' σ'=>r'=.tup [newV r.1 0,.int .i64 r.2]∧σ'=wj r.1):=by
 refine acalls_ptr (rs:=[.tmp 12,.tmp 13]) tok Tryz.func45 rfl Tryz.ntmps45 rfl Tryz.call45 (by simp) ?_;refine zA [(0,.int .i64 a0),(1,.ds true (qc wh a1) (qa a1) false),(2,.ds true (qc za a2) (qa a2) false),(3,.agg (za a3)),(4,.ds true (qc yd a4) (qa a4) false),(5,.int .i64 a5)] ⟨rfl,rfl,rfl,rfl,rfl,rfl,trivial⟩ ?_;unfold wU at h
 refine rg tok [0,1,2,4,5,9] fun K hK=>?_
 simp only[go_sem,qd,qb,qe,reduceCtorEq,za];apply hK
 refine zd fun Z1 hZ1=>?_
 refine rc [0,1,2,4,5,9,29] fun K hK=>?_
 obtain⟨r2,hr2,h⟩:=bind_some h;refine rnN 3 ?_;refine clN rfl rfl rfl ((wa.ok hr2).c _) ?_;refine rnN 2 ?_;refine zG 4 (fun L τ=>L=[(0,.int .i64 a0),(1,.ds true (qc wh a1) (qa a1) false),(2,.ds true (qc za a2) (qa a2) false),(4,.ds true (qc yd a4) (qa a4) false),(5,.int .i64 a5),(9,.op 0 0 0),(24,.bool ((!r2)||(decide (32<(qa a4:Int)))))]∧τ=([.cells 0 (za a3)]:ze)) ?_ ?_
 · refine yv (b:=(!r2)) 20 rfl (fun hg20=>?_) (fun hg20=>?_)
   · refine rnN 4 ?_;refine zh ⟨rfl,_,_,⟨rfl,rfl⟩,.b hg20⟩
   refine rnN 4 ?_;refine zh ⟨rfl,_,_,⟨rfl,rfl⟩,.b hg20⟩
 rintro _ _ ⟨rfl,rfl⟩;refine rnN 1 ?_;obtain⟨c3,hc3,h⟩:=bind_some h;refine zG 4 (fun L τ=>L=[(0,.int .i64 a0),(1,.ds true (qc wh a1) (qa a1) false),(2,.ds true (qc za a2) (qa a2) false),(4,.ds true (qc yd a4) (qa a4) false),(5,.int .i64 a5),(9,.op 0 0 0),(29,.bool c3)]∧τ=([.cells 0 (za a3)]:ze)) ?_ ?_
 · refine yv (b:=((!r2)||(decide (32<(qa a4:Int))))) 25 rfl (fun hg25=>?_) (fun hg25=>?_)
   · rw[if_pos hg25] at hc3;refine rnN 4 ?_;cases hc3;refine zh ⟨rfl,_,_,⟨rfl,rfl⟩,.b hg25⟩
   rw[wO hg25] at hc3;obtain⟨r4,hr4,hc3⟩:=bind_some hc3;refine rnN 1 ?_;refine clN rfl rfl rfl ((yB.ok hr4).c _) ?_;refine rnN 2 ?_;cases hc3;refine zh ⟨rfl,_,_,⟨rfl,rfl⟩,.b hg25⟩
 rintro _ _ ⟨rfl,rfl⟩;refine nkN hK ?_;refine zT (b:=c3) rfl (fun hc5=>?_) (fun hc5=>?_)
 · rw[if_pos hc5] at h;refine rgN [12,13] ?_;apply zY;cases h;simp only[w7,yy,yI,xq,exists_eq_left',vba,wj,go_sem,qb];refine⟨[],by decide,by simp,?_,?_⟩
   · first|rfl|(simp only[go_sem,qd,qf,qb,qe,qi,ql,reduceIte,reduceCtorEq,push_cast,if_true,qw,qj,qn,qk,qz,qo,qH,qC,qs,qr,qp,zt]<;>rfl)
   first|rfl|(simp only[go_sem,qd,qf,qb,qe,qi,ql,reduceIte,reduceCtorEq,push_cast,if_true,qw,qj,qn,qk,qz,qo,qH,qC,qs,qr,qp,zt]<;>rfl)
 rw[wO hc5] at h;apply zj;apply hZ1;obtain⟨r6,hr6,h⟩:=bind_some h;obtain⟨r7,hr7,h⟩:=yg h
 refine rd [1,2,14] fun K hK=>?_
 refine DW.start (T:=tab) [.any,.own 2 [],.any,.eff,.any,.eff,.any,.eff,.any] [(2,[])] ?_;refine DW.runN tok 3 ?_;simp only[go_sem,qd,qf,qb,qe,reduceCtorEq];refine DW.call rfl rfl rfl (wE.ev a4 r6 hr6 _) ?_;refine DW.runN tok 1 ?_;simp only[go_sem,qd,qb,reduceCtorEq];refine DW.callS rfl rfl rfl (@id (ACalls qg 84 [.int .i64 a5] [.cells 0 (za a3)] (fun r' σ'=>r'=.op 1 0 0∧σ'=[.cells 0 (za a3),.cells 0 [.int .i64 r7.fsize,.os true 2 2 (r7.vorder) 0 (qa r7.forder) false,.mp 3,.mp 4],.cells (r7.vorder) (qc zl r7.forder),.map (yq zs zK r7.freplies.l) (some (r7.freplies.bs,r7.freplies.ck)),.map (yq (AV.int .i64) (AV.int .i64) r7.flast.l) (some (r7.flast.bs,r7.flast.ck))])) ((XR.ok hr7).ix [])) (Xl (by simp only[go_sem,qf,qe])) ?_;refine DW.runN tok 3 ?_;simp only[go_sem,qd,qf,qb,qe,reduceCtorEq];refine DW.fin tok (by decide +kernel) rfl ?_;simp only[zz,upd,qb,reduceIte,yS,xD];apply hK
 refine w4 5 9 8 rfl (by simp) rfl (L:=[(1,.ds true (qc wh a1) (qa a1) false),(2,.ds true (qc za a2) (qa a2) false),(14,.op 5 0 0)]) (τ:=[.cells 0 (za a3),.cells 0 [.int .i64 r7.fsize,.os true 2 2 (r7.vorder) 0 (qa r7.forder) false,.mp 3,.mp 4],.cells (r7.vorder) (qc zl r7.forder),.map (yq zs zK r7.freplies.l) (some (r7.freplies.bs,r7.freplies.ck)),.map (yq (AV.int .i64) (AV.int .i64) r7.flast.l) (some (r7.flast.bs,r7.flast.ck)),.cells 0 [.int .i64 a0,.ds true [] 0 true,.ds true [] 0 true,.str a3.fName,.ds true (qc zb a3.fMessages) (qa a3.fMessages) false,.ds true (qc zf a3.fEnums) (qa a3.fEnums) false,.ds true (qc zm a3.fMethods) (qa a3.fMethods) false,.ds true (qc yd r6) (qa r6) false,.op 1 0 0,.os true 8 6 0 0 (qa ([]:List yX)) false],.cells 0 (qc zi ([]:List yX))]) .s ?_;refine y0 (L:=[(1,.ds true (qc wh a1) (qa a1) false),(2,.ds true (qc za a2) (qa a2) false),(14,.op 4 0 0)]) (τ:=[.cells 0 [.int .i64 r7.fsize,.os true 2 1 (r7.vorder) 0 (qa r7.forder) false,.mp 2,.mp 3],.cells (r7.vorder) (qc zl r7.forder),.map (yq zs zK r7.freplies.l) (some (r7.freplies.bs,r7.freplies.ck)),.map (yq (AV.int .i64) (AV.int .i64) r7.flast.l) (some (r7.flast.bs,r7.flast.ck)),.cells 0 [.int .i64 a0,.ds true (qc wh ([]:List Int)) (qa ([]:List Int)) false,.ds true (qc za ([]:List zD)) (qa ([]:List zD)) false,.str a3.fName,.ds true (qc zb a3.fMessages) (qa a3.fMessages) false,.ds true (qc zf a3.fEnums) (qa a3.fEnums) false,.ds true (qc zm a3.fMethods) (qa a3.fMethods) false,.ds true (qc yd r6) (qa r6) false,.op 0 0 0,.os true 8 5 0 0 (qa ([]:List yX)) false],.cells 0 (qc zi ([]:List yX))]) (.t [1,2,3,4,5,6] true) ?_
 refine rc [14] fun K hK=>?_
 obtain⟨r8,hr8,h⟩:=bind_some h;refine rnN 3 ?_;refine clN rfl rfl rfl (@id (ACalls qg 85 [.op 4 0 0,.ds true (qc wh a1) (qa a1) false,.ds true (qc za a2) (qa a2) false] [.cells 0 [.int .i64 r7.fsize,.os true 2 1 (r7.vorder) 0 (qa r7.forder) false,.mp 2,.mp 3],.cells (r7.vorder) (qc zl r7.forder),.map (yq zs zK r7.freplies.l) (some (r7.freplies.bs,r7.freplies.ck)),.map (yq (AV.int .i64) (AV.int .i64) r7.flast.l) (some (r7.flast.bs,r7.flast.ck)),.cells 0 [.int .i64 a0,.ds true (qc wh ([]:List Int)) (qa ([]:List Int)) false,.ds true (qc za ([]:List zD)) (qa ([]:List zD)) false,.str a3.fName,.ds true (qc zb a3.fMessages) (qa a3.fMessages) false,.ds true (qc zf a3.fEnums) (qa a3.fEnums) false,.ds true (qc zm a3.fMethods) (qa a3.fMethods) false,.ds true (qc yd r6) (qa r6) false,.op 0 0 0,.os true 8 5 0 0 (qa ([]:List yX)) false],.cells 0 (qc zi ([]:List yX))] (fun r' σ'=>r'=.tup []∧σ'=[.cells 0 [.int .i64 r8.fcache.fsize,.os true 2 1 (r8.fcache.vorder) 0 (qa r8.fcache.forder) false,.mp 2,.mp 3],.cells (r8.fcache.vorder) (qc zl r8.fcache.forder),.map (yq zs zK r8.fcache.freplies.l) (some (r8.fcache.freplies.bs,r8.fcache.freplies.ck)),.map (yq (AV.int .i64) (AV.int .i64) r8.fcache.flast.l) (some (r8.fcache.flast.bs,r8.fcache.flast.ck)),.cells 0 [.int .i64 r8.fself,.ds true (qc wh r8.fnumbers) (qa r8.fnumbers) false,.ds true (qc za r8.fschemas) (qa r8.fschemas) false,.str r8.fnewest.fName,.ds true (qc zb r8.fnewest.fMessages) (qa r8.fnewest.fMessages) false,.ds true (qc zf r8.fnewest.fEnums) (qa r8.fnewest.fEnums) false,.ds true (qc zm r8.fnewest.fMethods) (qa r8.fnewest.fMethods) false,.ds true (qc yd r8.frows) (qa r8.frows) false,.op 0 0 0,.os true 8 5 (r8.veffects) 0 (qa r8.feffects) false],.cells (r8.veffects) (qc zi r8.feffects)])) ((wT.ok hr8).ix [4,0,1,2,3,5])) ?_;refine nkN hK ?_;refine rgN [12,13] ?_;apply zY;cases h;simp only[w7,yy,yI,xq,exists_eq_left',va9,wj,go_sem,qb,qe];refine⟨[4,0,1,2,3,5],by decide,by simp,?_,?_⟩
 · first|rfl|(simp only[go_sem,qd,qf,qb,qe,qi,ql,reduceIte,reduceCtorEq,push_cast,if_true,qw,qj,qn,qk,qz,qo,qH,qC,qs,qr,qp,zt,zg,zl,za,zi,yi]<;>rfl)
 first|rfl|(simp only[go_sem,qb,qe,reduceCtorEq,push_cast,if_true,qj,qn,qk,qo,qs,qr,zt]<;>rfl)
theorem wU.at {a0 a1 a2 a3 a4 a5 r}(h:wU a0 a1 a2 a3 a4 a5=some r)(σ:ze):ACalls qg 45 [.int .i64 a0,.ds true (qc wh a1) (qa a1) false,.ds true (qc za a2) (qa a2) false,.agg (za a3),.ds true (qc yd a4) (qa a4) false,.int .i64 a5] σ (fun r' σ'=>r'=.tup [newV r.1 σ.length,.int .i64 r.2]∧σ'=σ++(wj r.1).map (vch fun i=>σ.length+i)):=
 ACalls.newAt (x:=fun n=>.tup [newV r.1 n,.int .i64 r.2]) (wU.ok h) (fun n=>by obtain⟨o,e⟩:=r; cases o<;>simp only[vba,va9,AV.ren,vaJ,uO]) (by simp only[push_cast]) σ
def wQ (a0:ZA)(a1:Int)(a2:Int):xo×Int:=
 (if ((Xp a0.freplies.l (⟨a1,a2⟩:y1)).isSome)=true then ((Xp a0.freplies.l (⟨a1,a2⟩:y1)).getD (⟨0,0,0,0,0,[],0,[]⟩:xo),2) else (if (((Xp a0.flast.l a1).isSome)&&(decide (a2≤(Xp a0.flast.l a1).getD 0)))=true then ((⟨0,0,0,0,0,[],0,[]⟩:xo),3) else ((⟨0,0,0,0,0,[],0,[]⟩:xo),1)))
theorem wQ.ok {a0 a1 a2 r}(h:wQ a0 a1 a2=r):ACalls qg 132 [.op 0 0 0,.int .i64 a1,.int .i64 a2] [.cells 0 [.int .i64 a0.fsize,.os true 2 1 (a0.vorder) 0 (qa a0.forder) false,.mp 2,.mp 3],.cells (a0.vorder) (qc zl a0.forder),.map (yq zs zK a0.freplies.l) (some (a0.freplies.bs,a0.freplies.ck)),.map (yq (AV.int .i64) (AV.int .i64) a0.flast.l) (some (a0.flast.bs,a0.flast.ck))] (fun r' σ'=>r'=.tup [.agg (zq r.1),.int .i64 r.2]∧σ'=[.cells 0 [.int .i64 a0.fsize,.os true 2 1 (a0.vorder) 0 (qa a0.forder) false,.mp 2,.mp 3],.cells (a0.vorder) (qc zl a0.forder),.map (yq zs zK a0.freplies.l) (some (a0.freplies.bs,a0.freplies.ck)),.map (yq (AV.int .i64) (AV.int .i64) a0.flast.l) (some (a0.flast.bs,a0.flast.ck))]):=by
 refine w5 [0,1,2,3] (rs:=[.cell 6 43,.tmp 7]) tok Tryz.func132 rfl Tryz.ntmps132 rfl Tryz.call132 (by simp) rfl ?_;refine zA [(0,.op 0 0 0),(1,.int .i64 a1),(2,.int .i64 a2)] ⟨rfl,rfl,rfl,trivial⟩ ?_;unfold wQ at h;refine rgN [0,1,2,6] ?_
 refine zd fun Z1 hZ1=>?_
 have f2:=fun (o0:ZJ) (o1:ZJ) (x:ze)=>X2 (T:=tab) (t:=205) (ek:=zs) (ev:=zK) (z:=(⟨0,0,0,0,0,[],0,[]⟩:xo)) KA268 rfl rfl rfl rfl a0.freplies.l (⟨a1,a2⟩:y1) true (o0::o1::.map (yq zs zK a0.freplies.l) (some (a0.freplies.bs,a0.freplies.ck))::x) 2 rfl
 simp only[zs,zl,zK,zq] at f2
 refine rg tok [0,1,2,6,8,9] fun K hK=>?_
 simp only[go_sem,qd,qf,qb,qe,reduceCtorEq,XK,if_false,if_true,f2];apply hK
 refine rgN [0,1,2,6,8,23] ?_;refine zT (b:=((Xp a0.freplies.l (⟨a1,a2⟩:y1)).isSome)) rfl (fun hc3=>?_) (fun hc3=>?_)
 · rw[if_pos hc3] at h;refine rgN [6,7] ?_;apply zY;obtain rfl:=h;simp only[w7,yy,yI,xq,exists_eq_left',go_sem,qf,qb,qe,zq];refine⟨by decide,by simp,?_,?_⟩
   · first|rfl|(simp only[go_sem,qd,qf,qb,qe,qi,ql,reduceIte,reduceCtorEq,push_cast,if_true,qw,qj,qn,qk,qz,qo,qH,qC,qs,qr,qp,zt,zl,zq]<;>rfl)
   first|rfl|(simp only[go_sem,qb,qe,reduceCtorEq,push_cast,if_true,qj,qn,qk,zt]<;>rfl)
 rw[wO hc3] at h;apply zj;apply hZ1
 refine zd fun Z4 hZ4=>?_
 have f5:=fun (o0:ZJ) (o1:ZJ) (o2:ZJ) (x:ze)=>X2 (T:=tab) (t:=206) (ek:=(AV.int .i64)) (ev:=(AV.int .i64)) (z:=0) (vb4.int rfl rfl rfl rfl) rfl rfl rfl rfl a0.flast.l a1 true (o0::o1::o2::.map (yq (AV.int .i64) (AV.int .i64) a0.flast.l) (some (a0.flast.bs,a0.flast.ck))::x) 3 rfl
 refine rg tok [2,6,10,11] fun K hK=>?_
 simp only[go_sem,qd,qb,qe,reduceCtorEq,XK,if_false,if_true,f5];apply hK
 refine rc [6,39] fun K hK=>?_
 refine rnN 2 ?_;refine zG 4 (fun L τ=>L=[(6,.op 4 0 0),(39,.bool (((Xp a0.flast.l a1).isSome)&&(decide (a2≤(Xp a0.flast.l a1).getD 0))))]∧τ=([.cells 0 [.int .i64 a0.fsize,.os true 2 1 (a0.vorder) 0 (qa a0.forder) false,.mp 2,.mp 3],.cells (a0.vorder) (qc zl a0.forder),.map (yq zs zK a0.freplies.l) (some (a0.freplies.bs,a0.freplies.ck)),.map (yq (AV.int .i64) (AV.int .i64) a0.flast.l) (some (a0.flast.bs,a0.flast.ck)),.cells 0 [.int .i64 0,.int .i64 0,.int .i64 0,.int .i64 0,.int .i64 0,.str [],.int .i64 0,.str []],.cells 0 [.int .i64 (((Xp a0.freplies.l (⟨a1,a2⟩:y1)).getD (⟨0,0,0,0,0,[],0,[]⟩:xo)).fKind),.int .i64 (((Xp a0.freplies.l (⟨a1,a2⟩:y1)).getD (⟨0,0,0,0,0,[],0,[]⟩:xo)).fFrom),.int .i64 (((Xp a0.freplies.l (⟨a1,a2⟩:y1)).getD (⟨0,0,0,0,0,[],0,[]⟩:xo)).fTo),.int .i64 (((Xp a0.freplies.l (⟨a1,a2⟩:y1)).getD (⟨0,0,0,0,0,[],0,[]⟩:xo)).fID),.int .i64 (((Xp a0.freplies.l (⟨a1,a2⟩:y1)).getD (⟨0,0,0,0,0,[],0,[]⟩:xo)).fVersion),.str (((Xp a0.freplies.l (⟨a1,a2⟩:y1)).getD (⟨0,0,0,0,0,[],0,[]⟩:xo)).fMethod),.int .i64 (((Xp a0.freplies.l (⟨a1,a2⟩:y1)).getD (⟨0,0,0,0,0,[],0,[]⟩:xo)).fErr),.str (((Xp a0.freplies.l (⟨a1,a2⟩:y1)).getD (⟨0,0,0,0,0,[],0,[]⟩:xo)).fBody)]]:ze)) ?_ ?_
 · refine yv (b:=((Xp a0.flast.l a1).isSome)) 35 rfl (fun hg35=>?_) (fun hg35=>?_)
   · refine rnN 4 ?_;refine zh ⟨rfl,_,_,⟨rfl,rfl⟩,.b hg35⟩
   refine rnN 4 ?_;refine zh ⟨rfl,_,_,⟨rfl,rfl⟩,.b hg35⟩
 rintro _ _ ⟨rfl,rfl⟩;refine nkN hK ?_;refine zT (b:=(((Xp a0.flast.l a1).isSome)&&(decide (a2≤(Xp a0.flast.l a1).getD 0)))) rfl (fun hc6=>?_) (fun hc6=>?_)
 · rw[if_pos hc6] at h;refine rgN [6,7] ?_;apply zY;obtain rfl:=h;simp only[w7,yy,yI,xq,exists_eq_left',go_sem,qf,qb,qe,zq];refine⟨by decide,by simp,?_,?_⟩
   · first|rfl|(simp only[go_sem,qd,qf,qb,qe,qi,ql,reduceIte,reduceCtorEq,push_cast,if_true,qw,qj,qn,qk,qz,qo,qH,qC,qs,qr,qp,zt,zl,zq]<;>rfl)
   first|rfl|(simp only[go_sem,qb,qe,reduceCtorEq,push_cast,if_true,qj,qn,qk,zt]<;>rfl)
 rw[wO hc6] at h;apply zj;apply hZ4;refine rgN [6,7] ?_;apply zY;obtain rfl:=h;simp only[w7,yy,yI,xq,exists_eq_left',go_sem,qf,qb,qe,zq];refine⟨by decide,by simp,?_,?_⟩
 · first|rfl|(simp only[go_sem,qd,qf,qb,qe,qi,ql,reduceIte,reduceCtorEq,push_cast,if_true,qw,qj,qn,qk,qz,qo,qH,qC,qs,qr,qp,zt,zl,zq]<;>rfl)
 first|rfl|(simp only[go_sem,qb,qe,reduceCtorEq,push_cast,if_true,qj,qn,qk,zt]<;>rfl)
def xP.l4 (a1:Int):List Int→Int→Int
 |[],x2=>(-1)
 |y4::q4,x2=>(if a1=y4 then x2 else ((xP.l4 a1 q4) (x2+1)))
def xP (a0:List Int)(a1:Int):Int:=
 (xP.l4 a1 a0 0)
theorem xP.ok {a0 a1 r}(h:xP a0 a1=r):ACalls qg 174 [.ds true (qc wh a0) (qa a0) false,.int .i64 a1] [] (fun r' _=>r'=.int .i64 r):=by
 refine zr (rs:=[.tmp 4]) tok Tryz.func174 rfl Tryz.ntmps174 rfl Tryz.call174 (by simp) ?_;refine zA [(0,.ds true (qc wh a0) (qa a0) false),(1,.int .i64 a1)] ⟨rfl,rfl,trivial⟩ ?_;unfold xP at h;refine rgN [0,1] ?_
 refine zd fun Z1 hZ1=>?_
 refine rgN [0,1,7,8] ?_;apply zn
 refine y5 0 fun hb4=>?_
 replace hb4:qa a0≤9223372036854775807:=hb4.1;refine yh (fun m L τ=>∃ (p4 q4:List Int) (x2:Int),m=qa q4∧L=[(0,.ds true (qc wh a0) (qa a0) false),(1,.int .i64 a1),(7,.int .i64 (qa a0:Int)),(8,.int .i64 x2)]∧τ=([]:ze)∧a0=p4++q4∧x2=(qa p4:Int)∧xP.l4 a1 q4 x2=r) _ ⟨[],a0,0,rfl,rfl,rfl,rfl,rfl,h⟩ .s ?_;rintro m L τ ⟨p4,q4,x2,rfl,rfl,rfl,hE4,hi4,h⟩
 rcases q4 with _|⟨y4,q4⟩
 · have hz4:=xw hE4 hi4;simp only[xP.l4] at h
   refine rg tok [0,1,7,8,9] fun K hK=>?_
   simp only[go_sem,qd,qb,reduceCtorEq,hz4];apply hK
   refine zd fun Z5 hZ5=>?_
   refine zF rfl ?_;apply yc;apply hZ1;refine rgN [4] ?_;cases h;exact rtA
 obtain⟨hz4,hw4,hx4,hE'4,hi'4⟩:=y3 hE4 hi4 hb4;simp only[xP.l4] at h
 refine rg tok [0,1,7,8,9] fun K hK=>?_
 simp only[go_sem,qd,qb,reduceCtorEq,hz4];apply hK
 refine zd fun Z6 hZ6=>?_
 refine zJ rfl ?_;apply zj;apply hZ6
 refine zd fun Z7 hZ7=>?_
 apply zn;refine rgN [0,1,5,7,8] ?_;have f8:=E26.idxS hx4;have f9:=E26.fldS0 (f:=3) rfl rfl hx4
 refine rg tok [0,1,5,7,8,16] fun K hK=>?_
 simp only[go_sem,qd,qb,reduceCtorEq,wh,f8,f9];apply hK
 refine yf rfl (fun hc10=>?_) (fun hc10=>?_)
 · rw[if_pos hc10] at h;have t11:=eq_true hc10
   refine rg tok [4] fun K hK=>?_
   simp only[go_sem,qd,qb,reduceCtorEq,t11];apply hK
   cases h;exact rtA
 rw[if_neg hc10] at h;have t12:=eq_false hc10;apply zj;apply hZ7
 refine rgE tok [0,1,7,8] fun K hK=>?_
 simp only[go_sem,qd,qb,reduceCtorEq,hw4,t12];apply hK
 exact⟨_,_,_,qx q4.length,⟨p4++[y4],q4,x2+1,rfl,rfl,rfl,hE'4,hi'4,h⟩,.s⟩
def wV (a0:yW)(a1:xo):Option (Ye×Int):=
 bnd (xP a0.fnumbers a1.fVersion) fun r1=>(if r1<0 then some ((⟨(⟨[],([]:List yp),([]:List wd),([]:List Za)⟩:zD),(⟨[],[],[]⟩:Za),(⟨[],[],[]⟩:Za),(⟨0,0,[],([]:List zE),([]:List xh)⟩:zp)⟩:Ye),18) else (Xe a0.fschemas (IntKind.i64.wrap ((qa a0.fschemas:Int)-1))).bind fun y6=>(Xe a0.fschemas r1).bind fun y9=>bnd (wb y9 a1.fMethod) fun r12=>bnd (wb y6 a1.fMethod) fun r13=>(if ((!r12.2)||(!r13.2))=true then some ((⟨(⟨[],([]:List yp),([]:List wd),([]:List Za)⟩:zD),(⟨[],[],[]⟩:Za),(⟨[],[],[]⟩:Za),(⟨0,0,[],([]:List zE),([]:List xh)⟩:zp)⟩:Ye),21) else (grd (qa a1.fBody≤9223372036854775807)).bind fun _u16=>(Yv y9 r12.1.fIn a1.fBody).bind fun r18=>(if r18.2=0 then (xn y9 y6 r12.1.fIn r13.1.fIn).bind fun r23=>(YG r23.1 r18.1).bind fun r24=>some ((⟨y9,r13.1,r12.1,r24.1⟩:Ye),r24.2) else some ((⟨(⟨[],([]:List yp),([]:List wd),([]:List Za)⟩:zD),(⟨[],[],[]⟩:Za),(⟨[],[],[]⟩:Za),(⟨0,0,[],([]:List zE),([]:List xh)⟩:zp)⟩:Ye),r18.2))))
theorem wV.ok {a0 a1 r}(h:wV a0 a1=some r):ACalls qg 133 [.op 0 0 0,.agg (zq a1)] [.cells 0 [.int .i64 a0.fself,.ds true (qc wh a0.fnumbers) (qa a0.fnumbers) false,.ds true (qc za a0.fschemas) (qa a0.fschemas) false,.str a0.fnewest.fName,.ds true (qc zb a0.fnewest.fMessages) (qa a0.fnewest.fMessages) false,.ds true (qc zf a0.fnewest.fEnums) (qa a0.fnewest.fEnums) false,.ds true (qc zm a0.fnewest.fMethods) (qa a0.fnewest.fMethods) false,.ds true (qc yd a0.frows) (qa a0.frows) false,.op 1 0 0,.os true 8 5 (a0.veffects) 0 (qa a0.feffects) false],.cells 0 [.int .i64 a0.fcache.fsize,.os true 2 2 (a0.fcache.vorder) 0 (qa a0.fcache.forder) false,.mp 3,.mp 4],.cells (a0.fcache.vorder) (qc zl a0.fcache.forder),.map (yq zs zK a0.fcache.freplies.l) (some (a0.fcache.freplies.bs,a0.fcache.freplies.ck)),.map (yq (AV.int .i64) (AV.int .i64) a0.fcache.flast.l) (some (a0.fcache.flast.bs,a0.fcache.flast.ck)),.cells (a0.veffects) (qc zi a0.feffects)] (fun r' σ'=>r'=.tup [.agg (yJ r.1),.int .i64 r.2]∧σ'=[.cells 0 [.int .i64 a0.fself,.ds true (qc wh a0.fnumbers) (qa a0.fnumbers) false,.ds true (qc za a0.fschemas) (qa a0.fschemas) false,.str a0.fnewest.fName,.ds true (qc zb a0.fnewest.fMessages) (qa a0.fnewest.fMessages) false,.ds true (qc zf a0.fnewest.fEnums) (qa a0.fnewest.fEnums) false,.ds true (qc zm a0.fnewest.fMethods) (qa a0.fnewest.fMethods) false,.ds true (qc yd a0.frows) (qa a0.frows) false,.op 1 0 0,.os true 8 5 (a0.veffects) 0 (qa a0.feffects) false],.cells 0 [.int .i64 a0.fcache.fsize,.os true 2 2 (a0.fcache.vorder) 0 (qa a0.fcache.forder) false,.mp 3,.mp 4],.cells (a0.fcache.vorder) (qc zl a0.fcache.forder),.map (yq zs zK a0.fcache.freplies.l) (some (a0.fcache.freplies.bs,a0.fcache.freplies.ck)),.map (yq (AV.int .i64) (AV.int .i64) a0.fcache.flast.l) (some (a0.fcache.flast.bs,a0.fcache.flast.ck)),.cells (a0.veffects) (qc zi a0.feffects)]):=by
 refine w5 [0,1,2,3,4,5] (rs:=[.cell 4 216,.tmp 5]) tok Tryz.func133 rfl Tryz.ntmps133 rfl Tryz.call133 (by simp) rfl ?_;refine zA [(0,.op 0 0 0),(1,.agg (zq a1))] ⟨rfl,rfl,trivial⟩ ?_;unfold wV at h
 refine rg tok [0,3,4] fun K hK=>?_
 simp only[go_sem,qd,qb,qe,reduceCtorEq,zq];apply hK
 obtain⟨r1,hr1,h⟩:=yg h
 refine rd [0,3,4,6] fun K hK=>?_
 refine DW.start (T:=tab) [.any,.any,.any,.at [],.any,.at [],.eff,.any] [] ?_;refine DW.runN tok 6 ?_;simp only[go_sem,qd,qb,qe,reduceCtorEq];refine DW.call rfl rfl rfl ((xP.ok hr1).c _) ?_;refine DW.runN tok 1 ?_;simp only[go_sem,qd,qb,reduceCtorEq];refine DW.fin tok (by decide +kernel) rfl ?_;simp only[zz,upd,qb,reduceIte,yS,xD];apply hK
 refine zd fun Z2 hZ2=>?_
 refine rgN [0,3,4,6,23] ?_;refine yf rfl (fun hc3=>?_) (fun hc3=>?_)
 · rw[if_pos hc3] at h;have t4:=eq_true hc3
   refine rg tok [4,5] fun K hK=>?_
   simp only[go_sem,qd,qf,qb,qe,reduceCtorEq,t4];apply hK
   apply zY;cases h;simp only[w7,yy,yI,xq,exists_eq_left',go_sem,qf,qb,qe,yJ];refine⟨by decide,by simp,?_,?_⟩
   · first|rfl|(simp only[go_sem,qd,qf,qb,qe,qi,ql,reduceIte,reduceCtorEq,push_cast,if_true,qw,qj,qn,qk,qz,qo,qH,qC,qs,qr,qp,zt,zg,zl,zm,za,zi,yJ,yi]<;>rfl)
   first|rfl|(simp only[go_sem,qb,qe,reduceCtorEq,push_cast,if_true,qj,qn,qk,qo,qs,qr,zt]<;>rfl)
 rw[if_neg hc3] at h;have t5:=eq_false hc3;apply zj;apply hZ2;obtain⟨y6,hy6,h⟩:=bind_some h;have f7:=E33.idxS hy6;have f8:=E33.loadS rfl rfl hy6
 refine rd [0,3,4,6,7] fun K hK=>?_
 refine DW.start (T:=tab) [.any,.any,.any,.own 1 [],.any,.any,.any,.own 1 [],.own 1 [],.any,.any,.own 1 [],.eff,.eff] [(1,[])] ?_;refine DW.runN tok 8 ?_;simp only[go_sem,qd,qb,qe,reduceCtorEq,t5];refine DW.runN tok 6 ?_;simp only[go_sem,qd,qf,qb,qe,reduceCtorEq,za,f7,f8];refine DW.fin tok (by decide +kernel) rfl ?_;simp only[zz,upd,qb,reduceIte,yS,xD];apply hK
 obtain⟨y9,hy9,h⟩:=bind_some h;have f10:=E33.idxS hy9;have f11:=E33.loadS rfl rfl hy9
 refine rg tok [3,4,7,8] fun K hK=>?_
 simp only[go_sem,qd,qf,qb,qe,reduceCtorEq,za,f10,f11];apply hK
 refine rgN [3,4,7,8] ?_
 refine rc [3,4,7,8,9] fun K hK=>?_
 obtain⟨r12,hr12,h⟩:=yg h;refine rnN 4 ?_;refine clN rfl rfl rfl ((wb.ok hr12).c _) ?_;refine zw tok 6 ?_;simp only[go_sem,qd,qf,qb,qe,zm,yJ];refine nkN hK ?_
 refine rc [3,4,7,8,9,10] fun K hK=>?_
 obtain⟨r13,hr13,h⟩:=yg h;refine rnN 3 ?_;refine clN rfl rfl rfl ((wb.ok hr13).c _) ?_;refine zw tok 6 ?_;simp only[go_sem,qd,qf,qb,qe,zm,yJ];refine nkN hK ?_
 refine zd fun Z14 hZ14=>?_
 refine rc [3,4,7,8,67] fun K hK=>?_
 refine rnN 3 ?_;refine zG 3 (fun L τ=>L=[(3,.op 6 0 0),(4,.op 7 0 0),(7,.op 8 0 0),(8,.op 9 0 0),(67,.bool ((!r12.2)||(!r13.2)))]∧τ=([.cells 0 [.int .i64 a0.fself,.ds true (qc wh a0.fnumbers) (qa a0.fnumbers) false,.ds true (qc za a0.fschemas) (qa a0.fschemas) false,.str a0.fnewest.fName,.ds true (qc zb a0.fnewest.fMessages) (qa a0.fnewest.fMessages) false,.ds true (qc zf a0.fnewest.fEnums) (qa a0.fnewest.fEnums) false,.ds true (qc zm a0.fnewest.fMethods) (qa a0.fnewest.fMethods) false,.ds true (qc yd a0.frows) (qa a0.frows) false,.op 1 0 0,.os true 8 5 (a0.veffects) 0 (qa a0.feffects) false],.cells 0 [.int .i64 a0.fcache.fsize,.os true 2 2 (a0.fcache.vorder) 0 (qa a0.fcache.forder) false,.mp 3,.mp 4],.cells (a0.fcache.vorder) (qc zl a0.fcache.forder),.map (yq zs zK a0.fcache.freplies.l) (some (a0.fcache.freplies.bs,a0.fcache.freplies.ck)),.map (yq (AV.int .i64) (AV.int .i64) a0.fcache.flast.l) (some (a0.fcache.flast.bs,a0.fcache.flast.ck)),.cells (a0.veffects) (qc zi a0.feffects),.cells 0 (zq a1),.cells 0 [.str [],.ds true [] 0 true,.ds true [] 0 true,.ds true [] 0 true,.str [],.str [],.str [],.str [],.str [],.str [],.int .i64 0,.int .i64 0,.str [],.ds true [] 0 true,.ds true [] 0 true],.cells 0 (za y6),.cells 0 [.str y9.fName,.ds true (qc zb y9.fMessages) (qa y9.fMessages) false,.ds true (qc zf y9.fEnums) (qa y9.fEnums) false,.ds true (qc zm y9.fMethods) (qa y9.fMethods) false,.str r13.1.fName,.str r13.1.fIn,.str r13.1.fOut,.str r12.1.fName,.str r12.1.fIn,.str r12.1.fOut,.int .i64 0,.int .i64 0,.str [],.ds true [] 0 true,.ds true [] 0 true]]:ze)) ?_ ?_
 · refine yv (b:=(!r12.2)) 64 rfl (fun hg64=>?_) (fun hg64=>?_)
   · refine rnN 3 ?_;refine zh ⟨rfl,_,_,⟨rfl,rfl⟩,.b hg64⟩
   refine rnN 3 ?_;refine zh ⟨rfl,_,_,⟨rfl,rfl⟩,.b hg64⟩
 rintro _ _ ⟨rfl,rfl⟩;refine nkN hK ?_;refine zT (b:=((!r12.2)||(!r13.2))) rfl (fun hc15=>?_) (fun hc15=>?_)
 · rw[if_pos hc15] at h;refine rgN [4,5] ?_;apply zY;cases h;simp only[w7,yy,yI,xq,exists_eq_left',go_sem,qf,qb,qe,yJ];refine⟨by decide,by simp,?_,?_⟩
   · first|rfl|(simp only[go_sem,qd,qf,qb,qe,qi,ql,reduceIte,reduceCtorEq,push_cast,if_true,qw,qj,qn,qk,qz,qo,qH,qC,qs,qr,qp,zt,zg,zl,zm,za,zi,yJ,yi]<;>rfl)
   first|rfl|(simp only[go_sem,qb,qe,reduceCtorEq,push_cast,if_true,qj,qn,qk,qo,qs,qr,zt]<;>rfl)
 rw[wO hc15] at h;apply zj;apply hZ14
 refine rc [4,7,8,11,12] fun K hK=>?_
 obtain⟨_u16,hu16,h⟩:=bind_some h;have gu16:=wA hu16;have gu16t:=eq_true gu16;have f17:=conv_s2b (T:=tab) (src:=9) (dst:=48) rfl rfl rfl rfl rfl rfl (wA hu16);obtain⟨r18,hr18,h⟩:=bind_some h;refine zw tok 8 ?_;simp only[go_sem,qd,qf,qb,qe,f17];refine var (L:=[(4,.op 6 0 0),(7,.op 7 0 0),(8,.op 8 0 0),(71,.agg (za y9)),(74,.str r12.1.fIn),(77,.ds true (qc ZT a1.fBody) (qa a1.fBody) false)]) (τ:=[.cells 0 [.int .i64 a0.fself,.ds true (qc wh a0.fnumbers) (qa a0.fnumbers) false,.ds true (qc za a0.fschemas) (qa a0.fschemas) false,.str a0.fnewest.fName,.ds true (qc zb a0.fnewest.fMessages) (qa a0.fnewest.fMessages) false,.ds true (qc zf a0.fnewest.fEnums) (qa a0.fnewest.fEnums) false,.ds true (qc zm a0.fnewest.fMethods) (qa a0.fnewest.fMethods) false,.ds true (qc yd a0.frows) (qa a0.frows) false,.op 1 0 0,.os true 8 5 (a0.veffects) 0 (qa a0.feffects) false],.cells 0 [.int .i64 a0.fcache.fsize,.os true 2 2 (a0.fcache.vorder) 0 (qa a0.fcache.forder) false,.mp 3,.mp 4],.cells (a0.fcache.vorder) (qc zl a0.fcache.forder),.map (yq zs zK a0.fcache.freplies.l) (some (a0.fcache.freplies.bs,a0.fcache.freplies.ck)),.map (yq (AV.int .i64) (AV.int .i64) a0.fcache.flast.l) (some (a0.fcache.flast.bs,a0.fcache.flast.ck)),.cells (a0.veffects) (qc zi a0.feffects),.cells 0 [.str [],.ds true [] 0 true,.ds true [] 0 true,.ds true [] 0 true,.str [],.str [],.str [],.str [],.str [],.str [],.int .i64 0,.int .i64 0,.str [],.ds true [] 0 true,.ds true [] 0 true],.cells 0 (za y6),.cells 0 [.str y9.fName,.ds true (qc zb y9.fMessages) (qa y9.fMessages) false,.ds true (qc zf y9.fEnums) (qa y9.fEnums) false,.ds true (qc zm y9.fMethods) (qa y9.fMethods) false,.str r13.1.fName,.str r13.1.fIn,.str r13.1.fOut,.str r12.1.fName,.str r12.1.fIn,.str r12.1.fOut,.int .i64 0,.int .i64 0,.str [],.ds true [] 0 true,.ds true [] 0 true]]) (.t [0,1,2,3,4,5,7,8,9] false) ?_;refine clN rfl rfl rfl ((Yv.ok hr18).c _) ?_;refine zw tok 6 ?_;simp only[go_sem,qd,qf,qb,qe,zg,za];refine nkN hK ?_
 refine zd fun Z19 hZ19=>?_
 refine rgN [4,7,8,11,12,82] ?_;refine yf rfl (fun hc20=>?_) (fun hc20=>?_)
 · rw[if_neg hc20] at h;have t21:=eq_false hc20
   refine rg tok [4,5] fun K hK=>?_
   simp only[go_sem,qd,qf,qb,qe,t21];apply hK
   apply zY;cases h;simp only[w7,yy,yI,xq,exists_eq_left',go_sem,qf,qb,qe,yJ];refine⟨by decide,by simp,?_,?_⟩
   · first|rfl|(simp only[go_sem,qd,qf,qb,qe,qi,ql,reduceIte,reduceCtorEq,push_cast,if_true,qw,qj,qn,qk,qz,qo,qH,qC,qs,qr,qp,zt,zg,zl,zm,za,zi,yJ,yi]<;>rfl)
   first|rfl|(simp only[go_sem,qb,qe,reduceCtorEq,push_cast,if_true,qj,qn,qk,qo,qs,qr,zt]<;>rfl)
 rw[if_pos hc20] at h;have t22:=eq_true hc20;apply zj;apply hZ19
 refine rc [4,8,11,13] fun K hK=>?_
 obtain⟨r23,hr23,h⟩:=bind_some h;refine zw tok 9 ?_;simp only[go_sem,qd,qf,qb,qe,t22];refine clN rfl rfl rfl ((xn.ok hr23).c _) ?_;refine zw tok 6 ?_;simp only[go_sem,qd,qf,qb,qe,zO];refine nkN hK ?_
 refine rc [4,8,12] fun K hK=>?_
 obtain⟨r24,hr24,h⟩:=bind_some h;refine rnN 2 ?_;refine clN rfl rfl rfl ((YG.ok hr24).c _) ?_;refine zw tok 6 ?_;simp only[go_sem,qd,qf,qb,qe,zg,yJ];refine nkN hK ?_;refine rgN [4,5] ?_;apply zY;cases h;simp only[w7,yy,yI,xq,exists_eq_left',go_sem,qf,qb,qe,yJ];refine⟨by decide,by simp,?_,?_⟩
 · first|rfl|(simp only[go_sem,push_cast,qn,qk,qo,qs,qr,zt]<;>rfl)
 first|rfl|(simp only[go_sem,qb,qe,reduceCtorEq,push_cast,if_true,qj,qn,qk,qo,qs,qr,zt]<;>rfl)
end
end Go.Proofs.YtaahlckibpiphaaGreatDoor
