/- Parts of the proof, cut down to what it needs. -/
import Derived.Test.YtaahlckibpiphaaGreatDoorMFB
import Derived.Test.YtaahlckibpiphaaGreatDoorMFBa
set_option linter.constructorNameAsVariable false
set_option linter.unusedSimpArgs false
set_option linter.unusedVariables false
namespace Go.Proofs.YtaahlckibpiphaaGreatDoor
open _root_.List renaming length → qg, flatMap → qh, length_append → qk, length_cons → qp, drop_zero → qq, map_nil → qr, map_append → qs, map_cons → qt, append_assoc → qu, length_nil → qz, append_nil → qB, flatMap_cons → qC, flatMap_append → qD, nil_append → qE, cons_append → qF, flatMap_nil → qG, range_zero → qN, all_cons → qS, all_nil → qV, range_succ → qY, eq_nil_of_length_eq_zero → ub, take_length → uc, range → uG

open _root_.Nat renaming reduceEqDiff → qa, reduceLeDiff → qb, reduceAdd → qc, reduceMul → qd, reduceLT → qe, reduceSub → qf, zero_add → ql, lt_succ_self → qH, le_refl → qI, zero_le → qW, reduceMod → q1, zero_mul → um, add_assoc → uv, add_zero → uJ
open _root_.Bool renaming not_false → qn, and_true → qo, or_true → qv, not_true → qw, and_false → qx, or_false → qy, and_self → qJ, false_eq_true → q2, true_and → ui, true_or → uE, false_or → uM
open _root_.Int renaming toNat → qQ


open _root_.UInt8 renaming ofNat → ua


open _root_.Go.Proofs.Tryz renaming prog → qi
section
set_option maxRecDepth 4000
set_option maxHeartbeats 1000000
open AM
def zT.j8 (r2:Int)(m1__13:Int)(m1__24:List UInt8)(m1__45:List yo)(l6:List zA):Option zq:=
 some (⟨r2,m1__13,m1__24,l6,m1__45⟩:zq)
def zT.l30 (xm:zs→Option zq)(x13:Int)(l11:List zA)(rec17:Int→List zA→Option zq)(y17:yJ):List zs→Int→List zq→Option zq
 |[],x26,l24=>(vai (qg l11+1) 32).bind fun _u32=>(rec17 (x13+1) (l11++[(⟨y17.ftag,l24⟩:zA)]))
 |y30::q30,x26,l24=>(xm y30).bind fun r39=>(vai (qg l24+1) 80).bind fun _u40=>((zT.l30 xm x13 l11 rec17 y17 q30) (x26+1) (l24++[r39]))
def zT.l17 (xm:zs→Option zq)(r2:Int)(r10:List yo):List yJ→Int→List zA→Option zq
 |[],x13,l11=>(zT.j8 r2 0 [] r10 l11)
 |y17::q17,x13,l11=>(zT.l30 xm x13 l11 (zT.l17 xm r2 r10 q17) y17 y17.fl 0 ([]:List zq))
def zT.body (xm:zs→Option zq)(a0:zs):Option zq:=
 bnd (Ze a0) fun r2=>(match a0 with|.nil=>(zT.j8 r2 0 [] ([]:List yo) ([]:List zA))|.num n9=>(zT.j8 r2 n9 [] ([]:List yo) ([]:List zA))|.str s9=>(zT.j8 r2 0 s9 ([]:List yo) ([]:List zA))|.node e9 r9=>(wJ (⟨e9,r9⟩:yg)).bind fun r10=>(zT.l17 xm r2 r10 e9 0 ([]:List zA)))
theorem zT.step (xm:zs→Option zq)(vbV:∀ (a0:zs) (r:zq),xm a0=some r→ACalls qi 249 [.agg (zl a0)] [] (fun r' _=>r'=.agg (za r)))(a0:zs)(r:zq)(h:zT.body xm a0=some r):ACalls qi 249 [.agg (zl a0)] [] (fun r' _=>r'=.agg (za r)):=by
 have ev_value_Value_Tree:=fun a0 r h σ=>(vbV a0 r h).c σ
 refine zw (rs:=[.cell 2 37]) tok Tryz.func249 rfl Tryz.ntmps249 rfl Tryz.call249 (by simp) ?_;refine zC [(0,.agg (zl a0))] ⟨rfl,trivial⟩ ?_;unfold zT.body at h;have f1:=Yf a0;unfold AV.one at f1
 refine rg tok [1,2] fun K hK=>?_
 simp only[go_sem,qe,qb,qa,qc,qd,qf,reduceIte,reduceCtorEq,zl,f1];apply hK
 refine rc [1,2,3] fun K hK=>?_
 obtain⟨r2,hr2,h⟩:=yi h;refine zd tok 1 ?_;simp only[go_sem,qe,qb,qa,qc,qd,qf,reduceIte,reduceCtorEq,zl];refine clN rfl rfl rfl (Ze.ev a0 r2 hr2 _) ?_;refine zd tok 3 ?_;simp only[go_sem,qe,qb,qa,qc,qd,qf,reduceIte,reduceCtorEq,za,zh,zl];refine nkN hK ?_;refine ZG 2 3 2 rfl (by simp) rfl (L:=[(1,.op 0 0 0),(2,.op 1 0 0),(3,.op 2 0 0)]) (τ:=[.cells 0 [vc0 a0],.cells 0 [.int .i64 0,.int .i64 0,.str [],.ds true [] 0 true,.ds true [] 0 true],.cells 0 [.int .i64 r2,.int .i64 0,.str [],.os true 2 3 0 0 (qg ([]:List zA)) false,.ds true [] 0 true],.cells 0 (qh zz ([]:List zA))]) .s ?_;refine xV (fun L τ=>∃ (m1__13:Int) (m1__24:List UInt8) (m1__45:List yo) (l6:List zA) (v7:Nat),L=[(2,.op 0 0 0),(3,.op 1 0 0)]∧τ=([.cells 0 [.int .i64 0,.int .i64 0,.str [],.ds true (qh zz ([]:List zA)) (qg ([]:List zA)) false,.ds true (qh zu ([]:List yo)) (qg ([]:List yo)) false],.cells 0 [.int .i64 r2,.int .i64 m1__13,.str m1__24,.os true 2 2 v7 0 (qg l6) false,.ds true (qh zu m1__45) (qg m1__45) false],.cells v7 (qh zz l6)]:zi)∧zT.j8 r2 m1__13 m1__24 m1__45 l6=some r) ?_ ?_
 · refine rgN [2,3,16] ?_;apply zt
   rcases a0 with _|n9|s9|⟨e9,r9⟩
   · dsimp only at h
     try simp only[Xv,XW,zl]
     refine rg tok [2,3,16,18,19] fun K hK=>?_
     simp only[go_sem,qe,qb,qa,qc,qd,qf,reduceIte,reduceCtorEq,xI,xJ,TypeDesc.isIface];apply hK
     refine zK rfl ?_
     refine rg tok [2,3,16,23,24] fun K hK=>?_
     simp only[go_sem,qe,qb,qa,qc,qd,qf,reduceIte,reduceCtorEq,xI,xJ,TypeDesc.isIface];apply hK
     refine zK rfl ?_
     refine rg tok [2,3,28,29] fun K hK=>?_
     simp only[go_sem,qe,qb,qa,qc,qd,qf,reduceIte,reduceCtorEq,xI,xJ,TypeDesc.isIface];apply hK
     refine zK rfl ?_;apply zp;exact⟨_,_,⟨0,[],([]:List yo),([]:List zA),0,rfl,rfl,h⟩,(.t [1,2,3] true)⟩
   · dsimp only at h
     try simp only[Xu,XV,zl]
     refine rg tok [2,3,16,18,19] fun K hK=>?_
     simp only[go_sem,qe,qb,qa,qc,qd,qf,reduceIte,reduceCtorEq,xI,xJ,TypeDesc.isIface];apply hK
     refine zQ rfl ?_;refine rgN [2,3,4] ?_
     refine rgE tok [2,3] fun K hK=>?_
     simp only[go_sem,qe,qb,qa,qc,qd,qf,reduceIte,reduceCtorEq,za,zh];apply hK
     exact⟨_,_,⟨n9,[],([]:List yo),([]:List zA),0,rfl,rfl,h⟩,(.t [1,2,3] true)⟩
   · dsimp only at h
     try simp only[Xt,XU,zl]
     refine rg tok [2,3,16,18,19] fun K hK=>?_
     simp only[go_sem,qe,qb,qa,qc,qd,qf,reduceIte,reduceCtorEq,xI,xJ,TypeDesc.isIface];apply hK
     refine zK rfl ?_
     refine rg tok [2,3,16,23,24] fun K hK=>?_
     simp only[go_sem,qe,qb,qa,qc,qd,qf,reduceIte,reduceCtorEq,xI,xJ,TypeDesc.isIface];apply hK
     refine zQ rfl ?_;refine rgN [2,3,5] ?_
     refine rgE tok [2,3] fun K hK=>?_
     simp only[go_sem,qe,qb,qa,qc,qd,qf,reduceIte,reduceCtorEq,za,zh];apply hK
     exact⟨_,_,⟨0,s9,([]:List yo),([]:List zA),0,rfl,rfl,h⟩,(.t [1,2,3] true)⟩
   dsimp only at h
   try simp only[Yz,Xh,zl]
   refine rg tok [2,3,16,18,19] fun K hK=>?_
   simp only[go_sem,qe,qb,qa,qc,qd,qf,reduceIte,reduceCtorEq,xI,xJ,TypeDesc.isIface];apply hK
   refine zK rfl ?_
   refine rg tok [2,3,16,23,24] fun K hK=>?_
   simp only[go_sem,qe,qb,qa,qc,qd,qf,reduceIte,reduceCtorEq,xI,xJ,TypeDesc.isIface];apply hK
   refine zK rfl ?_
   refine rg tok [2,3,28,29] fun K hK=>?_
   simp only[go_sem,qe,qb,qa,qc,qd,qf,reduceIte,reduceCtorEq,xI,xJ,TypeDesc.isIface];apply hK
   refine zQ rfl ?_;refine rgN [2,3,6] ?_
   refine rc [2,3,6] fun K hK=>?_
   obtain⟨r10,hr10,h⟩:=bind_some h;refine rnN 1 ?_;refine clN rfl rfl rfl ((wJ.ok hr10).c _) ?_;refine zd tok 2 ?_;simp only[go_sem,qe,qb,qa,qc,qd,qf,reduceIte,reduceCtorEq,za,zh];refine nkN hK ?_
   refine rg tok [2,3,36,37,38] fun K hK=>?_
   simp only[go_sem,qe,qb,qa,qc,qd,qf,reduceIte,reduceCtorEq,zJ,vbs];apply hK
   apply zt
   refine xv 36 fun hb17=>?_
   replace hb17:qg e9≤9223372036854775807:=hb17.1;refine yh (fun m L τ=>∃ (p17 q17:List yJ) (x13:Int) (l11:List zA) (v12:Nat),m=qg q17∧L=[(2,.op 0 0 0),(3,.op 1 0 0),(36,.ds true (qh xa e9) (qg e9) false),(37,.int .i64 (qg e9:Int)),(38,.int .i64 x13)]∧τ=([.cells 0 [.int .i64 0,.int .i64 0,.str [],.ds true [] 0 true,.ds true [] 0 true],.cells 0 [.int .i64 r2,.int .i64 0,.str [],.os true 2 2 v12 0 (qg l11) false,.ds true (qh zu r10) (qg r10) false],.cells v12 (qh zz l11)]:zi)∧e9=p17++q17∧x13=(qg p17:Int)∧zT.l17 xm r2 r10 q17 x13 l11=some r) _ ⟨[],e9,0,([]:List zA),0,rfl,rfl,rfl,rfl,rfl,h⟩ (.t [1,2,3] false) ?_;rintro m L τ ⟨p17,q17,x13,l11,v12,rfl,rfl,rfl,hE17,hi17,h⟩
   rcases q17 with _|⟨y17,q17⟩
   · have hz17:=xE hE17 hi17;simp only[zT.l17] at h
     refine rg tok [2,3,36,37,38,39] fun K hK=>?_
     simp only[go_sem,qe,qb,qa,qc,qd,qf,reduceIte,reduceCtorEq,zV,hz17];apply hK
     refine ze fun Z18 hZ18=>?_
     refine zK rfl ?_;apply ye;exact⟨_,_,⟨0,[],r10,l11,v12,rfl,rfl,h⟩,(.t [0,1,2] true)⟩
   obtain⟨hz17,hw17,hx17,hE'17,hi'17⟩:=yZ hE17 hi17 hb17;simp only[zT.l17] at h
   refine rg tok [2,3,36,37,38,39] fun K hK=>?_
   simp only[go_sem,qe,qb,qa,qc,qd,qf,reduceIte,reduceCtorEq,zV,hz17,hw17];apply hK
   refine ze fun Z19 hZ19=>?_
   refine zQ rfl ?_;apply zp;apply hZ19
   refine ze fun Z20 hZ20=>?_
   apply zt;have f21:=E324.idxS hx17;have f22:=E324.loadS rfl rfl hx17
   refine rg tok [2,3,8,36,37,38] fun K hK=>?_
   simp only[go_sem,qe,qb,qa,qc,qd,qf,reduceIte,reduceCtorEq,yL,yH,hz17,hw17,f21,f22];apply hK
   refine rg tok [2,3,8,9,36,37,38] fun K hK=>?_
   simp only[go_sem,qe,qb,qa,qc,qd,qf,reduceIte,reduceCtorEq,zF,z8,hz17,hw17];apply hK
   refine ZG 4 1 5 rfl (by simp) rfl (L:=[(2,.op 0 0 0),(3,.op 1 0 0),(8,.op 3 0 0),(9,.op 4 0 0),(36,.ds true (qh xa e9) (qg e9) false),(37,.int .i64 (qg e9:Int)),(38,.int .i64 x13)]) (τ:=[.cells 0 [.int .i64 0,.int .i64 0,.str [],.ds true [] 0 true,.ds true [] 0 true],.cells 0 [.int .i64 r2,.int .i64 0,.str [],.os true 2 2 v12 0 (qg l11) false,.ds true (qh zu r10) (qg r10) false],.cells v12 (qh zz l11),.cells 0 (yL y17),.cells 0 [.int .i64 y17.ftag,.os true 5 5 0 0 (qg ([]:List zq)) false],.cells 0 (qh ym ([]:List zq))]) .s ?_
   refine ze fun Z23 hZ23=>?_
   refine rg tok [2,3,9,36,37,38,46,47,48] fun K hK=>?_
   simp only[go_sem,qe,qb,qa,qc,qd,qf,reduceIte,reduceCtorEq,hz17,hw17];apply hK
   apply zt
   refine xv 46 fun hb30=>?_
   replace hb30:qg y17.fl≤9223372036854775807:=hb30.1;refine yh (fun m L τ=>∃ (p30 q30:List zs) (x26:Int) (l24:List zq) (v25:Nat),m=qg q30∧L=[(2,.op 0 0 0),(3,.op 1 0 0),(9,.op 3 0 0),(36,.ds true (qh xa e9) (qg e9) false),(37,.int .i64 (qg e9:Int)),(38,.int .i64 x13),(46,.ds true (qh zl y17.fl) (qg y17.fl) false),(47,.int .i64 (qg y17.fl:Int)),(48,.int .i64 x26)]∧τ=([.cells 0 [.int .i64 0,.int .i64 0,.str [],.ds true [] 0 true,.ds true [] 0 true],.cells 0 [.int .i64 r2,.int .i64 0,.str [],.os true 2 2 v12 0 (qg l11) false,.ds true (qh zu r10) (qg r10) false],.cells v12 (qh zz l11),.cells 0 [.int .i64 y17.ftag,.os true 5 4 v25 0 (qg l24) false],.cells v25 (qh ym l24)]:zi)∧y17.fl=p30++q30∧x26=(qg p30:Int)∧zT.l30 xm x13 l11 (zT.l17 xm r2 r10 q17) y17 q30 x26 l24=some r) _ ⟨[],y17.fl,0,([]:List zq),0,rfl,rfl,rfl,rfl,rfl,h⟩ (.t [0,1,2,4,5] false) ?_;rintro m L τ ⟨p30,q30,x26,l24,v25,rfl,rfl,rfl,hE30,hi30,h⟩
   rcases q30 with _|⟨y30,q30⟩
   · have hz30:=xE hE30 hi30;simp only[zT.l30] at h
     refine rg tok [2,3,9,36,37,38,46,47,48,49] fun K hK=>?_
     simp only[go_sem,qe,qb,qa,qc,qd,qf,reduceIte,reduceCtorEq,zV,hz17,hw17,hz30];apply hK
     refine ze fun Z31 hZ31=>?_
     refine zK rfl ?_;apply ye;apply hZ23;obtain⟨_u32,hu32,h⟩:=bind_some h;have gu32:=xh hu32;have f33:=(zX E34.len l11)
     refine rgE tok [2,3,36,37,38] fun K hK=>?_
     simp only[go_sem,qe,qb,qa,qc,qd,qf,reduceIte,reduceCtorEq,zU,yA,qY,qN,qW,true_and,q1,yR,yp,yU,zF,za,z8,zh,hz17,hw17,hz30,gu32,f33,yP,qV,qS,AV.one,qJ,qo,gt_iff_lt,zW,qD,qC,qG,qB,qE,qk,qp,qz,ql,qu,qF];apply hK
     apply hZ20
     refine rgE tok [2,3,36,37,38] fun K hK=>?_
     simp only[go_sem,qe,qb,qa,qc,qd,qf,reduceIte,reduceCtorEq,zV,hz17,hw17,hz30];apply hK
     exact⟨_,_,_,qH q17.length,⟨p17++[y17],q17,x13+1,l11++[(⟨y17.ftag,l24⟩:zA)],v12+1,rfl,rfl,rfl,hE'17,hi'17,h⟩,(.t [0,1,2] false)⟩
   obtain⟨hz30,hw30,hx30,hE'30,hi'30⟩:=yZ hE30 hi30 hb30;simp only[zT.l30] at h
   refine rg tok [2,3,9,36,37,38,46,47,48,49] fun K hK=>?_
   simp only[go_sem,qe,qb,qa,qc,qd,qf,reduceIte,reduceCtorEq,zV,hz17,hw17,hz30,hw30];apply hK
   refine ze fun Z34 hZ34=>?_
   refine zQ rfl ?_;apply zp;apply hZ34
   refine ze fun Z35 hZ35=>?_
   apply zt;have f36:=E282.idxS hx30;have f37:=E282.loadS rfl rfl hx30;have f38:=Yf y30;unfold AV.one at f38
   refine rg tok [2,3,9,11,36,37,38,46,47,48] fun K hK=>?_
   simp only[go_sem,qe,qb,qa,qc,qd,qf,reduceIte,reduceCtorEq,zl,hz17,hw17,hz30,hw30,f36,f37,f38];apply hK
   obtain⟨r39,hr39,h⟩:=bind_some h;obtain⟨_u40,hu40,h⟩:=bind_some h;have gu40:=xh hu40;have f41:=(zX E38.len l24)
   refine rdE [2,3,9,36,37,38,46,47,48] fun K hK=>?_
   refine DW.start (T:=tab) [.any,.own 2 [],.at [],.eff,.eff,.eff,.any,.eff] [(2,[])] ?_;refine DW.runN tok 3 ?_;simp only[go_sem,qe,qb,qa,qc,qd,qf,reduceIte,reduceCtorEq,zF,za,z8,zh,zl,hz17,hw17,hz30,hw30,gu40,f41,yP,qV,qS,AV.one,qJ,qo,gt_iff_lt,zW,qD,qC,qG,qB,qE,qk,qp,qz,ql,qu,qF];refine DW.call rfl rfl rfl (ev_value_Value_Tree y30 r39 hr39 _) ?_;refine DW.runN tok 4 ?_;simp only[go_sem,qe,qb,qa,qc,qd,qf,reduceIte,reduceCtorEq,zU,yA,qY,qN,qW,true_and,q1,yR,yp,yU,zF,za,z8,zh,zl,hz17,hw17,hz30,hw30,gu40,f41,yP,qV,qS,AV.one,qJ,qo,gt_iff_lt,zW,qD,qC,qG,qB,qE,qk,qp,qz,ql,qu,qF];refine DW.fin tok (by decide +kernel) rfl ?_;simp only[zG,yE,yV,ZS,upd,qa,reduceIte,xl,xU];apply hK
   apply hZ35
   refine rgE tok [2,3,9,36,37,38,46,47,48] fun K hK=>?_
   simp only[go_sem,qe,qb,qa,qc,qd,qf,reduceIte,reduceCtorEq,zV,hz17,hw17,hz30,hw30];apply hK
   exact⟨_,_,_,qH q30.length,⟨p30++[y30],q30,x26+1,l24++[r39],v25+1,rfl,rfl,rfl,hE'30,hi'30,h⟩,(.t [0,1,2,3,4] false)⟩
 rintro _ _ ⟨m1__13,m1__24,m1__45,l6,v7,rfl,rfl,h⟩;unfold zT.j8 at h
 refine rg tok [2] fun K hK=>?_
 simp only[go_sem,qe,qb,qa,qc,qd,qf,reduceIte,reduceCtorEq,za,zh];apply hK
 cases h;exact rtA
def zT : Nat→zs→Option zq
 |0,_=>none
 |k+1,a0=>zT.body (zT k) a0
theorem zT.all (k:Nat):(∀ (a0:zs) (r:zq),zT k a0=some r→ACalls qi 249 [.agg (zl a0)] [] (fun r' _=>r'=.agg (za r))):=by
 induction k with
 |zero=>exact (fun a0 r h=>by simp only[zT] at h; cases h)
 |succ k ih=>exact (fun a0 r h=>zT.step _ ih a0 r (by simpa only [zT] using h))
theorem zT.ev (k:Nat)(a0:zs)(r:zq)(h:zT k a0=some r)(σ:zi):ACalls qi 249 [.agg (zl a0)] σ (fun r' σ'=>r'=.agg (za r)∧σ'=σ):=
 ((zT.all k) a0 r h).c σ
def Zv.j5  : zs:=
 zs.nil
def Zv (a0:zs):zs:=
 bnd (Zk a0) fun r3=>(if r3.2=true then (zs.num r3.1) else (match a0 with|.nil=>Zv.j5|.num n6=>Zv.j5|.str s6=>Zv.j5|.node e6 r6=>(zs.node e6 r6)))
theorem Zv.ok {a0 r}(h:Zv a0=r):ACalls qi 250 [.agg (zl a0)] [] (fun r' _=>r'=anyV r):=by
 refine zw (rs:=[.tmp 2]) tok Tryz.func250 rfl Tryz.ntmps250 rfl Tryz.call250 (by simp) ?_;refine zC [(0,.agg (zl a0))] ⟨rfl,trivial⟩ ?_;unfold Zv at h;have f1:=Yf a0;unfold AV.one at f1
 refine rg tok [1] fun K hK=>?_
 simp only[go_sem,qe,qb,qa,qc,qd,qf,reduceIte,reduceCtorEq,zl,f1];apply hK
 refine ze fun Z2 hZ2=>?_
 refine rc [1,3,4] fun K hK=>?_
 obtain⟨r3,hr3,h⟩:=yi h;refine zd tok 1 ?_;simp only[go_sem,qe,qb,qa,qc,qd,qf,reduceIte,reduceCtorEq,zl];refine clN rfl rfl rfl ((Zk.ok hr3).c _) ?_;refine zd tok 5 ?_;simp only[go_sem,qe,qb,qa,qc,qd,qf,reduceIte,reduceCtorEq,zl];refine nkN hK ?_;refine rgN [1,3,12] ?_;refine zY (b:=r3.2) rfl (fun hc4=>?_) (fun hc4=>?_)
 · rw[if_pos hc4] at h;refine rgN [2] ?_;cases h;exact rtA
 rw[Zg hc4] at h;apply zp;apply hZ2;refine xV (fun L τ=>L=[]∧τ=([]:zi)∧Zv.j5=r) ?_ ?_
 · rcases a0 with _|n6|s6|⟨e6,r6⟩
   · dsimp only at h
     try simp only[Xv,XW,zl]
     refine rc [5,6] fun K hK=>?_
     refine zd tok 1 ?_;simp only[go_sem,qe,qb,qa,qc,qd,qf,reduceIte,reduceCtorEq,zl];refine clN rfl rfl rfl (asNode_nil    _) ?_;refine zd tok 5 ?_;simp only[go_sem,qe,qb,qa,qc,qd,qf,reduceIte,reduceCtorEq,zl];refine nkN hK ?_;refine rgN [5,20] ?_;refine zK rfl ?_;apply zp;exact⟨_,_,⟨rfl,rfl,h⟩,(.t [] false)⟩
   · dsimp only at h
     try simp only[Xu,XV,zl]
     refine rc [5,6] fun K hK=>?_
     refine zd tok 1 ?_;simp only[go_sem,qe,qb,qa,qc,qd,qf,reduceIte,reduceCtorEq,zl];refine clN rfl rfl rfl (asNode_num n6   _) ?_;refine zd tok 5 ?_;simp only[go_sem,qe,qb,qa,qc,qd,qf,reduceIte,reduceCtorEq,zl];refine nkN hK ?_;refine rgN [5,20] ?_;refine zK rfl ?_;apply zp;exact⟨_,_,⟨rfl,rfl,h⟩,(.t [] false)⟩
   · dsimp only at h
     try simp only[Xt,XU,zl]
     refine rc [5,6] fun K hK=>?_
     refine zd tok 1 ?_;simp only[go_sem,qe,qb,qa,qc,qd,qf,reduceIte,reduceCtorEq,zl];refine clN rfl rfl rfl (asNode_str s6   _) ?_;refine zd tok 5 ?_;simp only[go_sem,qe,qb,qa,qc,qd,qf,reduceIte,reduceCtorEq,zl];refine nkN hK ?_;refine rgN [5,20] ?_;refine zK rfl ?_;apply zp;exact⟨_,_,⟨rfl,rfl,h⟩,(.t [] false)⟩
   dsimp only at h
   try simp only[Yz,Xh,zl]
   refine rc [5,6] fun K hK=>?_
   refine zd tok 1 ?_;simp only[go_sem,qe,qb,qa,qc,qd,qf,reduceIte,reduceCtorEq,zl];refine clN rfl rfl rfl (asNode_node e6 r6   _) ?_;refine zd tok 5 ?_;simp only[go_sem,qe,qb,qa,qc,qd,qf,reduceIte,reduceCtorEq,zl];refine nkN hK ?_;refine rgN [5,20] ?_;refine zQ rfl ?_;refine rgN [2] ?_;cases h;exact rtA
 rintro _ _ ⟨rfl,rfl,h⟩;unfold Zv.j5 at h;refine rgN [2] ?_;cases h;exact rtA
def wx (a0:Int):Int:=
 (if (-2147483648)<(if 2147483647<a0 then 2147483647 else a0) then (if 2147483647<a0 then 2147483647 else a0) else (-2147483648))
theorem wx.ok {a0 r}(h:wx a0=r):ACalls qi 208 [.int .i64 a0] [] (fun r' _=>r'=.int .i64 r):=by
 refine zw (rs:=[.tmp 2]) tok Tryz.func208 rfl Tryz.ntmps208 rfl Tryz.call208 (by simp) ?_;refine zC [(0,.int .i64 a0)] ⟨rfl,trivial⟩ ?_;unfold wx at h;refine rgN [0] ?_
 refine rg tok [2] fun K hK=>?_
 simp only[go_sem,qe,qb,qa,qc,qd,qf,reduceIte,reduceCtorEq,vbt,vdz,vce,vcf];apply hK
 cases h;exact rtA
def zZ.j19 (x8:Int)(rec13:Int→zR→List zA→Option (zq×zR))(m0_16:zR)(l17:List zA):Option (zq×zR):=
 (rec13 (x8+1) m0_16 l17)
def zZ.l13 (xe:zR→Zd→(List zs)→Option (List zq×zR))(a2:yg):List Zd→Int→zR→List zA→Option (zq×zR)
 |[],x8,m0_5,l6=>some ((⟨3,0,[],l6,([]:List yo)⟩:zq),m0_5)
 |y13::q13,x8,m0_5,l6=>(xx a2 y13.fTag).bind fun r22=>(if (qg r22:Int)=0 then (zZ.j19 x8 (zZ.l13 xe a2 q13) (⟨m0_5.fp,IntKind.i64.wrap (m0_5.flooks+1)⟩:zR) l6) else (xe (⟨m0_5.fp,IntKind.i64.wrap (m0_5.flooks+1)⟩:zR) y13 r22).bind fun r27=>(if 0<(qg r27.1:Int) then (vai (qg l6+1) 32).bind fun _u30=>(zZ.j19 x8 (zZ.l13 xe a2 q13) r27.2 (l6++[(⟨y13.fTag,r27.1⟩:zA)])) else (zZ.j19 x8 (zZ.l13 xe a2 q13) r27.2 l6)))
def zZ.body (yd:zR→Int→yg→Option (zq×zR))(xe:zR→Zd→(List zs)→Option (List zq×zR))(a0:zR)(a1:Int)(a2:yg):Option (zq×zR):=
 (YN a0.fp.fParts a1).bind fun y2=>(zZ.l13 xe a2 y2 0 a0 ([]:List zA))
theorem zZ.step (yd:zR→Int→yg→Option (zq×zR))(xe:zR→Zd→(List zs)→Option (List zq×zR))(vaq:∀ (a0:zR) (a1:Int) (a2:yg) (r:zq×zR),yd a0 a1 a2=some r→ACalls qi 199 [.op 0 0 0,.int .i64 a1,.dp (zJ a2) 0] [.cells 0 (zB a0)] (fun r' σ'=>r'=.agg (za r.1)∧σ'=[.cells 0 (zB r.2)]))(vap:∀ (a0:zR) (a1:Zd) (a2:List zs) (r:List zq×zR),xe a0 a1 a2=some r→ACalls qi 237 [.op 0 0 0,.agg (yv a1),.ds true (qh zl a2) (qg a2) false] [.cells 0 (zB a0)] (fun r' σ'=>r'=.ds true (qh ym r.1) (qg r.1) false∧σ'=[.cells 0 (zB r.2)]))(a0:zR)(a1:Int)(a2:yg)(r:zq×zR)(h:zZ.body yd xe a0 a1 a2=some r):ACalls qi 199 [.op 0 0 0,.int .i64 a1,.dp (zJ a2) 0] [.cells 0 (zB a0)] (fun r' σ'=>r'=.agg (za r.1)∧σ'=[.cells 0 (zB r.2)]):=by
 refine Zy [0] (rs:=[.cell 6 37]) tok Tryz.func199 rfl Tryz.ntmps199 rfl Tryz.call199 (by simp) rfl ?_;refine zC [(0,.op 0 0 0),(1,.int .i64 a1),(2,.dp (zJ a2) 0)] ⟨rfl,rfl,rfl,trivial⟩ ?_;unfold zZ.body at h;refine rgN [0,1,2,6] ?_
 refine rg tok [0,1,2,6,7] fun K hK=>?_
 simp only[go_sem,qe,qb,qa,qc,qd,qf,reduceIte,reduceCtorEq,za,zh];apply hK
 refine ZG 2 3 2 rfl (by simp) rfl (L:=[(0,.op 0 0 0),(1,.int .i64 a1),(2,.dp (zJ a2) 0),(6,.op 1 0 0),(7,.op 2 0 0)]) (τ:=[.cells 0 (zB a0),.cells 0 [.int .i64 0,.int .i64 0,.str [],.ds true [] 0 true,.ds true [] 0 true],.cells 0 [.int .i64 3,.int .i64 0,.str [],.os true 2 3 0 0 (qg ([]:List zA)) false,.ds true [] 0 true],.cells 0 (qh zz ([]:List zA))]) .s ?_
 refine ze fun Z1 hZ1=>?_
 obtain⟨y2,hy2,h⟩:=bind_some h;have f3:=E176.idxS hy2;have f4:=E176.fldS0 (f:=246) rfl rfl hy2
 refine rg tok [0,2,6,7,20,21,22] fun K hK=>?_
 simp only[go_sem,qe,qb,qa,qc,qd,qf,reduceIte,reduceCtorEq,XO,f3,f4];apply hK
 apply zt
 refine xv 20 fun hb13=>?_
 replace hb13:qg y2≤9223372036854775807:=hb13.1;refine yh (fun m L τ=>∃ (p13 q13:List Zd) (x8:Int) (m0_5:zR) (l6:List zA) (v7:Nat),m=qg q13∧L=[(0,.op 0 0 0),(2,.dp (zJ a2) 0),(6,.op 1 0 0),(7,.op 2 0 0),(20,.ds true (qh yv y2) (qg y2) false),(21,.int .i64 (qg y2:Int)),(22,.int .i64 x8)]∧τ=([.cells 0 (zB m0_5),.cells 0 [.int .i64 0,.int .i64 0,.str [],.ds true [] 0 true,.ds true [] 0 true],.cells 0 [.int .i64 3,.int .i64 0,.str [],.os true 2 3 v7 0 (qg l6) false,.ds true [] 0 true],.cells v7 (qh zz l6)]:zi)∧y2=p13++q13∧x8=(qg p13:Int)∧zZ.l13 xe a2 q13 x8 m0_5 l6=some r) _ ⟨[],y2,0,a0,([]:List zA),0,rfl,rfl,rfl,rfl,rfl,h⟩ .s ?_;rintro m L τ ⟨p13,q13,x8,m0_5,l6,v7,rfl,rfl,rfl,hE13,hi13,h⟩
 rcases q13 with _|⟨y13,q13⟩
 · have hz13:=xE hE13 hi13;simp only[zZ.l13] at h
   refine rg tok [0,2,6,7,20,21,22,23] fun K hK=>?_
   simp only[go_sem,qe,qb,qa,qc,qd,qf,reduceIte,reduceCtorEq,zV,hz13];apply hK
   refine ze fun Z14 hZ14=>?_
   refine zK rfl ?_;apply ye;apply hZ1
   refine rg tok [6] fun K hK=>?_
   simp only[go_sem,qe,qb,qa,qc,qd,qf,reduceIte,reduceCtorEq,za,zh,hz13];apply hK
   apply yk;cases h;simp only[ZA,yT,yY,xR,exists_eq_left',go_sem,qe,qb,qa,qc,qd,qf,reduceIte,reduceCtorEq,zF,za,zv,z8,zB,zh];refine⟨by decide,by simp,?_,?_⟩
   · first|rfl|(simp only[go_sem,qe,qb,qa,qc,qd,qf,reduceIte,reduceCtorEq,push_cast,if_true,qq,ql,qt,qr,qs,qv,qy,qo,qx,qw,qn,zx,zF,za,zv,z8,zB,zh]<;>rfl)
   first|rfl|(simp only[go_sem,qe,qb,qa,qc,qd,qf,reduceIte,reduceCtorEq,push_cast,if_true,qq,ql,qt,qr,qs,qv,qy,qo,qx,qw,qn,zx,zF,za,zv,z8,zB,zh]<;>rfl)
 obtain⟨hz13,hw13,hx13,hE'13,hi'13⟩:=yZ hE13 hi13 hb13;simp only[zZ.l13] at h
 refine rg tok [0,2,6,7,20,21,22,23] fun K hK=>?_
 simp only[go_sem,qe,qb,qa,qc,qd,qf,reduceIte,reduceCtorEq,zV,hz13,hw13];apply hK
 refine ze fun Z15 hZ15=>?_
 refine zQ rfl ?_;apply zp;apply hZ15;refine xV (fun L τ=>∃ (m0_16:zR) (l17:List zA) (v18:Nat),L=[(0,.op 0 0 0),(2,.dp (zJ a2) 0),(6,.op 1 0 0),(7,.op 2 0 0),(20,.ds true (qh yv y2) (qg y2) false),(21,.int .i64 (qg y2:Int)),(22,.int .i64 x8)]∧τ=([.cells 0 (zB m0_16),.cells 0 [.int .i64 0,.int .i64 0,.str [],.ds true [] 0 true,.ds true [] 0 true],.cells 0 [.int .i64 3,.int .i64 0,.str [],.os true 2 3 v18 0 (qg l17) false,.ds true [] 0 true],.cells v18 (qh zz l17)]:zi)∧zZ.j19 x8 (zZ.l13 xe a2 q13) m0_16 l17=some r) ?_ ?_
 · apply zt;have f20:=E246.idxS hx13;have f21:=E246.loadS rfl rfl hx13
   refine rg tok [0,2,6,7,9,20,21,22] fun K hK=>?_
   simp only[go_sem,qe,qb,qa,qc,qd,qf,reduceIte,reduceCtorEq,yv,hz13,hw13,f20,f21];apply hK
   refine rg tok [0,2,6,7,9,20,21,22] fun K hK=>?_
   simp only[go_sem,qe,qb,qa,qc,qd,qf,reduceIte,reduceCtorEq,zV,zv,zB,hz13,hw13];apply hK
   refine rc [0,2,6,7,9,10,20,21,22] fun K hK=>?_
   obtain⟨r22,hr22,h⟩:=bind_some h;refine zd tok 3 ?_;simp only[go_sem,qe,qb,qa,qc,qd,qf,reduceIte,reduceCtorEq,hz13,hw13];refine clN rfl rfl rfl ((xx.ok hr22).c _) ?_;refine zd tok 1 ?_;simp only[go_sem,qe,qb,qa,qc,qd,qf,reduceIte,reduceCtorEq,hz13,hw13];refine nkN hK ?_
   refine ze fun Z23 hZ23=>?_
   refine rg tok [0,2,6,7,9,10,20,21,22,39] fun K hK=>?_
   simp only[go_sem,qe,qb,qa,qc,qd,qf,reduceIte,reduceCtorEq,zV,hz13,hw13];apply hK
   refine yn rfl (fun hc24=>?_) (fun hc24=>?_)
   · rw[if_pos hc24] at h;have t25:=eq_true hc24;apply ye;exact⟨_,_,⟨(⟨m0_5.fp,IntKind.i64.wrap (m0_5.flooks+1)⟩:zR),l6,v7,rfl,rfl,h⟩,(.t [0,1,2,3] false)⟩
   rw[if_neg hc24] at h;have t26:=eq_false hc24;apply zp;apply hZ23
   refine rc [0,2,6,7,9,11,20,21,22] fun K hK=>?_
   obtain⟨r27,hr27,h⟩:=bind_some h;refine zd tok 3 ?_;simp only[go_sem,qe,qb,qa,qc,qd,qf,reduceIte,reduceCtorEq,yv,hz13,hw13,t26];refine clN rfl rfl rfl (@id (ACalls qi 237 [.op 0 0 0,.agg (yv y13),.ds true (qh zl r22) (qg r22) false] [.cells 0 [.ds true (qh (XO yv) m0_5.fp.fParts) (qg m0_5.fp.fParts) false,.int .i64 (IntKind.i64.wrap (m0_5.flooks+1))],.cells 0 [.int .i64 0,.int .i64 0,.str [],.ds true [] 0 true,.ds true [] 0 true],.cells 0 [.int .i64 3,.int .i64 0,.str [],.os true 2 3 v7 0 (qg l6) false,.ds true [] 0 true],.cells v7 (qh zz l6),.cells 0 [.int .i64 y13.fOp,.int .i64 y13.fTag,.int .i64 y13.fSub]] (fun r' σ'=>r'=.ds true (qh ym r27.1) (qg r27.1) false∧σ'=[.cells 0 (zB r27.2),.cells 0 [.int .i64 0,.int .i64 0,.str [],.ds true [] 0 true,.ds true [] 0 true],.cells 0 [.int .i64 3,.int .i64 0,.str [],.os true 2 3 v7 0 (qg l6) false,.ds true [] 0 true],.cells v7 (qh zz l6),.cells 0 [.int .i64 y13.fOp,.int .i64 y13.fTag,.int .i64 y13.fSub]])) ((vap (⟨m0_5.fp,IntKind.i64.wrap (m0_5.flooks+1)⟩:zR) y13 r22 r27 hr27).i [0])) ?_;refine zd tok 1 ?_;simp only[go_sem,qe,qb,qa,qc,qd,qf,reduceIte,reduceCtorEq,yv,hz13,hw13,t26];refine nkN hK ?_
   refine rg tok [0,2,6,7,9,11,20,21,22,46] fun K hK=>?_
   simp only[go_sem,qe,qb,qa,qc,qd,qf,reduceIte,reduceCtorEq,zV,hz13,hw13,t26];apply hK
   refine yn rfl (fun hc28=>?_) (fun hc28=>?_)
   · rw[if_pos hc28] at h;have t29:=eq_true hc28;obtain⟨_u30,hu30,h⟩:=bind_some h;have gu30:=xh hu30;have f31:=(zX E34.len l6)
     refine rgE tok [0,2,6,7,20,21,22] fun K hK=>?_
     simp only[go_sem,qe,qb,qa,qc,qd,qf,reduceIte,reduceCtorEq,zU,yA,qY,qN,qW,true_and,q1,yR,yp,yU,zF,za,z8,zh,hz13,hw13,t26,t29,gu30,f31,yP,qV,qS,AV.one,qJ,qo,gt_iff_lt,zW,qD,qC,qG,qB,qE,qk,qp,qz,ql,qu,qF];apply hK
     exact⟨_,_,⟨r27.2,l6++[(⟨y13.fTag,r27.1⟩:zA)],v7+1,rfl,rfl,h⟩,(.t [0,1,2,3] false)⟩
   rw[if_neg hc28] at h;have t32:=eq_false hc28;apply zp;exact⟨_,_,⟨r27.2,l6,v7,rfl,rfl,h⟩,(.t [0,1,2,3] false)⟩
 rintro _ _ ⟨m0_16,l17,v18,rfl,rfl,h⟩;unfold zZ.j19 at h
 refine rgE tok [0,2,6,7,20,21,22] fun K hK=>?_
 simp only[go_sem,qe,qb,qa,qc,qd,qf,reduceIte,reduceCtorEq,zV,hz13,hw13];apply hK
 exact⟨_,_,_,qH q13.length,⟨p13++[y13],q13,x8+1,m0_16,l17,v18,rfl,rfl,rfl,hE'13,hi'13,h⟩,.s⟩
def zM.j22 (x7:Int)(l5:List zq)(rec12:Int→zR→List zq→Option (List zq×zR))(m0_20:zR)(m3_21:zq):Option (List zq×zR):=
 (vai (qg l5+1) 80).bind fun _u23=>(rec12 (x7+1) m0_20 (l5++[m3_21]))
def zM.j36 (yd:zR→Int→yg→Option (zq×zR))(a1:Zd)(x7:Int)(m0_4:zR)(l5:List zq)(rec12:Int→zR→List zq→Option (List zq×zR))(r19:zq)(r25:zs)(x35:Bool):Option (List zq×zR):=
 (if x35=true then (match r25 with|.nil=>some (([]:List zq),m0_4)|.num n38=>some (([]:List zq),m0_4)|.str s38=>some (([]:List zq),m0_4)|.node e38 r38=>(yd m0_4 a1.fSub (⟨e38,r38⟩:yg)).bind fun r43=>(if ((decide (a1.fOp=4))&&(decide ((qg r43.1.fEntries:Int)=0)))=true then some (([]:List zq),r43.2) else (zM.j22 x7 l5 rec12 r43.2 r43.1))) else (zM.j22 x7 l5 rec12 m0_4 r19))
def zM.l12 (yd:zR→Int→yg→Option (zq×zR))(a1:Zd):List zs→Int→zR→List zq→Option (List zq×zR)
 |[],x7,m0_4,l5=>some (l5,m0_4)
 |y12::q12,x7,m0_4,l5=>(zT xG y12).bind fun r19=>bnd (Zv y12) fun r25=>(if a1.fOp=2 then (match r25 with|.nil=>some (([]:List zq),m0_4)|.num n28=>bnd (wx n28) fun r31=>(zM.j22 x7 l5 (zM.l12 yd a1 q12) m0_4 (⟨r19.fKind,r31,r19.fS,r19.fEntries,r19.fRest⟩:zq))|.str s28=>some (([]:List zq),m0_4)|.node e28 r28=>some (([]:List zq),m0_4)) else (if a1.fOp=3 then (zM.j36 yd a1 x7 m0_4 l5 (zM.l12 yd a1 q12) r19 r25 (decide (a1.fOp=3))) else (zM.j36 yd a1 x7 m0_4 l5 (zM.l12 yd a1 q12) r19 r25 (decide (a1.fOp=4)))))
def zM.j2 (yd:zR→Int→yg→Option (zq×zR))(a0:zR)(a1:Zd)(x1:List zs):Option (List zq×zR):=
 (zM.l12 yd a1 x1 0 a0 ([]:List zq))
def zM.body (yd:zR→Int→yg→Option (zq×zR))(xe:zR→Zd→(List zs)→Option (List zq×zR))(a0:zR)(a1:Zd)(a2:List zs):Option (List zq×zR):=
 (if a1.fOp=4 then (grd ((0:Int)≤IntKind.i64.wrap ((qg a2:Int)-1)∧IntKind.i64.wrap ((qg a2:Int)-1)≤(qg a2:Int)∧(qg a2:Int)≤(qg a2:Int))).bind fun _u52=>(zM.j2 yd a0 a1 (vcG a2 (IntKind.i64.wrap ((qg a2:Int)-1)) (qg a2:Int))) else (zM.j2 yd a0 a1 a2))
theorem zM.step (yd:zR→Int→yg→Option (zq×zR))(xe:zR→Zd→(List zs)→Option (List zq×zR))(vaq:∀ (a0:zR) (a1:Int) (a2:yg) (r:zq×zR),yd a0 a1 a2=some r→ACalls qi 199 [.op 0 0 0,.int .i64 a1,.dp (zJ a2) 0] [.cells 0 (zB a0)] (fun r' σ'=>r'=.agg (za r.1)∧σ'=[.cells 0 (zB r.2)]))(vap:∀ (a0:zR) (a1:Zd) (a2:List zs) (r:List zq×zR),xe a0 a1 a2=some r→ACalls qi 237 [.op 0 0 0,.agg (yv a1),.ds true (qh zl a2) (qg a2) false] [.cells 0 (zB a0)] (fun r' σ'=>r'=.ds true (qh ym r.1) (qg r.1) false∧σ'=[.cells 0 (zB r.2)]))(a0:zR)(a1:Zd)(a2:List zs)(r:List zq×zR)(h:zM.body yd xe a0 a1 a2=some r):ACalls qi 237 [.op 0 0 0,.agg (yv a1),.ds true (qh zl a2) (qg a2) false] [.cells 0 (zB a0)] (fun r' σ'=>r'=.ds true (qh ym r.1) (qg r.1) false∧σ'=[.cells 0 (zB r.2)]):=by
 refine Zy [0] (rs:=[.tmp 6]) tok Tryz.func237 rfl Tryz.ntmps237 rfl Tryz.call237 (by simp) rfl ?_;refine zC [(0,.op 0 0 0),(1,.agg (yv a1)),(2,.ds true (qh zl a2) (qg a2) false)] ⟨rfl,rfl,rfl,trivial⟩ ?_;unfold zM.body at h
 refine rg tok [0,2,4] fun K hK=>?_
 simp only[go_sem,qe,qb,qa,qc,qd,qf,reduceIte,reduceCtorEq,yv];apply hK
 refine rgN [0,2,4,7] ?_;refine YR 7 5 rfl ?_;refine y5 (L:=[(0,.op 0 0 0),(2,.ds true (qh zl a2) (qg a2) false),(4,.op 1 0 0),(7,.os true 5 2 0 0 (qg ([]:List zq)) false)]) (τ:=[.cells 0 (zB a0),.cells 0 [.int .i64 a1.fOp,.int .i64 a1.fTag,.int .i64 a1.fSub],.cells 0 (qh ym ([]:List zq))]) .s ?_;refine xV (fun L τ=>∃ (x1:List zs),L=[(0,.op 0 0 0),(2,.ds true (qh zl x1) (qg x1) false),(4,.op 1 0 0),(7,.os true 5 2 0 0 (qg ([]:List zq)) false)]∧τ=([.cells 0 (zB a0),.cells 0 [.int .i64 a1.fOp,.int .i64 a1.fTag,.int .i64 a1.fSub],.cells 0 (qh ym ([]:List zq))]:zi)∧zM.j2 yd a0 a1 x1=some r) ?_ ?_
 · refine rg tok [0,2,4,7,18] fun K hK=>?_
   simp only[go_sem,qe,qb,qa,qc,qd,qf,reduceIte,reduceCtorEq,zV];apply hK
   refine yn rfl (fun hc50=>?_) (fun hc50=>?_)
   · rw[if_pos hc50] at h;have t51:=eq_true hc50;obtain⟨_u52,hu52,h⟩:=bind_some h;have gu52:=Yh hu52;have f53:=E282.sl_lo gu52
     refine rgE tok [0,2,4,7] fun K hK=>?_
     simp only[go_sem,qe,qb,qa,qc,qd,qf,reduceIte,reduceCtorEq,zV,t51,f53];apply hK
     exact⟨_,_,⟨vcG a2 (IntKind.i64.wrap ((qg a2:Int)-1)) (qg a2:Int),rfl,rfl,h⟩,.s⟩
   rw[if_neg hc50] at h;have t54:=eq_false hc50;apply zp;exact⟨_,_,⟨a2,rfl,rfl,h⟩,.s⟩
 rintro _ _ ⟨x1,rfl,rfl,h⟩;unfold zM.j2 at h
 refine ze fun Z3 hZ3=>?_
 refine rgN [0,4,7,24,25,26] ?_;apply zt
 refine xv 24 fun hb12=>?_
 replace hb12:qg x1≤9223372036854775807:=hb12.1;refine yh (fun m L τ=>∃ (p12 q12:List zs) (x7:Int) (m0_4:zR) (l5:List zq) (v6:Nat),m=qg q12∧L=[(0,.op 0 0 0),(4,.op 1 0 0),(7,.os true 5 2 v6 0 (qg l5) false),(24,.ds true (qh zl x1) (qg x1) false),(25,.int .i64 (qg x1:Int)),(26,.int .i64 x7)]∧τ=([.cells 0 (zB m0_4),.cells 0 [.int .i64 a1.fOp,.int .i64 a1.fTag,.int .i64 a1.fSub],.cells v6 (qh ym l5)]:zi)∧x1=p12++q12∧x7=(qg p12:Int)∧zM.l12 yd a1 q12 x7 m0_4 l5=some r) _ ⟨[],x1,0,a0,([]:List zq),0,rfl,rfl,rfl,rfl,rfl,h⟩ .s ?_;rintro m L τ ⟨p12,q12,x7,m0_4,l5,v6,rfl,rfl,rfl,hE12,hi12,h⟩
 rcases q12 with _|⟨y12,q12⟩
 · have hz12:=xE hE12 hi12;simp only[zM.l12] at h
   refine rg tok [0,4,7,24,25,26,27] fun K hK=>?_
   simp only[go_sem,qe,qb,qa,qc,qd,qf,reduceIte,reduceCtorEq,zV,hz12];apply hK
   refine ze fun Z13 hZ13=>?_
   refine zK rfl ?_;apply ye;apply hZ3
   refine rg tok [6] fun K hK=>?_
   simp only[go_sem,qe,qb,qa,qc,qd,qf,reduceIte,reduceCtorEq,hz12];apply hK
   apply yk;cases h;simp only[ZA,yT,yY,xR,exists_eq_left',go_sem,qe,qb,qa,qc,qd,qf,reduceIte,reduceCtorEq,za,zv,zB,zh];refine⟨by decide,by simp,?_,?_⟩
   · first|rfl|(simp only[go_sem,qe,qb,qa,qc,qd,qf,reduceIte,reduceCtorEq,push_cast,if_true,qq,ql,qt,qr,qs,qv,qy,qo,qx,qw,qn,zx,za,zv,zB,zh]<;>rfl)
   first|rfl|(simp only[go_sem,qe,qb,qa,qc,qd,qf,reduceIte,reduceCtorEq,push_cast,if_true,qq,ql,qt,qr,qs,qv,qy,qo,qx,qw,qn,zx,za,zv,zB,zh]<;>rfl)
 obtain⟨hz12,hw12,hx12,hE'12,hi'12⟩:=yZ hE12 hi12 hb12;simp only[zM.l12] at h
 refine rg tok [0,4,7,24,25,26,27] fun K hK=>?_
 simp only[go_sem,qe,qb,qa,qc,qd,qf,reduceIte,reduceCtorEq,zV,hz12,hw12];apply hK
 refine ze fun Z14 hZ14=>?_
 refine zQ rfl ?_;apply zp;apply hZ14
 refine ze fun Z15 hZ15=>?_
 apply zt;have f16:=E282.idxS hx12;have f17:=E282.loadS rfl rfl hx12;have f18:=Yf y12;unfold AV.one at f18
 refine rg tok [0,4,7,9,24,25,26] fun K hK=>?_
 simp only[go_sem,qe,qb,qa,qc,qd,qf,reduceIte,reduceCtorEq,zl,hz12,hw12,f16,f17,f18];apply hK
 refine rc [0,4,7,9,10,24,25,26] fun K hK=>?_
 obtain⟨r19,hr19,h⟩:=bind_some h;refine zd tok 1 ?_;simp only[go_sem,qe,qb,qa,qc,qd,qf,reduceIte,reduceCtorEq,zl,hz12,hw12];refine clN rfl rfl rfl (zT.ev xG y12 r19 hr19 _) ?_;refine zd tok 2 ?_;simp only[go_sem,qe,qb,qa,qc,qd,qf,reduceIte,reduceCtorEq,za,zh,zl,hz12,hw12];refine nkN hK ?_;refine xV (fun L τ=>∃ (m0_20:zR) (m3_21:zq),L=[(0,.op 0 0 0),(4,.op 1 0 0),(7,.os true 5 2 v6 0 (qg l5) false),(10,.op 3 0 0),(24,.ds true (qh zl x1) (qg x1) false),(25,.int .i64 (qg x1:Int)),(26,.int .i64 x7)]∧τ=([.cells 0 (zB m0_20),.cells 0 [.int .i64 a1.fOp,.int .i64 a1.fTag,.int .i64 a1.fSub],.cells v6 (qh ym l5),.cells 0 (za m3_21)]:zi)∧zM.j22 x7 l5 (zM.l12 yd a1 q12) m0_20 m3_21=some r) ?_ ?_
 · refine rc [0,4,7,10,11,24,25,26] fun K hK=>?_
   obtain⟨r25,hr25,h⟩:=yi h;refine zd tok 1 ?_;simp only[go_sem,qe,qb,qa,qc,qd,qf,reduceIte,reduceCtorEq,zl,hz12,hw12];refine clN rfl rfl rfl ((Zv.ok hr25).c _) ?_;refine zd tok 1 ?_;simp only[go_sem,qe,qb,qa,qc,qd,qf,reduceIte,reduceCtorEq,zl,hz12,hw12];refine nkN hK ?_
   refine rg tok [0,4,7,10,11,24,25,26,35] fun K hK=>?_
   simp only[go_sem,qe,qb,qa,qc,qd,qf,reduceIte,reduceCtorEq,hz12,hw12];apply hK
   apply zt
   refine rg tok [0,4,7,10,11,24,25,26,35,36] fun K hK=>?_
   simp only[go_sem,qe,qb,qa,qc,qd,qf,reduceIte,reduceCtorEq,zV,hz12,hw12];apply hK
   refine yn rfl (fun hc26=>?_) (fun hc26=>?_)
   · rw[if_pos hc26] at h;have t27:=eq_true hc26
     rcases r25 with _|n28|s28|⟨e28,r28⟩
     · dsimp only at h
       try simp only[Xv,XW,zl]
       refine rg tok [0,4,7,10,12,13,24,25,26] fun K hK=>?_
       simp only[go_sem,qe,qb,qa,qc,qd,qf,reduceIte,reduceCtorEq,hz12,hw12,t27,xI,xJ,TypeDesc.isIface];apply hK
       refine ze fun Z29 hZ29=>?_
       refine rg tok [0,4,7,10,12,24,25,26,44] fun K hK=>?_
       simp only[go_sem,qe,qb,qa,qc,qd,qf,reduceIte,reduceCtorEq,hz12,hw12,t27];apply hK
       refine zQ rfl ?_
       refine rg tok [6] fun K hK=>?_
       simp only[go_sem,qe,qb,qa,qc,qd,qf,reduceIte,reduceCtorEq,hz12,hw12,t27];apply hK
       apply yk;cases h;simp only[ZA,yT,yY,xR,exists_eq_left',go_sem,qe,qb,qa,qc,qd,qf,reduceIte,reduceCtorEq,za,zv,zB,zh];refine⟨by decide,by simp,?_,?_⟩
       · first|rfl|(simp only[go_sem,qe,qb,qa,qc,qd,qf,reduceIte,reduceCtorEq,push_cast,if_true,qq,ql,qt,qr,qs,qv,qy,qo,qx,qw,qn,zx,za,zv,zB,zh]<;>rfl)
       first|rfl|(simp only[go_sem,qe,qb,qa,qc,qd,qf,reduceIte,reduceCtorEq,push_cast,if_true,qq,ql,qt,qr,qs,qv,qy,qo,qx,qw,qn,zx,za,zv,zB,zh]<;>rfl)
     · dsimp only at h
       try simp only[Xu,XV,zl]
       refine rg tok [0,4,7,10,12,13,24,25,26] fun K hK=>?_
       simp only[go_sem,qe,qb,qa,qc,qd,qf,reduceIte,reduceCtorEq,hz12,hw12,t27,xI,xJ,TypeDesc.isIface];apply hK
       refine ze fun Z30 hZ30=>?_
       refine rg tok [0,4,7,10,12,24,25,26,44] fun K hK=>?_
       simp only[go_sem,qe,qb,qa,qc,qd,qf,reduceIte,reduceCtorEq,hz12,hw12,t27];apply hK
       refine zK rfl ?_;apply zp;apply hZ30
       refine rcE [0,4,7,10,24,25,26] fun K hK=>?_
       obtain⟨r31,hr31,h⟩:=yi h;refine zd tok 1 ?_;simp only[go_sem,qe,qb,qa,qc,qd,qf,reduceIte,reduceCtorEq,hz12,hw12,t27];refine clN rfl rfl rfl ((wx.ok hr31).c _) ?_;refine zd tok 2 ?_;simp only[go_sem,qe,qb,qa,qc,qd,qf,reduceIte,reduceCtorEq,za,zh,hz12,hw12,t27];refine nkN hK ?_;exact⟨_,_,⟨m0_4,(⟨r19.fKind,r31,r19.fS,r19.fEntries,r19.fRest⟩:zq),rfl,rfl,h⟩,(.t [0,1,2,4] false)⟩
     · dsimp only at h
       try simp only[Xt,XU,zl]
       refine rg tok [0,4,7,10,12,13,24,25,26] fun K hK=>?_
       simp only[go_sem,qe,qb,qa,qc,qd,qf,reduceIte,reduceCtorEq,hz12,hw12,t27,xI,xJ,TypeDesc.isIface];apply hK
       refine ze fun Z32 hZ32=>?_
       refine rg tok [0,4,7,10,12,24,25,26,44] fun K hK=>?_
       simp only[go_sem,qe,qb,qa,qc,qd,qf,reduceIte,reduceCtorEq,hz12,hw12,t27];apply hK
       refine zQ rfl ?_
       refine rg tok [6] fun K hK=>?_
       simp only[go_sem,qe,qb,qa,qc,qd,qf,reduceIte,reduceCtorEq,hz12,hw12,t27];apply hK
       apply yk;cases h;simp only[ZA,yT,yY,xR,exists_eq_left',go_sem,qe,qb,qa,qc,qd,qf,reduceIte,reduceCtorEq,za,zv,zB,zh];refine⟨by decide,by simp,?_,?_⟩
       · first|rfl|(simp only[go_sem,qe,qb,qa,qc,qd,qf,reduceIte,reduceCtorEq,push_cast,if_true,qq,ql,qt,qr,qs,qv,qy,qo,qx,qw,qn,zx,za,zv,zB,zh]<;>rfl)
       first|rfl|(simp only[go_sem,qe,qb,qa,qc,qd,qf,reduceIte,reduceCtorEq,push_cast,if_true,qq,ql,qt,qr,qs,qv,qy,qo,qx,qw,qn,zx,za,zv,zB,zh]<;>rfl)
     dsimp only at h
     try simp only[Yz,Xh,zl]
     refine rg tok [0,4,7,10,12,13,24,25,26] fun K hK=>?_
     simp only[go_sem,qe,qb,qa,qc,qd,qf,reduceIte,reduceCtorEq,hz12,hw12,t27,xI,xJ,TypeDesc.isIface];apply hK
     refine ze fun Z33 hZ33=>?_
     refine rg tok [0,4,7,10,12,24,25,26,44] fun K hK=>?_
     simp only[go_sem,qe,qb,qa,qc,qd,qf,reduceIte,reduceCtorEq,hz12,hw12,t27];apply hK
     refine zQ rfl ?_
     refine rg tok [6] fun K hK=>?_
     simp only[go_sem,qe,qb,qa,qc,qd,qf,reduceIte,reduceCtorEq,hz12,hw12,t27];apply hK
     apply yk;cases h;simp only[ZA,yT,yY,xR,exists_eq_left',go_sem,qe,qb,qa,qc,qd,qf,reduceIte,reduceCtorEq,za,zv,zB,zh];refine⟨by decide,by simp,?_,?_⟩
     · first|rfl|(simp only[go_sem,qe,qb,qa,qc,qd,qf,reduceIte,reduceCtorEq,push_cast,if_true,qq,ql,qt,qr,qs,qv,qy,qo,qx,qw,qn,zx,za,zv,zB,zh]<;>rfl)
     first|rfl|(simp only[go_sem,qe,qb,qa,qc,qd,qf,reduceIte,reduceCtorEq,push_cast,if_true,qq,ql,qt,qr,qs,qv,qy,qo,qx,qw,qn,zx,za,zv,zB,zh]<;>rfl)
   rw[if_neg hc26] at h;have t34:=eq_false hc26;refine xV (fun L τ=>∃ (x35:Bool),L=[(0,.op 0 0 0),(4,.op 1 0 0),(7,.os true 5 2 v6 0 (qg l5) false),(10,.op 3 0 0),(11,anyV r25),(24,.ds true (qh zl x1) (qg x1) false),(25,.int .i64 (qg x1:Int)),(26,.int .i64 x7),(48,.bool x35)]∧τ=([.cells 0 (zB m0_4),.cells 0 [.int .i64 a1.fOp,.int .i64 a1.fTag,.int .i64 a1.fSub],.cells v6 (qh ym l5),.cells 0 (za r19)]:zi)∧zM.j36 yd a1 x7 m0_4 l5 (zM.l12 yd a1 q12) r19 r25 x35=some r) ?_ ?_
   · refine rg tok [0,4,7,10,11,24,25,26,35,48] fun K hK=>?_
     simp only[go_sem,qe,qb,qa,qc,qd,qf,reduceIte,reduceCtorEq,zV,hz12,hw12,t34];apply hK
     refine yn rfl (fun hc47=>?_) (fun hc47=>?_)
     · rw[if_pos hc47] at h;have t48:=eq_true hc47;apply zp;exact⟨_,_,⟨decide (a1.fOp=3),rfl,rfl,h⟩,(.t [0,1,2,4] false)⟩
     rw[if_neg hc47] at h;have t49:=eq_false hc47
     refine rgE tok [0,4,7,10,11,24,25,26,48] fun K hK=>?_
     simp only[go_sem,qe,qb,qa,qc,qd,qf,reduceIte,reduceCtorEq,zV,hz12,hw12,t34,t49];apply hK
     exact⟨_,_,⟨decide (a1.fOp=4),rfl,rfl,h⟩,(.t [0,1,2,4] false)⟩
   rintro _ _ ⟨x35,rfl,rfl,h⟩;unfold zM.j36 at h;refine zY (b:=x35) rfl (fun hc37=>?_) (fun hc37=>?_)
   · rw[if_pos hc37] at h
     rcases r25 with _|n38|s38|⟨e38,r38⟩
     · dsimp only at h
       try simp only[Xv,XW,zl]
       refine rg tok [0,4,7,10,14,15,24,25,26] fun K hK=>?_
       simp only[go_sem,qe,qb,qa,qc,qd,qf,reduceIte,reduceCtorEq,hz12,hw12,t34,xI,xJ,TypeDesc.isIface];apply hK
       refine ze fun Z39 hZ39=>?_
       refine rg tok [0,4,7,10,14,24,25,26,57] fun K hK=>?_
       simp only[go_sem,qe,qb,qa,qc,qd,qf,reduceIte,reduceCtorEq,hz12,hw12,t34];apply hK
       refine zQ rfl ?_
       refine rg tok [6] fun K hK=>?_
       simp only[go_sem,qe,qb,qa,qc,qd,qf,reduceIte,reduceCtorEq,hz12,hw12,t34];apply hK
       apply yk;cases h;simp only[ZA,yT,yY,xR,exists_eq_left',go_sem,qe,qb,qa,qc,qd,qf,reduceIte,reduceCtorEq,za,zv,zB,zh];refine⟨by decide,by simp,?_,?_⟩
       · first|rfl|(simp only[go_sem,qe,qb,qa,qc,qd,qf,reduceIte,reduceCtorEq,push_cast,if_true,qq,ql,qt,qr,qs,qv,qy,qo,qx,qw,qn,zx,za,zv,zB,zh]<;>rfl)
       first|rfl|(simp only[go_sem,qe,qb,qa,qc,qd,qf,reduceIte,reduceCtorEq,push_cast,if_true,qq,ql,qt,qr,qs,qv,qy,qo,qx,qw,qn,zx,za,zv,zB,zh]<;>rfl)
     · dsimp only at h
       try simp only[Xu,XV,zl]
       refine rg tok [0,4,7,10,14,15,24,25,26] fun K hK=>?_
       simp only[go_sem,qe,qb,qa,qc,qd,qf,reduceIte,reduceCtorEq,hz12,hw12,t34,xI,xJ,TypeDesc.isIface];apply hK
       refine ze fun Z40 hZ40=>?_
       refine rg tok [0,4,7,10,14,24,25,26,57] fun K hK=>?_
       simp only[go_sem,qe,qb,qa,qc,qd,qf,reduceIte,reduceCtorEq,hz12,hw12,t34];apply hK
       refine zQ rfl ?_
       refine rg tok [6] fun K hK=>?_
       simp only[go_sem,qe,qb,qa,qc,qd,qf,reduceIte,reduceCtorEq,hz12,hw12,t34];apply hK
       apply yk;cases h;simp only[ZA,yT,yY,xR,exists_eq_left',go_sem,qe,qb,qa,qc,qd,qf,reduceIte,reduceCtorEq,za,zv,zB,zh];refine⟨by decide,by simp,?_,?_⟩
       · first|rfl|(simp only[go_sem,qe,qb,qa,qc,qd,qf,reduceIte,reduceCtorEq,push_cast,if_true,qq,ql,qt,qr,qs,qv,qy,qo,qx,qw,qn,zx,za,zv,zB,zh]<;>rfl)
       first|rfl|(simp only[go_sem,qe,qb,qa,qc,qd,qf,reduceIte,reduceCtorEq,push_cast,if_true,qq,ql,qt,qr,qs,qv,qy,qo,qx,qw,qn,zx,za,zv,zB,zh]<;>rfl)
     · dsimp only at h
       try simp only[Xt,XU,zl]
       refine rg tok [0,4,7,10,14,15,24,25,26] fun K hK=>?_
       simp only[go_sem,qe,qb,qa,qc,qd,qf,reduceIte,reduceCtorEq,hz12,hw12,t34,xI,xJ,TypeDesc.isIface];apply hK
       refine ze fun Z41 hZ41=>?_
       refine rg tok [0,4,7,10,14,24,25,26,57] fun K hK=>?_
       simp only[go_sem,qe,qb,qa,qc,qd,qf,reduceIte,reduceCtorEq,hz12,hw12,t34];apply hK
       refine zQ rfl ?_
       refine rg tok [6] fun K hK=>?_
       simp only[go_sem,qe,qb,qa,qc,qd,qf,reduceIte,reduceCtorEq,hz12,hw12,t34];apply hK
       apply yk;cases h;simp only[ZA,yT,yY,xR,exists_eq_left',go_sem,qe,qb,qa,qc,qd,qf,reduceIte,reduceCtorEq,za,zv,zB,zh];refine⟨by decide,by simp,?_,?_⟩
       · first|rfl|(simp only[go_sem,qe,qb,qa,qc,qd,qf,reduceIte,reduceCtorEq,push_cast,if_true,qq,ql,qt,qr,qs,qv,qy,qo,qx,qw,qn,zx,za,zv,zB,zh]<;>rfl)
       first|rfl|(simp only[go_sem,qe,qb,qa,qc,qd,qf,reduceIte,reduceCtorEq,push_cast,if_true,qq,ql,qt,qr,qs,qv,qy,qo,qx,qw,qn,zx,za,zv,zB,zh]<;>rfl)
     dsimp only at h
     try simp only[Yz,Xh,zl]
     refine rg tok [0,4,7,10,14,15,24,25,26] fun K hK=>?_
     simp only[go_sem,qe,qb,qa,qc,qd,qf,reduceIte,reduceCtorEq,hz12,hw12,t34,xI,xJ,TypeDesc.isIface];apply hK
     refine ze fun Z42 hZ42=>?_
     refine rg tok [0,4,7,10,14,24,25,26,57] fun K hK=>?_
     simp only[go_sem,qe,qb,qa,qc,qd,qf,reduceIte,reduceCtorEq,hz12,hw12,t34];apply hK
     refine zK rfl ?_;apply zp;apply hZ42
     refine rc [0,4,7,10,24,25,26] fun K hK=>?_
     obtain⟨r43,hr43,h⟩:=bind_some h;refine zd tok 4 ?_;simp only[go_sem,qe,qb,qa,qc,qd,qf,reduceIte,reduceCtorEq,hz12,hw12,t34];refine clN rfl rfl rfl (@id (ACalls qi 199 [.op 0 0 0,.int .i64 a1.fSub,.dp [.ds true (qh xa e38) (qg e38) false,.ds true (qh zu r38) (qg r38) false] 0] [.cells 0 (zB m0_4),.cells 0 [.int .i64 a1.fOp,.int .i64 a1.fTag,.int .i64 a1.fSub],.cells v6 (qh ym l5),.cells 0 (za r19)] (fun r' σ'=>r'=.agg (za r43.1)∧σ'=[.cells 0 (zB r43.2),.cells 0 [.int .i64 a1.fOp,.int .i64 a1.fTag,.int .i64 a1.fSub],.cells v6 (qh ym l5),.cells 0 (za r19)])) ((vaq m0_4 a1.fSub (⟨e38,r38⟩:yg) r43 hr43).i [0])) ?_;refine zd tok 1 ?_;simp only[go_sem,qe,qb,qa,qc,qd,qf,reduceIte,reduceCtorEq,za,zh,hz12,hw12,t34];refine nkN hK ?_
     refine rc [0,4,7,10,24,25,26,71] fun K hK=>?_
     refine zd tok 4 ?_;simp only[go_sem,qe,qb,qa,qc,qd,qf,reduceIte,reduceCtorEq,zV,hz12,hw12,t34];refine zI 5 (fun L τ=>L=[(0,.op 0 0 0),(4,.op 1 0 0),(7,.os true 5 2 v6 0 (qg l5) false),(10,.op 3 0 0),(24,.ds true (qh zl x1) (qg x1) false),(25,.int .i64 (qg x1:Int)),(26,.int .i64 x7),(71,.bool ((decide (a1.fOp=4))&&(decide ((qg r43.1.fEntries:Int)=0))))]∧τ=([.cells 0 (zB r43.2),.cells 0 [.int .i64 a1.fOp,.int .i64 a1.fTag,.int .i64 a1.fSub],.cells v6 (qh ym l5),.cells 0 (za r43.1)]:zi)) ?_ ?_
     · refine wr 66 rfl (fun hg66=>?_) (fun hg66=>?_)
       · have t44:=eq_true hg66;refine zd tok 5 ?_;simp only[go_sem,qe,qb,qa,qc,qd,qf,reduceIte,reduceCtorEq,zV,hz12,hw12,t34];refine zm ⟨rfl,_,_,⟨rfl,rfl⟩,.p t44⟩
       have t45:=eq_false hg66;refine zd tok 5 ?_;simp only[go_sem,qe,qb,qa,qc,qd,qf,reduceIte,reduceCtorEq,zV,hz12,hw12,t34];refine zm ⟨rfl,_,_,⟨rfl,rfl⟩,.p t45⟩
     rintro _ _ ⟨rfl,rfl⟩;refine nkN hK ?_;refine zY (b:=((decide (a1.fOp=4))&&(decide ((qg r43.1.fEntries:Int)=0)))) rfl (fun hc46=>?_) (fun hc46=>?_)
     · rw[if_pos hc46] at h
       refine rg tok [6] fun K hK=>?_
       simp only[go_sem,qe,qb,qa,qc,qd,qf,reduceIte,reduceCtorEq,hz12,hw12,t34];apply hK
       apply yk;cases h;simp only[ZA,yT,yY,xR,exists_eq_left',go_sem,qe,qb,qa,qc,qd,qf,reduceIte,reduceCtorEq,za,zv,zB,zh];refine⟨by decide,by simp,?_,?_⟩
       · first|rfl|(simp only[go_sem,qe,qb,qa,qc,qd,qf,reduceIte,reduceCtorEq,push_cast,if_true,qq,ql,qt,qr,qs,qv,qy,qo,qx,qw,qn,zx,za,zv,zB,zh]<;>rfl)
       first|rfl|(simp only[go_sem,qe,qb,qa,qc,qd,qf,reduceIte,reduceCtorEq,push_cast,if_true,qq,ql,qt,qr,qs,qv,qy,qo,qx,qw,qn,zx,za,zv,zB,zh]<;>rfl)
     rw[Zg hc46] at h;apply zp;exact⟨_,_,⟨r43.2,r43.1,rfl,rfl,h⟩,.s⟩
   rw[Zg hc37] at h;apply zp;exact⟨_,_,⟨m0_4,r19,rfl,rfl,h⟩,.s⟩
 rintro _ _ ⟨m0_20,m3_21,rfl,rfl,h⟩;unfold zM.j22 at h;obtain⟨_u23,hu23,h⟩:=bind_some h;have gu23:=xh hu23;have f24:=(zX E38.len l5)
 refine rgE tok [0,4,7,24,25,26] fun K hK=>?_
 simp only[go_sem,qe,qb,qa,qc,qd,qf,reduceIte,reduceCtorEq,zU,yA,qY,qN,qW,true_and,q1,yR,yp,yU,za,zh,hz12,hw12,gu23,f24,yP,qV,qS,AV.one,qJ,qo,gt_iff_lt,zW,qD,qC,qG,qB,qE,qk,qp,qz,ql,qu,qF];apply hK
 apply hZ15
 refine rgE tok [0,4,7,24,25,26] fun K hK=>?_
 simp only[go_sem,qe,qb,qa,qc,qd,qf,reduceIte,reduceCtorEq,zV,hz12,hw12];apply hK
 exact⟨_,_,_,qH q12.length,⟨p12++[y12],q12,x7+1,m0_20,l5++[m3_21],v6+1,rfl,rfl,rfl,hE'12,hi'12,h⟩,(.t [0,1,2] false)⟩
mutual
def zZ : Nat→zR→Int→yg→Option (zq×zR)
 |0,_,_,_=>none
 |k+1,a0,a1,a2=>zZ.body (zZ k) (zM k) a0 a1 a2
def zM : Nat→zR→Zd→(List zs)→Option (List zq×zR)
 |0,_,_,_=>none
 |k+1,a0,a1,a2=>zM.body (zZ k) (zM k) a0 a1 a2
end
theorem zZ.all (k:Nat):(∀ (a0:zR) (a1:Int) (a2:yg) (r:zq×zR),zZ k a0 a1 a2=some r→ACalls qi 199 [.op 0 0 0,.int .i64 a1,.dp (zJ a2) 0] [.cells 0 (zB a0)] (fun r' σ'=>r'=.agg (za r.1)∧σ'=[.cells 0 (zB r.2)]))∧(∀ (a0:zR) (a1:Zd) (a2:List zs) (r:List zq×zR),zM k a0 a1 a2=some r→ACalls qi 237 [.op 0 0 0,.agg (yv a1),.ds true (qh zl a2) (qg a2) false] [.cells 0 (zB a0)] (fun r' σ'=>r'=.ds true (qh ym r.1) (qg r.1) false∧σ'=[.cells 0 (zB r.2)])):=by
 induction k with
 |zero=>exact⟨(fun a0 a1 a2 r h=>by simp only[zZ] at h; cases h),(fun a0 a1 a2 r h=>by simp only[zM] at h; cases h)⟩
 |succ k ih=>exact⟨(fun a0 a1 a2 r h=>zZ.step _ _ ih.1 ih.2 a0 a1 a2 r (by simpa only [zZ] using h)),(fun a0 a1 a2 r h=>zM.step _ _ ih.1 ih.2 a0 a1 a2 r (by simpa only [zM] using h))⟩
theorem zZ.ok {k a0 a1 a2 r}(h:zZ k a0 a1 a2=some r):ACalls qi 199 [.op 0 0 0,.int .i64 a1,.dp (zJ a2) 0] [.cells 0 (zB a0)] (fun r' σ'=>r'=.agg (za r.1)∧σ'=[.cells 0 (zB r.2)]):=(zZ.all k).1 a0 a1 a2 r h
def Y3 (a0:wg)(a1:zq):Option (zq×Int×Int):=
 bnd (wt a0) fun r2=>(if ((!r2)||(!(decide (a1.fKind=3))))=true then some ((⟨0,0,[],([]:List zA),([]:List yo)⟩:zq),0,1) else (Xq a1).bind fun r4=>(if (!r4.2)=true then some ((⟨0,0,[],([]:List zA),([]:List yo)⟩:zq),0,1) else (xS r4.1).bind fun r8=>(zZ xG (⟨a0,0⟩:zR) 0 r8).bind fun r9=>some (r9.1,r9.2.flooks,0)))
theorem Y3.ok {a0 a1 r}(h:Y3 a0 a1=some r):ACalls qi 152 [.agg (zv a0),.agg (za a1)] [] (fun r' _=>r'=.tup [.agg (za r.1),.int .i64 r.2.1,.int .i64 r.2.2]):=by
 refine zw (rs:=[.cell 4 37,.tmp 5,.tmp 6]) tok Tryz.func152 rfl Tryz.ntmps152 rfl Tryz.call152 (by simp) ?_;refine zC [(0,.agg (zv a0)),(1,.agg (za a1))] ⟨rfl,rfl,trivial⟩ ?_;unfold Y3 at h
 refine rg tok [2,3,4] fun K hK=>?_
 simp only[go_sem,qe,qb,qa,qc,qd,qf,reduceIte,reduceCtorEq,za,zv,zh];apply hK
 refine ze fun Z1 hZ1=>?_
 refine rc [2,3,4,18] fun K hK=>?_
 obtain⟨r2,hr2,h⟩:=yi h;refine zd tok 1 ?_;simp only[go_sem,qe,qb,qa,qc,qd,qf,reduceIte,reduceCtorEq,zv];refine clN rfl rfl rfl ((wt.ok hr2).c _) ?_;refine zd tok 2 ?_;simp only[go_sem,qe,qb,qa,qc,qd,qf,reduceIte,reduceCtorEq,zv];refine zI 4 (fun L τ=>L=[(2,.op 0 0 0),(3,.op 1 0 0),(4,.op 2 0 0),(18,.bool ((!r2)||(!(decide (a1.fKind=3)))))]∧τ=([.cells 0 (zv a0),.cells 0 (za a1),.cells 0 [.int .i64 0,.int .i64 0,.str [],.ds true [] 0 true,.ds true [] 0 true]]:zi)) ?_ ?_
 · refine yz (b:=(!r2)) 14 rfl (fun hg14=>?_) (fun hg14=>?_)
   · refine zd tok 4 ?_;simp only[go_sem,qe,qb,qa,qc,qd,qf,reduceIte,reduceCtorEq,zV,zv];refine zm ⟨rfl,_,_,⟨rfl,rfl⟩,.b hg14⟩
   refine zd tok 4 ?_;simp only[go_sem,qe,qb,qa,qc,qd,qf,reduceIte,reduceCtorEq,zV,zv];refine zm ⟨rfl,_,_,⟨rfl,rfl⟩,.b hg14⟩
 rintro _ _ ⟨rfl,rfl⟩;refine nkN hK ?_;refine zY (b:=((!r2)||(!(decide (a1.fKind=3))))) rfl (fun hc3=>?_) (fun hc3=>?_)
 · rw[if_pos hc3] at h
   refine rg tok [4,5,6] fun K hK=>?_
   simp only[go_sem,qe,qb,qa,qc,qd,qf,reduceIte,reduceCtorEq,za,zh];apply hK
   cases h;exact rtA
 rw[Zg hc3] at h;apply zp;apply hZ1
 refine rc [2,4,7,8] fun K hK=>?_
 obtain⟨r4,hr4,h⟩:=bind_some h;refine zd tok 1 ?_;simp only[go_sem,qe,qb,qa,qc,qd,qf,reduceIte,reduceCtorEq,za,zh];refine clN rfl rfl rfl ((Xq.ok hr4).c _) ?_;have f5:=Yf r4.1;unfold AV.one at f5;refine zd tok 6 ?_;simp only[go_sem,qe,qb,qa,qc,qd,qf,reduceIte,reduceCtorEq,za,zh,zl,f5];refine nkN hK ?_
 refine ze fun Z6 hZ6=>?_
 refine rgN [2,4,7,26] ?_;refine zY (b:=(!r4.2)) rfl (fun hc7=>?_) (fun hc7=>?_)
 · rw[if_pos hc7] at h
   refine rg tok [4,5,6] fun K hK=>?_
   simp only[go_sem,qe,qb,qa,qc,qd,qf,reduceIte,reduceCtorEq,za,zh];apply hK
   cases h;exact rtA
 rw[Zg hc7] at h;apply zp;apply hZ6
 refine rg tok [4,7,9] fun K hK=>?_
 simp only[go_sem,qe,qb,qa,qc,qd,qf,reduceIte,reduceCtorEq,zv,zB];apply hK
 refine rc [4,9,10] fun K hK=>?_
 obtain⟨r8,hr8,h⟩:=bind_some h;refine zd tok 2 ?_;simp only[go_sem,qe,qb,qa,qc,qd,qf,reduceIte,reduceCtorEq,zl];refine clN rfl rfl rfl ((xS.ok hr8).c _) ?_;obtain⟨r9,hr9,h⟩:=bind_some h;refine clN rfl rfl rfl (@id (ACalls qi 199 [.op 4 0 0,.int .i64 0,.dp (zJ r8) 0] [.cells 0 (zv a0),.cells 0 (za a1),.cells 0 [.int .i64 0,.int .i64 0,.str [],.ds true [] 0 true,.ds true [] 0 true],.cells 0 [vc0 r4.1],.cells 0 [.ds true (qh (XO yv) a0.fParts) (qg a0.fParts) false,.int .i64 0]] (fun r' σ'=>r'=.agg (za r9.1)∧σ'=[.cells 0 (zv a0),.cells 0 (za a1),.cells 0 [.int .i64 0,.int .i64 0,.str [],.ds true [] 0 true,.ds true [] 0 true],.cells 0 [vc0 r4.1],.cells 0 (zB r9.2)])) ((zZ.ok hr9).i [4])) ?_;refine zd tok 2 ?_;simp only[go_sem,qe,qb,qa,qc,qd,qf,reduceIte,reduceCtorEq,za,zh,zl];refine nkN hK ?_
 refine rd [4,5,6] fun K hK=>?_
 refine DW.start (T:=tab) [.at [],.any,.any,.any,.own 1 [2],.eff,.any,.any] [(1,[2])] ?_;refine DW.runN tok 8 ?_;simp only[go_sem,qe,qb,qa,qc,qd,qf,reduceIte,reduceCtorEq,za,zh];refine DW.fin tok (by decide +kernel) rfl ?_;simp only[zG,yE,yV,ZS,upd,qa,reduceIte,xl,xU];apply hK
 cases h;exact rtA
def Zs (a0:wg)(a1:zq):Option (zq×Int):=
 (Y3 a0 a1).bind fun r1=>some (r1.1,r1.2.2)
theorem Zs.ok {a0 a1 r}(h:Zs a0 a1=some r):ACalls qi 100 [.agg (zv a0),.agg (za a1)] [] (fun r' _=>r'=.tup [.agg (za r.1),.int .i64 r.2]):=by
 refine zw (rs:=[.cell 4 37,.tmp 5]) tok Tryz.func100 rfl Tryz.ntmps100 rfl Tryz.call100 (by simp) ?_;refine zC [(0,.agg (zv a0)),(1,.agg (za a1))] ⟨rfl,rfl,trivial⟩ ?_;unfold Zs at h
 refine rg tok [2,3,4] fun K hK=>?_
 simp only[go_sem,qe,qb,qa,qc,qd,qf,reduceIte,reduceCtorEq,za,zv,zh];apply hK
 refine rc [4,6,8] fun K hK=>?_
 obtain⟨r1,hr1,h⟩:=bind_some h;refine zd tok 2 ?_;simp only[go_sem,qe,qb,qa,qc,qd,qf,reduceIte,reduceCtorEq,za,zv,zh];refine clN rfl rfl rfl ((Y3.ok hr1).c _) ?_;refine zd tok 8 ?_;simp only[go_sem,qe,qb,qa,qc,qd,qf,reduceIte,reduceCtorEq,za,zv,zh];refine nkN hK ?_
 refine rg tok [4,5] fun K hK=>?_
 simp only[go_sem,qe,qb,qa,qc,qd,qf,reduceIte,reduceCtorEq,za,zh];apply hK
 cases h;exact rtA
def Xg (a0:zP)(a1:List UInt8)(a2:List UInt8):Option (zq×Int):=
 (yO a0).bind fun r2=>(if r2=0 then bnd (yy a0 a1) fun r6=>(if (!r6.2)=true then some ((⟨0,0,[],([]:List zA),([]:List yo)⟩:zq),14) else (yC xG a0 r6.1 a2 1).bind fun r9=>some (r9.1,r9.2)) else some ((⟨0,0,[],([]:List zA),([]:List yo)⟩:zq),1))
theorem Xg.ok {a0 a1 a2 r}(h:Xg a0 a1 a2=some r):ACalls qi 98 [.agg (zb a0),.str a1,.ds true (qh Zh a2) (qg a2) false] [] (fun r' _=>r'=.tup [.agg (za r.1),.int .i64 r.2]):=by
 refine zw (rs:=[.cell 6 37,.tmp 7]) tok Tryz.func98 rfl Tryz.ntmps98 rfl Tryz.call98 (by simp) ?_;refine zC [(0,.agg (zb a0)),(1,.str a1),(2,.ds true (qh Zh a2) (qg a2) false)] ⟨rfl,rfl,rfl,trivial⟩ ?_;unfold Xg at h
 refine rg tok [1,2,3,6] fun K hK=>?_
 simp only[go_sem,qe,qb,qa,qc,qd,qf,reduceIte,reduceCtorEq,zb];apply hK
 refine ze fun Z1 hZ1=>?_
 refine rc [1,2,3,6,12] fun K hK=>?_
 obtain⟨r2,hr2,h⟩:=bind_some h;refine zd tok 1 ?_;simp only[go_sem,qe,qb,qa,qc,qd,qf,reduceIte,reduceCtorEq,zb];refine clN rfl rfl rfl ((yO.ok hr2).c _) ?_;refine zd tok 1 ?_;simp only[go_sem,qe,qb,qa,qc,qd,qf,reduceIte,reduceCtorEq,zV,zb];refine nkN hK ?_;refine yn rfl (fun hc3=>?_) (fun hc3=>?_)
 · rw[if_neg hc3] at h;have t4:=eq_false hc3
   refine rg tok [6,7] fun K hK=>?_
   simp only[go_sem,qe,qb,qa,qc,qd,qf,reduceIte,reduceCtorEq,za,zh,t4];apply hK
   cases h;exact rtA
 rw[if_pos hc3] at h;have t5:=eq_true hc3;apply zp;apply hZ1
 refine rc [2,3,6,8,9] fun K hK=>?_
 obtain⟨r6,hr6,h⟩:=yi h;refine zd tok 2 ?_;simp only[go_sem,qe,qb,qa,qc,qd,qf,reduceIte,reduceCtorEq,zb,t5];refine clN rfl rfl rfl ((yy.ok hr6).c _) ?_;refine zd tok 6 ?_;simp only[go_sem,qe,qb,qa,qc,qd,qf,reduceIte,reduceCtorEq,zf,zb,t5];refine nkN hK ?_
 refine ze fun Z7 hZ7=>?_
 refine rg tok [2,3,6,8,21] fun K hK=>?_
 simp only[go_sem,qe,qb,qa,qc,qd,qf,reduceIte,reduceCtorEq,t5];apply hK
 refine zY (b:=(!r6.2)) rfl (fun hc8=>?_) (fun hc8=>?_)
 · rw[if_pos hc8] at h
   refine rg tok [6,7] fun K hK=>?_
   simp only[go_sem,qe,qb,qa,qc,qd,qf,reduceIte,reduceCtorEq,za,zh,t5];apply hK
   cases h;exact rtA
 rw[Zg hc8] at h;apply zp;apply hZ7
 refine rc [6,7] fun K hK=>?_
 obtain⟨r9,hr9,h⟩:=bind_some h;refine zd tok 3 ?_;simp only[go_sem,qe,qb,qa,qc,qd,qf,reduceIte,reduceCtorEq,zf,zb,t5];refine clN rfl rfl rfl (yC.ev xG a0 r6.1 a2 1 r9 hr9 _) ?_;refine zd tok 4 ?_;simp only[go_sem,qe,qb,qa,qc,qd,qf,reduceIte,reduceCtorEq,za,zf,zb,zh,t5];refine nkN hK ?_;cases h;exact rtA
def yI.l18 (xZ:zq→Int→Option Int)(a1:Int)(x7:Int)(rec10:Int→Int→Option Int):List zq→Int→Int→Option Int
 |[],x15,x14=>(rec10 (x7+1) x14)
 |y18::q18,x15,x14=>(xZ y18 (IntKind.i64.wrap (a1+1))).bind fun r30=>((yI.l18 xZ a1 x7 rec10 q18) (x15+1) (if x14<r30 then r30 else x14))
def yI.l10 (xZ:zq→Int→Option Int)(a1:Int):List zA→Int→Int→Option Int
 |[],x7,x6=>some (if 101<IntKind.i64.wrap (x6+1) then 101 else IntKind.i64.wrap (x6+1))
 |y10::q10,x7,x6=>(yI.l18 xZ a1 x7 (yI.l10 xZ a1 q10) y10.fTrees 0 x6)
def yI.body (xZ:zq→Int→Option Int)(a0:zq)(a1:Int):Option Int:=
 (if ((!(decide (a0.fKind=3)))||(decide (100<a1)))=true then some 0 else (yI.l10 xZ a1 a0.fEntries 0 0))
theorem yI.step (xZ:zq→Int→Option Int)(ih_ref09_depth:∀ (a0:zq) (a1:Int) (r:Int),xZ a0 a1=some r→ACalls qi 153 [.agg (za a0),.int .i64 a1] [] (fun r' _=>r'=.int .i64 r))(a0:zq)(a1:Int)(r:Int)(h:yI.body xZ a0 a1=some r):ACalls qi 153 [.agg (za a0),.int .i64 a1] [] (fun r' _=>r'=.int .i64 r):=by
 have ev_ref09_depth:=fun a0 a1 r h σ=>(ih_ref09_depth a0 a1 r h).c σ
 refine zw (rs:=[.tmp 4]) tok Tryz.func153 rfl Tryz.ntmps153 rfl Tryz.call153 (by simp) ?_;refine zC [(0,.agg (za a0)),(1,.int .i64 a1)] ⟨rfl,rfl,trivial⟩ ?_;unfold yI.body at h
 refine rg tok [1,2] fun K hK=>?_
 simp only[go_sem,qe,qb,qa,qc,qd,qf,reduceIte,reduceCtorEq,za,zh];apply hK
 refine ze fun Z1 hZ1=>?_
 refine rc [1,2,14] fun K hK=>?_
 refine zd tok 4 ?_;simp only[go_sem,qe,qb,qa,qc,qd,qf,reduceIte,reduceCtorEq,zV];refine zI 3 (fun L τ=>L=[(1,.int .i64 a1),(2,.op 0 0 0),(14,.bool ((!(decide (a0.fKind=3)))||(decide (100<a1))))]∧τ=([.cells 0 (za a0)]:zi)) ?_ ?_
 · refine wr 11 rfl (fun hg11=>?_) (fun hg11=>?_)
   · have t2:=eq_false hg11;refine zd tok 3 ?_;simp only[go_sem,qe,qb,qa,qc,qd,qf,reduceIte,reduceCtorEq,zV];refine zm ⟨rfl,_,_,⟨rfl,rfl⟩,.p t2⟩
   have t3:=eq_true hg11;refine zd tok 3 ?_;simp only[go_sem,qe,qb,qa,qc,qd,qf,reduceIte,reduceCtorEq,zV];refine zm ⟨rfl,_,_,⟨rfl,rfl⟩,.p t3⟩
 rintro _ _ ⟨rfl,rfl⟩;refine nkN hK ?_;refine zY (b:=((!(decide (a0.fKind=3)))||(decide (100<a1)))) rfl (fun hc4=>?_) (fun hc4=>?_)
 · rw[if_pos hc4] at h;refine rgN [4] ?_;cases h;exact rtA
 rw[Zg hc4] at h;apply zp;apply hZ1;refine rgN [1,2,5] ?_
 refine ze fun Z5 hZ5=>?_
 refine rgN [1,2,5,6] ?_;apply zt
 refine vae 0 rfl fun hb10=>?_
 replace hb10:qg a0.fEntries≤9223372036854775807:=hb10.2.2.2.1.1;refine yh (fun m L τ=>∃ (p10 q10:List zA) (x7:Int) (x6:Int),m=qg q10∧L=[(1,.int .i64 a1),(2,.op 0 0 0),(5,.int .i64 x6),(6,.int .i64 x7)]∧τ=([.cells 0 (za a0)]:zi)∧a0.fEntries=p10++q10∧x7=(qg p10:Int)∧yI.l10 xZ a1 q10 x7 x6=some r) _ ⟨[],a0.fEntries,0,0,rfl,rfl,rfl,rfl,rfl,h⟩ .s ?_;rintro m L τ ⟨p10,q10,x7,x6,rfl,rfl,rfl,hE10,hi10,h⟩
 rcases q10 with _|⟨y10,q10⟩
 · have hz10:=xE hE10 hi10;simp only[yI.l10] at h
   refine ze fun Z11 hZ11=>?_
   refine rg tok [1,2,5,6,19] fun K hK=>?_
   simp only[go_sem,qe,qb,qa,qc,qd,qf,reduceIte,reduceCtorEq,zV,hz10];apply hK
   refine zK rfl ?_;apply ye;apply hZ5
   refine rg tok [4] fun K hK=>?_
   simp only[go_sem,qe,qb,qa,qc,qd,qf,reduceIte,reduceCtorEq,zV,vbt,vdz,vce,hz10];apply hK
   cases h;exact rtA
 obtain⟨hz10,hw10,hx10,hE'10,hi'10⟩:=yZ hE10 hi10 hb10;simp only[yI.l10] at h
 refine ze fun Z12 hZ12=>?_
 refine rg tok [1,2,5,6,19] fun K hK=>?_
 simp only[go_sem,qe,qb,qa,qc,qd,qf,reduceIte,reduceCtorEq,zV,hz10,hw10];apply hK
 refine zQ rfl ?_;apply zp;apply hZ12
 refine ze fun Z13 hZ13=>?_
 apply zt
 refine rg tok [1,2,5,6,7] fun K hK=>?_
 simp only[go_sem,qe,qb,qa,qc,qd,qf,reduceIte,reduceCtorEq,hz10,hw10];apply hK
 apply zt
 refine vae 0 rfl fun hb18=>?_
 replace hb18:=deepL_idx hb18.2.2.2.1.2 hx10;rw[z8] at hb18;replace hb18:qg y10.fTrees≤9223372036854775807:=hb18.2.1.1;refine yh (fun m L τ=>∃ (p18 q18:List zq) (x15:Int) (x14:Int),m=qg q18∧L=[(1,.int .i64 a1),(2,.op 0 0 0),(5,.int .i64 x14),(6,.int .i64 x7),(7,.int .i64 x15)]∧τ=([.cells 0 (za a0)]:zi)∧y10.fTrees=p18++q18∧x15=(qg p18:Int)∧yI.l18 xZ a1 x7 (yI.l10 xZ a1 q10) q18 x15 x14=some r) _ ⟨[],y10.fTrees,0,x6,rfl,rfl,rfl,rfl,rfl,h⟩ .s ?_;rintro m L τ ⟨p18,q18,x15,x14,rfl,rfl,rfl,hE18,hi18,h⟩
 rcases q18 with _|⟨y18,q18⟩
 · have hz18:=xE hE18 hi18;simp only[yI.l18] at h
   refine ze fun Z19 hZ19=>?_
   have f20:=E34.idxS hx10;have f21:=E34.fldS (f:=38) rfl rfl hx10 (o:=1) (by decide)
   refine rg tok [1,2,5,6,7,30] fun K hK=>?_
   simp only[go_sem,qe,qb,qa,qc,qd,qf,reduceIte,reduceCtorEq,zV,zF,z8,hz10,hw10,hz18,f20,f21];apply hK
   refine zK rfl ?_;apply ye;apply hZ13
   refine rgE tok [1,2,5,6] fun K hK=>?_
   simp only[go_sem,qe,qb,qa,qc,qd,qf,reduceIte,reduceCtorEq,zV,hz10,hw10,hz18];apply hK
   exact⟨_,_,_,qH q10.length,⟨p10++[y10],q10,x7+1,x14,rfl,rfl,rfl,hE'10,hi'10,h⟩,.s⟩
 obtain⟨hz18,hw18,hx18,hE'18,hi'18⟩:=yZ hE18 hi18 hb18;simp only[yI.l18] at h
 refine ze fun Z22 hZ22=>?_
 have f23:=E34.idxS hx10;have f24:=E34.fldS (f:=38) rfl rfl hx10 (o:=1) (by decide)
 refine rg tok [1,2,5,6,7,30] fun K hK=>?_
 simp only[go_sem,qe,qb,qa,qc,qd,qf,reduceIte,reduceCtorEq,zV,zF,z8,hz10,hw10,hz18,hw18,f23,f24];apply hK
 refine zQ rfl ?_;apply zp;apply hZ22
 refine ze fun Z25 hZ25=>?_
 apply zt
 refine rcE [1,2,5,6,7] fun K hK=>?_
 have f26:=E34.idxS hx10;have f27:=E34.fldS (f:=38) rfl rfl hx10 (o:=1) (by decide);have f28:=E38.idxS hx18;have f29:=E38.loadS rfl rfl hx18;obtain⟨r30,hr30,h⟩:=bind_some h;refine zd tok 10 ?_;simp only[go_sem,qe,qb,qa,qc,qd,qf,reduceIte,reduceCtorEq,zF,za,z8,zh,hz10,hw10,hz18,hw18,f26,f27,f28,f29];refine zd tok 2 ?_;simp only[go_sem,qe,qb,qa,qc,qd,qf,reduceIte,reduceCtorEq,zV,zF,za,z8,zh,hz10,hw10,hz18,hw18,f26,f27,f28,f29];refine clN rfl rfl rfl (ev_ref09_depth y18 (IntKind.i64.wrap (a1+1)) r30 hr30 _) ?_;refine zd tok 2 ?_;simp only[go_sem,qe,qb,qa,qc,qd,qf,reduceIte,reduceCtorEq,vbt,vdz,vcf,zF,za,z8,zh,hz10,hw10,hz18,hw18];refine nkN hK ?_;apply hZ25
 refine rgE tok [1,2,5,6,7] fun K hK=>?_
 simp only[go_sem,qe,qb,qa,qc,qd,qf,reduceIte,reduceCtorEq,zV,hz10,hw10,hz18,hw18];apply hK
 exact⟨_,_,_,qH q18.length,⟨p18++[y18],q18,x15+1,(if x14<r30 then r30 else x14),rfl,rfl,rfl,hE'18,hi'18,h⟩,.s⟩
def yI : Nat→zq→Int→Option Int
 |0,_,_=>none
 |k+1,a0,a1=>yI.body (yI k) a0 a1
theorem yI.all (k:Nat):(∀ (a0:zq) (a1:Int) (r:Int),yI k a0 a1=some r→ACalls qi 153 [.agg (za a0),.int .i64 a1] [] (fun r' _=>r'=.int .i64 r)):=by
 induction k with
 |zero=>exact (fun a0 a1 r h=>by simp only[yI] at h; cases h)
 |succ k ih=>exact (fun a0 a1 r h=>yI.step _ ih a0 a1 r (by simpa only [yI] using h))
theorem yI.ev (k:Nat)(a0:zq)(a1:Int)(r:Int)(h:yI k a0 a1=some r)(σ:zi):ACalls qi 153 [.agg (za a0),.int .i64 a1] σ (fun r' σ'=>r'=.int .i64 r∧σ'=σ):=
 ((yI.all k) a0 a1 r h).c σ
def YU (a0:zq):Option Int:=
 (yI xG a0 0).bind fun r1=>some r1
theorem YU.ok {a0 r}(h:YU a0=some r):ACalls qi 101 [.agg (za a0)] [] (fun r' _=>r'=.int .i64 r):=by
 refine zw (rs:=[.tmp 2]) tok Tryz.func101 rfl Tryz.ntmps101 rfl Tryz.call101 (by simp) ?_;refine zC [(0,.agg (za a0))] ⟨rfl,trivial⟩ ?_;unfold YU at h
 refine rg tok [1] fun K hK=>?_
 simp only[go_sem,qe,qb,qa,qc,qd,qf,reduceIte,reduceCtorEq,za,zh];apply hK
 refine rc [2] fun K hK=>?_
 obtain⟨r1,hr1,h⟩:=bind_some h;refine zd tok 1 ?_;simp only[go_sem,qe,qb,qa,qc,qd,qf,reduceIte,reduceCtorEq,za,zh];refine clN rfl rfl rfl (yI.ev xG a0 0 r1 hr1 _) ?_;refine zd tok 1 ?_;simp only[go_sem,qe,qb,qa,qc,qd,qf,reduceIte,reduceCtorEq,za,zh];refine nkN hK ?_;cases h;exact rtA
def Yd (a0:yo):Bool:=
 (if ((decide (a0.fTag<1))||(decide (500<a0.fTag)))=true then false else (if a0.fWire=0 then decide (a0.fB=[]) else (((decide (a0.fWire=1))&&(decide (a0.fN=0)))&&(decide ((qg a0.fB:Int)≤4096)))))
theorem Yd.ok {a0 r}(h:Yd a0=r):ACalls qi 157 [.agg (zu a0)] [] (fun r' _=>r'=.bool r):=by
 refine zw (rs:=[.tmp 2]) tok Tryz.func157 rfl Tryz.ntmps157 rfl Tryz.call157 (by simp) ?_;refine zC [(0,.agg (zu a0))] ⟨rfl,trivial⟩ ?_;unfold Yd at h
 refine rg tok [1] fun K hK=>?_
 simp only[go_sem,qe,qb,qa,qc,qd,qf,reduceIte,reduceCtorEq,zu];apply hK
 refine ze fun Z1 hZ1=>?_
 refine rc [1,10] fun K hK=>?_
 refine zd tok 4 ?_;simp only[go_sem,qe,qb,qa,qc,qd,qf,reduceIte,reduceCtorEq,zV];refine zI 4 (fun L τ=>L=[(1,.op 0 0 0),(10,.bool ((decide (a0.fTag<1))||(decide (500<a0.fTag))))]∧τ=([.cells 0 [.int .i64 a0.fTag,.int .i64 a0.fWire,.int .i64 a0.fN,.str a0.fB]]:zi)) ?_ ?_
 · refine wr 6 rfl (fun hg6=>?_) (fun hg6=>?_)
   · have t2:=eq_true hg6;refine zd tok 4 ?_;simp only[go_sem,qe,qb,qa,qc,qd,qf,reduceIte,reduceCtorEq,zV];refine zm ⟨rfl,_,_,⟨rfl,rfl⟩,.p t2⟩
   have t3:=eq_false hg6;refine zd tok 4 ?_;simp only[go_sem,qe,qb,qa,qc,qd,qf,reduceIte,reduceCtorEq,zV];refine zm ⟨rfl,_,_,⟨rfl,rfl⟩,.p t3⟩
 rintro _ _ ⟨rfl,rfl⟩;refine nkN hK ?_;refine zY (b:=((decide (a0.fTag<1))||(decide (500<a0.fTag)))) rfl (fun hc4=>?_) (fun hc4=>?_)
 · rw[if_pos hc4] at h;refine rgN [2] ?_;cases h;exact rtA
 rw[Zg hc4] at h;apply zp;apply hZ1
 refine ze fun Z5 hZ5=>?_
 refine rg tok [1,13] fun K hK=>?_
 simp only[go_sem,qe,qb,qa,qc,qd,qf,reduceIte,reduceCtorEq,zV];apply hK
 refine yn rfl (fun hc6=>?_) (fun hc6=>?_)
 · rw[if_pos hc6] at h;have t7:=eq_true hc6
   refine rg tok [2] fun K hK=>?_
   simp only[go_sem,qe,qb,qa,qc,qd,qf,reduceIte,reduceCtorEq,zV,t7];apply hK
   cases h;exact rtA
 rw[if_neg hc6] at h;have t8:=eq_false hc6;apply zp;apply hZ5
 refine rc [2] fun K hK=>?_
 refine zd tok 4 ?_;simp only[go_sem,qe,qb,qa,qc,qd,qf,reduceIte,reduceCtorEq,zV,t8];refine zI 4 (fun L τ=>L=[(1,.op 0 0 0),(24,.bool ((decide (a0.fWire=1))&&(decide (a0.fN=0))))]∧τ=([.cells 0 [.int .i64 a0.fTag,.int .i64 a0.fWire,.int .i64 a0.fN,.str a0.fB]]:zi)) ?_ ?_
 · refine wr 20 rfl (fun hg20=>?_) (fun hg20=>?_)
   · have t9:=eq_true hg20;refine zd tok 4 ?_;simp only[go_sem,qe,qb,qa,qc,qd,qf,reduceIte,reduceCtorEq,zV,t8];refine zm ⟨rfl,_,_,⟨rfl,rfl⟩,.p t9⟩
   have t10:=eq_false hg20;refine zd tok 4 ?_;simp only[go_sem,qe,qb,qa,qc,qd,qf,reduceIte,reduceCtorEq,zV,t8];refine zm ⟨rfl,_,_,⟨rfl,rfl⟩,.p t10⟩
 rintro _ _ ⟨rfl,rfl⟩;refine zd tok 1 ?_;simp only[go_sem,qe,qb,qa,qc,qd,qf,reduceIte,reduceCtorEq,t8];refine zI 5 (fun L τ=>L=[(30,.bool (((decide (a0.fWire=1))&&(decide (a0.fN=0)))&&(decide ((qg a0.fB:Int)≤4096))))]∧τ=([.cells 0 [.int .i64 a0.fTag,.int .i64 a0.fWire,.int .i64 a0.fN,.str a0.fB]]:zi)) ?_ ?_
 · refine yz (b:=((decide (a0.fWire=1))&&(decide (a0.fN=0)))) 25 rfl (fun hg25=>?_) (fun hg25=>?_)
   · refine zd tok 5 ?_;simp only[go_sem,qe,qb,qa,qc,qd,qf,reduceIte,reduceCtorEq,zV,t8];refine zm ⟨rfl,_,_,⟨rfl,rfl⟩,.b hg25⟩
   refine zd tok 5 ?_;simp only[go_sem,qe,qb,qa,qc,qd,qf,reduceIte,reduceCtorEq,zV,t8];refine zm ⟨rfl,_,_,⟨rfl,rfl⟩,.b hg25⟩
 rintro _ _ ⟨rfl,rfl⟩;refine zd tok 1 ?_;simp only[go_sem,qe,qb,qa,qc,qd,qf,reduceIte,reduceCtorEq,t8];refine nkN hK ?_;cases h;exact rtA
def ZM.l4 (a1:Int):List zA→Int→Bool
 |[],x2=>false
 |y4::q4,x2=>(if y4.fTag=a1 then true else ((ZM.l4 a1 q4) (x2+1)))
def ZM (a0:zq)(a1:Int):Bool:=
 (ZM.l4 a1 a0.fEntries 0)
theorem ZM.ok {a0 a1 r}(h:ZM a0 a1=r):ACalls qi 200 [.agg (za a0),.int .i64 a1] [] (fun r' _=>r'=.bool r):=by
 refine zw (rs:=[.tmp 4]) tok Tryz.func200 rfl Tryz.ntmps200 rfl Tryz.call200 (by simp) ?_;refine zC [(0,.agg (za a0)),(1,.int .i64 a1)] ⟨rfl,rfl,trivial⟩ ?_;unfold ZM at h
 refine rg tok [1,2] fun K hK=>?_
 simp only[go_sem,qe,qb,qa,qc,qd,qf,reduceIte,reduceCtorEq,za,zh];apply hK
 refine ze fun Z1 hZ1=>?_
 refine rgN [1,2,5] ?_;apply zt
 refine vae 0 rfl fun hb4=>?_
 replace hb4:qg a0.fEntries≤9223372036854775807:=hb4.2.2.2.1.1;refine yh (fun m L τ=>∃ (p4 q4:List zA) (x2:Int),m=qg q4∧L=[(1,.int .i64 a1),(2,.op 0 0 0),(5,.int .i64 x2)]∧τ=([.cells 0 (za a0)]:zi)∧a0.fEntries=p4++q4∧x2=(qg p4:Int)∧ZM.l4 a1 q4 x2=r) _ ⟨[],a0.fEntries,0,rfl,rfl,rfl,rfl,rfl,h⟩ .s ?_;rintro m L τ ⟨p4,q4,x2,rfl,rfl,rfl,hE4,hi4,h⟩
 rcases q4 with _|⟨y4,q4⟩
 · have hz4:=xE hE4 hi4;simp only[ZM.l4] at h
   refine ze fun Z5 hZ5=>?_
   refine rg tok [1,2,5,10] fun K hK=>?_
   simp only[go_sem,qe,qb,qa,qc,qd,qf,reduceIte,reduceCtorEq,zV,hz4];apply hK
   refine zK rfl ?_;apply ye;apply hZ1
   refine rg tok [4] fun K hK=>?_
   simp only[go_sem,qe,qb,qa,qc,qd,qf,reduceIte,reduceCtorEq,hz4];apply hK
   cases h;exact rtA
 obtain⟨hz4,hw4,hx4,hE'4,hi'4⟩:=yZ hE4 hi4 hb4;simp only[ZM.l4] at h
 refine ze fun Z6 hZ6=>?_
 refine rg tok [1,2,5,10] fun K hK=>?_
 simp only[go_sem,qe,qb,qa,qc,qd,qf,reduceIte,reduceCtorEq,zV,hz4,hw4];apply hK
 refine zQ rfl ?_;apply zp;apply hZ6
 refine ze fun Z7 hZ7=>?_
 apply zt;have f8:=E34.idxS hx4;have f9:=E34.fldS0 (f:=3) rfl rfl hx4
 refine rg tok [1,2,5,20] fun K hK=>?_
 simp only[go_sem,qe,qb,qa,qc,qd,qf,reduceIte,reduceCtorEq,zV,zF,z8,hz4,hw4,f8,f9];apply hK
 refine yn rfl (fun hc10=>?_) (fun hc10=>?_)
 · rw[if_pos hc10] at h;have t11:=eq_true hc10
   refine rg tok [4] fun K hK=>?_
   simp only[go_sem,qe,qb,qa,qc,qd,qf,reduceIte,reduceCtorEq,hz4,hw4,t11];apply hK
   cases h;exact rtA
 rw[if_neg hc10] at h;have t12:=eq_false hc10;apply zp;apply hZ7
 refine rgE tok [1,2,5] fun K hK=>?_
 simp only[go_sem,qe,qb,qa,qc,qd,qf,reduceIte,reduceCtorEq,zV,hz4,hw4,t12];apply hK
 exact⟨_,_,_,qH q4.length,⟨p4++[y4],q4,x2+1,rfl,rfl,rfl,hE'4,hi'4,h⟩,.s⟩
def w4.l4 (a0:List yo):Nat→Int→Option Bool
 |0,_=>none
 |k4+1,x2=>(if x2<(qg a0:Int) then (YN a0 x2).bind fun y9=>(YN a0 (IntKind.i64.wrap (x2-1))).bind fun y12=>(if y9.fTag<y12.fTag then some false else ((w4.l4 a0 k4) (IntKind.i64.wrap (x2+1)))) else some true)
def w4 (a0:List yo):Option Bool:=
 (w4.l4 a0 xG 1)
theorem w4.ok {a0 r}(h:w4 a0=some r):ACalls qi 201 [.ds true (qh zu a0) (qg a0) false] [] (fun r' _=>r'=.bool r):=by
 refine zw (rs:=[.tmp 2]) tok Tryz.func201 rfl Tryz.ntmps201 rfl Tryz.call201 (by simp) ?_;refine zC [(0,.ds true (qh zu a0) (qg a0) false)] ⟨rfl,trivial⟩ ?_;unfold w4 at h;refine rgN [0] ?_
 refine ze fun Z1 hZ1=>?_
 refine rgN [0,3] ?_;apply zt;refine yh (fun m L τ=>∃ (k4:Nat) (x2:Int),m=0+k4∧L=[(0,.ds true (qh zu a0) (qg a0) false),(3,.int .i64 x2)]∧τ=([]:zi)∧w4.l4 a0 k4 x2=some r) _ ⟨xG,1,rfl,rfl,rfl,h⟩ .s ?_;rintro m L τ ⟨k4,x2,rfl,rfl,rfl,h⟩
 rcases k4 with _|k4
 · cases h
 simp only[w4.l4] at h
 refine ze fun Z5 hZ5=>?_
 refine rg tok [0,3,7] fun K hK=>?_
 simp only[go_sem,qe,qb,qa,qc,qd,qf,reduceIte,reduceCtorEq,zV];apply hK
 refine yn rfl (fun hc6=>?_) (fun hc6=>?_)
 · rw[if_pos hc6] at h;have t7:=eq_true hc6;apply zp;apply hZ5
   refine ze fun Z8 hZ8=>?_
   apply zt;obtain⟨y9,hy9,h⟩:=bind_some h;have f10:=E35.idxS hy9;have f11:=E35.fldS0 (f:=3) rfl rfl hy9;obtain⟨y12,hy12,h⟩:=bind_some h;have f13:=E35.idxS hy12;have f14:=E35.fldS0 (f:=3) rfl rfl hy12
   refine rd [0,3,21] fun K hK=>?_
   refine DW.start (T:=tab) [.any,.any,.any,.any,.at [],.any,.any,.any,.any,.any,.at [],.any] [] ?_;refine DW.runN tok 8 ?_;simp only[go_sem,qe,qb,qa,qc,qd,qf,reduceIte,reduceCtorEq,zV,zu,t7,f10,f11,f13,f14];refine DW.runN tok 4 ?_;simp only[go_sem,qe,qb,qa,qc,qd,qf,reduceIte,reduceCtorEq,zV,zu,t7,f10,f11,f13,f14];refine DW.fin tok (by decide +kernel) rfl ?_;simp only[zG,yE,yV,ZS,upd,qa,reduceIte,xl,xU];apply hK
   refine yn rfl (fun hc15=>?_) (fun hc15=>?_)
   · rw[if_pos hc15] at h;have t16:=eq_true hc15
     refine rg tok [2] fun K hK=>?_
     simp only[go_sem,qe,qb,qa,qc,qd,qf,reduceIte,reduceCtorEq,t7,t16];apply hK
     cases h;exact rtA
   rw[if_neg hc15] at h;have t17:=eq_false hc15;apply zp;apply hZ8
   refine rgE tok [0,3] fun K hK=>?_
   simp only[go_sem,qe,qb,qa,qc,qd,qf,reduceIte,reduceCtorEq,zV,t7,t17];apply hK
   exact⟨_,_,_,qH (0+k4),⟨k4,IntKind.i64.wrap (x2+1),rfl,rfl,rfl,h⟩,.s⟩
 rw[if_neg hc6] at h;have t18:=eq_false hc6;apply ye;apply hZ1
 refine rg tok [2] fun K hK=>?_
 simp only[go_sem,qe,qb,qa,qc,qd,qf,reduceIte,reduceCtorEq,t18];apply hK
 cases h;exact rtA
def wq.j10 (x2:Int)(rec4:Int→Option Bool)(x9:Bool):Option Bool:=
 (if x9=true then some false else (rec4 (x2+1)))
def wq.l4 (a0:zq):List yo→Int→Option Bool
 |[],x2=>(w4 a0.fRest).bind fun r6=>some r6
 |y4::q4,x2=>bnd (Yd y4) fun r14=>(if (!r14)=true then (wq.j10 x2 (wq.l4 a0 q4) true) else bnd (ZM a0 y4.fTag) fun r17=>(wq.j10 x2 (wq.l4 a0 q4) r17))
def wq (a0:zq):Option Bool:=
 (wq.l4 a0 a0.fRest 0)
theorem wq.ok {a0 r}(h:wq a0=some r):ACalls qi 155 [.agg (za a0)] [] (fun r' _=>r'=.bool r):=by
 refine zw (rs:=[.tmp 2]) tok Tryz.func155 rfl Tryz.ntmps155 rfl Tryz.call155 (by simp) ?_;refine zC [(0,.agg (za a0))] ⟨rfl,trivial⟩ ?_;unfold wq at h
 refine rg tok [1] fun K hK=>?_
 simp only[go_sem,qe,qb,qa,qc,qd,qf,reduceIte,reduceCtorEq,za,zh];apply hK
 refine ze fun Z1 hZ1=>?_
 refine rgN [1,3] ?_;apply zt
 refine vae 0 rfl fun hb4=>?_
 replace hb4:qg a0.fRest≤9223372036854775807:=hb4.2.2.2.2.1.1;refine yh (fun m L τ=>∃ (p4 q4:List yo) (x2:Int),m=qg q4∧L=[(1,.op 0 0 0),(3,.int .i64 x2)]∧τ=([.cells 0 (za a0)]:zi)∧a0.fRest=p4++q4∧x2=(qg p4:Int)∧wq.l4 a0 q4 x2=some r) _ ⟨[],a0.fRest,0,rfl,rfl,rfl,rfl,rfl,h⟩ .s ?_;rintro m L τ ⟨p4,q4,x2,rfl,rfl,rfl,hE4,hi4,h⟩
 rcases q4 with _|⟨y4,q4⟩
 · have hz4:=xE hE4 hi4;simp only[wq.l4] at h
   refine ze fun Z5 hZ5=>?_
   refine rg tok [1,3,8] fun K hK=>?_
   simp only[go_sem,qe,qb,qa,qc,qd,qf,reduceIte,reduceCtorEq,zV,hz4];apply hK
   refine zK rfl ?_;apply ye;apply hZ1
   refine rc [2] fun K hK=>?_
   obtain⟨r6,hr6,h⟩:=bind_some h;refine zd tok 2 ?_;simp only[go_sem,qe,qb,qa,qc,qd,qf,reduceIte,reduceCtorEq,hz4];refine clN rfl rfl rfl ((w4.ok hr6).c _) ?_;refine zd tok 1 ?_;simp only[go_sem,qe,qb,qa,qc,qd,qf,reduceIte,reduceCtorEq,hz4];refine nkN hK ?_;cases h;exact rtA
 obtain⟨hz4,hw4,hx4,hE'4,hi'4⟩:=yZ hE4 hi4 hb4;simp only[wq.l4] at h
 refine ze fun Z7 hZ7=>?_
 refine rg tok [1,3,8] fun K hK=>?_
 simp only[go_sem,qe,qb,qa,qc,qd,qf,reduceIte,reduceCtorEq,zV,hz4,hw4];apply hK
 refine zQ rfl ?_;apply zp;apply hZ7
 refine ze fun Z8 hZ8=>?_
 apply zt;refine xV (fun L τ=>∃ (x9:Bool),L=[(1,.op 0 0 0),(3,.int .i64 x2),(27,.bool x9)]∧τ=([.cells 0 (za a0)]:zi)∧wq.j10 x2 (wq.l4 a0 q4) x9=some r) ?_ ?_
 · refine rdE [1,3,27] fun K hK=>?_
   refine DW.start (T:=tab) [.any,.at [],.any,.any,.at [],.eff,.any,.any,.at [],.any,.at [],.any,.any,.any,.at [],.eff,.any] [] ?_;have f12:=E35.idxS hx4;have f13:=E35.loadS rfl rfl hx4;obtain⟨r14,hr14,h⟩:=yi h;refine DW.runN tok 5 ?_;simp only[go_sem,qe,qb,qa,qc,qd,qf,reduceIte,reduceCtorEq,zu,hz4,hw4,f12,f13];refine DW.call rfl rfl rfl ((Yd.ok hr14).c _) ?_;refine DW.runN tok 2 ?_;simp only[go_sem,qe,qb,qa,qc,qd,qf,reduceIte,reduceCtorEq,zu,hz4,hw4];refine DW.at (b:=(!r14)) 18 rfl (fun hg18=>?_) (fun hg18=>?_)
   · rw[if_pos hg18] at h;refine DW.runN tok 8 ?_;simp only[go_sem,qe,qb,qa,qc,qd,qf,reduceIte,reduceCtorEq,zu,hz4,hw4];refine DW.runN tok 1 ?_;simp only[go_sem,qe,qb,qa,qc,qd,qf,reduceIte,reduceCtorEq,zu,hz4,hw4];refine DW.fin tok (by decide +kernel) rfl ?_;simp only[zG,yE,yV,ZS,upd,qa,reduceIte,xl,xU];apply hK
     exact⟨_,_,⟨true,rfl,rfl,h⟩,.s⟩
   rw[Zg hg18] at h;have f15:=E35.idxS hx4;have f16:=E35.fldS0 (f:=3) rfl rfl hx4;obtain⟨r17,hr17,h⟩:=yi h;refine DW.runN tok 7 ?_;simp only[go_sem,qe,qb,qa,qc,qd,qf,reduceIte,reduceCtorEq,za,zu,zh,hz4,hw4,f15,f16];refine DW.call rfl rfl rfl ((ZM.ok hr17).c _) ?_;refine DW.runN tok 1 ?_;simp only[go_sem,qe,qb,qa,qc,qd,qf,reduceIte,reduceCtorEq,za,zu,zh,hz4,hw4];refine DW.fin tok (by decide +kernel) rfl ?_;simp only[zG,yE,yV,ZS,upd,qa,reduceIte,xl,xU];apply hK
   exact⟨_,_,⟨r17,rfl,rfl,h⟩,.s⟩
 rintro _ _ ⟨x9,rfl,rfl,h⟩;unfold wq.j10 at h;refine zY (b:=x9) rfl (fun hc11=>?_) (fun hc11=>?_)
 · rw[if_pos hc11] at h
   refine rg tok [2] fun K hK=>?_
   simp only[go_sem,qe,qb,qa,qc,qd,qf,reduceIte,reduceCtorEq,hz4,hw4];apply hK
   cases h;exact rtA
 rw[Zg hc11] at h;apply zp;apply hZ8
 refine rgE tok [1,3] fun K hK=>?_
 simp only[go_sem,qe,qb,qa,qc,qd,qf,reduceIte,reduceCtorEq,zV,hz4,hw4];apply hK
 exact⟨_,_,_,qH q4.length,⟨p4++[y4],q4,x2+1,rfl,rfl,rfl,hE'4,hi'4,h⟩,.s⟩
def xW.body (xd:zq→Option Bool)(wP:(List zA)→Option Bool)(a0:zq):Option Bool:=
 (if a0.fKind=1 then some (((decide (a0.fS=[]))&&(decide ((qg a0.fEntries:Int)=0)))&&(decide ((qg a0.fRest:Int)=0))) else (if a0.fKind=2 then some (((decide (a0.fN=0))&&(decide ((qg a0.fEntries:Int)=0)))&&(decide ((qg a0.fRest:Int)=0))) else (if a0.fKind=3 then (if ((decide (a0.fN=0))&&(decide (a0.fS=[])))=true then (wP a0.fEntries).bind fun r16=>some r16 else some false).bind fun c16=>(if c16=true then (wq a0).bind fun r18=>some r18 else some false).bind fun c18=>some c18 else some false)))
theorem xW.step (xd:zq→Option Bool)(wP:(List zA)→Option Bool)(vau:∀ (a0:zq) (r:Bool),xd a0=some r→ACalls qi 102 [.agg (za a0)] [] (fun r' _=>r'=.bool r))(XG:∀ (a0:List zA) (r:Bool),wP a0=some r→ACalls qi 154 [.ds true (qh zz a0) (qg a0) false] [] (fun r' _=>r'=.bool r))(a0:zq)(r:Bool)(h:xW.body xd wP a0=some r):ACalls qi 102 [.agg (za a0)] [] (fun r' _=>r'=.bool r):=by
 have ev_ref09_check:=fun a0 r h σ=>(vau a0 r h).c σ
 have ev_ref09_entries:=fun a0 r h σ=>(XG a0 r h).c σ
 refine zw (rs:=[.tmp 2]) tok Tryz.func102 rfl Tryz.ntmps102 rfl Tryz.call102 (by simp) ?_;refine zC [(0,.agg (za a0))] ⟨rfl,trivial⟩ ?_;unfold xW.body at h
 refine rg tok [1] fun K hK=>?_
 simp only[go_sem,qe,qb,qa,qc,qd,qf,reduceIte,reduceCtorEq,za,zh];apply hK
 refine ze fun Z1 hZ1=>?_
 refine rgN [1,4] ?_;apply zt
 refine rg tok [1,4,5] fun K hK=>?_
 simp only[go_sem,qe,qb,qa,qc,qd,qf,reduceIte,reduceCtorEq,zV];apply hK
 refine yn rfl (fun hc2=>?_) (fun hc2=>?_)
 · rw[if_pos hc2] at h;have t3:=eq_true hc2
   refine rc [2] fun K hK=>?_
   refine zd tok 4 ?_;simp only[go_sem,qe,qb,qa,qc,qd,qf,reduceIte,reduceCtorEq,zV,t3];refine zI 5 (fun L τ=>L=[(1,.op 0 0 0),(15,.bool ((decide (a0.fS=[]))&&(decide ((qg a0.fEntries:Int)=0))))]∧τ=([.cells 0 (za a0)]:zi)) ?_ ?_
   · refine wr 10 rfl (fun hg10=>?_) (fun hg10=>?_)
     · have t4:=eq_true hg10;refine zd tok 5 ?_;simp only[go_sem,qe,qb,qa,qc,qd,qf,reduceIte,reduceCtorEq,zV,t3];refine zm ⟨rfl,_,_,⟨rfl,rfl⟩,.p t4⟩
     have t5:=eq_false hg10;refine zd tok 5 ?_;simp only[go_sem,qe,qb,qa,qc,qd,qf,reduceIte,reduceCtorEq,zV,t3];refine zm ⟨rfl,_,_,⟨rfl,rfl⟩,.p t5⟩
   rintro _ _ ⟨rfl,rfl⟩;refine zd tok 1 ?_;simp only[go_sem,qe,qb,qa,qc,qd,qf,reduceIte,reduceCtorEq,t3];refine zI 5 (fun L τ=>L=[(21,.bool (((decide (a0.fS=[]))&&(decide ((qg a0.fEntries:Int)=0)))&&(decide ((qg a0.fRest:Int)=0))))]∧τ=([.cells 0 (za a0)]:zi)) ?_ ?_
   · refine yz (b:=((decide (a0.fS=[]))&&(decide ((qg a0.fEntries:Int)=0)))) 16 rfl (fun hg16=>?_) (fun hg16=>?_)
     · refine zd tok 5 ?_;simp only[go_sem,qe,qb,qa,qc,qd,qf,reduceIte,reduceCtorEq,zV,t3];refine zm ⟨rfl,_,_,⟨rfl,rfl⟩,.b hg16⟩
     refine zd tok 5 ?_;simp only[go_sem,qe,qb,qa,qc,qd,qf,reduceIte,reduceCtorEq,zV,t3];refine zm ⟨rfl,_,_,⟨rfl,rfl⟩,.b hg16⟩
   rintro _ _ ⟨rfl,rfl⟩;refine zd tok 1 ?_;simp only[go_sem,qe,qb,qa,qc,qd,qf,reduceIte,reduceCtorEq,t3];refine nkN hK ?_;cases h;exact rtA
 rw[if_neg hc2] at h;have t6:=eq_false hc2
 refine rg tok [1,4,22] fun K hK=>?_
 simp only[go_sem,qe,qb,qa,qc,qd,qf,reduceIte,reduceCtorEq,zV,t6];apply hK
 refine yn rfl (fun hc7=>?_) (fun hc7=>?_)
 · rw[if_pos hc7] at h;have t8:=eq_true hc7
   refine rc [2] fun K hK=>?_
   refine zd tok 4 ?_;simp only[go_sem,qe,qb,qa,qc,qd,qf,reduceIte,reduceCtorEq,zV,t6,t8];refine zI 5 (fun L τ=>L=[(1,.op 0 0 0),(32,.bool ((decide (a0.fN=0))&&(decide ((qg a0.fEntries:Int)=0))))]∧τ=([.cells 0 (za a0)]:zi)) ?_ ?_
   · refine wr 27 rfl (fun hg27=>?_) (fun hg27=>?_)
     · have t9:=eq_true hg27;refine zd tok 5 ?_;simp only[go_sem,qe,qb,qa,qc,qd,qf,reduceIte,reduceCtorEq,zV,t6,t8];refine zm ⟨rfl,_,_,⟨rfl,rfl⟩,.p t9⟩
     have t10:=eq_false hg27;refine zd tok 5 ?_;simp only[go_sem,qe,qb,qa,qc,qd,qf,reduceIte,reduceCtorEq,zV,t6,t8];refine zm ⟨rfl,_,_,⟨rfl,rfl⟩,.p t10⟩
   rintro _ _ ⟨rfl,rfl⟩;refine zd tok 1 ?_;simp only[go_sem,qe,qb,qa,qc,qd,qf,reduceIte,reduceCtorEq,t6,t8];refine zI 5 (fun L τ=>L=[(38,.bool (((decide (a0.fN=0))&&(decide ((qg a0.fEntries:Int)=0)))&&(decide ((qg a0.fRest:Int)=0))))]∧τ=([.cells 0 (za a0)]:zi)) ?_ ?_
   · refine yz (b:=((decide (a0.fN=0))&&(decide ((qg a0.fEntries:Int)=0)))) 33 rfl (fun hg33=>?_) (fun hg33=>?_)
     · refine zd tok 5 ?_;simp only[go_sem,qe,qb,qa,qc,qd,qf,reduceIte,reduceCtorEq,zV,t6,t8];refine zm ⟨rfl,_,_,⟨rfl,rfl⟩,.b hg33⟩
     refine zd tok 5 ?_;simp only[go_sem,qe,qb,qa,qc,qd,qf,reduceIte,reduceCtorEq,zV,t6,t8];refine zm ⟨rfl,_,_,⟨rfl,rfl⟩,.b hg33⟩
   rintro _ _ ⟨rfl,rfl⟩;refine zd tok 1 ?_;simp only[go_sem,qe,qb,qa,qc,qd,qf,reduceIte,reduceCtorEq,t6,t8];refine nkN hK ?_;cases h;exact rtA
 rw[if_neg hc7] at h;have t11:=eq_false hc7
 refine rg tok [1,39] fun K hK=>?_
 simp only[go_sem,qe,qb,qa,qc,qd,qf,reduceIte,reduceCtorEq,zV,t6,t11];apply hK
 refine yn rfl (fun hc12=>?_) (fun hc12=>?_)
 · rw[if_pos hc12] at h;have t13:=eq_true hc12
   refine rc [2] fun K hK=>?_
   refine zd tok 4 ?_;simp only[go_sem,qe,qb,qa,qc,qd,qf,reduceIte,reduceCtorEq,zV,t6,t11,t13];refine zI 4 (fun L τ=>L=[(1,.op 0 0 0),(48,.bool ((decide (a0.fN=0))&&(decide (a0.fS=[]))))]∧τ=([.cells 0 (za a0)]:zi)) ?_ ?_
   · refine wr 44 rfl (fun hg44=>?_) (fun hg44=>?_)
     · have t14:=eq_true hg44;refine zd tok 4 ?_;simp only[go_sem,qe,qb,qa,qc,qd,qf,reduceIte,reduceCtorEq,zV,t6,t11,t13];refine zm ⟨rfl,_,_,⟨rfl,rfl⟩,.p t14⟩
     have t15:=eq_false hg44;refine zd tok 4 ?_;simp only[go_sem,qe,qb,qa,qc,qd,qf,reduceIte,reduceCtorEq,zV,t6,t11,t13];refine zm ⟨rfl,_,_,⟨rfl,rfl⟩,.p t15⟩
   rintro _ _ ⟨rfl,rfl⟩;refine zd tok 1 ?_;simp only[go_sem,qe,qb,qa,qc,qd,qf,reduceIte,reduceCtorEq,t6,t11,t13];obtain⟨c16,hc16,h⟩:=bind_some h;refine zI 4 (fun L τ=>L=[(1,.op 0 0 0),(53,.bool c16)]∧τ=([.cells 0 (za a0)]:zi)) ?_ ?_
   · refine yz (b:=((decide (a0.fN=0))&&(decide (a0.fS=[])))) 49 rfl (fun hg49=>?_) (fun hg49=>?_)
     · rw[if_pos hg49] at hc16;obtain⟨r17,hr17,hc16⟩:=bind_some hc16;refine zd tok 2 ?_;simp only[go_sem,qe,qb,qa,qc,qd,qf,reduceIte,reduceCtorEq,t6,t11,t13];refine clN rfl rfl rfl (ev_ref09_entries a0.fEntries r17 hr17 _) ?_;refine zd tok 1 ?_;simp only[go_sem,qe,qb,qa,qc,qd,qf,reduceIte,reduceCtorEq,t6,t11,t13];cases hc16;refine zm ⟨rfl,_,_,⟨rfl,rfl⟩,.b hg49⟩
     rw[Zg hg49] at hc16;refine zd tok 4 ?_;simp only[go_sem,qe,qb,qa,qc,qd,qf,reduceIte,reduceCtorEq,t6,t11,t13];cases hc16;refine zm ⟨rfl,_,_,⟨rfl,rfl⟩,.b hg49⟩
   rintro _ _ ⟨rfl,rfl⟩;refine zd tok 1 ?_;simp only[go_sem,qe,qb,qa,qc,qd,qf,reduceIte,reduceCtorEq,t6,t11,t13];obtain⟨c18,hc18,h⟩:=bind_some h;refine zI 3 (fun L τ=>L=[(57,.bool c18)]∧τ=([.cells 0 (za a0)]:zi)) ?_ ?_
   · refine yz (b:=c16) 54 rfl (fun hg54=>?_) (fun hg54=>?_)
     · rw[if_pos hg54] at hc18;obtain⟨r19,hr19,hc18⟩:=bind_some hc18;refine zd tok 1 ?_;simp only[go_sem,qe,qb,qa,qc,qd,qf,reduceIte,reduceCtorEq,za,zh,t6,t11,t13];refine clN rfl rfl rfl ((wq.ok hr19).c _) ?_;refine zd tok 1 ?_;simp only[go_sem,qe,qb,qa,qc,qd,qf,reduceIte,reduceCtorEq,za,zh,t6,t11,t13];cases hc18;refine zm ⟨rfl,_,_,⟨rfl,rfl⟩,.b hg54⟩
     rw[Zg hg54] at hc18;refine zd tok 3 ?_;simp only[go_sem,qe,qb,qa,qc,qd,qf,reduceIte,reduceCtorEq,za,zh,t6,t11,t13];cases hc18;refine zm ⟨rfl,_,_,⟨rfl,rfl⟩,.b hg54⟩
   rintro _ _ ⟨rfl,rfl⟩;refine zd tok 1 ?_;simp only[go_sem,qe,qb,qa,qc,qd,qf,reduceIte,reduceCtorEq,za,zh,t6,t11,t13];refine nkN hK ?_;cases h;exact rtA
 rw[if_neg hc12] at h;have t20:=eq_false hc12;apply zp;apply hZ1
 refine rg tok [2] fun K hK=>?_
 simp only[go_sem,qe,qb,qa,qc,qd,qf,reduceIte,reduceCtorEq,t6,t11,t20];apply hK
 cases h;exact rtA
end
section
set_option maxRecDepth 4000
set_option maxHeartbeats 1000000
open AM
def yf.j23 (x16:Int)(rec18:Int→Option Bool)(x22:Bool):Option Bool:=
 (if x22=true then some false else (rec18 (x16+1)))
def yf.l18 (xd:zq→Option Bool)(x3:Int)(rec6:Int→Int→Option Bool)(y6:zA):List zq→Int→Option Bool
 |[],x16=>(rec6 (x3+1) y6.fTag)
 |y18::q18,x16=>(YN y6.fTrees 0).bind fun y27=>(if y18.fKind=y27.fKind then (xd y18).bind fun r34=>(yf.j23 x16 (yf.l18 xd x3 rec6 y6 q18) (!r34)) else (yf.j23 x16 (yf.l18 xd x3 rec6 y6 q18) true))
def yf.l6 (xd:zq→Option Bool):List zA→Int→Int→Option Bool
 |[],x3,x2=>some true
 |y6::q6,x3,x2=>(if ((((decide (y6.fTag≤x2))||(decide (500<y6.fTag)))||(decide ((qg y6.fTrees:Int)<1)))||(decide (64<(qg y6.fTrees:Int))))=true then some false else (yf.l18 xd x3 (yf.l6 xd q6) y6 y6.fTrees 0))
def yf.body (xd:zq→Option Bool)(wP:(List zA)→Option Bool)(a0:List zA):Option Bool:=
 (yf.l6 xd a0 0 0)
theorem yf.step (xd:zq→Option Bool)(wP:(List zA)→Option Bool)(vau:∀ (a0:zq) (r:Bool),xd a0=some r→ACalls qi 102 [.agg (za a0)] [] (fun r' _=>r'=.bool r))(XG:∀ (a0:List zA) (r:Bool),wP a0=some r→ACalls qi 154 [.ds true (qh zz a0) (qg a0) false] [] (fun r' _=>r'=.bool r))(a0:List zA)(r:Bool)(h:yf.body xd wP a0=some r):ACalls qi 154 [.ds true (qh zz a0) (qg a0) false] [] (fun r' _=>r'=.bool r):=by
 have ev_ref09_check:=fun a0 r h σ=>(vau a0 r h).c σ
 have ev_ref09_entries:=fun a0 r h σ=>(XG a0 r h).c σ
 refine zw (rs:=[.tmp 2]) tok Tryz.func154 rfl Tryz.ntmps154 rfl Tryz.call154 (by simp) ?_;refine zC [(0,.ds true (qh zz a0) (qg a0) false)] ⟨rfl,trivial⟩ ?_;unfold yf.body at h;refine rgN [0] ?_;refine rgN [0,3] ?_
 refine ze fun Z1 hZ1=>?_
 refine rgN [0,3,4] ?_;apply zt
 refine xv 0 fun hb6=>?_
 replace hb6:qg a0≤9223372036854775807:=hb6.1;refine yh (fun m L τ=>∃ (p6 q6:List zA) (x3:Int) (x2:Int),m=qg q6∧L=[(0,.ds true (qh zz a0) (qg a0) false),(3,.int .i64 x2),(4,.int .i64 x3)]∧τ=([]:zi)∧a0=p6++q6∧x3=(qg p6:Int)∧yf.l6 xd q6 x3 x2=some r) _ ⟨[],a0,0,0,rfl,rfl,rfl,rfl,rfl,h⟩ .s ?_;rintro m L τ ⟨p6,q6,x3,x2,rfl,rfl,rfl,hE6,hi6,h⟩
 rcases q6 with _|⟨y6,q6⟩
 · have hz6:=xE hE6 hi6;simp only[yf.l6] at h
   refine ze fun Z7 hZ7=>?_
   refine rg tok [0,3,4,10] fun K hK=>?_
   simp only[go_sem,qe,qb,qa,qc,qd,qf,reduceIte,reduceCtorEq,zV,hz6];apply hK
   refine zK rfl ?_;apply ye;apply hZ1
   refine rg tok [2] fun K hK=>?_
   simp only[go_sem,qe,qb,qa,qc,qd,qf,reduceIte,reduceCtorEq,hz6];apply hK
   cases h;exact rtA
 obtain⟨hz6,hw6,hx6,hE'6,hi'6⟩:=yZ hE6 hi6 hb6;simp only[yf.l6] at h
 refine ze fun Z8 hZ8=>?_
 refine rg tok [0,3,4,10] fun K hK=>?_
 simp only[go_sem,qe,qb,qa,qc,qd,qf,reduceIte,reduceCtorEq,zV,hz6,hw6];apply hK
 refine zQ rfl ?_;apply zp;apply hZ8
 refine ze fun Z9 hZ9=>?_
 apply zt;have f10:=E34.idxS hx6;have f11:=E34.loadS rfl rfl hx6
 refine rg tok [0,3,4,5] fun K hK=>?_
 simp only[go_sem,qe,qb,qa,qc,qd,qf,reduceIte,reduceCtorEq,zF,z8,hz6,hw6,f10,f11];apply hK
 refine ze fun Z12 hZ12=>?_
 refine rc [0,4,5,37] fun K hK=>?_
 refine zd tok 5 ?_;simp only[go_sem,qe,qb,qa,qc,qd,qf,reduceIte,reduceCtorEq,zV,hz6,hw6];refine zI 4 (fun L τ=>L=[(0,.ds true (qh zz a0) (qg a0) false),(4,.int .i64 x3),(5,.op 0 0 0),(25,.bool ((decide (y6.fTag≤x2))||(decide (500<y6.fTag))))]∧τ=([.cells 0 (zF y6)]:zi)) ?_ ?_
 · refine wr 21 rfl (fun hg21=>?_) (fun hg21=>?_)
   · have t13:=eq_true hg21;refine zd tok 4 ?_;simp only[go_sem,qe,qb,qa,qc,qd,qf,reduceIte,reduceCtorEq,zV,hz6,hw6];refine zm ⟨rfl,_,_,⟨rfl,rfl⟩,.p t13⟩
   have t14:=eq_false hg21;refine zd tok 4 ?_;simp only[go_sem,qe,qb,qa,qc,qd,qf,reduceIte,reduceCtorEq,zV,hz6,hw6];refine zm ⟨rfl,_,_,⟨rfl,rfl⟩,.p t14⟩
 rintro _ _ ⟨rfl,rfl⟩;refine zd tok 1 ?_;simp only[go_sem,qe,qb,qa,qc,qd,qf,reduceIte,reduceCtorEq,hz6,hw6];refine zI 5 (fun L τ=>L=[(0,.ds true (qh zz a0) (qg a0) false),(4,.int .i64 x3),(5,.op 0 0 0),(31,.bool (((decide (y6.fTag≤x2))||(decide (500<y6.fTag)))||(decide ((qg y6.fTrees:Int)<1))))]∧τ=([.cells 0 (zF y6)]:zi)) ?_ ?_
 · refine yz (b:=((decide (y6.fTag≤x2))||(decide (500<y6.fTag)))) 26 rfl (fun hg26=>?_) (fun hg26=>?_)
   · refine zd tok 5 ?_;simp only[go_sem,qe,qb,qa,qc,qd,qf,reduceIte,reduceCtorEq,zV,hz6,hw6];refine zm ⟨rfl,_,_,⟨rfl,rfl⟩,.b hg26⟩
   refine zd tok 5 ?_;simp only[go_sem,qe,qb,qa,qc,qd,qf,reduceIte,reduceCtorEq,zV,hz6,hw6];refine zm ⟨rfl,_,_,⟨rfl,rfl⟩,.b hg26⟩
 rintro _ _ ⟨rfl,rfl⟩;refine zd tok 1 ?_;simp only[go_sem,qe,qb,qa,qc,qd,qf,reduceIte,reduceCtorEq,hz6,hw6];refine zI 5 (fun L τ=>L=[(0,.ds true (qh zz a0) (qg a0) false),(4,.int .i64 x3),(5,.op 0 0 0),(37,.bool ((((decide (y6.fTag≤x2))||(decide (500<y6.fTag)))||(decide ((qg y6.fTrees:Int)<1)))||(decide (64<(qg y6.fTrees:Int)))))]∧τ=([.cells 0 (zF y6)]:zi)) ?_ ?_
 · refine yz (b:=(((decide (y6.fTag≤x2))||(decide (500<y6.fTag)))||(decide ((qg y6.fTrees:Int)<1)))) 32 rfl (fun hg32=>?_) (fun hg32=>?_)
   · refine zd tok 5 ?_;simp only[go_sem,qe,qb,qa,qc,qd,qf,reduceIte,reduceCtorEq,zV,hz6,hw6];refine zm ⟨rfl,_,_,⟨rfl,rfl⟩,.b hg32⟩
   refine zd tok 5 ?_;simp only[go_sem,qe,qb,qa,qc,qd,qf,reduceIte,reduceCtorEq,zV,hz6,hw6];refine zm ⟨rfl,_,_,⟨rfl,rfl⟩,.b hg32⟩
 rintro _ _ ⟨rfl,rfl⟩;refine nkN hK ?_;refine zY (b:=((((decide (y6.fTag≤x2))||(decide (500<y6.fTag)))||(decide ((qg y6.fTrees:Int)<1)))||(decide (64<(qg y6.fTrees:Int))))) rfl (fun hc15=>?_) (fun hc15=>?_)
 · rw[if_pos hc15] at h
   refine rg tok [2] fun K hK=>?_
   simp only[go_sem,qe,qb,qa,qc,qd,qf,reduceIte,reduceCtorEq,hz6,hw6];apply hK
   cases h;exact rtA
 rw[Zg hc15] at h;apply zp;apply hZ12
 refine rg tok [0,3,4,5] fun K hK=>?_
 simp only[go_sem,qe,qb,qa,qc,qd,qf,reduceIte,reduceCtorEq,hz6,hw6];apply hK
 refine rg tok [0,3,4,5,6] fun K hK=>?_
 simp only[go_sem,qe,qb,qa,qc,qd,qf,reduceIte,reduceCtorEq,hz6,hw6];apply hK
 apply zt
 refine vae 0 rfl fun hb18=>?_
 replace hb18:qg y6.fTrees≤9223372036854775807:=hb18.2.1.1;refine yh (fun m L τ=>∃ (p18 q18:List zq) (x16:Int),m=qg q18∧L=[(0,.ds true (qh zz a0) (qg a0) false),(3,.int .i64 y6.fTag),(4,.int .i64 x3),(5,.op 0 0 0),(6,.int .i64 x16)]∧τ=([.cells 0 (zF y6)]:zi)∧y6.fTrees=p18++q18∧x16=(qg p18:Int)∧yf.l18 xd x3 (yf.l6 xd q6) y6 q18 x16=some r) _ ⟨[],y6.fTrees,0,rfl,rfl,rfl,rfl,rfl,h⟩ .s ?_;rintro m L τ ⟨p18,q18,x16,rfl,rfl,rfl,hE18,hi18,h⟩
 rcases q18 with _|⟨y18,q18⟩
 · have hz18:=xE hE18 hi18;simp only[yf.l18] at h
   refine ze fun Z19 hZ19=>?_
   refine rg tok [0,3,4,5,6,44] fun K hK=>?_
   simp only[go_sem,qe,qb,qa,qc,qd,qf,reduceIte,reduceCtorEq,zV,hz6,hw6,hz18];apply hK
   refine zK rfl ?_;apply ye;apply hZ9
   refine rgE tok [0,3,4] fun K hK=>?_
   simp only[go_sem,qe,qb,qa,qc,qd,qf,reduceIte,reduceCtorEq,zV,hz6,hw6,hz18];apply hK
   exact⟨_,_,_,qH q6.length,⟨p6++[y6],q6,x3+1,y6.fTag,rfl,rfl,rfl,hE'6,hi'6,h⟩,(.t [] false)⟩
 obtain⟨hz18,hw18,hx18,hE'18,hi'18⟩:=yZ hE18 hi18 hb18;simp only[yf.l18] at h
 refine ze fun Z20 hZ20=>?_
 refine rg tok [0,3,4,5,6,44] fun K hK=>?_
 simp only[go_sem,qe,qb,qa,qc,qd,qf,reduceIte,reduceCtorEq,zV,hz6,hw6,hz18,hw18];apply hK
 refine zQ rfl ?_;apply zp;apply hZ20
 refine ze fun Z21 hZ21=>?_
 apply zt;refine xV (fun L τ=>∃ (x22:Bool),L=[(0,.ds true (qh zz a0) (qg a0) false),(3,.int .i64 y6.fTag),(4,.int .i64 x3),(5,.op 0 0 0),(6,.int .i64 x16),(67,.bool x22)]∧τ=([.cells 0 (zF y6)]:zi)∧yf.j23 x16 (yf.l18 xd x3 (yf.l6 xd q6) y6 q18) x22=some r) ?_ ?_
 · refine rdE [0,3,4,5,6,67] fun K hK=>?_
   refine DW.start (T:=tab) [.any,.at [],.any,.any,.any,.at [],.any,.at [],.any,.any,.at [],.any,.any,.any,.at [],.any,.any,.at [],.eff,.any,.any] [] ?_;have f25:=E38.idxS hx18;have f26:=E38.fldS0 (f:=3) rfl rfl hx18;obtain⟨y27,hy27,h⟩:=bind_some h;have f28:=E38.idxS hy27;have f29:=E38.fldS0 (f:=3) rfl rfl hy27;refine DW.runN tok 8 ?_;simp only[go_sem,qe,qb,qa,qc,qd,qf,reduceIte,reduceCtorEq,za,zh,hz6,hw6,hz18,hw18,f25,f26,f28,f29];refine DW.runN tok 5 ?_;simp only[go_sem,qe,qb,qa,qc,qd,qf,reduceIte,reduceCtorEq,zV,za,zh,hz6,hw6,hz18,hw18,f25,f26,f28,f29]
   refine DW.if 59 rfl (fun hg59=>?_) (fun hg59=>?_)
   · rw[if_neg hg59] at h;have t30:=eq_false hg59;refine DW.runN tok 8 ?_;simp only[go_sem,qe,qb,qa,qc,qd,qf,reduceIte,reduceCtorEq,za,zh,hz6,hw6,hz18,hw18,t30];refine DW.fin tok (by decide +kernel) rfl ?_;simp only[zG,yE,yV,ZS,upd,qa,reduceIte,xl,xU];apply hK
     exact⟨_,_,⟨true,rfl,rfl,h⟩,.s⟩
   rw[if_pos hg59] at h;have t31:=eq_true hg59;have f32:=E38.idxS hx18;have f33:=E38.loadS rfl rfl hx18;obtain⟨r34,hr34,h⟩:=bind_some h;refine DW.runN tok 5 ?_;simp only[go_sem,qe,qb,qa,qc,qd,qf,reduceIte,reduceCtorEq,za,zh,hz6,hw6,hz18,hw18,t31,f32,f33];refine DW.call rfl rfl rfl (ev_ref09_check y18 r34 hr34 _) ?_;refine DW.runN tok 2 ?_;simp only[go_sem,qe,qb,qa,qc,qd,qf,reduceIte,reduceCtorEq,za,zh,hz6,hw6,hz18,hw18,t31];refine DW.fin tok (by decide +kernel) rfl ?_;simp only[zG,yE,yV,ZS,upd,qa,reduceIte,xl,xU];apply hK
   exact⟨_,_,⟨!r34,rfl,rfl,h⟩,.s⟩
 rintro _ _ ⟨x22,rfl,rfl,h⟩;unfold yf.j23 at h;refine zY (b:=x22) rfl (fun hc24=>?_) (fun hc24=>?_)
 · rw[if_pos hc24] at h
   refine rg tok [2] fun K hK=>?_
   simp only[go_sem,qe,qb,qa,qc,qd,qf,reduceIte,reduceCtorEq,hz6,hw6,hz18,hw18];apply hK
   cases h;exact rtA
 rw[Zg hc24] at h;apply zp;apply hZ21
 refine rgE tok [0,3,4,5,6] fun K hK=>?_
 simp only[go_sem,qe,qb,qa,qc,qd,qf,reduceIte,reduceCtorEq,zV,hz6,hw6,hz18,hw18];apply hK
 exact⟨_,_,_,qH q18.length,⟨p18++[y18],q18,x16+1,rfl,rfl,rfl,hE'18,hi'18,h⟩,.s⟩
mutual
def xW : Nat→zq→Option Bool
 |0,_=>none
 |k+1,a0=>xW.body (xW k) (yf k) a0
def yf : Nat→(List zA)→Option Bool
 |0,_=>none
 |k+1,a0=>yf.body (xW k) (yf k) a0
end
theorem xW.all (k:Nat):(∀ (a0:zq) (r:Bool),xW k a0=some r→ACalls qi 102 [.agg (za a0)] [] (fun r' _=>r'=.bool r))∧(∀ (a0:List zA) (r:Bool),yf k a0=some r→ACalls qi 154 [.ds true (qh zz a0) (qg a0) false] [] (fun r' _=>r'=.bool r)):=by
 induction k with
 |zero=>exact⟨(fun a0 r h=>by simp only[xW] at h; cases h),(fun a0 r h=>by simp only[yf] at h; cases h)⟩
 |succ k ih=>exact⟨(fun a0 r h=>xW.step _ _ ih.1 ih.2 a0 r (by simpa only [xW] using h)),(fun a0 r h=>yf.step _ _ ih.1 ih.2 a0 r (by simpa only [yf] using h))⟩
theorem xW.ev (k:Nat)(a0:zq)(r:Bool)(h:xW k a0=some r)(σ:zi):ACalls qi 102 [.agg (za a0)] σ (fun r' σ'=>r'=.bool r∧σ'=σ):=
 ((xW.all k).1 a0 r h).c σ
def YV (a0:zq):Option Bool:=
 (YU a0).bind fun r1=>(if r1≤10 then (xW xG a0).bind fun r2=>some r2 else some false).bind fun c2=>some c2
theorem YV.ok {a0 r}(h:YV a0=some r):ACalls qi 66 [.agg (za a0)] [] (fun r' _=>r'=.bool r):=by
 refine zw (rs:=[.tmp 2]) tok Tryz.func66 rfl Tryz.ntmps66 rfl Tryz.call66 (by simp) ?_;refine zC [(0,.agg (za a0))] ⟨rfl,trivial⟩ ?_;unfold YV at h
 refine rg tok [1] fun K hK=>?_
 simp only[go_sem,qe,qb,qa,qc,qd,qf,reduceIte,reduceCtorEq,za,zh];apply hK
 refine rc [2] fun K hK=>?_
 obtain⟨r1,hr1,h⟩:=bind_some h;refine zd tok 1 ?_;simp only[go_sem,qe,qb,qa,qc,qd,qf,reduceIte,reduceCtorEq,za,zh];refine clN rfl rfl rfl ((YU.ok hr1).c _) ?_;refine zd tok 2 ?_;simp only[go_sem,qe,qb,qa,qc,qd,qf,reduceIte,reduceCtorEq,zV,za,zh];obtain⟨c2,hc2,h⟩:=bind_some h;refine zI 3 (fun L τ=>L=[(9,.bool c2)]∧τ=([.cells 0 (za a0)]:zi)) ?_ ?_
 · refine wr 6 rfl (fun hg6=>?_) (fun hg6=>?_)
   · have t3:=eq_true hg6;rw[if_pos hg6] at hc2;obtain⟨r4,hr4,hc2⟩:=bind_some hc2;refine zd tok 1 ?_;simp only[go_sem,qe,qb,qa,qc,qd,qf,reduceIte,reduceCtorEq,za,zh];refine clN rfl rfl rfl (xW.ev xG a0 r4 hr4 _) ?_;refine zd tok 1 ?_;simp only[go_sem,qe,qb,qa,qc,qd,qf,reduceIte,reduceCtorEq,za,zh];cases hc2;refine zm ⟨rfl,_,_,⟨rfl,rfl⟩,.p t3⟩
   have t5:=eq_false hg6;rw[if_neg hg6] at hc2;refine zd tok 3 ?_;simp only[go_sem,qe,qb,qa,qc,qd,qf,reduceIte,reduceCtorEq,za,zh];cases hc2;refine zm ⟨rfl,_,_,⟨rfl,rfl⟩,.p t5⟩
 rintro _ _ ⟨rfl,rfl⟩;refine zd tok 1 ?_;simp only[go_sem,qe,qb,qa,qc,qd,qf,reduceIte,reduceCtorEq,za,zh];refine nkN hK ?_;cases h;exact rtA
def yw.j23 (x4:Int)(rec8:Int→List yo→Option (List yo))(l16:List yo)(x17:Int)(rec20:List yo→Int→Option (List yo))(x22:Bool):Option (List yo):=
 (if x22=true then (YN l16 x17).bind fun y25=>(YN l16 (IntKind.i64.wrap (x17-1))).bind fun y28=>(YN (setI l16 (IntKind.i64.wrap (x17-1)) y25) x17).bind fun y34=>(rec20 (setI (setI l16 (IntKind.i64.wrap (x17-1)) y25) x17 y28) (IntKind.i64.wrap (x17-1))) else (rec8 (x4+1) l16))
def yw.l20 (x4:Int)(rec8:Int→List yo→Option (List yo)):Nat→List yo→Int→Option (List yo)
 |0,_,_=>none
 |k20+1,l16,x17=>(if 0<x17 then (YN l16 (IntKind.i64.wrap (x17-1))).bind fun y39=>(YN l16 x17).bind fun y42=>(yw.j23 x4 rec8 l16 x17 (yw.l20 x4 rec8 k20) (decide (y42.fTag<y39.fTag))) else (yw.j23 x4 rec8 l16 x17 (yw.l20 x4 rec8 k20) false))
def yw.l8 : List yo→Int→List yo→Option (List yo)
 |[],x4,l2=>some l2
 |y8::q8,x4,l2=>(vai (qg l2+1) 40).bind fun _u14=>(yw.l20 x4 (yw.l8 q8) xG (l2++[y8]) (qg l2:Int))
def yw (a0:List yo):Option (List yo):=
 (yw.l8 a0 0 ([]:List yo))
theorem yw.own {a0 r}(h:yw a0=some r):ACalls qi 156 [.ds true (qh zu a0) (qg a0) false] [] (fun r' σ'=>r'=.os true 4 0 0 0 (qg r) false∧σ'=[.cells 0 (qh zu r)]):=by
 refine ACalls.own0 (by simp only[push_cast]) ?_;refine X1 (rs:=[.tmp 2]) tok Tryz.func156 rfl Tryz.ntmps156 rfl Tryz.call156 (by simp) ?_;refine zC [(0,.ds true (qh zu a0) (qg a0) false)] ⟨rfl,trivial⟩ ?_;unfold yw at h;refine rgN [0] ?_;refine rgN [0,3] ?_;refine YR 3 4 rfl ?_;refine y5 (L:=[(0,.ds true (qh zu a0) (qg a0) false),(3,.os true 4 0 0 0 (qg ([]:List yo)) false)]) (τ:=[.cells 0 (qh zu ([]:List yo))]) .s ?_
 refine ze fun Z1 hZ1=>?_
 refine rgN [0,3,4] ?_;apply zt
 refine xv 0 fun hb8=>?_
 replace hb8:qg a0≤9223372036854775807:=hb8.1;refine yh (fun m L τ=>∃ (p8 q8:List yo) (x4:Int) (l2:List yo) (v3:Nat),m=qg q8∧L=[(0,.ds true (qh zu a0) (qg a0) false),(3,.os true 4 0 v3 0 (qg l2) false),(4,.int .i64 x4)]∧τ=([.cells v3 (qh zu l2)]:zi)∧a0=p8++q8∧x4=(qg p8:Int)∧yw.l8 q8 x4 l2=some r) _ ⟨[],a0,0,([]:List yo),0,rfl,rfl,rfl,rfl,rfl,h⟩ .s ?_;rintro m L τ ⟨p8,q8,x4,l2,v3,rfl,rfl,rfl,hE8,hi8,h⟩
 rcases q8 with _|⟨y8,q8⟩
 · have hz8:=xE hE8 hi8;simp only[yw.l8] at h
   refine ze fun Z9 hZ9=>?_
   refine rg tok [0,3,4,9] fun K hK=>?_
   simp only[go_sem,qe,qb,qa,qc,qd,qf,reduceIte,reduceCtorEq,zV,hz8];apply hK
   refine zK rfl ?_;apply ye;apply hZ1
   refine rg tok [2] fun K hK=>?_
   simp only[go_sem,qe,qb,qa,qc,qd,qf,reduceIte,reduceCtorEq,hz8];apply hK
   apply yk;cases h;simp only[ZA,yT,yY,xR,exists_eq_left',go_sem,qe,qb,qa,qc,qd,qf,reduceIte,reduceCtorEq,zu];refine⟨0,v3,by simp,?_,?_⟩
   · first|rfl|(simp only[go_sem,qe,qb,qa,qc,qd,qf,reduceIte,reduceCtorEq,push_cast,if_true,qq,ql,qt,qr,qs,qv,qy,qo,qx,qw,qn,zx,zu]<;>rfl)
   first|rfl|(simp only[go_sem,qe,qb,qa,qc,qd,qf,reduceIte,reduceCtorEq,push_cast,if_true,qq,ql,qt,qr,qs,qv,qy,qo,qx,qw,qn,zx,zu]<;>rfl)
 obtain⟨hz8,hw8,hx8,hE'8,hi'8⟩:=yZ hE8 hi8 hb8;simp only[yw.l8] at h
 refine ze fun Z10 hZ10=>?_
 refine rg tok [0,3,4,9] fun K hK=>?_
 simp only[go_sem,qe,qb,qa,qc,qd,qf,reduceIte,reduceCtorEq,zV,hz8,hw8];apply hK
 refine zQ rfl ?_;apply zp;apply hZ10
 refine ze fun Z11 hZ11=>?_
 apply zt
 refine rg tok [0,3,4,5] fun K hK=>?_
 simp only[go_sem,qe,qb,qa,qc,qd,qf,reduceIte,reduceCtorEq,hz8,hw8];apply hK
 have f12:=E35.idxS hx8;have f13:=E35.loadS rfl rfl hx8;obtain⟨_u14,hu14,h⟩:=bind_some h;have gu14:=xh hu14;have f15:=(zX E35.len l2)
 refine rg tok [0,3,4,5] fun K hK=>?_
 simp only[go_sem,qe,qb,qa,qc,qd,qf,reduceIte,reduceCtorEq,zU,yA,qY,qN,qW,true_and,q1,yR,yp,yU,zu,hz8,hw8,f12,f13,gu14,f15,yP,qV,qS,AV.one,qJ,qo,gt_iff_lt,zW,qD,qC,qG,qB,qE,qk,qp,qz,ql,qu,qF];apply hK
 refine y5 (L:=[(0,.ds true (qh zu a0) (qg a0) false),(3,.os true 4 0 (v3+1) 0 (qg (l2++[y8])) false),(4,.int .i64 x4),(5,.int .i64 (qg l2:Int))]) (τ:=[.cells (v3+1) (qh zu (l2++[y8])),.cells 0 [.int .i64 y8.fTag,.int .i64 y8.fWire,.int .i64 y8.fN,.str y8.fB]]) .s ?_;apply zt;refine yh (fun m L τ=>∃ (k20:Nat) (l16:List yo) (x17:Int),m=0+k20∧L=[(0,.ds true (qh zu a0) (qg a0) false),(3,.os true 4 0 (v3+1) 0 (qg l16) false),(4,.int .i64 x4),(5,.int .i64 x17)]∧τ=([.cells (v3+1) (qh zu l16)]:zi)∧yw.l20 x4 (yw.l8 q8) k20 l16 x17=some r) _ ⟨xG,l2++[y8],(qg l2:Int),rfl,rfl,rfl,h⟩ (.t [0] false) ?_;rintro m L τ ⟨k20,l16,x17,rfl,rfl,rfl,h⟩
 rcases k20 with _|k20
 · cases h
 simp only[yw.l20] at h
 refine ze fun Z21 hZ21=>?_
 refine xV (fun L τ=>∃ (x22:Bool),L=[(0,.ds true (qh zu a0) (qg a0) false),(3,.os true 4 0 (v3+1) 0 (qg l16) false),(4,.int .i64 x4),(5,.int .i64 x17),(36,.bool x22)]∧τ=([.cells (v3+1) (qh zu l16)]:zi)∧yw.j23 x4 (yw.l8 q8) l16 x17 (yw.l20 x4 (yw.l8 q8) k20) x22=some r) ?_ ?_
 · refine rdE [0,3,4,5,36] fun K hK=>?_
   refine DW.start (T:=tab) [.any,.any,.any,.any,.any,.any,.any,.any,.at [],.any,.any,.any,.any,.at [],.any,.any] [] ?_;refine DW.runN tok 3 ?_;simp only[go_sem,qe,qb,qa,qc,qd,qf,reduceIte,reduceCtorEq,zV,hz8,hw8]
   refine DW.if 23 rfl (fun hg23=>?_) (fun hg23=>?_)
   · rw[if_pos hg23] at h;have t38:=eq_true hg23;obtain⟨y39,hy39,h⟩:=bind_some h;have f40:=E35.idxO hy39;have f41:=E35.rdfO0 hy39;obtain⟨y42,hy42,h⟩:=bind_some h;have f43:=E35.idxO hy42;have f44:=E35.rdfO0 hy42;refine DW.runN tok 8 ?_;simp only[go_sem,qe,qb,qa,qc,qd,qf,reduceIte,reduceCtorEq,zV,zu,hz8,hw8,t38,f40,f41,f43,f44];refine DW.runN tok 5 ?_;simp only[go_sem,qe,qb,qa,qc,qd,qf,reduceIte,reduceCtorEq,zV,zu,hz8,hw8,t38,f40,f41,f43,f44];refine DW.fin tok (by decide +kernel) rfl ?_;simp only[zG,yE,yV,ZS,upd,qa,reduceIte,xl,xU];apply hK
     exact⟨_,_,⟨decide (y42.fTag<y39.fTag),rfl,rfl,h⟩,.s⟩
   rw[if_neg hg23] at h;have t45:=eq_false hg23;refine DW.runN tok 8 ?_;simp only[go_sem,qe,qb,qa,qc,qd,qf,reduceIte,reduceCtorEq,zV,hz8,hw8,t45];refine DW.runN tok 5 ?_;simp only[go_sem,qe,qb,qa,qc,qd,qf,reduceIte,reduceCtorEq,zV,hz8,hw8,t45];refine DW.fin tok (by decide +kernel) rfl ?_;simp only[zG,yE,yV,ZS,upd,qa,reduceIte,xl,xU];apply hK
   exact⟨_,_,⟨false,rfl,rfl,h⟩,.s⟩
 rintro _ _ ⟨x22,rfl,rfl,h⟩;unfold yw.j23 at h;refine zY (b:=x22) rfl (fun hc24=>?_) (fun hc24=>?_)
 · rw[if_pos hc24] at h;apply zp;apply hZ21;apply zt;obtain⟨y25,hy25,h⟩:=bind_some h;have f26:=E35.idxO hy25;have f27:=E35.rdO hy25;obtain⟨y28,hy28,h⟩:=bind_some h;have f29:=E35.idxO hy28;have f30:=E35.rdO hy28;have f31:=E35.idxO hy28;have f32:=E35.stOc hy28;have f33:=E35.stOr hy28 (y:=y25) (cs:=[.int .i64 y25.fTag,.int .i64 y25.fWire,.int .i64 y25.fN,.str y25.fB]) rfl;simp only[wn] at f33;obtain⟨y34,hy34,h⟩:=bind_some h;have f35:=E35.idxO hy34;have f36:=E35.stOc hy34;have f37:=E35.stOr hy34 (y:=y28) (cs:=[.int .i64 y28.fTag,.int .i64 y28.fWire,.int .i64 y28.fN,.str y28.fB]) rfl;simp only[wn] at f37
   refine rd [0,3,4,5] fun K hK=>?_
   refine DW.start (T:=tab) [.any,.any,.any,.any,.any,.any,.any,.any,.at [],.any,.any,.any,.any,.at [],.any,.eff,.any,.eff] [] ?_;refine DW.runN tok 8 ?_;simp only[go_sem,qe,qb,qa,qc,qd,qf,reduceIte,reduceCtorEq,zV,zu,hz8,hw8,f26,f27,f29,f30,f31,f32,f33,f35,f36,f37];refine DW.runN tok 8 ?_;simp only[go_sem,qe,qb,qa,qc,qd,qf,reduceIte,reduceCtorEq,zV,zu,hz8,hw8,f26,f27,f29,f30,f31,f32,f33,f35,f36,f37];refine DW.runN tok 2 ?_;simp only[go_sem,qe,qb,qa,qc,qd,qf,reduceIte,reduceCtorEq,zu,hz8,hw8,f26,f27,f29,f30,f31,f32,f33,f35,f36,f37];refine DW.fin tok (by decide +kernel) rfl ?_;simp only[zG,yE,yV,ZS,upd,qa,reduceIte,xl,xU];apply hK
   refine rgE tok [0,3,4,5] fun K hK=>?_
   simp only[go_sem,qe,qb,qa,qc,qd,qf,reduceIte,reduceCtorEq,zV,hz8,hw8];apply hK
   exact⟨_,_,_,qH (0+k20),⟨k20,setI (setI l16 (IntKind.i64.wrap (x17-1)) y25) x17 y28,IntKind.i64.wrap (x17-1),rfl,rfl,rfl,h⟩,.s⟩
 rw[Zg hc24] at h;apply ye;apply hZ11
 refine rgE tok [0,3,4] fun K hK=>?_
 simp only[go_sem,qe,qb,qa,qc,qd,qf,reduceIte,reduceCtorEq,zV,hz8,hw8];apply hK
 exact⟨_,_,_,qH q8.length,⟨p8++[y8],q8,x4+1,l16,v3+1,rfl,rfl,rfl,hE'8,hi'8,h⟩,.s⟩
theorem yw.ok {a0 r}(h:yw a0=some r):ACalls qi 156 [.ds true (qh zu a0) (qg a0) false] [] (fun r' _=>r'=.ds true (qh zu r) (qg r) false):=
 (yw.own h).ownData (zX E35.len r) (by simp only[push_cast])
def wB.l8 : Nat→List UInt8→Int→Option (List UInt8)
 |0,_,_=>none
 |k8+1,l2,x4=>(if 128≤x4 then (vai (qg l2+1) 1).bind fun _u13=>((wB.l8 k8) (l2++[ua (qQ (IntKind.u8.wrap ((IntKind.u8.wrap ((x4).tmod 128))+128)))]) (IntKind.u64.wrap ((x4).tdiv 128))) else (vai (qg l2+1) 1).bind fun _u17=>some (l2++[ua (qQ (IntKind.u8.wrap x4))]))
def wB (a0:Int):Option (List UInt8):=
 (wB.l8 xG ([]:List UInt8) a0)
theorem wB.own {a0 r}(h:wB a0=some r):ACalls qi 202 [.int .u64 a0] [] (fun r' σ'=>r'=.os true 1 0 0 0 (qg r) false∧σ'=[.cells 0 (qh Zh r)]):=by
 refine ACalls.own0 (by simp only[push_cast]) ?_;refine X1 (rs:=[.tmp 2]) tok Tryz.func202 rfl Tryz.ntmps202 rfl Tryz.call202 (by simp) ?_;refine zC [(0,.int .u64 a0)] ⟨rfl,trivial⟩ ?_;unfold wB at h;refine rgN [0] ?_;refine rgN [0,3] ?_;refine YR 3 1 rfl ?_;refine y5 (L:=[(0,.int .u64 a0),(3,.os true 1 0 0 0 (qg ([]:List UInt8)) false)]) (τ:=[.cells 0 (qh Zh ([]:List UInt8))]) .s ?_
 refine ze fun Z1 hZ1=>?_
 apply zt;refine yh (fun m L τ=>∃ (k8:Nat) (l2:List UInt8) (x4:Int) (v3:Nat),m=0+k8∧L=[(0,.int .u64 x4),(3,.os true 1 0 v3 0 (qg l2) false)]∧τ=([.cells v3 (qh Zh l2)]:zi)∧wB.l8 k8 l2 x4=some r) _ ⟨xG,([]:List UInt8),a0,0,rfl,rfl,rfl,h⟩ .s ?_;rintro m L τ ⟨k8,l2,x4,v3,rfl,rfl,rfl,h⟩
 rcases k8 with _|k8
 · cases h
 simp only[wB.l8] at h
 refine ze fun Z9 hZ9=>?_
 refine rg tok [0,3,5] fun K hK=>?_
 simp only[go_sem,qe,qb,qa,qc,qd,qf,reduceIte,reduceCtorEq,zV];apply hK
 refine yn rfl (fun hc10=>?_) (fun hc10=>?_)
 · rw[if_pos hc10] at h;have t11:=eq_true hc10;apply zp;apply hZ9;apply zt;have f12:=Zc (T:=tab) (src:=287) (dst:=5) rfl rfl rfl;obtain⟨_u13,hu13,h⟩:=bind_some h;have gu13:=xh hu13;have f14:=(zX E48.len l2)
   refine rg tok [0,3] fun K hK=>?_
   simp only[go_sem,qe,qb,qa,qc,qd,qf,reduceIte,reduceCtorEq,zV,zU,yA,qY,qN,qW,true_and,q1,yR,yp,yU,Zh,t11,f12,gu13,f14,Int.reduceEq,yP,qV,qS,AV.one,qJ,qo,gt_iff_lt,zW,qD,qC,qG,qB,qE,qk,qp,qz,ql,qu,qF];apply hK
   refine y5 (L:=[(0,.int .u64 x4),(3,.os true 1 0 (v3+1) 0 (qg (l2++[ua (qQ (IntKind.u8.wrap ((IntKind.u8.wrap ((x4).tmod 128))+128)))])) false)]) (τ:=[.cells (v3+1) (qh Zh (l2++[ua (qQ (IntKind.u8.wrap ((IntKind.u8.wrap ((x4).tmod 128))+128)))])),.cells 0 [.int .u8 (IntKind.u8.wrap ((IntKind.u8.wrap ((x4).tmod 128))+128))]]) (.same (by first|exact⟨rfl,rfl,trivial⟩|rfl|(simp only[go_sem,qe,qb,qa,qc,qd,qf,reduceIte,reduceCtorEq,vcM,Zh,wH,encS,encK,zW,qD,qC,qG,qB,qE,qk,qp,qz,ql,qu,qF,uv,Xi,and_self]<;>rfl)) (by first|exact⟨rfl,rfl,trivial⟩|rfl|(simp only[go_sem,qe,qb,qa,qc,qd,qf,reduceIte,reduceCtorEq,vcM,Zh,wH,encS,encK,zW,qD,qC,qG,qB,qE,qk,qp,qz,ql,qu,qF,uv,Xi,and_self]<;>rfl))) ?_
   refine rgE tok [0,3] fun K hK=>?_
   simp only[go_sem,qe,qb,qa,qc,qd,qf,reduceIte,reduceCtorEq,zV,t11,Int.reduceEq];apply hK
   exact⟨_,_,_,qH (0+k8),⟨k8,l2++[ua (qQ (IntKind.u8.wrap ((IntKind.u8.wrap ((x4).tmod 128))+128)))],IntKind.u64.wrap ((x4).tdiv 128),v3+1,rfl,rfl,rfl,h⟩,(.t [0] false)⟩
 rw[if_neg hc10] at h;have t15:=eq_false hc10;apply ye;apply hZ1;have f16:=Zc (T:=tab) (src:=287) (dst:=5) rfl rfl rfl;obtain⟨_u17,hu17,h⟩:=bind_some h;have gu17:=xh hu17;have f18:=(zX E48.len l2)
 refine rg tok [2] fun K hK=>?_
 simp only[go_sem,qe,qb,qa,qc,qd,qf,reduceIte,reduceCtorEq,zU,yA,qY,qN,qW,true_and,q1,yR,yp,yU,Zh,t15,f16,gu17,f18,yP,qV,qS,AV.one,qJ,qo,gt_iff_lt,zW,qD,qC,qG,qB,qE,qk,qp,qz,ql,qu,qF];apply hK
 refine y5 (L:=[(2,.os true 1 0 (v3+1) 0 (qg (l2++[ua (qQ (IntKind.u8.wrap x4))])) false)]) (τ:=[.cells (v3+1) (qh Zh (l2++[ua (qQ (IntKind.u8.wrap x4))])),.cells 0 [.int .u8 (IntKind.u8.wrap x4)]]) (.same (by first|exact⟨rfl,trivial⟩|rfl|(simp only[go_sem,qe,qb,qa,qc,qd,qf,reduceIte,reduceCtorEq,vcM,Zh,wH,encS,encK,zW,qD,qC,qG,qB,qE,qk,qp,qz,ql,qu,qF,uv,Xi,and_self]<;>rfl)) (by first|exact⟨rfl,trivial⟩|rfl|(simp only[go_sem,qe,qb,qa,qc,qd,qf,reduceIte,reduceCtorEq,vcM,Zh,wH,encS,encK,zW,qD,qC,qG,qB,qE,qk,qp,qz,ql,qu,qF,uv,Xi,and_self]<;>rfl))) ?_;apply yk;cases h;simp only[ZA,yT,yY,xR,exists_eq_left',go_sem,qe,qb,qa,qc,qd,qf,reduceIte,reduceCtorEq];refine⟨0,v3+1,by simp,?_,?_⟩
 · first|rfl|(simp only[go_sem,qe,qb,qa,qc,qd,qf,reduceIte,reduceCtorEq,push_cast,if_true,qq,ql,qt,qr,qs,qv,qy,qo,qx,qw,qn,zx]<;>rfl)
 first|rfl|(simp only[go_sem,qe,qb,qa,qc,qd,qf,reduceIte,reduceCtorEq,push_cast,if_true,qq,ql,qt,qr,qs,qv,qy,qo,qx,qw,qn,zx]<;>rfl)
theorem wB.ok {a0 r}(h:wB a0=some r):ACalls qi 202 [.int .u64 a0] [] (fun r' _=>r'=.ds true (qh Zh r) (qg r) false):=
 (wB.own h).ownData (zX E48.len r) (by simp only[push_cast])
def X4 (a0:Int):Int:=
 (if 0≤a0 then IntKind.u64.wrap (2*(IntKind.u64.wrap a0)) else IntKind.u64.wrap ((IntKind.u64.wrap (2*(IntKind.u64.wrap (IntKind.i64.wrap (0-(IntKind.i64.wrap (a0+1)))))))+1))
theorem X4.ok {a0 r}(h:X4 a0=r):ACalls qi 203 [.int .i64 a0] [] (fun r' _=>r'=.int .u64 r):=by
 refine zw (rs:=[.tmp 2]) tok Tryz.func203 rfl Tryz.ntmps203 rfl Tryz.call203 (by simp) ?_;refine zC [(0,.int .i64 a0)] ⟨rfl,trivial⟩ ?_;unfold X4 at h;refine rgN [0] ?_
 refine ze fun Z1 hZ1=>?_
 refine rg tok [0,4] fun K hK=>?_
 simp only[go_sem,qe,qb,qa,qc,qd,qf,reduceIte,reduceCtorEq,zV];apply hK
 refine yn rfl (fun hc2=>?_) (fun hc2=>?_)
 · rw[if_pos hc2] at h;have t3:=eq_true hc2;have f4:=Zc (T:=tab) (src:=3) (dst:=287) rfl rfl rfl
   refine rg tok [2] fun K hK=>?_
   simp only[go_sem,qe,qb,qa,qc,qd,qf,reduceIte,reduceCtorEq,zV,t3,f4];apply hK
   cases h;exact rtA
 rw[if_neg hc2] at h;have t5:=eq_false hc2;apply zp;apply hZ1;have f6:=Zc (T:=tab) (src:=3) (dst:=287) rfl rfl rfl
 refine rg tok [2] fun K hK=>?_
 simp only[go_sem,qe,qb,qa,qc,qd,qf,reduceIte,reduceCtorEq,zV,t5,f6];apply hK
 cases h;exact rtA
def YO (a0:yo):Option (List UInt8):=
 (wB (IntKind.u64.wrap (IntKind.i64.wrap ((IntKind.i64.wrap (2*a0.fTag))+a0.fWire)))).bind fun r2=>(if a0.fWire=0 then bnd (X4 a0.fN) fun r6=>(wB r6).bind fun r7=>(vai (qg r2+qg r7) 1).bind fun _u9=>some (r2++r7) else (wB (IntKind.u64.wrap (qg a0.fB:Int))).bind fun r13=>(vai (qg r2+qg r13) 1).bind fun _u15=>(vai (qg (r2++r13)+qg a0.fB) 1).bind fun _u17=>some ((r2++r13)++a0.fB))
theorem YO.own {a0 r}(h:YO a0=some r):ACalls qi 158 [.agg (zu a0)] [] (fun r' σ'=>r'=.os true 1 0 0 0 (qg r) false∧σ'=[.cells 0 (qh Zh r)]):=by
 refine ACalls.own0 (by simp only[push_cast]) ?_;refine X1 (rs:=[.tmp 2]) tok Tryz.func158 rfl Tryz.ntmps158 rfl Tryz.call158 (by simp) ?_;refine zC [(0,.agg (zu a0))] ⟨rfl,trivial⟩ ?_;unfold YO at h
 refine rg tok [1] fun K hK=>?_
 simp only[go_sem,qe,qb,qa,qc,qd,qf,reduceIte,reduceCtorEq,zu];apply hK
 refine rc [1,3] fun K hK=>?_
 have f1:=Zc (T:=tab) (src:=3) (dst:=287) rfl rfl rfl;obtain⟨r2,hr2,h⟩:=bind_some h;refine zd tok 7 ?_;simp only[go_sem,qe,qb,qa,qc,qd,qf,reduceIte,reduceCtorEq,zV,f1];refine clN rfl rfl rfl (@id (ACalls qi 202 [.int .u64 (IntKind.u64.wrap (IntKind.i64.wrap ((IntKind.i64.wrap (2*a0.fTag))+a0.fWire)))] [.cells 0 [.int .i64 a0.fTag,.int .i64 a0.fWire,.int .i64 a0.fN,.str a0.fB]] (fun r' σ'=>r'=.os true 1 1 0 0 (qg r2) false∧σ'=[.cells 0 [.int .i64 a0.fTag,.int .i64 a0.fWire,.int .i64 a0.fN,.str a0.fB],.cells 0 (qh Zh r2)])) ((wB.own hr2).ownAt0 (by simp only[push_cast]) (by simp only[push_cast]) _)) ?_;refine rnN 1 ?_;refine nkN hK ?_
 refine ze fun Z3 hZ3=>?_
 refine rg tok [1,3,14] fun K hK=>?_
 simp only[go_sem,qe,qb,qa,qc,qd,qf,reduceIte,reduceCtorEq,zV];apply hK
 refine yn rfl (fun hc4=>?_) (fun hc4=>?_)
 · rw[if_pos hc4] at h;have t5:=eq_true hc4
   refine rc [2] fun K hK=>?_
   obtain⟨r6,hr6,h⟩:=yi h;refine zd tok 3 ?_;simp only[go_sem,qe,qb,qa,qc,qd,qf,reduceIte,reduceCtorEq,t5];refine clN rfl rfl rfl ((X4.ok hr6).c _) ?_;obtain⟨r7,hr7,h⟩:=bind_some h;refine clN rfl rfl rfl ((wB.ok hr7).c _) ?_
   have f8:=fun nl tt σ=>Zf E48.len r7 nl tt σ
   obtain⟨_u9,hu9,h⟩:=bind_some h;have gu9:=xh hu9;have f10:=(zX E48.len r2);refine zd tok 2 ?_;simp only[go_sem,qe,qb,qa,qc,qd,qf,reduceIte,reduceCtorEq,yR,yp,yU,true_and,Zh,t5,f8,gu9,f10,Yq,qV,qS,AV.one,qJ,qo,gt_iff_lt,zW,qD,qC,qG,qB,qE,qk,qp,qz,ql,qu,qF];refine nkN hK ?_;refine y5 (L:=[(2,.os true 1 1 (0+1) 0 (qg (r2++r7)) false)]) (τ:=[.cells 0 [.int .i64 a0.fTag,.int .i64 a0.fWire,.int .i64 a0.fN,.str a0.fB],.cells (0+1) (qh Zh (r2++r7))]) .s ?_;apply yk;cases h;simp only[ZA,yT,yY,xR,exists_eq_left',go_sem,qe,qb,qa,qc,qd,qf,reduceIte,reduceCtorEq];refine⟨1,0+1,by simp,?_,?_⟩
   · first|rfl|(simp only[go_sem,qe,qb,qa,qc,qd,qf,reduceIte,reduceCtorEq,push_cast,if_true,qq,ql,qt,qr,qs,qv,qy,qo,qx,qw,qn,zx]<;>rfl)
   first|rfl|(simp only[go_sem,qe,qb,qa,qc,qd,qf,reduceIte,reduceCtorEq,push_cast,if_true,qq,ql,qt,qr,qs,qv,qy,qo,qx,qw,qn,zx]<;>rfl)
 rw[if_neg hc4] at h;have t11:=eq_false hc4;apply zp;apply hZ3
 refine rc [1,3] fun K hK=>?_
 have f12:=Zc (T:=tab) (src:=3) (dst:=287) rfl rfl rfl;obtain⟨r13,hr13,h⟩:=bind_some h;refine zd tok 5 ?_;simp only[go_sem,qe,qb,qa,qc,qd,qf,reduceIte,reduceCtorEq,t11,f12];refine clN rfl rfl rfl ((wB.ok hr13).c _) ?_
 have f14:=fun nl tt σ=>Zf E48.len r13 nl tt σ
 obtain⟨_u15,hu15,h⟩:=bind_some h;have gu15:=xh hu15;have f16:=(zX E48.len r2);refine zd tok 2 ?_;simp only[go_sem,qe,qb,qa,qc,qd,qf,reduceIte,reduceCtorEq,yR,yp,yU,true_and,Zh,t11,f14,gu15,f16,Yq,qV,qS,AV.one,qJ,qo,gt_iff_lt,zW,qD,qC,qG,qB,qE,qk,qp,qz,ql,qu,qF];refine nkN hK ?_;refine y5 (L:=[(1,.op 0 0 0),(3,.os true 1 1 (0+1) 0 (qg (r2++r13)) false)]) (τ:=[.cells 0 [.int .i64 a0.fTag,.int .i64 a0.fWire,.int .i64 a0.fN,.str a0.fB],.cells (0+1) (qh Zh (r2++r13))]) .s ?_;obtain⟨_u17,hu17,h⟩:=bind_some h;have gu17:=xh hu17
 first|simp only[zW,qD,qC,qG,qB,qE,qk,qp,qz,ql,qu,qF,qc] at gu17|skip
 have f18:=(zX E48.len (r2++r13));simp only[zW,qD,qC,qG,qB,qE,qk,qp,qz,ql,qu,qF,Zh,qc] at f18
 refine rg tok [2] fun K hK=>?_
 simp only[go_sem,qe,qb,qa,qc,qd,qf,reduceIte,reduceCtorEq,yR,yp,yU,true_and,Zh,t11,gu17,f18,vcu,vad,vcL,Yq,qV,qS,AV.one,qJ,qo,gt_iff_lt,zW,qD,qC,qG,qB,qE,qk,qp,qz,ql,qu,qF];apply hK
 refine y5 (L:=[(2,.os true 1 1 (0+1+1) 0 (qg ((r2++r13)++a0.fB)) false)]) (τ:=[.cells 0 [.int .i64 a0.fTag,.int .i64 a0.fWire,.int .i64 a0.fN,.str a0.fB],.cells (0+1+1) (qh Zh ((r2++r13)++a0.fB))]) .s ?_;apply yk;cases h;simp only[ZA,yT,yY,xR,exists_eq_left',go_sem,qe,qb,qa,qc,qd,qf,reduceIte,reduceCtorEq];refine⟨1,0+1+1,by simp,?_,?_⟩
 · first|rfl|(simp only[go_sem,qe,qb,qa,qc,qd,qf,reduceIte,reduceCtorEq,push_cast,if_true,qq,ql,qt,qr,qs,qv,qy,qo,qx,qw,qn,zx]<;>rfl)
 first|rfl|(simp only[go_sem,qe,qb,qa,qc,qd,qf,reduceIte,reduceCtorEq,push_cast,if_true,qq,ql,qt,qr,qs,qv,qy,qo,qx,qw,qn,zx]<;>rfl)
end
section
set_option maxRecDepth 4000
set_option maxHeartbeats 1000000
open AM
theorem YO.ok {a0 r}(h:YO a0=some r):ACalls qi 158 [.agg (zu a0)] [] (fun r' _=>r'=.ds true (qh Zh r) (qg r) false):=
 (YO.own h).ownData (zX E48.len r) (by simp only[push_cast])
def xw.l13 : List yo→Int→List UInt8→Option (List UInt8×Int)
 |[],x9,l7=>some (l7,0)
 |y13::q13,x9,l7=>(YO y13).bind fun r19=>(vai (qg l7+qg r19) 1).bind fun _u21=>(if 4096<(qg (l7++r19):Int) then some (([]:List UInt8),4) else ((xw.l13 q13) (x9+1) (l7++r19)))
def xw.l4 (a0:List yo):List yo→Int→Option (List UInt8×Int)
 |[],x2=>(xw.l13 a0 0 ([]:List UInt8))
 |y4::q4,x2=>bnd (Yd y4) fun r30=>(if (!r30)=true then some (([]:List UInt8),1) else ((xw.l4 a0 q4) (x2+1)))
def xw (a0:List yo):Option (List UInt8×Int):=
 (xw.l4 a0 a0 0)
theorem xw.ok {a0 r}(h:xw a0=some r):ACalls qi 104 [.ds true (qh zu a0) (qg a0) false] [] (fun r' _=>r'=.tup [.ds true (qh Zh r.1) (qg r.1) false,.int .i64 r.2]):=by
 refine zw (rs:=[.tmp 2,.tmp 3]) tok Tryz.func104 rfl Tryz.ntmps104 rfl Tryz.call104 (by simp) ?_;refine zC [(0,.ds true (qh zu a0) (qg a0) false)] ⟨rfl,trivial⟩ ?_;unfold xw at h;refine rgN [0] ?_;refine rgN [0,4] ?_;refine YR 4 1 rfl ?_;refine y5 (L:=[(0,.ds true (qh zu a0) (qg a0) false),(4,.os true 1 0 0 0 (qg ([]:List UInt8)) false)]) (τ:=[.cells 0 (qh Zh ([]:List UInt8))]) .s ?_
 refine ze fun Z1 hZ1=>?_
 refine rgN [0,4,5] ?_;apply zt
 refine xv 0 fun hb4=>?_
 replace hb4:qg a0≤9223372036854775807:=hb4.1;refine yh (fun m L τ=>∃ (p4 q4:List yo) (x2:Int),m=qg q4∧L=[(0,.ds true (qh zu a0) (qg a0) false),(4,.os true 1 0 0 0 (qg ([]:List UInt8)) false),(5,.int .i64 x2)]∧τ=([.cells 0 (qh Zh ([]:List UInt8))]:zi)∧a0=p4++q4∧x2=(qg p4:Int)∧xw.l4 a0 q4 x2=some r) _ ⟨[],a0,0,rfl,rfl,rfl,rfl,rfl,h⟩ .s ?_;rintro m L τ ⟨p4,q4,x2,rfl,rfl,rfl,hE4,hi4,h⟩
 rcases q4 with _|⟨y4,q4⟩
 · have hz4:=xE hE4 hi4;simp only[xw.l4] at h
   refine ze fun Z5 hZ5=>?_
   refine rg tok [0,4,5,10] fun K hK=>?_
   simp only[go_sem,qe,qb,qa,qc,qd,qf,reduceIte,reduceCtorEq,zV,hz4];apply hK
   refine zK rfl ?_;apply ye;apply hZ1
   refine ze fun Z6 hZ6=>?_
   refine rg tok [0,4,6] fun K hK=>?_
   simp only[go_sem,qe,qb,qa,qc,qd,qf,reduceIte,reduceCtorEq,hz4];apply hK
   apply zt
   refine xv 0 fun hb13=>?_
   replace hb13:qg a0≤9223372036854775807:=hb13.1;refine yh (fun m L τ=>∃ (p13 q13:List yo) (x9:Int) (l7:List UInt8) (v8:Nat),m=qg q13∧L=[(0,.ds true (qh zu a0) (qg a0) false),(4,.os true 1 0 v8 0 (qg l7) false),(6,.int .i64 x9)]∧τ=([.cells v8 (qh Zh l7)]:zi)∧a0=p13++q13∧x9=(qg p13:Int)∧xw.l13 q13 x9 l7=some r) _ ⟨[],a0,0,([]:List UInt8),0,rfl,rfl,rfl,rfl,rfl,h⟩ .s ?_;rintro m L τ ⟨p13,q13,x9,l7,v8,rfl,rfl,rfl,hE13,hi13,h⟩
   rcases q13 with _|⟨y13,q13⟩
   · have hz13:=xE hE13 hi13;simp only[xw.l13] at h
     refine ze fun Z14 hZ14=>?_
     refine rg tok [0,4,6,22] fun K hK=>?_
     simp only[go_sem,qe,qb,qa,qc,qd,qf,reduceIte,reduceCtorEq,zV,hz4,hz13];apply hK
     refine zK rfl ?_;apply ye;apply hZ6
     refine rg tok [2,3] fun K hK=>?_
     simp only[go_sem,qe,qb,qa,qc,qd,qf,reduceIte,reduceCtorEq,hz4,hz13];apply hK
     cases h;exact rtA
   obtain⟨hz13,hw13,hx13,hE'13,hi'13⟩:=yZ hE13 hi13 hb13;simp only[xw.l13] at h
   refine ze fun Z15 hZ15=>?_
   refine rg tok [0,4,6,22] fun K hK=>?_
   simp only[go_sem,qe,qb,qa,qc,qd,qf,reduceIte,reduceCtorEq,zV,hz4,hz13,hw13];apply hK
   refine zQ rfl ?_;apply zp;apply hZ15
   refine ze fun Z16 hZ16=>?_
   apply zt
   refine rc [0,4,6] fun K hK=>?_
   have f17:=E35.idxS hx13;have f18:=E35.loadS rfl rfl hx13;obtain⟨r19,hr19,h⟩:=bind_some h;refine zd tok 5 ?_;simp only[go_sem,qe,qb,qa,qc,qd,qf,reduceIte,reduceCtorEq,zu,hz4,hz13,hw13,f17,f18];refine clN rfl rfl rfl ((YO.ok hr19).c _) ?_
   have f20:=fun nl tt σ=>Zf E48.len r19 nl tt σ
   obtain⟨_u21,hu21,h⟩:=bind_some h;have gu21:=xh hu21;have f22:=(zX E48.len l7);refine zd tok 2 ?_;simp only[go_sem,qe,qb,qa,qc,qd,qf,reduceIte,reduceCtorEq,yR,yp,yU,true_and,Zh,zu,hz4,hz13,hw13,f20,gu21,f22,Yq,qV,qS,AV.one,qJ,qo,gt_iff_lt,zW,qD,qC,qG,qB,qE,qk,qp,qz,ql,qu,qF];refine nkN hK ?_;refine y5 (L:=[(0,.ds true (qh zu a0) (qg a0) false),(4,.os true 1 0 (v8+1) 0 (qg (l7++r19)) false),(6,.int .i64 x9)]) (τ:=[.cells (v8+1) (qh Zh (l7++r19))]) .s ?_
   refine rg tok [0,4,6,34] fun K hK=>?_
   simp only[go_sem,qe,qb,qa,qc,qd,qf,reduceIte,reduceCtorEq,zV,hz4,hz13,hw13];apply hK
   refine yn rfl (fun hc23=>?_) (fun hc23=>?_)
   · rw[if_pos hc23] at h;have t24:=eq_true hc23
     refine rg tok [2,3] fun K hK=>?_
     simp only[go_sem,qe,qb,qa,qc,qd,qf,reduceIte,reduceCtorEq,hz4,hz13,hw13,t24];apply hK
     cases h;exact rtA
   rw[if_neg hc23] at h;have t25:=eq_false hc23;apply zp;apply hZ16
   refine rgE tok [0,4,6] fun K hK=>?_
   simp only[go_sem,qe,qb,qa,qc,qd,qf,reduceIte,reduceCtorEq,zV,hz4,hz13,hw13,t25];apply hK
   exact⟨_,_,_,qH q13.length,⟨p13++[y13],q13,x9+1,l7++r19,v8+1,rfl,rfl,rfl,hE'13,hi'13,h⟩,.s⟩
 obtain⟨hz4,hw4,hx4,hE'4,hi'4⟩:=yZ hE4 hi4 hb4;simp only[xw.l4] at h
 refine ze fun Z26 hZ26=>?_
 refine rg tok [0,4,5,10] fun K hK=>?_
 simp only[go_sem,qe,qb,qa,qc,qd,qf,reduceIte,reduceCtorEq,zV,hz4,hw4];apply hK
 refine zQ rfl ?_;apply zp;apply hZ26
 refine ze fun Z27 hZ27=>?_
 apply zt
 refine rc [0,4,5,18] fun K hK=>?_
 have f28:=E35.idxS hx4;have f29:=E35.loadS rfl rfl hx4;obtain⟨r30,hr30,h⟩:=yi h;refine zd tok 4 ?_;simp only[go_sem,qe,qb,qa,qc,qd,qf,reduceIte,reduceCtorEq,zu,hz4,hw4,f28,f29];refine clN rfl rfl rfl ((Yd.ok hr30).c _) ?_;refine zd tok 1 ?_;simp only[go_sem,qe,qb,qa,qc,qd,qf,reduceIte,reduceCtorEq,zu,hz4,hw4];refine nkN hK ?_;refine zY (b:=(!r30)) rfl (fun hc31=>?_) (fun hc31=>?_)
 · rw[if_pos hc31] at h
   refine rg tok [2,3] fun K hK=>?_
   simp only[go_sem,qe,qb,qa,qc,qd,qf,reduceIte,reduceCtorEq,hz4,hw4];apply hK
   cases h;exact rtA
 rw[Zg hc31] at h;apply zp;apply hZ27
 refine rgE tok [0,4,5] fun K hK=>?_
 simp only[go_sem,qe,qb,qa,qc,qd,qf,reduceIte,reduceCtorEq,zV,hz4,hw4];apply hK
 exact⟨_,_,_,qH q4.length,⟨p4++[y4],q4,x2+1,rfl,rfl,rfl,hE'4,hi'4,h⟩,.s⟩
def xN.body (yM:zq→Option (List UInt8×Int))(Zp:zq→Option (List yo×Int))(a0:zq):Option (List UInt8×Int):=
 (Zp a0).bind fun r1=>(if r1.2=0 then (xw r1.1).bind fun r6=>some (r6.1,r6.2) else some (([]:List UInt8),r1.2))
theorem xN.step (yM:zq→Option (List UInt8×Int))(Zp:zq→Option (List yo×Int))(X8:∀ (a0:zq) (r:List UInt8×Int),yM a0=some r→ACalls qi 67 [.agg (za a0)] [] (fun r' _=>r'=.tup [.ds true (qh Zh r.1) (qg r.1) false,.int .i64 r.2]))(vaZ:∀ (a0:zq) (r:List yo×Int),Zp a0=some r→ACalls qi 103 [.agg (za a0)] [] (fun r' _=>r'=.tup [.ds true (qh zu r.1) (qg r.1) false,.int .i64 r.2]))(a0:zq)(r:List UInt8×Int)(h:xN.body yM Zp a0=some r):ACalls qi 67 [.agg (za a0)] [] (fun r' _=>r'=.tup [.ds true (qh Zh r.1) (qg r.1) false,.int .i64 r.2]):=by
 have ev_ref11_encode:=fun a0 r h σ=>(X8 a0 r h).c σ
 have ev_ref11_raws:=fun a0 r h σ=>(vaZ a0 r h).c σ
 refine zw (rs:=[.tmp 2,.tmp 3]) tok Tryz.func67 rfl Tryz.ntmps67 rfl Tryz.call67 (by simp) ?_;refine zC [(0,.agg (za a0))] ⟨rfl,trivial⟩ ?_;unfold xN.body at h
 refine rg tok [1] fun K hK=>?_
 simp only[go_sem,qe,qb,qa,qc,qd,qf,reduceIte,reduceCtorEq,za,zh];apply hK
 refine rc [4,5] fun K hK=>?_
 obtain⟨r1,hr1,h⟩:=bind_some h;refine zd tok 1 ?_;simp only[go_sem,qe,qb,qa,qc,qd,qf,reduceIte,reduceCtorEq,za,zh];refine clN rfl rfl rfl (ev_ref11_raws a0 r1 hr1 _) ?_;refine zd tok 5 ?_;simp only[go_sem,qe,qb,qa,qc,qd,qf,reduceIte,reduceCtorEq,za,zh];refine nkN hK ?_
 refine ze fun Z2 hZ2=>?_
 refine rg tok [4,5,12] fun K hK=>?_
 simp only[go_sem,qe,qb,qa,qc,qd,qf,reduceIte,reduceCtorEq,zV];apply hK
 refine yn rfl (fun hc3=>?_) (fun hc3=>?_)
 · rw[if_neg hc3] at h;have t4:=eq_false hc3
   refine rg tok [2,3] fun K hK=>?_
   simp only[go_sem,qe,qb,qa,qc,qd,qf,reduceIte,reduceCtorEq,t4];apply hK
   cases h;exact rtA
 rw[if_pos hc3] at h;have t5:=eq_true hc3;apply zp;apply hZ2
 refine rc [2,3] fun K hK=>?_
 obtain⟨r6,hr6,h⟩:=bind_some h;refine zd tok 1 ?_;simp only[go_sem,qe,qb,qa,qc,qd,qf,reduceIte,reduceCtorEq,t5];refine clN rfl rfl rfl ((xw.ok hr6).c _) ?_;refine zd tok 4 ?_;simp only[go_sem,qe,qb,qa,qc,qd,qf,reduceIte,reduceCtorEq,t5];refine nkN hK ?_;cases h;exact rtA
def yG.j37 (x18:Int)(l16:List yo)(rec22:Int→List yo→Option (List yo×Int))(m2_36:yo):Option (List yo×Int):=
 (if 4096<(qg m2_36.fB:Int) then some (([]:List yo),4) else (vai (qg l16+1) 40).bind fun _u42=>(rec22 (x18+1) (l16++[m2_36])))
def yG.l22 (yM:zq→Option (List UInt8×Int))(x4:Int)(rec8:Int→List yo→Option (List yo×Int))(y8:zA):List zq→Int→List yo→Option (List yo×Int)
 |[],x18,l16=>(rec8 (x4+1) l16)
 |y22::q22,x18,l16=>(if y22.fKind=1 then (yG.j37 x18 l16 (yG.l22 yM x4 rec8 y8 q22) (⟨y8.fTag,0,y22.fN,[]⟩:yo)) else (if y22.fKind=2 then (yG.j37 x18 l16 (yG.l22 yM x4 rec8 y8 q22) (⟨y8.fTag,1,0,y22.fS⟩:yo)) else (yM y22).bind fun r50=>(if r50.2=0 then (yG.j37 x18 l16 (yG.l22 yM x4 rec8 y8 q22) (⟨y8.fTag,1,0,r50.1⟩:yo)) else some (([]:List yo),r50.2))))
def yG.l8 (yM:zq→Option (List UInt8×Int))(a0:zq):List zA→Int→List yo→Option (List yo×Int)
 |[],x4,l2=>(vai (qg l2+qg a0.fRest) 40).bind fun _u11=>(yw (l2++a0.fRest)).bind fun r13=>some (r13,0)
 |y8::q8,x4,l2=>(yG.l22 yM x4 (yG.l8 yM a0 q8) y8 y8.fTrees 0 l2)
def yG.body (yM:zq→Option (List UInt8×Int))(Zp:zq→Option (List yo×Int))(a0:zq):Option (List yo×Int):=
 (yG.l8 yM a0 a0.fEntries 0 ([]:List yo))
theorem yG.step (yM:zq→Option (List UInt8×Int))(Zp:zq→Option (List yo×Int))(X8:∀ (a0:zq) (r:List UInt8×Int),yM a0=some r→ACalls qi 67 [.agg (za a0)] [] (fun r' _=>r'=.tup [.ds true (qh Zh r.1) (qg r.1) false,.int .i64 r.2]))(vaZ:∀ (a0:zq) (r:List yo×Int),Zp a0=some r→ACalls qi 103 [.agg (za a0)] [] (fun r' _=>r'=.tup [.ds true (qh zu r.1) (qg r.1) false,.int .i64 r.2]))(a0:zq)(r:List yo×Int)(h:yG.body yM Zp a0=some r):ACalls qi 103 [.agg (za a0)] [] (fun r' _=>r'=.tup [.ds true (qh zu r.1) (qg r.1) false,.int .i64 r.2]):=by
 have ev_ref11_encode:=fun a0 r h σ=>(X8 a0 r h).c σ
 have ev_ref11_raws:=fun a0 r h σ=>(vaZ a0 r h).c σ
 refine zw (rs:=[.tmp 2,.tmp 3]) tok Tryz.func103 rfl Tryz.ntmps103 rfl Tryz.call103 (by simp) ?_;refine zC [(0,.agg (za a0))] ⟨rfl,trivial⟩ ?_;unfold yG.body at h
 refine rg tok [1] fun K hK=>?_
 simp only[go_sem,qe,qb,qa,qc,qd,qf,reduceIte,reduceCtorEq,za,zh];apply hK
 refine rgN [1,4] ?_;refine YR 4 4 rfl ?_;refine y5 (L:=[(1,.op 0 0 0),(4,.os true 4 1 0 0 (qg ([]:List yo)) false)]) (τ:=[.cells 0 (za a0),.cells 0 (qh zu ([]:List yo))]) .s ?_
 refine ze fun Z1 hZ1=>?_
 refine rgN [1,4,5] ?_;apply zt
 refine vae 0 rfl fun hb8=>?_
 replace hb8:qg a0.fEntries≤9223372036854775807:=hb8.2.2.2.1.1;refine yh (fun m L τ=>∃ (p8 q8:List zA) (x4:Int) (l2:List yo) (v3:Nat),m=qg q8∧L=[(1,.op 0 0 0),(4,.os true 4 1 v3 0 (qg l2) false),(5,.int .i64 x4)]∧τ=([.cells 0 (za a0),.cells v3 (qh zu l2)]:zi)∧a0.fEntries=p8++q8∧x4=(qg p8:Int)∧yG.l8 yM a0 q8 x4 l2=some r) _ ⟨[],a0.fEntries,0,([]:List yo),0,rfl,rfl,rfl,rfl,rfl,h⟩ .s ?_;rintro m L τ ⟨p8,q8,x4,l2,v3,rfl,rfl,rfl,hE8,hi8,h⟩
 rcases q8 with _|⟨y8,q8⟩
 · have hz8:=xE hE8 hi8;simp only[yG.l8] at h
   refine ze fun Z9 hZ9=>?_
   refine rg tok [1,4,5,15] fun K hK=>?_
   simp only[go_sem,qe,qb,qa,qc,qd,qf,reduceIte,reduceCtorEq,zV,hz8];apply hK
   refine zK rfl ?_;apply ye;apply hZ1
   refine rc [2,3] fun K hK=>?_
   have f10:=fun nl tt σ=>Zf E35.len a0.fRest nl tt σ
   obtain⟨_u11,hu11,h⟩:=bind_some h;have gu11:=xh hu11;have f12:=(zX E35.len l2);obtain⟨r13,hr13,h⟩:=bind_some h;refine zd tok 4 ?_;simp only[go_sem,qe,qb,qa,qc,qd,qf,reduceIte,reduceCtorEq,yR,yp,yU,true_and,zu,hz8,f10,gu11,f12,Yq,qV,qS,AV.one,qJ,qo,gt_iff_lt,zW,qD,qC,qG,qB,qE,qk,qp,qz,ql,qu,qF];refine X5 (L:=[(80,.ds true (qh zu (l2++a0.fRest)) (qg (l2++a0.fRest)) false)]) (τ:=[]) (.t [] false) ?_;refine clN rfl rfl rfl ((yw.ok hr13).c _) ?_;refine zd tok 2 ?_;simp only[go_sem,qe,qb,qa,qc,qd,qf,reduceIte,reduceCtorEq,zu,hz8];refine nkN hK ?_;refine y5 (L:=[(2,.ds true (qh zu r13) (qg r13) false),(3,.int .i64 0)]) (τ:=[]) .s ?_;cases h;exact rtA
 obtain⟨hz8,hw8,hx8,hE'8,hi'8⟩:=yZ hE8 hi8 hb8;simp only[yG.l8] at h
 refine ze fun Z14 hZ14=>?_
 refine rg tok [1,4,5,15] fun K hK=>?_
 simp only[go_sem,qe,qb,qa,qc,qd,qf,reduceIte,reduceCtorEq,zV,hz8,hw8];apply hK
 refine zQ rfl ?_;apply zp;apply hZ14
 refine ze fun Z15 hZ15=>?_
 apply zt
 refine rg tok [1,4,5,6] fun K hK=>?_
 simp only[go_sem,qe,qb,qa,qc,qd,qf,reduceIte,reduceCtorEq,hz8,hw8];apply hK
 apply zt
 refine vae 0 rfl fun hb22=>?_
 replace hb22:=deepL_idx hb22.2.2.2.1.2 hx8;rw[z8] at hb22;replace hb22:qg y8.fTrees≤9223372036854775807:=hb22.2.1.1;refine yh (fun m L τ=>∃ (p22 q22:List zq) (x18:Int) (l16:List yo) (v17:Nat),m=qg q22∧L=[(1,.op 0 0 0),(4,.os true 4 1 v17 0 (qg l16) false),(5,.int .i64 x4),(6,.int .i64 x18)]∧τ=([.cells 0 (za a0),.cells v17 (qh zu l16)]:zi)∧y8.fTrees=p22++q22∧x18=(qg p22:Int)∧yG.l22 yM x4 (yG.l8 yM a0 q8) y8 q22 x18 l16=some r) _ ⟨[],y8.fTrees,0,l2,v3,rfl,rfl,rfl,rfl,rfl,h⟩ .s ?_;rintro m L τ ⟨p22,q22,x18,l16,v17,rfl,rfl,rfl,hE22,hi22,h⟩
 rcases q22 with _|⟨y22,q22⟩
 · have hz22:=xE hE22 hi22;simp only[yG.l22] at h
   refine ze fun Z23 hZ23=>?_
   have f24:=E34.idxS hx8;have f25:=E34.fldS (f:=38) rfl rfl hx8 (o:=1) (by decide)
   refine rg tok [1,4,5,6,26] fun K hK=>?_
   simp only[go_sem,qe,qb,qa,qc,qd,qf,reduceIte,reduceCtorEq,zV,zF,z8,hz8,hw8,hz22,f24,f25];apply hK
   refine zK rfl ?_;apply ye;apply hZ15
   refine rgE tok [1,4,5] fun K hK=>?_
   simp only[go_sem,qe,qb,qa,qc,qd,qf,reduceIte,reduceCtorEq,zV,hz8,hw8,hz22];apply hK
   exact⟨_,_,_,qH q8.length,⟨p8++[y8],q8,x4+1,l16,v17,rfl,rfl,rfl,hE'8,hi'8,h⟩,.s⟩
 obtain⟨hz22,hw22,hx22,hE'22,hi'22⟩:=yZ hE22 hi22 hb22;simp only[yG.l22] at h
 refine ze fun Z26 hZ26=>?_
 have f27:=E34.idxS hx8;have f28:=E34.fldS (f:=38) rfl rfl hx8 (o:=1) (by decide)
 refine rg tok [1,4,5,6,26] fun K hK=>?_
 simp only[go_sem,qe,qb,qa,qc,qd,qf,reduceIte,reduceCtorEq,zV,zF,z8,hz8,hw8,hz22,hw22,f27,f28];apply hK
 refine zQ rfl ?_;apply zp;apply hZ26
 refine ze fun Z29 hZ29=>?_
 apply zt;have f30:=E34.idxS hx8;have f31:=E34.fldS (f:=38) rfl rfl hx8 (o:=1) (by decide);have f32:=E38.idxS hx22;have f33:=E38.loadS rfl rfl hx22
 refine rg tok [1,4,5,6,7] fun K hK=>?_
 simp only[go_sem,qe,qb,qa,qc,qd,qf,reduceIte,reduceCtorEq,zF,za,z8,zh,hz8,hw8,hz22,hw22,f30,f31,f32,f33];apply hK
 have f34:=E34.idxS hx8;have f35:=E34.fldS0 (f:=3) rfl rfl hx8
 refine rg tok [1,4,5,6,7,8] fun K hK=>?_
 simp only[go_sem,qe,qb,qa,qc,qd,qf,reduceIte,reduceCtorEq,zF,z8,zu,hz8,hw8,hz22,hw22,f34,f35];apply hK
 refine xV (fun L τ=>∃ (m2_36:yo),L=[(1,.op 0 0 0),(4,.os true 4 1 v17 0 (qg l16) false),(5,.int .i64 x4),(6,.int .i64 x18),(8,.op 2 0 0)]∧τ=([.cells 0 (za a0),.cells v17 (qh zu l16),.cells 0 [.int .i64 m2_36.fTag,.int .i64 m2_36.fWire,.int .i64 m2_36.fN,.str m2_36.fB]]:zi)∧yG.j37 x18 l16 (yG.l22 yM x4 (yG.l8 yM a0 q8) y8 q22) m2_36=some r) ?_ ?_
 · refine rg tok [1,4,5,6,7,8,46] fun K hK=>?_
   simp only[go_sem,qe,qb,qa,qc,qd,qf,reduceIte,reduceCtorEq,hz8,hw8,hz22,hw22];apply hK
   apply zt
   refine rg tok [1,4,5,6,7,8,46,58] fun K hK=>?_
   simp only[go_sem,qe,qb,qa,qc,qd,qf,reduceIte,reduceCtorEq,zV,hz8,hw8,hz22,hw22];apply hK
   refine yn rfl (fun hc44=>?_) (fun hc44=>?_)
   · rw[if_pos hc44] at h;have t45:=eq_true hc44
     refine rg tok [1,4,5,6,7,8] fun K hK=>?_
     simp only[go_sem,qe,qb,qa,qc,qd,qf,reduceIte,reduceCtorEq,zu,hz8,hw8,hz22,hw22,t45];apply hK
     refine rgE tok [1,4,5,6,8] fun K hK=>?_
     simp only[go_sem,qe,qb,qa,qc,qd,qf,reduceIte,reduceCtorEq,zu,hz8,hw8,hz22,hw22,t45];apply hK
     exact⟨_,_,⟨(⟨y8.fTag,0,y22.fN,[]⟩:yo),rfl,rfl,h⟩,(.t [0,1,3] false)⟩
   rw[if_neg hc44] at h;have t46:=eq_false hc44
   refine rg tok [1,4,5,6,7,8,64] fun K hK=>?_
   simp only[go_sem,qe,qb,qa,qc,qd,qf,reduceIte,reduceCtorEq,zV,hz8,hw8,hz22,hw22,t46];apply hK
   refine yn rfl (fun hc47=>?_) (fun hc47=>?_)
   · rw[if_pos hc47] at h;have t48:=eq_true hc47
     refine rgE tok [1,4,5,6,8] fun K hK=>?_
     simp only[go_sem,qe,qb,qa,qc,qd,qf,reduceIte,reduceCtorEq,zu,hz8,hw8,hz22,hw22,t46,t48];apply hK
     exact⟨_,_,⟨(⟨y8.fTag,1,0,y22.fS⟩:yo),rfl,rfl,h⟩,(.t [0,1,3] false)⟩
   rw[if_neg hc47] at h;have t49:=eq_false hc47
   refine rc [1,4,5,6,8,9,10] fun K hK=>?_
   obtain⟨r50,hr50,h⟩:=bind_some h;refine zd tok 1 ?_;simp only[go_sem,qe,qb,qa,qc,qd,qf,reduceIte,reduceCtorEq,za,zh,hz8,hw8,hz22,hw22,t46,t49];refine clN rfl rfl rfl (ev_ref11_encode y22 r50 hr50 _) ?_;refine zd tok 5 ?_;simp only[go_sem,qe,qb,qa,qc,qd,qf,reduceIte,reduceCtorEq,za,zh,hz8,hw8,hz22,hw22,t46,t49];refine nkN hK ?_
   refine ze fun Z51 hZ51=>?_
   refine rg tok [1,4,5,6,8,9,10,53] fun K hK=>?_
   simp only[go_sem,qe,qb,qa,qc,qd,qf,reduceIte,reduceCtorEq,zV,hz8,hw8,hz22,hw22,t46,t49];apply hK
   refine yn rfl (fun hc52=>?_) (fun hc52=>?_)
   · rw[if_neg hc52] at h;have t53:=eq_false hc52
     refine rg tok [2,3] fun K hK=>?_
     simp only[go_sem,qe,qb,qa,qc,qd,qf,reduceIte,reduceCtorEq,hz8,hw8,hz22,hw22,t46,t49,t53];apply hK
     cases h;exact rtA
   rw[if_pos hc52] at h;have t54:=eq_true hc52;apply zp;apply hZ51;have f55:=vcl (T:=tab) (src:=48) (dst:=9) rfl rfl rfl rfl rfl rfl r50.1
   refine rgE tok [1,4,5,6,8] fun K hK=>?_
   simp only[go_sem,qe,qb,qa,qc,qd,qf,reduceIte,reduceCtorEq,zu,hz8,hw8,hz22,hw22,t46,t49,t54,f55];apply hK
   exact⟨_,_,⟨(⟨y8.fTag,1,0,r50.1⟩:yo),rfl,rfl,h⟩,(.t [0,1,3] false)⟩
 rintro _ _ ⟨m2_36,rfl,rfl,h⟩;unfold yG.j37 at h
 refine ze fun Z38 hZ38=>?_
 refine rg tok [1,4,5,6,8,72] fun K hK=>?_
 simp only[go_sem,qe,qb,qa,qc,qd,qf,reduceIte,reduceCtorEq,zV,hz8,hw8,hz22,hw22];apply hK
 refine yn rfl (fun hc39=>?_) (fun hc39=>?_)
 · rw[if_pos hc39] at h;have t40:=eq_true hc39
   refine rg tok [2,3] fun K hK=>?_
   simp only[go_sem,qe,qb,qa,qc,qd,qf,reduceIte,reduceCtorEq,hz8,hw8,hz22,hw22,t40];apply hK
   cases h;exact rtA
 rw[if_neg hc39] at h;have t41:=eq_false hc39;apply zp;apply hZ38;obtain⟨_u42,hu42,h⟩:=bind_some h;have gu42:=xh hu42;have f43:=(zX E35.len l16)
 refine rgE tok [1,4,5,6] fun K hK=>?_
 simp only[go_sem,qe,qb,qa,qc,qd,qf,reduceIte,reduceCtorEq,zU,yA,qY,qN,qW,true_and,q1,yR,yp,yU,zu,hz8,hw8,hz22,hw22,t41,gu42,f43,yP,qV,qS,AV.one,qJ,qo,gt_iff_lt,zW,qD,qC,qG,qB,qE,qk,qp,qz,ql,qu,qF];apply hK
 apply hZ29
 refine rgE tok [1,4,5,6] fun K hK=>?_
 simp only[go_sem,qe,qb,qa,qc,qd,qf,reduceIte,reduceCtorEq,zV,hz8,hw8,hz22,hw22,t41];apply hK
 exact⟨_,_,_,qH q22.length,⟨p22++[y22],q22,x18+1,l16++[m2_36],v17+1,rfl,rfl,rfl,hE'22,hi'22,h⟩,(.t [0,1] false)⟩
mutual
def xN : Nat→zq→Option (List UInt8×Int)
 |0,_=>none
 |k+1,a0=>xN.body (xN k) (yG k) a0
def yG : Nat→zq→Option (List yo×Int)
 |0,_=>none
 |k+1,a0=>yG.body (xN k) (yG k) a0
end
theorem xN.all (k:Nat):(∀ (a0:zq) (r:List UInt8×Int),xN k a0=some r→ACalls qi 67 [.agg (za a0)] [] (fun r' _=>r'=.tup [.ds true (qh Zh r.1) (qg r.1) false,.int .i64 r.2]))∧(∀ (a0:zq) (r:List yo×Int),yG k a0=some r→ACalls qi 103 [.agg (za a0)] [] (fun r' _=>r'=.tup [.ds true (qh zu r.1) (qg r.1) false,.int .i64 r.2])):=by
 induction k with
 |zero=>exact⟨(fun a0 r h=>by simp only[xN] at h; cases h),(fun a0 r h=>by simp only[yG] at h; cases h)⟩
 |succ k ih=>exact⟨(fun a0 r h=>xN.step _ _ ih.1 ih.2 a0 r (by simpa only [xN] using h)),(fun a0 r h=>yG.step _ _ ih.1 ih.2 a0 r (by simpa only [yG] using h))⟩
theorem xN.ev (k:Nat)(a0:zq)(r:List UInt8×Int)(h:xN k a0=some r)(σ:zi):ACalls qi 67 [.agg (za a0)] σ (fun r' σ'=>r'=.tup [.ds true (qh Zh r.1) (qg r.1) false,.int .i64 r.2]∧σ'=σ):=
 ((xN.all k).1 a0 r h).c σ
def ZL (a0:zq):Option (List UInt8×Int):=
 (if a0.fKind=3 then (YV a0).bind fun r2=>some (!r2) else some true).bind fun c2=>(if c2=true then some (([]:List UInt8),1) else (xN xG a0).bind fun r7=>some (r7.1,r7.2))
theorem ZL.ok {a0 r}(h:ZL a0=some r):ACalls qi 20 [.agg (za a0)] [] (fun r' _=>r'=.tup [.ds true (qh Zh r.1) (qg r.1) false,.int .i64 r.2]):=by
 refine zw (rs:=[.tmp 2,.tmp 3]) tok Tryz.func20 rfl Tryz.ntmps20 rfl Tryz.call20 (by simp) ?_;refine zC [(0,.agg (za a0))] ⟨rfl,trivial⟩ ?_;unfold ZL at h
 refine rg tok [1] fun K hK=>?_
 simp only[go_sem,qe,qb,qa,qc,qd,qf,reduceIte,reduceCtorEq,za,zh];apply hK
 refine ze fun Z1 hZ1=>?_
 refine rc [1,11] fun K hK=>?_
 refine zd tok 4 ?_;simp only[go_sem,qe,qb,qa,qc,qd,qf,reduceIte,reduceCtorEq,zV];obtain⟨c2,hc2,h⟩:=bind_some h;refine zI 4 (fun L τ=>L=[(1,.op 0 0 0),(11,.bool c2)]∧τ=([.cells 0 (za a0)]:zi)) ?_ ?_
 · refine wr 7 rfl (fun hg7=>?_) (fun hg7=>?_)
   · have t3:=eq_false hg7;rw[if_neg hg7] at hc2;refine zd tok 4 ?_;simp only[go_sem,qe,qb,qa,qc,qd,qf,reduceIte,reduceCtorEq,za,zh];cases hc2;refine zm ⟨rfl,_,_,⟨rfl,rfl⟩,.p t3⟩
   have t4:=eq_true hg7;rw[if_pos hg7] at hc2;obtain⟨r5,hr5,hc2⟩:=bind_some hc2;refine zd tok 1 ?_;simp only[go_sem,qe,qb,qa,qc,qd,qf,reduceIte,reduceCtorEq,za,zh];refine clN rfl rfl rfl ((YV.ok hr5).c _) ?_;refine zd tok 2 ?_;simp only[go_sem,qe,qb,qa,qc,qd,qf,reduceIte,reduceCtorEq,za,zh];cases hc2;refine zm ⟨rfl,_,_,⟨rfl,rfl⟩,.p t4⟩
 rintro _ _ ⟨rfl,rfl⟩;refine nkN hK ?_;refine zY (b:=c2) rfl (fun hc6=>?_) (fun hc6=>?_)
 · rw[if_pos hc6] at h;refine rgN [2,3] ?_;cases h;exact rtA
 rw[Zg hc6] at h;apply zp;apply hZ1
 refine rc [2,3] fun K hK=>?_
 obtain⟨r7,hr7,h⟩:=bind_some h;refine zd tok 1 ?_;simp only[go_sem,qe,qb,qa,qc,qd,qf,reduceIte,reduceCtorEq,za,zh];refine clN rfl rfl rfl (xN.ev xG a0 r7 hr7 _) ?_;refine zd tok 4 ?_;simp only[go_sem,qe,qb,qa,qc,qd,qf,reduceIte,reduceCtorEq,za,zh];refine nkN hK ?_;cases h;exact rtA
def Zb.j3 (x2:Int):Option Int:=
 some x2
def Zb (a0:Int)(a1:Int):Option Int:=
 (grd (a1≠0)).bind fun _u1=>(if (a0).tmod a1<0 then (Zb.j3 (IntKind.i64.wrap ((a0).tmod a1+a1))) else (Zb.j3 ((a0).tmod a1)))
theorem Zb.ok {a0 a1 r}(h:Zb a0 a1=some r):ACalls qi 25 [.int .i64 a0,.int .i64 a1] [] (fun r' _=>r'=.int .i64 r):=by
 refine zw (rs:=[.tmp 4]) tok Tryz.func25 rfl Tryz.ntmps25 rfl Tryz.call25 (by simp) ?_;refine zC [(0,.int .i64 a0),(1,.int .i64 a1)] ⟨rfl,rfl,trivial⟩ ?_;unfold Zb at h;refine rgN [0,1] ?_;obtain⟨_u1,hu1,h⟩:=bind_some h;have gu1:=Yh hu1;have gu1f:=eq_false gu1
 refine rg tok [1,5] fun K hK=>?_
 simp only[go_sem,qe,qb,qa,qc,qd,qf,reduceIte,reduceCtorEq,zV,gu1f];apply hK
 refine xV (fun L τ=>∃ (x2:Int),L=[(5,.int .i64 x2)]∧τ=([]:zi)∧Zb.j3 x2=some r) ?_ ?_
 · refine rg tok [1,5,10] fun K hK=>?_
   simp only[go_sem,qe,qb,qa,qc,qd,qf,reduceIte,reduceCtorEq,zV];apply hK
   refine yn rfl (fun hc4=>?_) (fun hc4=>?_)
   · rw[if_pos hc4] at h;have t5:=eq_true hc4
     refine rgE tok [5] fun K hK=>?_
     simp only[go_sem,qe,qb,qa,qc,qd,qf,reduceIte,reduceCtorEq,zV,t5];apply hK
     exact⟨_,_,⟨IntKind.i64.wrap ((a0).tmod a1+a1),rfl,rfl,h⟩,.s⟩
   rw[if_neg hc4] at h;have t6:=eq_false hc4;apply zp;exact⟨_,_,⟨(a0).tmod a1,rfl,rfl,h⟩,.s⟩
 rintro _ _ ⟨x2,rfl,rfl,h⟩;unfold Zb.j3 at h;refine rgN [4] ?_;cases h;exact rtA
def wS (a0:Int):zP:=
 (⟨[97],[(⟨[109],[(⟨[120],1,1,(⟨a0,[]⟩:vam)⟩:ZT)],([]:List Int)⟩:yN)],([]:List wK),[(⟨[99],[109],[109]⟩:Zn)]⟩:zP)
theorem wS.ok {a0 r}(h:wS a0=r):ACalls qi 46 [.int .i64 a0] [] (fun r' _=>r'=.agg (zb r)):=by
 refine zw (rs:=[.cell 2 31]) tok Tryz.func46 rfl Tryz.ntmps46 rfl Tryz.call46 (by simp) ?_;refine zC [(0,.int .i64 a0)] ⟨rfl,trivial⟩ ?_;unfold wS at h;refine rgN [0,2] ?_
 refine rg tok [2] fun K hK=>?_
 simp only[go_sem,qe,qb,qa,qc,qd,qf,reduceIte,reduceCtorEq,zU,yA,qY,qN,qW,true_and,q1,yc,zf,zr,zb,xB];apply hK
 cases h;exact rtA
def w5 (a0:Int):zq:=
 (if a0=0 then (⟨3,0,[],([]:List zA),([]:List yo)⟩:zq) else (⟨3,0,[],[(⟨1,[(⟨1,a0,[],([]:List zA),([]:List yo)⟩:zq)]⟩:zA)],([]:List yo)⟩:zq))
theorem w5.ok {a0 r}(h:w5 a0=r):ACalls qi 49 [.int .i64 a0] [] (fun r' _=>r'=.agg (za r)):=by
 refine zw (rs:=[.cell 2 37]) tok Tryz.func49 rfl Tryz.ntmps49 rfl Tryz.call49 (by simp) ?_;refine zC [(0,.int .i64 a0)] ⟨rfl,trivial⟩ ?_;unfold w5 at h;refine rgN [0,2] ?_
 refine rg tok [0,2,3] fun K hK=>?_
 simp only[go_sem,qe,qb,qa,qc,qd,qf,reduceIte,reduceCtorEq,za,zh];apply hK
 refine ze fun Z1 hZ1=>?_
 refine rg tok [0,2,3,6] fun K hK=>?_
 simp only[go_sem,qe,qb,qa,qc,qd,qf,reduceIte,reduceCtorEq,zV];apply hK
 refine yn rfl (fun hc2=>?_) (fun hc2=>?_)
 · rw[if_neg hc2] at h;have t3:=eq_false hc2
   refine rgE tok [2,3] fun K hK=>?_
   simp only[go_sem,qe,qb,qa,qc,qd,qf,reduceIte,reduceCtorEq,zU,yA,qY,qN,qW,true_and,q1,zF,za,z8,zh,t3];apply hK
   apply hZ1
   refine rg tok [2] fun K hK=>?_
   simp only[go_sem,qe,qb,qa,qc,qd,qf,reduceIte,reduceCtorEq,za,zh,t3];apply hK
   cases h;exact rtA
 rw[if_pos hc2] at h;have t4:=eq_true hc2;apply zp;apply hZ1
 refine rg tok [2] fun K hK=>?_
 simp only[go_sem,qe,qb,qa,qc,qd,qf,reduceIte,reduceCtorEq,za,zh,t4];apply hK
 cases h;exact rtA
def Zu (a0:List GRow):Option (List GRow):=(vai (qg a0) 176).bind fun _=>some a0
theorem Zu.ok (a0 r:List GRow)(h:Zu a0=some r):ACalls qi 83 [.ds true (qh yb a0) (qg a0) false] [] (fun r' _=>r'=.ds true (qh yb r) (qg r) false):=by
 obtain⟨_u,hu,h⟩:=bind_some h;have gu:=xh hu;cases h
 have f1:=fun nl tt σ=>Zf E82.len a0 nl tt σ
 have f2:=zX E82.len a0;have f3:=Yq yb a0
 have fin:∀ σ id ver tt,zi.at σ id ver=some (qh yb a0)→tell σ [] true 12 (.os true 11 id ver 0 (qg a0) tt)=.ds true (qh yb a0) (qg a0) false:=by
  intro σ id ver tt hs
  simp only[ZI,Zi,hs,qq,ql];rw[if_pos (by rw[f2]; exact qI _),← f2,uc,zx]
 refine zw (rs:=[.tmp 2]) tok Tryz.func83 rfl Tryz.ntmps83 rfl Tryz.call83 (by simp) ?_;refine zC [(0,.ds true (qh yb a0) (qg a0) false)] ⟨rfl,trivial⟩ ?_;refine rgN [0] ?_
 refine ze fun Z1 hZ1=>?_
 refine rc [0,4] fun K hK=>?_
 refine rnN 1 ?_
 refine Xl tok rfl rfl rfl rfl rfl rfl fun b hnil=>?_
 have hb:b=true→a0=[]:=fun hb=>by
  have:=hnil hb;simp only[yU,go_sem,qe,qb,qa,qc,qd,qf,reduceIte,reduceCtorEq] at this;exact ub this
 clear hnil
 refine nkN hK ?_;cases b
 · refine zK rfl ?_;apply zp;apply hZ1
   refine rg tok [2] fun K hK=>?_
   by_cases h0:qg a0=0
   · obtain rfl:=ub h0;simp only[go_sem,qe,qb,qa,qc,qd,qf,reduceIte,reduceCtorEq,zU,yA,qN,qW,yR,yp,yU,xf,qG,qz,um,qV,gt_iff_lt];apply hK
     apply yk;simp only[ZA,yT,yY,xR,exists_eq_left',go_sem,qe,qb,qa,qc,qd,qf,reduceIte,reduceCtorEq]
     first|rfl|(simp only[go_sem,qe,qb,qa,qc,qd,qf,reduceIte,reduceCtorEq,ZI,Zi,qr]<;>rfl)
   have h1:=eq_false h0;simp only[go_sem,qe,qb,qa,qc,qd,qf,reduceIte,reduceCtorEq,zU,yA,qN,qW,yR,yp,yU,f1,f3,h1,gu,yP,gt_iff_lt,qr,qE,um];apply hK
   apply yk;simp only[ZA,yT,yY,xR,exists_eq_left',go_sem,qe,qb,qa,qc,qd,qf,reduceIte,reduceCtorEq];exact fin _ _ _ _ (by simp only[zi.at_hd,zi.at_tl,if_true])
 obtain rfl:=hb rfl;refine zQ rfl ?_;refine rgN [2] ?_;apply yk;simp only[ZA,yT,yY,xR,exists_eq_left',go_sem,qe,qb,qa,qc,qd,qf,reduceIte,reduceCtorEq]
 first|rfl|(simp only[go_sem,qe,qb,qa,qc,qd,qf,reduceIte,reduceCtorEq,Xj,qr,qv,qw,qx]<;>rfl)
theorem Zu.ev (a0 r:List GRow)(h:Zu a0=some r)(σ:zi):ACalls qi 83 [.ds true (qh yb a0) (qg a0) false] σ (fun r' σ'=>r'=.ds true (qh yb r) (qg r) false∧σ'=σ):=
 (Zu.ok a0 r h).pureAt (by simp only[AV.canon,xu,xD,ZQ,YD,wT,qJ,qo,ui,qn,uE]) (by simp only[AV.canon,xu,xD,ZQ,YD,wT,qJ,qo,ui,qn,uE]) σ
def vcZ (o:Option wY):zi:=match o with
 |none=>[]
 |some x=>[.cells 0 [.int .i64 x.fsize,.os true 2 1 (x.vorder) 0 (qg x.forder) false,.mp 2,.mp 3],.cells (x.vorder) (qh zn x.forder),.map (yK zy zL x.freplies.l) (some (x.freplies.bs,x.freplies.ck)),.map (yK (AV.int .i64) (AV.int .i64) x.flast.l) (some (x.flast.bs,x.flast.ck))]
def vaL (a0:Int):wY:=
 (⟨(if 1<(if 8<a0 then 8 else a0) then (if 8<a0 then 8 else a0) else 1),([]:List xi),0,(⟨[],[],0⟩:XX xi xo),(⟨[],[],0⟩:XX Int Int)⟩:wY)
theorem vaL.ok {a0 r}(h:vaL a0=r):ACalls qi 84 [.int .i64 a0] [] (fun r' σ'=>r'=.op 0 0 0∧σ'=[.cells 0 [.int .i64 r.fsize,.os true 2 1 (r.vorder) 0 (qg r.forder) false,.mp 2,.mp 3],.cells (r.vorder) (qh zn r.forder),.map (yK zy zL r.freplies.l) (some (r.freplies.bs,r.freplies.ck)),.map (yK (AV.int .i64) (AV.int .i64) r.flast.l) (some (r.flast.bs,r.flast.ck))]):=by
 refine acalls_ptr (rs:=[.tmp 2]) tok Tryz.func84 rfl Tryz.ntmps84 rfl Tryz.call84 (by simp) ?_;refine zC [(0,.int .i64 a0)] ⟨rfl,trivial⟩ ?_;unfold vaL at h;refine rgN [0] ?_
 refine rg tok [2] fun K hK=>?_
 simp only[go_sem,qe,qb,qa,qc,qd,qf,reduceIte,reduceCtorEq,vbt,vdz,vce,vcf];apply hK
 refine ZG 2 1 2 rfl (by simp) rfl (L:=[(2,.op 2 0 0)]) (τ:=[.map (yK zy zL []) (some ([],0)),.map (yK (AV.int .i64) (AV.int .i64) []) (some ([],0)),.cells 0 [.int .i64 (if 1<(if 8<a0 then 8 else a0) then (if 8<a0 then 8 else a0) else 1),.os true 2 3 0 0 (qg ([]:List xi)) false,.mp 0,.mp 1],.cells 0 (qh zn ([]:List xi))]) .s ?_;refine y5 (L:=[(2,.op 2 0 0)]) (τ:=[.map (yK zy zL []) (some ([],0)),.map (yK (AV.int .i64) (AV.int .i64) []) (some ([],0)),.cells 0 [.int .i64 (if 1<(if 8<a0 then 8 else a0) then (if 8<a0 then 8 else a0) else 1),.os true 2 3 0 0 (qg ([]:List xi)) false,.mp 0,.mp 1],.cells 0 (qh zn ([]:List xi))]) .s ?_;apply yk;obtain rfl:=h;simp only[ZA,yT,yY,xR,exists_eq_left',XB,XC,vcZ,go_sem,qe,qb,qa,qc,qd,qf,reduceIte,reduceCtorEq,zn];refine⟨[2,3,0,1],by decide,by simp,?_,?_⟩
 · first|rfl|(simp only[go_sem,qe,qb,qa,qc,qd,qf,reduceIte,reduceCtorEq,push_cast,if_true,qq,ql,qt,qr,qs,qv,qy,qo,qx,qw,qn,zx,zn]<;>rfl)
 first|rfl|(simp only[go_sem,qe,qb,qa,qc,qd,qf,reduceIte,reduceCtorEq,push_cast,if_true,qq,ql,qt,qr,qs,qv,qy,qo,qx,qw,qn,zx,zn]<;>rfl)
def Zt (a0:List Int):Option (List Int):=(vai (qg a0) 8).bind fun _=>some a0
theorem Zt.ok (a0 r:List Int)(h:Zt a0=some r):ACalls qi 129 [.ds true (qh wH a0) (qg a0) false] [] (fun r' _=>r'=.ds true (qh wH r) (qg r) false):=by
 obtain⟨_u,hu,h⟩:=bind_some h;have gu:=xh hu;cases h
 have f1:=fun nl tt σ=>Zf E26.len a0 nl tt σ
 have f2:=zX E26.len a0;have f3:=Yq wH a0
 have fin:∀ σ id ver tt,zi.at σ id ver=some (qh wH a0)→tell σ [] true 12 (.os true 1 id ver 0 (qg a0) tt)=.ds true (qh wH a0) (qg a0) false:=by
  intro σ id ver tt hs
  simp only[ZI,Zi,hs,qq,ql];rw[if_pos (by rw[f2]; exact qI _),← f2,uc,zx]
 refine zw (rs:=[.tmp 2]) tok Tryz.func129 rfl Tryz.ntmps129 rfl Tryz.call129 (by simp) ?_;refine zC [(0,.ds true (qh wH a0) (qg a0) false)] ⟨rfl,trivial⟩ ?_;refine rgN [0] ?_
 refine ze fun Z1 hZ1=>?_
 refine rc [0,4] fun K hK=>?_
 refine rnN 1 ?_
 refine Xl tok rfl rfl rfl rfl rfl rfl fun b hnil=>?_
 have hb:b=true→a0=[]:=fun hb=>by
  have:=hnil hb;simp only[yU,go_sem,qe,qb,qa,qc,qd,qf,reduceIte,reduceCtorEq] at this;exact ub this
 clear hnil
 refine nkN hK ?_;cases b
 · refine zK rfl ?_;apply zp;apply hZ1
   refine rg tok [2] fun K hK=>?_
   by_cases h0:qg a0=0
   · obtain rfl:=ub h0;simp only[go_sem,qe,qb,qa,qc,qd,qf,reduceIte,reduceCtorEq,zU,yA,qN,qW,yR,yp,yU,xf,qG,qz,um,qV,gt_iff_lt];apply hK
     apply yk;simp only[ZA,yT,yY,xR,exists_eq_left',go_sem,qe,qb,qa,qc,qd,qf,reduceIte,reduceCtorEq]
     first|rfl|(simp only[go_sem,qe,qb,qa,qc,qd,qf,reduceIte,reduceCtorEq,ZI,Zi,qr]<;>rfl)
   have h1:=eq_false h0;simp only[go_sem,qe,qb,qa,qc,qd,qf,reduceIte,reduceCtorEq,zU,yA,qN,qW,yR,yp,yU,f1,f3,h1,gu,yP,gt_iff_lt,qr,qE,um];apply hK
   apply yk;simp only[ZA,yT,yY,xR,exists_eq_left',go_sem,qe,qb,qa,qc,qd,qf,reduceIte,reduceCtorEq];exact fin _ _ _ _ (by simp only[zi.at_hd,zi.at_tl,if_true])
 obtain rfl:=hb rfl;refine zQ rfl ?_;refine rgN [2] ?_;apply yk;simp only[ZA,yT,yY,xR,exists_eq_left',go_sem,qe,qb,qa,qc,qd,qf,reduceIte,reduceCtorEq]
 first|rfl|(simp only[go_sem,qe,qb,qa,qc,qd,qf,reduceIte,reduceCtorEq,Xj,qr,qv,qw,qx]<;>rfl)
end
section
set_option maxRecDepth 4000
set_option maxHeartbeats 1000000
open AM
theorem Zt.ev (a0 r:List Int)(h:Zt a0=some r)(σ:zi):ACalls qi 129 [.ds true (qh wH a0) (qg a0) false] σ (fun r' σ'=>r'=.ds true (qh wH r) (qg r) false∧σ'=σ):=
 (Zt.ok a0 r h).pureAt (by simp only[AV.canon,xu,xD,ZQ,YD,wT,qJ,qo,ui,qn,uE]) (by simp only[AV.canon,xu,xD,ZQ,YD,wT,qJ,qo,ui,qn,uE]) σ
def wV (a0:List zP):Option (List zP):=(vai (qg a0) 88).bind fun _=>some a0
theorem wV.ok (a0 r:List zP)(h:wV a0=some r):ACalls qi 130 [.ds true (qh zb a0) (qg a0) false] [] (fun r' _=>r'=.ds true (qh zb r) (qg r) false):=by
 obtain⟨_u,hu,h⟩:=bind_some h;have gu:=xh hu;cases h
 have f1:=fun nl tt σ=>Zf E33.len a0 nl tt σ
 have f2:=zX E33.len a0;have f3:=Yq zb a0
 have fin:∀ σ id ver tt,zi.at σ id ver=some (qh zb a0)→tell σ [] true 12 (.os true 4 id ver 0 (qg a0) tt)=.ds true (qh zb a0) (qg a0) false:=by
  intro σ id ver tt hs
  simp only[ZI,Zi,hs,qq,ql];rw[if_pos (by rw[f2]; exact qI _),← f2,uc,zx]
 refine zw (rs:=[.tmp 2]) tok Tryz.func130 rfl Tryz.ntmps130 rfl Tryz.call130 (by simp) ?_;refine zC [(0,.ds true (qh zb a0) (qg a0) false)] ⟨rfl,trivial⟩ ?_;refine rgN [0] ?_
 refine ze fun Z1 hZ1=>?_
 refine rc [0,4] fun K hK=>?_
 refine rnN 1 ?_
 refine Xl tok rfl rfl rfl rfl rfl rfl fun b hnil=>?_
 have hb:b=true→a0=[]:=fun hb=>by
  have:=hnil hb;simp only[yU,go_sem,qe,qb,qa,qc,qd,qf,reduceIte,reduceCtorEq] at this;exact ub this
 clear hnil
 refine nkN hK ?_;cases b
 · refine zK rfl ?_;apply zp;apply hZ1
   refine rg tok [2] fun K hK=>?_
   by_cases h0:qg a0=0
   · obtain rfl:=ub h0;simp only[go_sem,qe,qb,qa,qc,qd,qf,reduceIte,reduceCtorEq,zU,yA,qN,qW,yR,yp,yU,xf,qG,qz,um,qV,gt_iff_lt];apply hK
     apply yk;simp only[ZA,yT,yY,xR,exists_eq_left',go_sem,qe,qb,qa,qc,qd,qf,reduceIte,reduceCtorEq]
     first|rfl|(simp only[go_sem,qe,qb,qa,qc,qd,qf,reduceIte,reduceCtorEq,ZI,Zi,qr]<;>rfl)
   have h1:=eq_false h0;simp only[go_sem,qe,qb,qa,qc,qd,qf,reduceIte,reduceCtorEq,zU,yA,qN,qW,yR,yp,yU,f1,f3,h1,gu,yP,gt_iff_lt,qr,qE,um];apply hK
   apply yk;simp only[ZA,yT,yY,xR,exists_eq_left',go_sem,qe,qb,qa,qc,qd,qf,reduceIte,reduceCtorEq];exact fin _ _ _ _ (by simp only[zi.at_hd,zi.at_tl,if_true])
 obtain rfl:=hb rfl;refine zQ rfl ?_;refine rgN [2] ?_;apply yk;simp only[ZA,yT,yY,xR,exists_eq_left',go_sem,qe,qb,qa,qc,qd,qf,reduceIte,reduceCtorEq]
 first|rfl|(simp only[go_sem,qe,qb,qa,qc,qd,qf,reduceIte,reduceCtorEq,Xj,qr,qv,qw,qx]<;>rfl)
theorem wV.ev (a0 r:List zP)(h:wV a0=some r)(σ:zi):ACalls qi 130 [.ds true (qh zb a0) (qg a0) false] σ (fun r' σ'=>r'=.ds true (qh zb r) (qg r) false∧σ'=σ):=
 (wV.ok a0 r h).pureAt (by simp only[AV.canon,xu,xD,ZQ,YD,wT,qJ,qo,ui,qn,uE]) (by simp only[AV.canon,xu,xD,ZQ,YD,wT,qJ,qo,ui,qn,uE]) σ
def Zl (a0:xM)(a1:List Int)(a2:List zP):Option xM:=
 (Zt a1).bind fun r1=>(wV a2).bind fun r2=>some (⟨a0.fself,r1,r2,a0.fnewest,a0.frows,a0.fcache,a0.feffects,a0.veffects⟩:xM)
theorem Zl.ok {a0 a1 a2 r}(h:Zl a0 a1 a2=some r):ACalls qi 85 [.op 0 0 0,.ds true (qh wH a1) (qg a1) false,.ds true (qh zb a2) (qg a2) false] [.cells 0 [.int .i64 a0.fself,.ds true (qh wH a0.fnumbers) (qg a0.fnumbers) false,.ds true (qh zb a0.fschemas) (qg a0.fschemas) false,.str a0.fnewest.fName,.ds true (qh zf a0.fnewest.fMessages) (qg a0.fnewest.fMessages) false,.ds true (qh zj a0.fnewest.fEnums) (qg a0.fnewest.fEnums) false,.ds true (qh zr a0.fnewest.fMethods) (qg a0.fnewest.fMethods) false,.ds true (qh yb a0.frows) (qg a0.frows) false,.op 1 0 0,.os true 8 5 (a0.veffects) 0 (qg a0.feffects) false],.cells 0 [.int .i64 a0.fcache.fsize,.os true 2 2 (a0.fcache.vorder) 0 (qg a0.fcache.forder) false,.mp 3,.mp 4],.cells (a0.fcache.vorder) (qh zn a0.fcache.forder),.map (yK zy zL a0.fcache.freplies.l) (some (a0.fcache.freplies.bs,a0.fcache.freplies.ck)),.map (yK (AV.int .i64) (AV.int .i64) a0.fcache.flast.l) (some (a0.fcache.flast.bs,a0.fcache.flast.ck)),.cells (a0.veffects) (qh zk a0.feffects)] (fun r' σ'=>r'=.tup []∧σ'=[.cells 0 [.int .i64 r.fself,.ds true (qh wH r.fnumbers) (qg r.fnumbers) false,.ds true (qh zb r.fschemas) (qg r.fschemas) false,.str r.fnewest.fName,.ds true (qh zf r.fnewest.fMessages) (qg r.fnewest.fMessages) false,.ds true (qh zj r.fnewest.fEnums) (qg r.fnewest.fEnums) false,.ds true (qh zr r.fnewest.fMethods) (qg r.fnewest.fMethods) false,.ds true (qh yb r.frows) (qg r.frows) false,.op 1 0 0,.os true 8 5 (r.veffects) 0 (qg r.feffects) false],.cells 0 [.int .i64 r.fcache.fsize,.os true 2 2 (r.fcache.vorder) 0 (qg r.fcache.forder) false,.mp 3,.mp 4],.cells (r.fcache.vorder) (qh zn r.fcache.forder),.map (yK zy zL r.fcache.freplies.l) (some (r.fcache.freplies.bs,r.fcache.freplies.ck)),.map (yK (AV.int .i64) (AV.int .i64) r.fcache.flast.l) (some (r.fcache.flast.bs,r.fcache.flast.ck)),.cells (r.veffects) (qh zk r.feffects)]):=by
 refine Zy [0,1,2,3,4,5] (rs:=[]) tok Tryz.func85 rfl Tryz.ntmps85 rfl Tryz.call85 (by simp) rfl ?_;refine zC [(0,.op 0 0 0),(1,.ds true (qh wH a1) (qg a1) false),(2,.ds true (qh zb a2) (qg a2) false)] ⟨rfl,rfl,rfl,trivial⟩ ?_;unfold Zl at h
 refine rcE [] fun K hK=>?_
 obtain⟨r1,hr1,h⟩:=bind_some h;refine rnN 3 ?_;refine clN rfl rfl rfl (Zt.ev a1 r1 hr1 _) ?_;obtain⟨r2,hr2,h⟩:=bind_some h;refine rnN 1 ?_;refine clN rfl rfl rfl (wV.ev a2 r2 hr2 _) ?_;refine zd tok 6 ?_;simp only[go_sem,qe,qb,qa,qc,qd,qf,reduceIte,reduceCtorEq,zb];refine nkN hK ?_
 -- end
 cases h;simp only[ZA,yT,yY,xR,exists_eq_left',go_sem,qe,qb,qa,qc,qd,qf,reduceIte,reduceCtorEq,za,zn,zb,zk,zh];refine⟨by decide,by simp,?_,?_⟩
 · first|rfl|(simp only[go_sem,qe,qb,qa,qc,qd,qf,reduceIte,reduceCtorEq,push_cast,if_true,qq,ql,qt,qr,qs,qv,qy,qo,qx,qw,qn,zx,za,zn,zb,zk,zh]<;>rfl)
 first|rfl|(simp only[go_sem,qe,qb,qa,qc,qd,qf,reduceIte,reduceCtorEq,push_cast,if_true,qq,ql,qt,qr,qs,qv,qy,qo,qx,qw,qn,zx,za,zn,zb,zk,zh]<;>rfl)
def wQ (o:Option xM):zi:=match o with
 |none=>[]
 |some x=>[.cells 0 [.int .i64 x.fself,.ds true (qh wH x.fnumbers) (qg x.fnumbers) false,.ds true (qh zb x.fschemas) (qg x.fschemas) false,.str x.fnewest.fName,.ds true (qh zf x.fnewest.fMessages) (qg x.fnewest.fMessages) false,.ds true (qh zj x.fnewest.fEnums) (qg x.fnewest.fEnums) false,.ds true (qh zr x.fnewest.fMethods) (qg x.fnewest.fMethods) false,.ds true (qh yb x.frows) (qg x.frows) false,.op 1 0 0,.os true 8 5 (x.veffects) 0 (qg x.feffects) false],.cells 0 [.int .i64 x.fcache.fsize,.os true 2 2 (x.fcache.vorder) 0 (qg x.fcache.forder) false,.mp 3,.mp 4],.cells (x.fcache.vorder) (qh zn x.fcache.forder),.map (yK zy zL x.fcache.freplies.l) (some (x.fcache.freplies.bs,x.fcache.freplies.ck)),.map (yK (AV.int .i64) (AV.int .i64) x.fcache.flast.l) (some (x.fcache.flast.bs,x.fcache.flast.ck)),.cells (x.veffects) (qh zk x.feffects)]
def ZJ (a0:Int)(a1:List Int)(a2:List zP)(a3:zP)(a4:List GRow)(a5:Int):Option (Option xM×Int):=
 (w6 a0 a1 a2).bind fun r2=>(if ((!r2)||(decide (32<(qg a4:Int))))=true then some true else (yO a3).bind fun r3=>some (!(decide (r3=0)))).bind fun c3=>(if c3=true then some ((none:Option xM),1) else (Zu a4).bind fun r6=>bnd (vaL a5) fun r7=>(Zl (⟨a0,([]:List Int),([]:List zP),a3,r6,r7,([]:List xp),0⟩:xM) a1 a2).bind fun r8=>some ((some r8),0))
theorem ZJ.ok {a0 a1 a2 a3 a4 a5 r}(h:ZJ a0 a1 a2 a3 a4 a5=some r):ACalls qi 45 [.int .i64 a0,.ds true (qh wH a1) (qg a1) false,.ds true (qh zb a2) (qg a2) false,.agg (zb a3),.ds true (qh yb a4) (qg a4) false,.int .i64 a5] [] (fun r' σ'=>r'=.tup [newV r.1 0,.int .i64 r.2]∧σ'=wQ r.1):=by
 refine acalls_ptr (rs:=[.tmp 12,.tmp 13]) tok Tryz.func45 rfl Tryz.ntmps45 rfl Tryz.call45 (by simp) ?_;refine zC [(0,.int .i64 a0),(1,.ds true (qh wH a1) (qg a1) false),(2,.ds true (qh zb a2) (qg a2) false),(3,.agg (zb a3)),(4,.ds true (qh yb a4) (qg a4) false),(5,.int .i64 a5)] ⟨rfl,rfl,rfl,rfl,rfl,rfl,trivial⟩ ?_;unfold ZJ at h
 refine rg tok [0,1,2,4,5,9] fun K hK=>?_
 simp only[go_sem,qe,qb,qa,qc,qd,qf,reduceIte,reduceCtorEq,zb];apply hK
 refine ze fun Z1 hZ1=>?_
 refine rc [0,1,2,4,5,9,29] fun K hK=>?_
 obtain⟨r2,hr2,h⟩:=bind_some h;refine rnN 3 ?_;refine clN rfl rfl rfl ((w6.ok hr2).c _) ?_;refine rnN 2 ?_;refine zI 4 (fun L τ=>L=[(0,.int .i64 a0),(1,.ds true (qh wH a1) (qg a1) false),(2,.ds true (qh zb a2) (qg a2) false),(4,.ds true (qh yb a4) (qg a4) false),(5,.int .i64 a5),(9,.op 0 0 0),(24,.bool ((!r2)||(decide (32<(qg a4:Int)))))]∧τ=([.cells 0 (zb a3)]:zi)) ?_ ?_
 · refine yz (b:=(!r2)) 20 rfl (fun hg20=>?_) (fun hg20=>?_)
   · refine zd tok 4 ?_;simp only[go_sem,qe,qb,qa,qc,qd,qf,reduceIte,reduceCtorEq,zV];refine zm ⟨rfl,_,_,⟨rfl,rfl⟩,.b hg20⟩
   refine zd tok 4 ?_;simp only[go_sem,qe,qb,qa,qc,qd,qf,reduceIte,reduceCtorEq,zV];refine zm ⟨rfl,_,_,⟨rfl,rfl⟩,.b hg20⟩
 rintro _ _ ⟨rfl,rfl⟩;refine rnN 1 ?_;obtain⟨c3,hc3,h⟩:=bind_some h;refine zI 4 (fun L τ=>L=[(0,.int .i64 a0),(1,.ds true (qh wH a1) (qg a1) false),(2,.ds true (qh zb a2) (qg a2) false),(4,.ds true (qh yb a4) (qg a4) false),(5,.int .i64 a5),(9,.op 0 0 0),(29,.bool c3)]∧τ=([.cells 0 (zb a3)]:zi)) ?_ ?_
 · refine yz (b:=((!r2)||(decide (32<(qg a4:Int))))) 25 rfl (fun hg25=>?_) (fun hg25=>?_)
   · rw[if_pos hg25] at hc3;refine zd tok 4 ?_;simp only[go_sem,qe,qb,qa,qc,qd,qf,reduceIte,reduceCtorEq,zV,zb];cases hc3;refine zm ⟨rfl,_,_,⟨rfl,rfl⟩,.b hg25⟩
   rw[Zg hg25] at hc3;obtain⟨r4,hr4,hc3⟩:=bind_some hc3;refine zd tok 1 ?_;simp only[go_sem,qe,qb,qa,qc,qd,qf,reduceIte,reduceCtorEq,zb];refine clN rfl rfl rfl ((yO.ok hr4).c _) ?_;refine zd tok 2 ?_;simp only[go_sem,qe,qb,qa,qc,qd,qf,reduceIte,reduceCtorEq,zV,zb];cases hc3;refine zm ⟨rfl,_,_,⟨rfl,rfl⟩,.b hg25⟩
 rintro _ _ ⟨rfl,rfl⟩;refine nkN hK ?_;refine zY (b:=c3) rfl (fun hc5=>?_) (fun hc5=>?_)
 · rw[if_pos hc5] at h;refine rgN [12,13] ?_;apply yk;cases h;simp only[ZA,yT,yY,xR,exists_eq_left',XB,XC,wQ,go_sem,qe,qb,qa,qc,qd,qf,reduceIte,reduceCtorEq];refine⟨[],by decide,by simp,?_,?_⟩
   · first|rfl|(simp only[go_sem,qe,qb,qa,qc,qd,qf,reduceIte,reduceCtorEq,push_cast,if_true,qq,ql,qt,qr,qs,qv,qy,qo,qx,qw,qn,zx]<;>rfl)
   first|rfl|(simp only[go_sem,qe,qb,qa,qc,qd,qf,reduceIte,reduceCtorEq,push_cast,if_true,qq,ql,qt,qr,qs,qv,qy,qo,qx,qw,qn,zx]<;>rfl)
 rw[Zg hc5] at h;apply zp;apply hZ1;obtain⟨r6,hr6,h⟩:=bind_some h;obtain⟨r7,hr7,h⟩:=yi h
 refine rd [1,2,14] fun K hK=>?_
 refine DW.start (T:=tab) [.any,.own 2 [],.any,.eff,.any,.eff,.any,.eff,.any] [(2,[])] ?_;refine DW.runN tok 3 ?_;simp only[go_sem,qe,qb,qa,qc,qd,qf,reduceIte,reduceCtorEq,zb];refine DW.call rfl rfl rfl (Zu.ev a4 r6 hr6 _) ?_;refine DW.runN tok 1 ?_;simp only[go_sem,qe,qb,qa,qc,qd,qf,reduceIte,reduceCtorEq,zb];refine DW.callS rfl rfl rfl (@id (ACalls qi 84 [.int .i64 a5] [.cells 0 (zb a3)] (fun r' σ'=>r'=.op 1 0 0∧σ'=[.cells 0 (zb a3),.cells 0 [.int .i64 r7.fsize,.os true 2 2 (r7.vorder) 0 (qg r7.forder) false,.mp 3,.mp 4],.cells (r7.vorder) (qh zn r7.forder),.map (yK zy zL r7.freplies.l) (some (r7.freplies.bs,r7.freplies.ck)),.map (yK (AV.int .i64) (AV.int .i64) r7.flast.l) (some (r7.flast.bs,r7.flast.ck))])) ((vaL.ok hr7).ix [])) (vaP (by simp only[go_sem,qe,qb,qa,qc,qd,qf,reduceIte,reduceCtorEq])) ?_;refine DW.runN tok 3 ?_;simp only[go_sem,qe,qb,qa,qc,qd,qf,reduceIte,reduceCtorEq,zb];refine DW.fin tok (by decide +kernel) rfl ?_;simp only[zG,yE,yV,ZS,upd,qa,reduceIte,xl,xU];apply hK
 refine ZG 5 9 8 rfl (by simp) rfl (L:=[(1,.ds true (qh wH a1) (qg a1) false),(2,.ds true (qh zb a2) (qg a2) false),(14,.op 5 0 0)]) (τ:=[.cells 0 (zb a3),.cells 0 [.int .i64 r7.fsize,.os true 2 2 (r7.vorder) 0 (qg r7.forder) false,.mp 3,.mp 4],.cells (r7.vorder) (qh zn r7.forder),.map (yK zy zL r7.freplies.l) (some (r7.freplies.bs,r7.freplies.ck)),.map (yK (AV.int .i64) (AV.int .i64) r7.flast.l) (some (r7.flast.bs,r7.flast.ck)),.cells 0 [.int .i64 a0,.ds true [] 0 true,.ds true [] 0 true,.str a3.fName,.ds true (qh zf a3.fMessages) (qg a3.fMessages) false,.ds true (qh zj a3.fEnums) (qg a3.fEnums) false,.ds true (qh zr a3.fMethods) (qg a3.fMethods) false,.ds true (qh yb r6) (qg r6) false,.op 1 0 0,.os true 8 6 0 0 (qg ([]:List xp)) false],.cells 0 (qh zk ([]:List xp))]) .s ?_;refine y5 (L:=[(1,.ds true (qh wH a1) (qg a1) false),(2,.ds true (qh zb a2) (qg a2) false),(14,.op 4 0 0)]) (τ:=[.cells 0 [.int .i64 r7.fsize,.os true 2 1 (r7.vorder) 0 (qg r7.forder) false,.mp 2,.mp 3],.cells (r7.vorder) (qh zn r7.forder),.map (yK zy zL r7.freplies.l) (some (r7.freplies.bs,r7.freplies.ck)),.map (yK (AV.int .i64) (AV.int .i64) r7.flast.l) (some (r7.flast.bs,r7.flast.ck)),.cells 0 [.int .i64 a0,.ds true (qh wH ([]:List Int)) (qg ([]:List Int)) false,.ds true (qh zb ([]:List zP)) (qg ([]:List zP)) false,.str a3.fName,.ds true (qh zf a3.fMessages) (qg a3.fMessages) false,.ds true (qh zj a3.fEnums) (qg a3.fEnums) false,.ds true (qh zr a3.fMethods) (qg a3.fMethods) false,.ds true (qh yb r6) (qg r6) false,.op 0 0 0,.os true 8 5 0 0 (qg ([]:List xp)) false],.cells 0 (qh zk ([]:List xp))]) (.t [1,2,3,4,5,6] true) ?_
 refine rc [14] fun K hK=>?_
 obtain⟨r8,hr8,h⟩:=bind_some h;refine rnN 3 ?_;refine clN rfl rfl rfl (@id (ACalls qi 85 [.op 4 0 0,.ds true (qh wH a1) (qg a1) false,.ds true (qh zb a2) (qg a2) false] [.cells 0 [.int .i64 r7.fsize,.os true 2 1 (r7.vorder) 0 (qg r7.forder) false,.mp 2,.mp 3],.cells (r7.vorder) (qh zn r7.forder),.map (yK zy zL r7.freplies.l) (some (r7.freplies.bs,r7.freplies.ck)),.map (yK (AV.int .i64) (AV.int .i64) r7.flast.l) (some (r7.flast.bs,r7.flast.ck)),.cells 0 [.int .i64 a0,.ds true (qh wH ([]:List Int)) (qg ([]:List Int)) false,.ds true (qh zb ([]:List zP)) (qg ([]:List zP)) false,.str a3.fName,.ds true (qh zf a3.fMessages) (qg a3.fMessages) false,.ds true (qh zj a3.fEnums) (qg a3.fEnums) false,.ds true (qh zr a3.fMethods) (qg a3.fMethods) false,.ds true (qh yb r6) (qg r6) false,.op 0 0 0,.os true 8 5 0 0 (qg ([]:List xp)) false],.cells 0 (qh zk ([]:List xp))] (fun r' σ'=>r'=.tup []∧σ'=[.cells 0 [.int .i64 r8.fcache.fsize,.os true 2 1 (r8.fcache.vorder) 0 (qg r8.fcache.forder) false,.mp 2,.mp 3],.cells (r8.fcache.vorder) (qh zn r8.fcache.forder),.map (yK zy zL r8.fcache.freplies.l) (some (r8.fcache.freplies.bs,r8.fcache.freplies.ck)),.map (yK (AV.int .i64) (AV.int .i64) r8.fcache.flast.l) (some (r8.fcache.flast.bs,r8.fcache.flast.ck)),.cells 0 [.int .i64 r8.fself,.ds true (qh wH r8.fnumbers) (qg r8.fnumbers) false,.ds true (qh zb r8.fschemas) (qg r8.fschemas) false,.str r8.fnewest.fName,.ds true (qh zf r8.fnewest.fMessages) (qg r8.fnewest.fMessages) false,.ds true (qh zj r8.fnewest.fEnums) (qg r8.fnewest.fEnums) false,.ds true (qh zr r8.fnewest.fMethods) (qg r8.fnewest.fMethods) false,.ds true (qh yb r8.frows) (qg r8.frows) false,.op 0 0 0,.os true 8 5 (r8.veffects) 0 (qg r8.feffects) false],.cells (r8.veffects) (qh zk r8.feffects)])) ((Zl.ok hr8).ix [4,0,1,2,3,5])) ?_;refine nkN hK ?_;refine rgN [12,13] ?_;apply yk;cases h;simp only[ZA,yT,yY,xR,exists_eq_left',XB,XC,wQ,go_sem,qe,qb,qa,qc,qd,qf,reduceIte,reduceCtorEq,za,zn,zb,zk,zh];refine⟨[4,0,1,2,3,5],by decide,by simp,?_,?_⟩
 · first|rfl|(simp only[go_sem,qe,qb,qa,qc,qd,qf,reduceIte,reduceCtorEq,push_cast,if_true,qq,ql,qt,qr,qs,qv,qy,qo,qx,qw,qn,zx,za,zn,zb,zk,zh]<;>rfl)
 first|rfl|(simp only[go_sem,qe,qb,qa,qc,qd,qf,reduceIte,reduceCtorEq,push_cast,if_true,qq,ql,qt,qr,qs,qv,qy,qo,qx,qw,qn,zx,za,zn,zb,zk,zh]<;>rfl)
theorem ZJ.at {a0 a1 a2 a3 a4 a5 r}(h:ZJ a0 a1 a2 a3 a4 a5=some r)(σ:zi):ACalls qi 45 [.int .i64 a0,.ds true (qh wH a1) (qg a1) false,.ds true (qh zb a2) (qg a2) false,.agg (zb a3),.ds true (qh yb a4) (qg a4) false,.int .i64 a5] σ (fun r' σ'=>r'=.tup [newV r.1 σ.length,.int .i64 r.2]∧σ'=σ++(wQ r.1).map (renO fun i=>σ.length+i)):=
 ACalls.newAt (x:=fun n=>.tup [newV r.1 n,.int .i64 r.2]) (ZJ.ok h) (fun n=>by obtain⟨o,e⟩:=r; cases o<;>simp only[XC,XB,AV.ren,vbT,uJ]) (by simp only[push_cast]) σ
def xK (a0:wY)(a1:Int)(a2:Int):xo×Int:=
 (if ((XZ a0.freplies.l (⟨a1,a2⟩:xi)).isSome)=true then ((XZ a0.freplies.l (⟨a1,a2⟩:xi)).getD (⟨0,0,0,0,0,[],0,[]⟩:xo),2) else (if (((XZ a0.flast.l a1).isSome)&&(decide (a2≤(XZ a0.flast.l a1).getD 0)))=true then ((⟨0,0,0,0,0,[],0,[]⟩:xo),3) else ((⟨0,0,0,0,0,[],0,[]⟩:xo),1)))
theorem xK.ok {a0 a1 a2 r}(h:xK a0 a1 a2=r):ACalls qi 132 [.op 0 0 0,.int .i64 a1,.int .i64 a2] [.cells 0 [.int .i64 a0.fsize,.os true 2 1 (a0.vorder) 0 (qg a0.forder) false,.mp 2,.mp 3],.cells (a0.vorder) (qh zn a0.forder),.map (yK zy zL a0.freplies.l) (some (a0.freplies.bs,a0.freplies.ck)),.map (yK (AV.int .i64) (AV.int .i64) a0.flast.l) (some (a0.flast.bs,a0.flast.ck))] (fun r' σ'=>r'=.tup [.agg (zo r.1),.int .i64 r.2]∧σ'=[.cells 0 [.int .i64 a0.fsize,.os true 2 1 (a0.vorder) 0 (qg a0.forder) false,.mp 2,.mp 3],.cells (a0.vorder) (qh zn a0.forder),.map (yK zy zL a0.freplies.l) (some (a0.freplies.bs,a0.freplies.ck)),.map (yK (AV.int .i64) (AV.int .i64) a0.flast.l) (some (a0.flast.bs,a0.flast.ck))]):=by
 refine Zy [0,1,2,3] (rs:=[.cell 6 43,.tmp 7]) tok Tryz.func132 rfl Tryz.ntmps132 rfl Tryz.call132 (by simp) rfl ?_;refine zC [(0,.op 0 0 0),(1,.int .i64 a1),(2,.int .i64 a2)] ⟨rfl,rfl,rfl,trivial⟩ ?_;unfold xK at h;refine rgN [0,1,2,6] ?_
 refine ze fun Z1 hZ1=>?_
 have f2:=fun (o0:Yt) (o1:Yt) (x:zi)=>vaX (T:=tab) (t:=205) (ek:=zy) (ev:=zL) (z:=(⟨0,0,0,0,0,[],0,[]⟩:xo)) KA268 rfl rfl rfl rfl a0.freplies.l (⟨a1,a2⟩:xi) true (o0::o1::.map (yK zy zL a0.freplies.l) (some (a0.freplies.bs,a0.freplies.ck))::x) 2 rfl
 simp only[zy,zn,zL,zo] at f2
 refine rg tok [0,1,2,6,8,9] fun K hK=>?_
 simp only[go_sem,qe,qb,qa,qc,qd,qf,reduceIte,reduceCtorEq,XA,q2,if_false,if_true,zn,zo,zy,zL,f2];apply hK
 refine rgN [0,1,2,6,8,23] ?_;refine zY (b:=((XZ a0.freplies.l (⟨a1,a2⟩:xi)).isSome)) rfl (fun hc3=>?_) (fun hc3=>?_)
 · rw[if_pos hc3] at h
   refine rg tok [6,7] fun K hK=>?_
   simp only[go_sem,qe,qb,qa,qc,qd,qf,reduceIte,reduceCtorEq,zo];apply hK
   apply yk;obtain rfl:=h;simp only[ZA,yT,yY,xR,exists_eq_left',go_sem,qe,qb,qa,qc,qd,qf,reduceIte,reduceCtorEq,zn,zo];refine⟨by decide,by simp,?_,?_⟩
   · first|rfl|(simp only[go_sem,qe,qb,qa,qc,qd,qf,reduceIte,reduceCtorEq,push_cast,if_true,qq,ql,qt,qr,qs,qv,qy,qo,qx,qw,qn,zx,zn,zo]<;>rfl)
   first|rfl|(simp only[go_sem,qe,qb,qa,qc,qd,qf,reduceIte,reduceCtorEq,push_cast,if_true,qq,ql,qt,qr,qs,qv,qy,qo,qx,qw,qn,zx,zn,zo]<;>rfl)
 rw[Zg hc3] at h;apply zp;apply hZ1
 refine ze fun Z4 hZ4=>?_
 have f5:=fun (o0:Yt) (o1:Yt) (o2:Yt) (x:zi)=>vaX (T:=tab) (t:=206) (ek:=(AV.int .i64)) (ev:=(AV.int .i64)) (z:=0) (vc8.int rfl rfl rfl rfl) rfl rfl rfl rfl a0.flast.l a1 true (o0::o1::o2::.map (yK (AV.int .i64) (AV.int .i64) a0.flast.l) (some (a0.flast.bs,a0.flast.ck))::x) 3 rfl
 refine rg tok [2,6,10,11] fun K hK=>?_
 simp only[go_sem,qe,qb,qa,qc,qd,qf,reduceIte,reduceCtorEq,XA,q2,if_false,if_true,f5];apply hK
 refine rc [6,39] fun K hK=>?_
 refine rnN 2 ?_;refine zI 4 (fun L τ=>L=[(6,.op 4 0 0),(39,.bool (((XZ a0.flast.l a1).isSome)&&(decide (a2≤(XZ a0.flast.l a1).getD 0))))]∧τ=([.cells 0 [.int .i64 a0.fsize,.os true 2 1 (a0.vorder) 0 (qg a0.forder) false,.mp 2,.mp 3],.cells (a0.vorder) (qh zn a0.forder),.map (yK zy zL a0.freplies.l) (some (a0.freplies.bs,a0.freplies.ck)),.map (yK (AV.int .i64) (AV.int .i64) a0.flast.l) (some (a0.flast.bs,a0.flast.ck)),.cells 0 [.int .i64 0,.int .i64 0,.int .i64 0,.int .i64 0,.int .i64 0,.str [],.int .i64 0,.str []],.cells 0 [.int .i64 (((XZ a0.freplies.l (⟨a1,a2⟩:xi)).getD (⟨0,0,0,0,0,[],0,[]⟩:xo)).fKind),.int .i64 (((XZ a0.freplies.l (⟨a1,a2⟩:xi)).getD (⟨0,0,0,0,0,[],0,[]⟩:xo)).fFrom),.int .i64 (((XZ a0.freplies.l (⟨a1,a2⟩:xi)).getD (⟨0,0,0,0,0,[],0,[]⟩:xo)).fTo),.int .i64 (((XZ a0.freplies.l (⟨a1,a2⟩:xi)).getD (⟨0,0,0,0,0,[],0,[]⟩:xo)).fID),.int .i64 (((XZ a0.freplies.l (⟨a1,a2⟩:xi)).getD (⟨0,0,0,0,0,[],0,[]⟩:xo)).fVersion),.str (((XZ a0.freplies.l (⟨a1,a2⟩:xi)).getD (⟨0,0,0,0,0,[],0,[]⟩:xo)).fMethod),.int .i64 (((XZ a0.freplies.l (⟨a1,a2⟩:xi)).getD (⟨0,0,0,0,0,[],0,[]⟩:xo)).fErr),.str (((XZ a0.freplies.l (⟨a1,a2⟩:xi)).getD (⟨0,0,0,0,0,[],0,[]⟩:xo)).fBody)]]:zi)) ?_ ?_
 · refine yz (b:=((XZ a0.flast.l a1).isSome)) 35 rfl (fun hg35=>?_) (fun hg35=>?_)
   · refine zd tok 4 ?_;simp only[go_sem,qe,qb,qa,qc,qd,qf,reduceIte,reduceCtorEq,zV];refine zm ⟨rfl,_,_,⟨rfl,rfl⟩,.b hg35⟩
   refine zd tok 4 ?_;simp only[go_sem,qe,qb,qa,qc,qd,qf,reduceIte,reduceCtorEq,zV];refine zm ⟨rfl,_,_,⟨rfl,rfl⟩,.b hg35⟩
 rintro _ _ ⟨rfl,rfl⟩;refine nkN hK ?_;refine zY (b:=(((XZ a0.flast.l a1).isSome)&&(decide (a2≤(XZ a0.flast.l a1).getD 0)))) rfl (fun hc6=>?_) (fun hc6=>?_)
 · rw[if_pos hc6] at h
   refine rg tok [6,7] fun K hK=>?_
   simp only[go_sem,qe,qb,qa,qc,qd,qf,reduceIte,reduceCtorEq,zo];apply hK
   apply yk;obtain rfl:=h;simp only[ZA,yT,yY,xR,exists_eq_left',go_sem,qe,qb,qa,qc,qd,qf,reduceIte,reduceCtorEq,zn,zo];refine⟨by decide,by simp,?_,?_⟩
   · first|rfl|(simp only[go_sem,qe,qb,qa,qc,qd,qf,reduceIte,reduceCtorEq,push_cast,if_true,qq,ql,qt,qr,qs,qv,qy,qo,qx,qw,qn,zx,zn,zo]<;>rfl)
   first|rfl|(simp only[go_sem,qe,qb,qa,qc,qd,qf,reduceIte,reduceCtorEq,push_cast,if_true,qq,ql,qt,qr,qs,qv,qy,qo,qx,qw,qn,zx,zn,zo]<;>rfl)
 rw[Zg hc6] at h;apply zp;apply hZ4
 refine rg tok [6,7] fun K hK=>?_
 simp only[go_sem,qe,qb,qa,qc,qd,qf,reduceIte,reduceCtorEq,zo];apply hK
 apply yk;obtain rfl:=h;simp only[ZA,yT,yY,xR,exists_eq_left',go_sem,qe,qb,qa,qc,qd,qf,reduceIte,reduceCtorEq,zn,zo];refine⟨by decide,by simp,?_,?_⟩
 · first|rfl|(simp only[go_sem,qe,qb,qa,qc,qd,qf,reduceIte,reduceCtorEq,push_cast,if_true,qq,ql,qt,qr,qs,qv,qy,qo,qx,qw,qn,zx,zn,zo]<;>rfl)
 first|rfl|(simp only[go_sem,qe,qb,qa,qc,qd,qf,reduceIte,reduceCtorEq,push_cast,if_true,qq,ql,qt,qr,qs,qv,qy,qo,qx,qw,qn,zx,zn,zo]<;>rfl)
def wz.l4 (a1:Int):List Int→Int→Int
 |[],x2=>(-1)
 |y4::q4,x2=>(if a1=y4 then x2 else ((wz.l4 a1 q4) (x2+1)))
def wz (a0:List Int)(a1:Int):Int:=
 (wz.l4 a1 a0 0)
theorem wz.ok {a0 a1 r}(h:wz a0 a1=r):ACalls qi 174 [.ds true (qh wH a0) (qg a0) false,.int .i64 a1] [] (fun r' _=>r'=.int .i64 r):=by
 refine zw (rs:=[.tmp 4]) tok Tryz.func174 rfl Tryz.ntmps174 rfl Tryz.call174 (by simp) ?_;refine zC [(0,.ds true (qh wH a0) (qg a0) false),(1,.int .i64 a1)] ⟨rfl,rfl,trivial⟩ ?_;unfold wz at h;refine rgN [0,1] ?_
 refine ze fun Z1 hZ1=>?_
 refine rgN [0,1,7,8] ?_;apply zt
 refine xv 0 fun hb4=>?_
 replace hb4:qg a0≤9223372036854775807:=hb4.1;refine yh (fun m L τ=>∃ (p4 q4:List Int) (x2:Int),m=qg q4∧L=[(0,.ds true (qh wH a0) (qg a0) false),(1,.int .i64 a1),(7,.int .i64 (qg a0:Int)),(8,.int .i64 x2)]∧τ=([]:zi)∧a0=p4++q4∧x2=(qg p4:Int)∧wz.l4 a1 q4 x2=r) _ ⟨[],a0,0,rfl,rfl,rfl,rfl,rfl,h⟩ .s ?_;rintro m L τ ⟨p4,q4,x2,rfl,rfl,rfl,hE4,hi4,h⟩
 rcases q4 with _|⟨y4,q4⟩
 · have hz4:=xE hE4 hi4;simp only[wz.l4] at h
   refine rg tok [0,1,7,8,9] fun K hK=>?_
   simp only[go_sem,qe,qb,qa,qc,qd,qf,reduceIte,reduceCtorEq,zV,hz4];apply hK
   refine ze fun Z5 hZ5=>?_
   refine zK rfl ?_;apply ye;apply hZ1
   refine rg tok [4] fun K hK=>?_
   simp only[go_sem,qe,qb,qa,qc,qd,qf,reduceIte,reduceCtorEq,hz4];apply hK
   cases h;exact rtA
 obtain⟨hz4,hw4,hx4,hE'4,hi'4⟩:=yZ hE4 hi4 hb4;simp only[wz.l4] at h
 refine rg tok [0,1,7,8,9] fun K hK=>?_
 simp only[go_sem,qe,qb,qa,qc,qd,qf,reduceIte,reduceCtorEq,zV,hz4,hw4];apply hK
 refine ze fun Z6 hZ6=>?_
 refine zQ rfl ?_;apply zp;apply hZ6
 refine ze fun Z7 hZ7=>?_
 apply zt
 refine rg tok [0,1,5,7,8] fun K hK=>?_
 simp only[go_sem,qe,qb,qa,qc,qd,qf,reduceIte,reduceCtorEq,hz4,hw4];apply hK
 have f8:=E26.idxS hx4;have f9:=E26.fldS0 (f:=3) rfl rfl hx4
 refine rg tok [0,1,5,7,8,16] fun K hK=>?_
 simp only[go_sem,qe,qb,qa,qc,qd,qf,reduceIte,reduceCtorEq,zV,wH,hz4,hw4,f8,f9];apply hK
 refine yn rfl (fun hc10=>?_) (fun hc10=>?_)
 · rw[if_pos hc10] at h;have t11:=eq_true hc10
   refine rg tok [4] fun K hK=>?_
   simp only[go_sem,qe,qb,qa,qc,qd,qf,reduceIte,reduceCtorEq,hz4,hw4,t11];apply hK
   cases h;exact rtA
 rw[if_neg hc10] at h;have t12:=eq_false hc10;apply zp;apply hZ7
 refine rgE tok [0,1,7,8] fun K hK=>?_
 simp only[go_sem,qe,qb,qa,qc,qd,qf,reduceIte,reduceCtorEq,zV,hz4,hw4,t12];apply hK
 exact⟨_,_,_,qH q4.length,⟨p4++[y4],q4,x2+1,rfl,rfl,rfl,hE'4,hi'4,h⟩,.s⟩
def wW (a0:xM)(a1:xo):Option (YY×Int):=
 bnd (wz a0.fnumbers a1.fVersion) fun r1=>(if r1<0 then some ((⟨(⟨[],([]:List yN),([]:List wK),([]:List Zn)⟩:zP),(⟨[],[],[]⟩:Zn),(⟨[],[],[]⟩:Zn),(⟨0,0,[],([]:List zA),([]:List yo)⟩:zq)⟩:YY),18) else (YN a0.fschemas (IntKind.i64.wrap ((qg a0.fschemas:Int)-1))).bind fun y6=>(YN a0.fschemas r1).bind fun y9=>bnd (wh y9 a1.fMethod) fun r12=>bnd (wh y6 a1.fMethod) fun r13=>(if ((!r12.2)||(!r13.2))=true then some ((⟨(⟨[],([]:List yN),([]:List wK),([]:List Zn)⟩:zP),(⟨[],[],[]⟩:Zn),(⟨[],[],[]⟩:Zn),(⟨0,0,[],([]:List zA),([]:List yo)⟩:zq)⟩:YY),21) else (grd (qg a1.fBody≤9223372036854775807)).bind fun _u16=>(Xg y9 r12.1.fIn a1.fBody).bind fun r18=>(if r18.2=0 then (xH y9 y6 r12.1.fIn r13.1.fIn).bind fun r23=>(Zs r23.1 r18.1).bind fun r24=>some ((⟨y9,r13.1,r12.1,r24.1⟩:YY),r24.2) else some ((⟨(⟨[],([]:List yN),([]:List wK),([]:List Zn)⟩:zP),(⟨[],[],[]⟩:Zn),(⟨[],[],[]⟩:Zn),(⟨0,0,[],([]:List zA),([]:List yo)⟩:zq)⟩:YY),r18.2))))
theorem wW.ok {a0 a1 r}(h:wW a0 a1=some r):ACalls qi 133 [.op 0 0 0,.agg (zo a1)] [.cells 0 [.int .i64 a0.fself,.ds true (qh wH a0.fnumbers) (qg a0.fnumbers) false,.ds true (qh zb a0.fschemas) (qg a0.fschemas) false,.str a0.fnewest.fName,.ds true (qh zf a0.fnewest.fMessages) (qg a0.fnewest.fMessages) false,.ds true (qh zj a0.fnewest.fEnums) (qg a0.fnewest.fEnums) false,.ds true (qh zr a0.fnewest.fMethods) (qg a0.fnewest.fMethods) false,.ds true (qh yb a0.frows) (qg a0.frows) false,.op 1 0 0,.os true 8 5 (a0.veffects) 0 (qg a0.feffects) false],.cells 0 [.int .i64 a0.fcache.fsize,.os true 2 2 (a0.fcache.vorder) 0 (qg a0.fcache.forder) false,.mp 3,.mp 4],.cells (a0.fcache.vorder) (qh zn a0.fcache.forder),.map (yK zy zL a0.fcache.freplies.l) (some (a0.fcache.freplies.bs,a0.fcache.freplies.ck)),.map (yK (AV.int .i64) (AV.int .i64) a0.fcache.flast.l) (some (a0.fcache.flast.bs,a0.fcache.flast.ck)),.cells (a0.veffects) (qh zk a0.feffects)] (fun r' σ'=>r'=.tup [.agg (yu r.1),.int .i64 r.2]∧σ'=[.cells 0 [.int .i64 a0.fself,.ds true (qh wH a0.fnumbers) (qg a0.fnumbers) false,.ds true (qh zb a0.fschemas) (qg a0.fschemas) false,.str a0.fnewest.fName,.ds true (qh zf a0.fnewest.fMessages) (qg a0.fnewest.fMessages) false,.ds true (qh zj a0.fnewest.fEnums) (qg a0.fnewest.fEnums) false,.ds true (qh zr a0.fnewest.fMethods) (qg a0.fnewest.fMethods) false,.ds true (qh yb a0.frows) (qg a0.frows) false,.op 1 0 0,.os true 8 5 (a0.veffects) 0 (qg a0.feffects) false],.cells 0 [.int .i64 a0.fcache.fsize,.os true 2 2 (a0.fcache.vorder) 0 (qg a0.fcache.forder) false,.mp 3,.mp 4],.cells (a0.fcache.vorder) (qh zn a0.fcache.forder),.map (yK zy zL a0.fcache.freplies.l) (some (a0.fcache.freplies.bs,a0.fcache.freplies.ck)),.map (yK (AV.int .i64) (AV.int .i64) a0.fcache.flast.l) (some (a0.fcache.flast.bs,a0.fcache.flast.ck)),.cells (a0.veffects) (qh zk a0.feffects)]):=by
 refine Zy [0,1,2,3,4,5] (rs:=[.cell 4 216,.tmp 5]) tok Tryz.func133 rfl Tryz.ntmps133 rfl Tryz.call133 (by simp) rfl ?_;refine zC [(0,.op 0 0 0),(1,.agg (zo a1))] ⟨rfl,rfl,trivial⟩ ?_;unfold wW at h
 refine rg tok [0,3,4] fun K hK=>?_
 simp only[go_sem,qe,qb,qa,qc,qd,qf,reduceIte,reduceCtorEq,zo];apply hK
 obtain⟨r1,hr1,h⟩:=yi h
 refine rd [0,3,4,6] fun K hK=>?_
 refine DW.start (T:=tab) [.any,.any,.any,.at [],.any,.at [],.eff,.any] [] ?_;refine DW.runN tok 6 ?_;simp only[go_sem,qe,qb,qa,qc,qd,qf,reduceIte,reduceCtorEq];refine DW.call rfl rfl rfl ((wz.ok hr1).c _) ?_;refine DW.runN tok 1 ?_;simp only[go_sem,qe,qb,qa,qc,qd,qf,reduceIte,reduceCtorEq];refine DW.fin tok (by decide +kernel) rfl ?_;simp only[zG,yE,yV,ZS,upd,qa,reduceIte,xl,xU];apply hK
 refine ze fun Z2 hZ2=>?_
 refine rg tok [0,3,4,6,23] fun K hK=>?_
 simp only[go_sem,qe,qb,qa,qc,qd,qf,reduceIte,reduceCtorEq,zV];apply hK
 refine yn rfl (fun hc3=>?_) (fun hc3=>?_)
 · rw[if_pos hc3] at h;have t4:=eq_true hc3
   refine rg tok [4,5] fun K hK=>?_
   simp only[go_sem,qe,qb,qa,qc,qd,qf,reduceIte,reduceCtorEq,za,zr,zb,yu,zh,t4];apply hK
   apply yk;cases h;simp only[ZA,yT,yY,xR,exists_eq_left',go_sem,qe,qb,qa,qc,qd,qf,reduceIte,reduceCtorEq,za,zn,zr,zb,zk,yu,zh];refine⟨by decide,by simp,?_,?_⟩
   · first|rfl|(simp only[go_sem,qe,qb,qa,qc,qd,qf,reduceIte,reduceCtorEq,push_cast,if_true,qq,ql,qt,qr,qs,qv,qy,qo,qx,qw,qn,zx,za,zn,zr,zb,zk,yu,zh]<;>rfl)
   first|rfl|(simp only[go_sem,qe,qb,qa,qc,qd,qf,reduceIte,reduceCtorEq,push_cast,if_true,qq,ql,qt,qr,qs,qv,qy,qo,qx,qw,qn,zx,za,zn,zr,zb,zk,yu,zh]<;>rfl)
 rw[if_neg hc3] at h;have t5:=eq_false hc3;apply zp;apply hZ2;obtain⟨y6,hy6,h⟩:=bind_some h;have f7:=E33.idxS hy6;have f8:=E33.loadS rfl rfl hy6
 refine rd [0,3,4,6,7] fun K hK=>?_
 refine DW.start (T:=tab) [.any,.any,.any,.own 1 [],.any,.any,.any,.own 1 [],.own 1 [],.any,.any,.own 1 [],.eff,.eff] [(1,[])] ?_;refine DW.runN tok 8 ?_;simp only[go_sem,qe,qb,qa,qc,qd,qf,reduceIte,reduceCtorEq,zb,t5,f7,f8];refine DW.runN tok 6 ?_;simp only[go_sem,qe,qb,qa,qc,qd,qf,reduceIte,reduceCtorEq,zV,zb,t5,f7,f8];refine DW.fin tok (by decide +kernel) rfl ?_;simp only[zG,yE,yV,ZS,upd,qa,reduceIte,xl,xU];apply hK
 obtain⟨y9,hy9,h⟩:=bind_some h;have f10:=E33.idxS hy9;have f11:=E33.loadS rfl rfl hy9
 refine rg tok [3,4,7,8] fun K hK=>?_
 simp only[go_sem,qe,qb,qa,qc,qd,qf,reduceIte,reduceCtorEq,za,zr,zb,yu,zh,t5,f10,f11];apply hK
 refine rg tok [3,4,7,8] fun K hK=>?_
 simp only[go_sem,qe,qb,qa,qc,qd,qf,reduceIte,reduceCtorEq,t5];apply hK
 refine rc [3,4,7,8,9] fun K hK=>?_
 obtain⟨r12,hr12,h⟩:=yi h;refine zd tok 4 ?_;simp only[go_sem,qe,qb,qa,qc,qd,qf,reduceIte,reduceCtorEq,zb,t5];refine clN rfl rfl rfl ((wh.ok hr12).c _) ?_;refine zd tok 6 ?_;simp only[go_sem,qe,qb,qa,qc,qd,qf,reduceIte,reduceCtorEq,za,zr,zb,yu,zh,t5];refine nkN hK ?_
 refine rc [3,4,7,8,9,10] fun K hK=>?_
 obtain⟨r13,hr13,h⟩:=yi h;refine zd tok 3 ?_;simp only[go_sem,qe,qb,qa,qc,qd,qf,reduceIte,reduceCtorEq,zb,t5];refine clN rfl rfl rfl ((wh.ok hr13).c _) ?_;refine zd tok 6 ?_;simp only[go_sem,qe,qb,qa,qc,qd,qf,reduceIte,reduceCtorEq,za,zr,zb,yu,zh,t5];refine nkN hK ?_
 refine ze fun Z14 hZ14=>?_
 refine rc [3,4,7,8,67] fun K hK=>?_
 refine zd tok 3 ?_;simp only[go_sem,qe,qb,qa,qc,qd,qf,reduceIte,reduceCtorEq,t5];refine zI 3 (fun L τ=>L=[(3,.op 6 0 0),(4,.op 7 0 0),(7,.op 8 0 0),(8,.op 9 0 0),(67,.bool ((!r12.2)||(!r13.2)))]∧τ=([.cells 0 [.int .i64 a0.fself,.ds true (qh wH a0.fnumbers) (qg a0.fnumbers) false,.ds true (qh zb a0.fschemas) (qg a0.fschemas) false,.str a0.fnewest.fName,.ds true (qh zf a0.fnewest.fMessages) (qg a0.fnewest.fMessages) false,.ds true (qh zj a0.fnewest.fEnums) (qg a0.fnewest.fEnums) false,.ds true (qh zr a0.fnewest.fMethods) (qg a0.fnewest.fMethods) false,.ds true (qh yb a0.frows) (qg a0.frows) false,.op 1 0 0,.os true 8 5 (a0.veffects) 0 (qg a0.feffects) false],.cells 0 [.int .i64 a0.fcache.fsize,.os true 2 2 (a0.fcache.vorder) 0 (qg a0.fcache.forder) false,.mp 3,.mp 4],.cells (a0.fcache.vorder) (qh zn a0.fcache.forder),.map (yK zy zL a0.fcache.freplies.l) (some (a0.fcache.freplies.bs,a0.fcache.freplies.ck)),.map (yK (AV.int .i64) (AV.int .i64) a0.fcache.flast.l) (some (a0.fcache.flast.bs,a0.fcache.flast.ck)),.cells (a0.veffects) (qh zk a0.feffects),.cells 0 (zo a1),.cells 0 [.str [],.ds true [] 0 true,.ds true [] 0 true,.ds true [] 0 true,.str [],.str [],.str [],.str [],.str [],.str [],.int .i64 0,.int .i64 0,.str [],.ds true [] 0 true,.ds true [] 0 true],.cells 0 (zb y6),.cells 0 [.str y9.fName,.ds true (qh zf y9.fMessages) (qg y9.fMessages) false,.ds true (qh zj y9.fEnums) (qg y9.fEnums) false,.ds true (qh zr y9.fMethods) (qg y9.fMethods) false,.str r13.1.fName,.str r13.1.fIn,.str r13.1.fOut,.str r12.1.fName,.str r12.1.fIn,.str r12.1.fOut,.int .i64 0,.int .i64 0,.str [],.ds true [] 0 true,.ds true [] 0 true]]:zi)) ?_ ?_
 · refine yz (b:=(!r12.2)) 64 rfl (fun hg64=>?_) (fun hg64=>?_)
   · refine zd tok 3 ?_;simp only[go_sem,qe,qb,qa,qc,qd,qf,reduceIte,reduceCtorEq,t5];refine zm ⟨rfl,_,_,⟨rfl,rfl⟩,.b hg64⟩
   refine zd tok 3 ?_;simp only[go_sem,qe,qb,qa,qc,qd,qf,reduceIte,reduceCtorEq,t5];refine zm ⟨rfl,_,_,⟨rfl,rfl⟩,.b hg64⟩
 rintro _ _ ⟨rfl,rfl⟩;refine nkN hK ?_;refine zY (b:=((!r12.2)||(!r13.2))) rfl (fun hc15=>?_) (fun hc15=>?_)
 · rw[if_pos hc15] at h
   refine rg tok [4,5] fun K hK=>?_
   simp only[go_sem,qe,qb,qa,qc,qd,qf,reduceIte,reduceCtorEq,za,zr,zb,yu,zh,t5];apply hK
   apply yk;cases h;simp only[ZA,yT,yY,xR,exists_eq_left',go_sem,qe,qb,qa,qc,qd,qf,reduceIte,reduceCtorEq,za,zn,zr,zb,zk,yu,zh];refine⟨by decide,by simp,?_,?_⟩
   · first|rfl|(simp only[go_sem,qe,qb,qa,qc,qd,qf,reduceIte,reduceCtorEq,push_cast,if_true,qq,ql,qt,qr,qs,qv,qy,qo,qx,qw,qn,zx,za,zn,zr,zb,zk,yu,zh]<;>rfl)
   first|rfl|(simp only[go_sem,qe,qb,qa,qc,qd,qf,reduceIte,reduceCtorEq,push_cast,if_true,qq,ql,qt,qr,qs,qv,qy,qo,qx,qw,qn,zx,za,zn,zr,zb,zk,yu,zh]<;>rfl)
 rw[Zg hc15] at h;apply zp;apply hZ14
 refine rc [4,7,8,11,12] fun K hK=>?_
 obtain⟨_u16,hu16,h⟩:=bind_some h;have gu16:=Yh hu16;have gu16t:=eq_true gu16;have f17:=conv_s2b (T:=tab) (src:=9) (dst:=48) rfl rfl rfl rfl rfl rfl (Yh hu16);obtain⟨r18,hr18,h⟩:=bind_some h;refine zd tok 8 ?_;simp only[go_sem,qe,qb,qa,qc,qd,qf,reduceIte,reduceCtorEq,zb,t5,gu16t,f17];refine X5 (L:=[(4,.op 6 0 0),(7,.op 7 0 0),(8,.op 8 0 0),(71,.agg (zb y9)),(74,.str r12.1.fIn),(77,.ds true (qh Zh a1.fBody) (qg a1.fBody) false)]) (τ:=[.cells 0 [.int .i64 a0.fself,.ds true (qh wH a0.fnumbers) (qg a0.fnumbers) false,.ds true (qh zb a0.fschemas) (qg a0.fschemas) false,.str a0.fnewest.fName,.ds true (qh zf a0.fnewest.fMessages) (qg a0.fnewest.fMessages) false,.ds true (qh zj a0.fnewest.fEnums) (qg a0.fnewest.fEnums) false,.ds true (qh zr a0.fnewest.fMethods) (qg a0.fnewest.fMethods) false,.ds true (qh yb a0.frows) (qg a0.frows) false,.op 1 0 0,.os true 8 5 (a0.veffects) 0 (qg a0.feffects) false],.cells 0 [.int .i64 a0.fcache.fsize,.os true 2 2 (a0.fcache.vorder) 0 (qg a0.fcache.forder) false,.mp 3,.mp 4],.cells (a0.fcache.vorder) (qh zn a0.fcache.forder),.map (yK zy zL a0.fcache.freplies.l) (some (a0.fcache.freplies.bs,a0.fcache.freplies.ck)),.map (yK (AV.int .i64) (AV.int .i64) a0.fcache.flast.l) (some (a0.fcache.flast.bs,a0.fcache.flast.ck)),.cells (a0.veffects) (qh zk a0.feffects),.cells 0 [.str [],.ds true [] 0 true,.ds true [] 0 true,.ds true [] 0 true,.str [],.str [],.str [],.str [],.str [],.str [],.int .i64 0,.int .i64 0,.str [],.ds true [] 0 true,.ds true [] 0 true],.cells 0 (zb y6),.cells 0 [.str y9.fName,.ds true (qh zf y9.fMessages) (qg y9.fMessages) false,.ds true (qh zj y9.fEnums) (qg y9.fEnums) false,.ds true (qh zr y9.fMethods) (qg y9.fMethods) false,.str r13.1.fName,.str r13.1.fIn,.str r13.1.fOut,.str r12.1.fName,.str r12.1.fIn,.str r12.1.fOut,.int .i64 0,.int .i64 0,.str [],.ds true [] 0 true,.ds true [] 0 true]]) (.t [0,1,2,3,4,5,7,8,9] false) ?_;refine clN rfl rfl rfl ((Xg.ok hr18).c _) ?_;refine zd tok 6 ?_;simp only[go_sem,qe,qb,qa,qc,qd,qf,reduceIte,reduceCtorEq,za,zb,zh,t5];refine nkN hK ?_
 refine ze fun Z19 hZ19=>?_
 refine rg tok [4,7,8,11,12,82] fun K hK=>?_
 simp only[go_sem,qe,qb,qa,qc,qd,qf,reduceIte,reduceCtorEq,zV,t5];apply hK
 refine yn rfl (fun hc20=>?_) (fun hc20=>?_)
 · rw[if_neg hc20] at h;have t21:=eq_false hc20
   refine rg tok [4,5] fun K hK=>?_
   simp only[go_sem,qe,qb,qa,qc,qd,qf,reduceIte,reduceCtorEq,za,zr,zb,yu,zh,t5,t21];apply hK
   apply yk;cases h;simp only[ZA,yT,yY,xR,exists_eq_left',go_sem,qe,qb,qa,qc,qd,qf,reduceIte,reduceCtorEq,za,zn,zr,zb,zk,yu,zh];refine⟨by decide,by simp,?_,?_⟩
   · first|rfl|(simp only[go_sem,qe,qb,qa,qc,qd,qf,reduceIte,reduceCtorEq,push_cast,if_true,qq,ql,qt,qr,qs,qv,qy,qo,qx,qw,qn,zx,za,zn,zr,zb,zk,yu,zh]<;>rfl)
   first|rfl|(simp only[go_sem,qe,qb,qa,qc,qd,qf,reduceIte,reduceCtorEq,push_cast,if_true,qq,ql,qt,qr,qs,qv,qy,qo,qx,qw,qn,zx,za,zn,zr,zb,zk,yu,zh]<;>rfl)
 rw[if_pos hc20] at h;have t22:=eq_true hc20;apply zp;apply hZ19
 refine rc [4,8,11,13] fun K hK=>?_
 obtain⟨r23,hr23,h⟩:=bind_some h;refine zd tok 9 ?_;simp only[go_sem,qe,qb,qa,qc,qd,qf,reduceIte,reduceCtorEq,zb,t5,t22];refine clN rfl rfl rfl ((xH.ok hr23).c _) ?_;refine zd tok 6 ?_;simp only[go_sem,qe,qb,qa,qc,qd,qf,reduceIte,reduceCtorEq,zv,zb,t5,t22];refine nkN hK ?_
 refine rc [4,8,12] fun K hK=>?_
 obtain⟨r24,hr24,h⟩:=bind_some h;refine zd tok 2 ?_;simp only[go_sem,qe,qb,qa,qc,qd,qf,reduceIte,reduceCtorEq,za,zv,zh,t5,t22];refine clN rfl rfl rfl ((Zs.ok hr24).c _) ?_;refine zd tok 6 ?_;simp only[go_sem,qe,qb,qa,qc,qd,qf,reduceIte,reduceCtorEq,za,zv,zr,zb,yu,zh,t5,t22];refine nkN hK ?_
 refine rg tok [4,5] fun K hK=>?_
 simp only[go_sem,qe,qb,qa,qc,qd,qf,reduceIte,reduceCtorEq,za,zr,zb,yu,zh,t5,t22];apply hK
 apply yk;cases h;simp only[ZA,yT,yY,xR,exists_eq_left',go_sem,qe,qb,qa,qc,qd,qf,reduceIte,reduceCtorEq,za,zn,zr,zb,zk,yu,zh];refine⟨by decide,by simp,?_,?_⟩
 · first|rfl|(simp only[go_sem,qe,qb,qa,qc,qd,qf,reduceIte,reduceCtorEq,push_cast,if_true,qq,ql,qt,qr,qs,qv,qy,qo,qx,qw,qn,zx,za,zn,zr,zb,zk,yu,zh]<;>rfl)
 first|rfl|(simp only[go_sem,qe,qb,qa,qc,qd,qf,reduceIte,reduceCtorEq,push_cast,if_true,qq,ql,qt,qr,qs,qv,qy,qo,qx,qw,qn,zx,za,zn,zr,zb,zk,yu,zh]<;>rfl)
end
section
set_option maxRecDepth 4000
set_option maxHeartbeats 1000000
open AM
def wv.j5 (a1:zq):Option Bool:=
 some (decide (a1.fKind=1))
def wv.j18 (a0:vam)(a1:zq)(x17:Bool):Option Bool:=
 (if x17=true then bnd (if a1.fKind=1 then bnd (Yu a0 a1.fN) fun r21=>r21 else false) fun c21=>some c21 else (if a0.fKind=4 then (if a1.fKind=2 then (wX a1.fS).bind fun r29=>some r29 else some false).bind fun c29=>some c29 else (if a0.fKind=5 then some (decide (a1.fKind=2)) else some (decide (a1.fKind=3)))))
def wv (a0:vam)(a1:zq):Option Bool:=
 (if a0.fKind=1 then (wv.j5 a1) else (if a0.fKind=2 then (wv.j5 a1) else (if a0.fKind=3 then (wv.j18 a0 a1 (decide (a0.fKind=3))) else (wv.j18 a0 a1 (decide (a0.fKind=6))))))
theorem wv.ok {a0 a1 r}(h:wv a0 a1=some r):ACalls qi 207 [.agg (xB a0),.agg (za a1)] [] (fun r' _=>r'=.bool r):=by
 refine zw (rs:=[.tmp 4]) tok Tryz.func207 rfl Tryz.ntmps207 rfl Tryz.call207 (by simp) ?_;refine zC [(0,.agg (xB a0)),(1,.agg (za a1))] ⟨rfl,rfl,trivial⟩ ?_;unfold wv at h
 refine rg tok [2,3] fun K hK=>?_
 simp only[go_sem,qe,qb,qa,qc,qd,qf,reduceIte,reduceCtorEq,za,zh,xB];apply hK
 refine ze fun Z1 hZ1=>?_
 refine rgN [2,3,6] ?_;apply zt
 refine ze fun Z2 hZ2=>?_
 apply zt
 refine ze fun Z3 hZ3=>?_
 apply zt
 refine ze fun Z4 hZ4=>?_
 apply zt;refine xV (fun L τ=>L=[(3,.op 0 0 0)]∧τ=([.cells 0 (za a1)]:zi)∧wv.j5 a1=some r) ?_ ?_
 · apply zt;apply zt
   refine ze fun Z7 hZ7=>?_
   refine ze fun Z8 hZ8=>?_
   refine rg tok [2,3,6,7] fun K hK=>?_
   simp only[go_sem,qe,qb,qa,qc,qd,qf,reduceIte,reduceCtorEq,zV];apply hK
   refine yn rfl (fun hc9=>?_) (fun hc9=>?_)
   · rw[if_pos hc9] at h;have t10:=eq_true hc9;apply ye;exact⟨_,_,⟨rfl,rfl,h⟩,(.t [1] false)⟩
   rw[if_neg hc9] at h;have t11:=eq_false hc9;apply zp;apply hZ8
   refine ze fun Z12 hZ12=>?_
   refine rg tok [2,3,6,9] fun K hK=>?_
   simp only[go_sem,qe,qb,qa,qc,qd,qf,reduceIte,reduceCtorEq,zV,t11];apply hK
   refine yn rfl (fun hc13=>?_) (fun hc13=>?_)
   · rw[if_pos hc13] at h;have t14:=eq_true hc13;apply ye;exact⟨_,_,⟨rfl,rfl,h⟩,(.t [1] false)⟩
   rw[if_neg hc13] at h;have t15:=eq_false hc13;apply zp;apply hZ12
   refine ze fun Z16 hZ16=>?_
   refine xV (fun L τ=>∃ (x17:Bool),L=[(2,.op 0 0 0),(3,.op 1 0 0),(6,.int .i64 a0.fKind),(11,.bool x17)]∧τ=([.cells 0 [.int .i64 a0.fKind,.str a0.fName],.cells 0 (za a1)]:zi)∧wv.j18 a0 a1 x17=some r) ?_ ?_
   · refine rg tok [2,3,6,11] fun K hK=>?_
     simp only[go_sem,qe,qb,qa,qc,qd,qf,reduceIte,reduceCtorEq,zV,t11,t15];apply hK
     refine yn rfl (fun hc38=>?_) (fun hc38=>?_)
     · rw[if_pos hc38] at h;have t39:=eq_true hc38;apply zp;exact⟨_,_,⟨decide (a0.fKind=3),rfl,rfl,h⟩,.s⟩
     rw[if_neg hc38] at h;have t40:=eq_false hc38
     refine rgE tok [2,3,6,11] fun K hK=>?_
     simp only[go_sem,qe,qb,qa,qc,qd,qf,reduceIte,reduceCtorEq,zV,t11,t15,t40];apply hK
     exact⟨_,_,⟨decide (a0.fKind=6),rfl,rfl,h⟩,.s⟩
   rintro _ _ ⟨x17,rfl,rfl,h⟩;unfold wv.j18 at h;refine zY (b:=x17) rfl (fun hc19=>?_) (fun hc19=>?_)
   · rw[if_pos hc19] at h;apply ye;apply hZ4
     refine ze fun Z20 hZ20=>?_
     refine rc [4] fun K hK=>?_
     refine zd tok 4 ?_;simp only[go_sem,qe,qb,qa,qc,qd,qf,reduceIte,reduceCtorEq,zV,t11,t15];obtain⟨c21,hc21,h⟩:=yi h;refine zI 5 (fun L τ=>L=[(29,.bool c21)]∧τ=([.cells 0 [.int .i64 a0.fKind,.str a0.fName],.cells 0 (za a1)]:zi)) ?_ ?_
     · refine wr 24 rfl (fun hg24=>?_) (fun hg24=>?_)
       · have t22:=eq_true hg24;rw[if_pos hg24] at hc21;obtain⟨r23,hr23,hc21⟩:=yi hc21;refine zd tok 3 ?_;simp only[go_sem,qe,qb,qa,qc,qd,qf,reduceIte,reduceCtorEq,xB,t11,t15];refine clN rfl rfl rfl ((Yu.ok hr23).c _) ?_;refine zd tok 1 ?_;simp only[go_sem,qe,qb,qa,qc,qd,qf,reduceIte,reduceCtorEq,xB,t11,t15];subst hc21;refine zm ⟨rfl,_,_,⟨rfl,rfl⟩,.p t22⟩
       have t24:=eq_false hg24;rw[if_neg hg24] at hc21;refine zd tok 5 ?_;simp only[go_sem,qe,qb,qa,qc,qd,qf,reduceIte,reduceCtorEq,xB,t11,t15];subst hc21;refine zm ⟨rfl,_,_,⟨rfl,rfl⟩,.p t24⟩
     rintro _ _ ⟨rfl,rfl⟩;refine zd tok 1 ?_;simp only[go_sem,qe,qb,qa,qc,qd,qf,reduceIte,reduceCtorEq,xB,t11,t15];refine nkN hK ?_;cases h;exact rtA
   rw[Zg hc19] at h;apply zp;apply hZ16
   refine ze fun Z25 hZ25=>?_
   refine rg tok [3,6,14] fun K hK=>?_
   simp only[go_sem,qe,qb,qa,qc,qd,qf,reduceIte,reduceCtorEq,zV,t11,t15];apply hK
   refine yn rfl (fun hc26=>?_) (fun hc26=>?_)
   · rw[if_pos hc26] at h;have t27:=eq_true hc26;apply ye;apply hZ3
     refine ze fun Z28 hZ28=>?_
     refine rc [4] fun K hK=>?_
     refine zd tok 4 ?_;simp only[go_sem,qe,qb,qa,qc,qd,qf,reduceIte,reduceCtorEq,zV,t11,t15,t27];obtain⟨c29,hc29,h⟩:=bind_some h;refine zI 4 (fun L τ=>L=[(37,.bool c29)]∧τ=([.cells 0 [.int .i64 a0.fKind,.str a0.fName],.cells 0 (za a1)]:zi)) ?_ ?_
     · refine wr 33 rfl (fun hg33=>?_) (fun hg33=>?_)
       · have t30:=eq_true hg33;rw[if_pos hg33] at hc29;obtain⟨r31,hr31,hc29⟩:=bind_some hc29;refine zd tok 2 ?_;simp only[go_sem,qe,qb,qa,qc,qd,qf,reduceIte,reduceCtorEq,t11,t15,t27];refine clN rfl rfl rfl ((wX.ok hr31).c _) ?_;refine zd tok 1 ?_;simp only[go_sem,qe,qb,qa,qc,qd,qf,reduceIte,reduceCtorEq,t11,t15,t27];cases hc29;refine zm ⟨rfl,_,_,⟨rfl,rfl⟩,.p t30⟩
       have t32:=eq_false hg33;rw[if_neg hg33] at hc29;refine zd tok 4 ?_;simp only[go_sem,qe,qb,qa,qc,qd,qf,reduceIte,reduceCtorEq,t11,t15,t27];cases hc29;refine zm ⟨rfl,_,_,⟨rfl,rfl⟩,.p t32⟩
     rintro _ _ ⟨rfl,rfl⟩;refine zd tok 1 ?_;simp only[go_sem,qe,qb,qa,qc,qd,qf,reduceIte,reduceCtorEq,t11,t15,t27];refine nkN hK ?_;cases h;exact rtA
   rw[if_neg hc26] at h;have t33:=eq_false hc26;apply zp;apply hZ25
   refine rg tok [3,16] fun K hK=>?_
   simp only[go_sem,qe,qb,qa,qc,qd,qf,reduceIte,reduceCtorEq,zV,t11,t15,t33];apply hK
   refine yn rfl (fun hc34=>?_) (fun hc34=>?_)
   · rw[if_pos hc34] at h;have t35:=eq_true hc34;apply ye;apply hZ2
     refine ze fun Z36 hZ36=>?_
     refine rg tok [4] fun K hK=>?_
     simp only[go_sem,qe,qb,qa,qc,qd,qf,reduceIte,reduceCtorEq,zV,t11,t15,t33,t35];apply hK
     cases h;exact rtA
   rw[if_neg hc34] at h;have t37:=eq_false hc34;apply zp;apply hZ7;apply ye;apply hZ1
   refine rg tok [4] fun K hK=>?_
   simp only[go_sem,qe,qb,qa,qc,qd,qf,reduceIte,reduceCtorEq,zV,t11,t15,t33,t37];apply hK
   cases h;exact rtA
 rintro _ _ ⟨rfl,rfl,h⟩;unfold wv.j5 at h
 refine ze fun Z6 hZ6=>?_
 refine rg tok [4] fun K hK=>?_
 simp only[go_sem,qe,qb,qa,qc,qd,qf,reduceIte,reduceCtorEq,zV];apply hK
 cases h;exact rtA
def zS.j29 (x11:Int)(l9:List zq)(rec15:Int→List zq→Option (List zq×Bool))(m3_28:zq):Option (List zq×Bool):=
 (vai (qg l9+1) 80).bind fun _u30=>(rec15 (x11+1) (l9++[m3_28]))
def zS.l15 (yj:zP→yN→zq→Option zq)(a0:zP)(a1:ZT):List zq→Int→List zq→Option (List zq×Bool)
 |[],x11,l9=>(if a1.fLabel=1 then (YN l9 0).bind fun y17=>bnd (YH y17) fun r20=>some (!r20) else some true).bind fun c17=>some (l9,c17)
 |y15::q15,x11,l9=>(if a1.fType.fKind=1 then bnd (wx y15.fN) fun r34=>(zS.j29 x11 l9 (zS.l15 yj a0 a1 q15) (⟨y15.fKind,r34,y15.fS,y15.fEntries,y15.fRest⟩:zq)) else (if a1.fType.fKind=7 then bnd (yy a0 a1.fType.fName) fun r38=>(yj a0 r38.1 y15).bind fun r39=>(zS.j29 x11 l9 (zS.l15 yj a0 a1 q15) r39) else (zS.j29 x11 l9 (zS.l15 yj a0 a1 q15) y15)))
def zS.j7 (yj:zP→yN→zq→Option zq)(a0:zP)(a1:ZT)(x6:List zq):Option (List zq×Bool):=
 (zS.l15 yj a0 a1 x6 0 ([]:List zq))
def zS.l4 (yj:zP→yN→zq→Option zq)(a0:zP)(a1:ZT)(a2:List zq):List zq→Int→Option (List zq×Bool)
 |[],x2=>(if a1.fLabel=3 then (zS.j7 yj a0 a1 a2) else (grd ((0:Int)≤IntKind.i64.wrap ((qg a2:Int)-1)∧IntKind.i64.wrap ((qg a2:Int)-1)≤(qg a2:Int)∧(qg a2:Int)≤(qg a2:Int))).bind fun _u43=>(zS.j7 yj a0 a1 (vcG a2 (IntKind.i64.wrap ((qg a2:Int)-1)) (qg a2:Int))))
 |y4::q4,x2=>(wv a1.fType y4).bind fun r50=>(if (!r50)=true then some (([]:List zq),false) else ((zS.l4 yj a0 a1 a2 q4) (x2+1)))
def zS.body (xA:zP→ZT→(List zq)→Option (List zq×Bool))(yj:zP→yN→zq→Option zq)(a0:zP)(a1:ZT)(a2:List zq):Option (List zq×Bool):=
 (zS.l4 yj a0 a1 a2 a2 0)
theorem zS.step (xA:zP→ZT→(List zq)→Option (List zq×Bool))(yj:zP→yN→zq→Option zq)(XH:∀ (a0:zP) (a1:ZT) (a2:List zq) (r:List zq×Bool),xA a0 a1 a2=some r→ACalls qi 164 [.agg (zb a0),.agg (yc a1),.ds true (qh ym a2) (qg a2) false] [] (fun r' _=>r'=.tup [.ds true (qh ym r.1) (qg r.1) false,.bool r.2]))(Y9:∀ (a0:zP) (a1:yN) (a2:zq) (r:zq),yj a0 a1 a2=some r→ACalls qi 119 [.agg (zb a0),.agg (zf a1),.agg (za a2)] [] (fun r' _=>r'=.agg (za r)))(a0:zP)(a1:ZT)(a2:List zq)(r:List zq×Bool)(h:zS.body xA yj a0 a1 a2=some r):ACalls qi 164 [.agg (zb a0),.agg (yc a1),.ds true (qh ym a2) (qg a2) false] [] (fun r' _=>r'=.tup [.ds true (qh ym r.1) (qg r.1) false,.bool r.2]):=by
 have ev_project_field:=fun a0 a1 a2 r h σ=>(XH a0 a1 a2 r h).c σ
 have ev_project_message:=fun a0 a1 a2 r h σ=>(Y9 a0 a1 a2 r h).c σ
 refine zw (rs:=[.tmp 6,.tmp 7]) tok Tryz.func164 rfl Tryz.ntmps164 rfl Tryz.call164 (by simp) ?_;refine zC [(0,.agg (zb a0)),(1,.agg (yc a1)),(2,.ds true (qh ym a2) (qg a2) false)] ⟨rfl,rfl,rfl,trivial⟩ ?_;unfold zS.body at h
 refine rg tok [2,3,4] fun K hK=>?_
 simp only[go_sem,qe,qb,qa,qc,qd,qf,reduceIte,reduceCtorEq,yc,zb,xB];apply hK
 refine ze fun Z1 hZ1=>?_
 refine rgN [2,3,4,15,16,17] ?_;apply zt
 refine xv 2 fun hb4=>?_
 replace hb4:qg a2≤9223372036854775807:=hb4.1;refine yh (fun m L τ=>∃ (p4 q4:List zq) (x2:Int),m=qg q4∧L=[(2,.ds true (qh ym a2) (qg a2) false),(3,.op 0 0 0),(4,.op 1 0 0),(15,.ds true (qh ym a2) (qg a2) false),(16,.int .i64 (qg a2:Int)),(17,.int .i64 x2)]∧τ=([.cells 0 (zb a0),.cells 0 (yc a1)]:zi)∧a2=p4++q4∧x2=(qg p4:Int)∧zS.l4 yj a0 a1 a2 q4 x2=some r) _ ⟨[],a2,0,rfl,rfl,rfl,rfl,rfl,h⟩ .s ?_;rintro m L τ ⟨p4,q4,x2,rfl,rfl,rfl,hE4,hi4,h⟩
 rcases q4 with _|⟨y4,q4⟩
 · have hz4:=xE hE4 hi4;simp only[zS.l4] at h
   refine rg tok [2,3,4,15,16,17,18] fun K hK=>?_
   simp only[go_sem,qe,qb,qa,qc,qd,qf,reduceIte,reduceCtorEq,zV,hz4];apply hK
   refine ze fun Z5 hZ5=>?_
   refine zK rfl ?_;apply ye;apply hZ1;refine xV (fun L τ=>∃ (x6:List zq),L=[(2,.ds true (qh ym x6) (qg x6) false),(3,.op 0 0 0),(4,.op 1 0 0)]∧τ=([.cells 0 (zb a0),.cells 0 (yc a1)]:zi)∧zS.j7 yj a0 a1 x6=some r) ?_ ?_
   · refine rg tok [2,3,4,29] fun K hK=>?_
     simp only[go_sem,qe,qb,qa,qc,qd,qf,reduceIte,reduceCtorEq,zV,hz4];apply hK
     refine yn rfl (fun hc41=>?_) (fun hc41=>?_)
     · rw[if_neg hc41] at h;have t42:=eq_false hc41;obtain⟨_u43,hu43,h⟩:=bind_some h;have gu43:=Yh hu43;have f44:=E38.sl_lo gu43
       refine rgE tok [2,3,4] fun K hK=>?_
       simp only[go_sem,qe,qb,qa,qc,qd,qf,reduceIte,reduceCtorEq,zV,hz4,t42,f44];apply hK
       exact⟨_,_,⟨vcG a2 (IntKind.i64.wrap ((qg a2:Int)-1)) (qg a2:Int),rfl,rfl,h⟩,.s⟩
     rw[if_pos hc41] at h;have t45:=eq_true hc41;apply zp;exact⟨_,_,⟨a2,rfl,rfl,h⟩,.s⟩
   rintro _ _ ⟨x6,rfl,rfl,h⟩;unfold zS.j7 at h
   refine rg tok [2,3,4,10] fun K hK=>?_
   simp only[go_sem,qe,qb,qa,qc,qd,qf,reduceIte,reduceCtorEq,hz4];apply hK
   refine YR 10 5 rfl ?_;refine y5 (L:=[(2,.ds true (qh ym x6) (qg x6) false),(3,.op 0 0 0),(4,.op 1 0 0),(10,.os true 5 2 0 0 (qg ([]:List zq)) false)]) (τ:=[.cells 0 (zb a0),.cells 0 (yc a1),.cells 0 (qh ym ([]:List zq))]) .s ?_
   refine ze fun Z8 hZ8=>?_
   refine rg tok [3,4,10,35,36,37] fun K hK=>?_
   simp only[go_sem,qe,qb,qa,qc,qd,qf,reduceIte,reduceCtorEq,hz4];apply hK
   apply zt
   refine xv 35 fun hb15=>?_
   replace hb15:qg x6≤9223372036854775807:=hb15.1;refine yh (fun m L τ=>∃ (p15 q15:List zq) (x11:Int) (l9:List zq) (v10:Nat),m=qg q15∧L=[(3,.op 0 0 0),(4,.op 1 0 0),(10,.os true 5 2 v10 0 (qg l9) false),(35,.ds true (qh ym x6) (qg x6) false),(36,.int .i64 (qg x6:Int)),(37,.int .i64 x11)]∧τ=([.cells 0 (zb a0),.cells 0 (yc a1),.cells v10 (qh ym l9)]:zi)∧x6=p15++q15∧x11=(qg p15:Int)∧zS.l15 yj a0 a1 q15 x11 l9=some r) _ ⟨[],x6,0,([]:List zq),0,rfl,rfl,rfl,rfl,rfl,h⟩ .s ?_;rintro m L τ ⟨p15,q15,x11,l9,v10,rfl,rfl,rfl,hE15,hi15,h⟩
   rcases q15 with _|⟨y15,q15⟩
   · have hz15:=xE hE15 hi15;simp only[zS.l15] at h
     refine rg tok [3,4,10,35,36,37,38] fun K hK=>?_
     simp only[go_sem,qe,qb,qa,qc,qd,qf,reduceIte,reduceCtorEq,zV,hz4,hz15];apply hK
     refine ze fun Z16 hZ16=>?_
     refine zK rfl ?_;apply ye;apply hZ8
     refine rc [6,7] fun K hK=>?_
     refine zd tok 5 ?_;simp only[go_sem,qe,qb,qa,qc,qd,qf,reduceIte,reduceCtorEq,zV,hz4,hz15];obtain⟨c17,hc17,h⟩:=bind_some h;refine zI 6 (fun L τ=>L=[(69,.os true 5 2 v10 0 (qg l9) false),(79,.bool c17)]∧τ=([.cells 0 (zb a0),.cells 0 (yc a1),.cells v10 (qh ym l9)]:zi)) ?_ ?_
     · refine wr 73 rfl (fun hg73=>?_) (fun hg73=>?_)
       · have t18:=eq_false hg73;rw[if_neg hg73] at hc17;refine zd tok 6 ?_;simp only[go_sem,qe,qb,qa,qc,qd,qf,reduceIte,reduceCtorEq,za,zh,hz4,hz15];cases hc17;refine zm ⟨rfl,_,_,⟨rfl,rfl⟩,.p t18⟩
       have t19:=eq_true hg73;rw[if_pos hg73] at hc17;obtain⟨y20,hy20,hc17⟩:=bind_some hc17;have f21:=E38.idxO hy20;have f22:=E38.rdO hy20;obtain⟨r23,hr23,hc17⟩:=yi hc17;refine zd tok 3 ?_;simp only[go_sem,qe,qb,qa,qc,qd,qf,reduceIte,reduceCtorEq,za,zh,hz4,hz15,f21,f22];refine clN rfl rfl rfl ((YH.ok hr23).c _) ?_;refine zd tok 2 ?_;simp only[go_sem,qe,qb,qa,qc,qd,qf,reduceIte,reduceCtorEq,za,zh,hz4,hz15];cases hc17;refine zm ⟨rfl,_,_,⟨rfl,rfl⟩,.p t19⟩
     rintro _ _ ⟨rfl,rfl⟩;refine zd tok 2 ?_;simp only[go_sem,qe,qb,qa,qc,qd,qf,reduceIte,reduceCtorEq,za,zh,hz4,hz15];refine nkN hK ?_;cases h;exact rtA
   obtain⟨hz15,hw15,hx15,hE'15,hi'15⟩:=yZ hE15 hi15 hb15;simp only[zS.l15] at h
   refine rg tok [3,4,10,35,36,37,38] fun K hK=>?_
   simp only[go_sem,qe,qb,qa,qc,qd,qf,reduceIte,reduceCtorEq,zV,hz4,hz15,hw15];apply hK
   refine ze fun Z24 hZ24=>?_
   refine zQ rfl ?_;apply zp;apply hZ24
   refine ze fun Z25 hZ25=>?_
   apply zt;have f26:=E38.idxS hx15;have f27:=E38.loadS rfl rfl hx15
   refine rg tok [3,4,10,12,35,36,37] fun K hK=>?_
   simp only[go_sem,qe,qb,qa,qc,qd,qf,reduceIte,reduceCtorEq,za,zh,hz4,hz15,hw15,f26,f27];apply hK
   refine xV (fun L τ=>∃ (m3_28:zq),L=[(3,.op 0 0 0),(4,.op 1 0 0),(10,.os true 5 2 v10 0 (qg l9) false),(12,.op 3 0 0),(35,.ds true (qh ym x6) (qg x6) false),(36,.int .i64 (qg x6:Int)),(37,.int .i64 x11)]∧τ=([.cells 0 (zb a0),.cells 0 (yc a1),.cells v10 (qh ym l9),.cells 0 (za m3_28)]:zi)∧zS.j29 x11 l9 (zS.l15 yj a0 a1 q15) m3_28=some r) ?_ ?_
   · refine rg tok [3,4,10,12,35,36,37,43] fun K hK=>?_
     simp only[go_sem,qe,qb,qa,qc,qd,qf,reduceIte,reduceCtorEq,hz4,hz15,hw15];apply hK
     apply zt
     refine rg tok [3,4,10,12,35,36,37,43,44] fun K hK=>?_
     simp only[go_sem,qe,qb,qa,qc,qd,qf,reduceIte,reduceCtorEq,zV,hz4,hz15,hw15];apply hK
     refine yn rfl (fun hc32=>?_) (fun hc32=>?_)
     · rw[if_pos hc32] at h;have t33:=eq_true hc32
       refine rcE [3,4,10,12,35,36,37] fun K hK=>?_
       obtain⟨r34,hr34,h⟩:=yi h;refine zd tok 2 ?_;simp only[go_sem,qe,qb,qa,qc,qd,qf,reduceIte,reduceCtorEq,hz4,hz15,hw15,t33];refine clN rfl rfl rfl ((wx.ok hr34).c _) ?_;refine zd tok 2 ?_;simp only[go_sem,qe,qb,qa,qc,qd,qf,reduceIte,reduceCtorEq,za,zh,hz4,hz15,hw15,t33];refine nkN hK ?_;exact⟨_,_,⟨(⟨y15.fKind,r34,y15.fS,y15.fEntries,y15.fRest⟩:zq),rfl,rfl,h⟩,.s⟩
     rw[if_neg hc32] at h;have t35:=eq_false hc32
     refine rg tok [3,4,10,12,35,36,37,50] fun K hK=>?_
     simp only[go_sem,qe,qb,qa,qc,qd,qf,reduceIte,reduceCtorEq,zV,hz4,hz15,hw15,t35];apply hK
     refine yn rfl (fun hc36=>?_) (fun hc36=>?_)
     · rw[if_pos hc36] at h;have t37:=eq_true hc36
       refine rc [3,4,10,12,13,35,36,37] fun K hK=>?_
       obtain⟨r38,hr38,h⟩:=yi h;refine zd tok 4 ?_;simp only[go_sem,qe,qb,qa,qc,qd,qf,reduceIte,reduceCtorEq,zb,hz4,hz15,hw15,t35,t37];refine clN rfl rfl rfl ((yy.ok hr38).c _) ?_;refine zd tok 6 ?_;simp only[go_sem,qe,qb,qa,qc,qd,qf,reduceIte,reduceCtorEq,zf,zb,hz4,hz15,hw15,t35,t37];refine nkN hK ?_
       refine rcE [3,4,10,12,35,36,37] fun K hK=>?_
       obtain⟨r39,hr39,h⟩:=bind_some h;refine zd tok 3 ?_;simp only[go_sem,qe,qb,qa,qc,qd,qf,reduceIte,reduceCtorEq,za,zf,zb,zh,hz4,hz15,hw15,t35,t37];refine clN rfl rfl rfl (ev_project_message a0 r38.1 y15 r39 hr39 _) ?_;refine zd tok 1 ?_;simp only[go_sem,qe,qb,qa,qc,qd,qf,reduceIte,reduceCtorEq,za,zf,zb,zh,hz4,hz15,hw15,t35,t37];refine nkN hK ?_;exact⟨_,_,⟨r39,rfl,rfl,h⟩,(.t [0,1,2,3] false)⟩
     rw[if_neg hc36] at h;have t40:=eq_false hc36;apply zp;exact⟨_,_,⟨y15,rfl,rfl,h⟩,.s⟩
   rintro _ _ ⟨m3_28,rfl,rfl,h⟩;unfold zS.j29 at h;obtain⟨_u30,hu30,h⟩:=bind_some h;have gu30:=xh hu30;have f31:=(zX E38.len l9)
   refine rgE tok [3,4,10,35,36,37] fun K hK=>?_
   simp only[go_sem,qe,qb,qa,qc,qd,qf,reduceIte,reduceCtorEq,zU,yA,qY,qN,qW,true_and,q1,yR,yp,yU,za,zh,hz4,hz15,hw15,gu30,f31,yP,qV,qS,AV.one,qJ,qo,gt_iff_lt,zW,qD,qC,qG,qB,qE,qk,qp,qz,ql,qu,qF];apply hK
   apply hZ25
   refine rgE tok [3,4,10,35,36,37] fun K hK=>?_
   simp only[go_sem,qe,qb,qa,qc,qd,qf,reduceIte,reduceCtorEq,zV,hz4,hz15,hw15];apply hK
   exact⟨_,_,_,qH q15.length,⟨p15++[y15],q15,x11+1,l9++[m3_28],v10+1,rfl,rfl,rfl,hE'15,hi'15,h⟩,(.t [0,1,2] false)⟩
 obtain⟨hz4,hw4,hx4,hE'4,hi'4⟩:=yZ hE4 hi4 hb4;simp only[zS.l4] at h
 refine rg tok [2,3,4,15,16,17,18] fun K hK=>?_
 simp only[go_sem,qe,qb,qa,qc,qd,qf,reduceIte,reduceCtorEq,zV,hz4,hw4];apply hK
 refine ze fun Z46 hZ46=>?_
 refine zQ rfl ?_;apply zp;apply hZ46
 refine ze fun Z47 hZ47=>?_
 apply zt;have f48:=E38.idxS hx4;have f49:=E38.loadS rfl rfl hx4
 refine rg tok [2,3,4,9,15,16,17] fun K hK=>?_
 simp only[go_sem,qe,qb,qa,qc,qd,qf,reduceIte,reduceCtorEq,za,zh,hz4,hw4,f48,f49];apply hK
 refine rc [2,3,4,15,16,17,25] fun K hK=>?_
 obtain⟨r50,hr50,h⟩:=bind_some h;refine zd tok 3 ?_;simp only[go_sem,qe,qb,qa,qc,qd,qf,reduceIte,reduceCtorEq,za,zh,xB,hz4,hw4];refine clN rfl rfl rfl ((wv.ok hr50).c _) ?_;refine zd tok 1 ?_;simp only[go_sem,qe,qb,qa,qc,qd,qf,reduceIte,reduceCtorEq,za,zh,xB,hz4,hw4];refine nkN hK ?_;refine zY (b:=(!r50)) rfl (fun hc51=>?_) (fun hc51=>?_)
 · rw[if_pos hc51] at h
   refine rg tok [6,7] fun K hK=>?_
   simp only[go_sem,qe,qb,qa,qc,qd,qf,reduceIte,reduceCtorEq,hz4,hw4];apply hK
   cases h;exact rtA
 rw[Zg hc51] at h;apply zp;apply hZ47
 refine rgE tok [2,3,4,15,16,17] fun K hK=>?_
 simp only[go_sem,qe,qb,qa,qc,qd,qf,reduceIte,reduceCtorEq,zV,hz4,hw4];apply hK
 exact⟨_,_,_,qH q4.length,⟨p4++[y4],q4,x2+1,rfl,rfl,rfl,hE'4,hi'4,h⟩,(.t [0,1] false)⟩
def z7.j13 (x4:Int)(rec8:Int→List zA→Option zq)(l11:List zA):Option zq:=
 (rec8 (x4+1) l11)
def z7.l8 (xA:zP→ZT→(List zq)→Option (List zq×Bool))(a0:zP)(a1:yN):List zA→Int→List zA→Option zq
 |[],x4,l2=>some (⟨3,0,[],l2,([]:List yo)⟩:zq)
 |y8::q8,x4,l2=>bnd (wy a1 y8.fTag) fun r16=>(if (!r16.2)=true then (z7.j13 x4 (z7.l8 xA a0 a1 q8) l2) else (xA a0 r16.1 y8.fTrees).bind fun r19=>(if r19.2=true then (vai (qg l2+1) 32).bind fun _u21=>(z7.j13 x4 (z7.l8 xA a0 a1 q8) (l2++[(⟨y8.fTag,r19.1⟩:zA)])) else (z7.j13 x4 (z7.l8 xA a0 a1 q8) l2)))
def z7.body (xA:zP→ZT→(List zq)→Option (List zq×Bool))(yj:zP→yN→zq→Option zq)(a0:zP)(a1:yN)(a2:zq):Option zq:=
 (z7.l8 xA a0 a1 a2.fEntries 0 ([]:List zA))
theorem z7.step (xA:zP→ZT→(List zq)→Option (List zq×Bool))(yj:zP→yN→zq→Option zq)(XH:∀ (a0:zP) (a1:ZT) (a2:List zq) (r:List zq×Bool),xA a0 a1 a2=some r→ACalls qi 164 [.agg (zb a0),.agg (yc a1),.ds true (qh ym a2) (qg a2) false] [] (fun r' _=>r'=.tup [.ds true (qh ym r.1) (qg r.1) false,.bool r.2]))(Y9:∀ (a0:zP) (a1:yN) (a2:zq) (r:zq),yj a0 a1 a2=some r→ACalls qi 119 [.agg (zb a0),.agg (zf a1),.agg (za a2)] [] (fun r' _=>r'=.agg (za r)))(a0:zP)(a1:yN)(a2:zq)(r:zq)(h:z7.body xA yj a0 a1 a2=some r):ACalls qi 119 [.agg (zb a0),.agg (zf a1),.agg (za a2)] [] (fun r' _=>r'=.agg (za r)):=by
 have ev_project_field:=fun a0 a1 a2 r h σ=>(XH a0 a1 a2 r h).c σ
 have ev_project_message:=fun a0 a1 a2 r h σ=>(Y9 a0 a1 a2 r h).c σ
 refine zw (rs:=[.cell 6 37]) tok Tryz.func119 rfl Tryz.ntmps119 rfl Tryz.call119 (by simp) ?_;refine zC [(0,.agg (zb a0)),(1,.agg (zf a1)),(2,.agg (za a2))] ⟨rfl,rfl,rfl,trivial⟩ ?_;unfold z7.body at h
 refine rg tok [3,4,5,6] fun K hK=>?_
 simp only[go_sem,qe,qb,qa,qc,qd,qf,reduceIte,reduceCtorEq,za,zf,zb,zh];apply hK
 refine rg tok [3,4,5,6,7] fun K hK=>?_
 simp only[go_sem,qe,qb,qa,qc,qd,qf,reduceIte,reduceCtorEq,za,zh];apply hK
 refine ZG 4 3 2 rfl (by simp) rfl (L:=[(3,.op 0 0 0),(4,.op 1 0 0),(5,.op 2 0 0),(6,.op 3 0 0),(7,.op 4 0 0)]) (τ:=[.cells 0 (zb a0),.cells 0 (zf a1),.cells 0 (za a2),.cells 0 [.int .i64 0,.int .i64 0,.str [],.ds true [] 0 true,.ds true [] 0 true],.cells 0 [.int .i64 3,.int .i64 0,.str [],.os true 2 5 0 0 (qg ([]:List zA)) false,.ds true [] 0 true],.cells 0 (qh zz ([]:List zA))]) .s ?_
 refine ze fun Z1 hZ1=>?_
 refine rgN [3,4,6,7,16,17,18] ?_;apply zt
 refine xv 16 fun hb8=>?_
 replace hb8:qg a2.fEntries≤9223372036854775807:=hb8.1;refine yh (fun m L τ=>∃ (p8 q8:List zA) (x4:Int) (l2:List zA) (v3:Nat),m=qg q8∧L=[(3,.op 0 0 0),(4,.op 1 0 0),(6,.op 2 0 0),(7,.op 3 0 0),(16,.ds true (qh zz a2.fEntries) (qg a2.fEntries) false),(17,.int .i64 (qg a2.fEntries:Int)),(18,.int .i64 x4)]∧τ=([.cells 0 (zb a0),.cells 0 (zf a1),.cells 0 [.int .i64 0,.int .i64 0,.str [],.ds true [] 0 true,.ds true [] 0 true],.cells 0 [.int .i64 3,.int .i64 0,.str [],.os true 2 4 v3 0 (qg l2) false,.ds true [] 0 true],.cells v3 (qh zz l2)]:zi)∧a2.fEntries=p8++q8∧x4=(qg p8:Int)∧z7.l8 xA a0 a1 q8 x4 l2=some r) _ ⟨[],a2.fEntries,0,([]:List zA),0,rfl,rfl,rfl,rfl,rfl,h⟩ (.t [0,1,3,4,5] false) ?_;rintro m L τ ⟨p8,q8,x4,l2,v3,rfl,rfl,rfl,hE8,hi8,h⟩
 rcases q8 with _|⟨y8,q8⟩
 · have hz8:=xE hE8 hi8;simp only[z7.l8] at h
   refine rg tok [3,4,6,7,16,17,18,19] fun K hK=>?_
   simp only[go_sem,qe,qb,qa,qc,qd,qf,reduceIte,reduceCtorEq,zV,hz8];apply hK
   refine ze fun Z9 hZ9=>?_
   refine zK rfl ?_;apply ye;apply hZ1
   refine rg tok [6] fun K hK=>?_
   simp only[go_sem,qe,qb,qa,qc,qd,qf,reduceIte,reduceCtorEq,za,zh,hz8];apply hK
   cases h;exact rtA
 obtain⟨hz8,hw8,hx8,hE'8,hi'8⟩:=yZ hE8 hi8 hb8;simp only[z7.l8] at h
 refine rg tok [3,4,6,7,16,17,18,19] fun K hK=>?_
 simp only[go_sem,qe,qb,qa,qc,qd,qf,reduceIte,reduceCtorEq,zV,hz8,hw8];apply hK
 refine ze fun Z10 hZ10=>?_
 refine zQ rfl ?_;apply zp;apply hZ10;refine xV (fun L τ=>∃ (l11:List zA) (v12:Nat),L=[(3,.op 0 0 0),(4,.op 1 0 0),(6,.op 2 0 0),(7,.op 3 0 0),(16,.ds true (qh zz a2.fEntries) (qg a2.fEntries) false),(17,.int .i64 (qg a2.fEntries:Int)),(18,.int .i64 x4)]∧τ=([.cells 0 (zb a0),.cells 0 (zf a1),.cells 0 [.int .i64 0,.int .i64 0,.str [],.ds true [] 0 true,.ds true [] 0 true],.cells 0 [.int .i64 3,.int .i64 0,.str [],.os true 2 4 v12 0 (qg l11) false,.ds true [] 0 true],.cells v12 (qh zz l11)]:zi)∧z7.j13 x4 (z7.l8 xA a0 a1 q8) l11=some r) ?_ ?_
 · apply zt;have f14:=E34.idxS hx8;have f15:=E34.loadS rfl rfl hx8
   refine rg tok [3,4,6,7,9,16,17,18] fun K hK=>?_
   simp only[go_sem,qe,qb,qa,qc,qd,qf,reduceIte,reduceCtorEq,zF,z8,hz8,hw8,f14,f15];apply hK
   refine rc [3,4,6,7,9,10,11,16,17,18] fun K hK=>?_
   obtain⟨r16,hr16,h⟩:=yi h;refine zd tok 3 ?_;simp only[go_sem,qe,qb,qa,qc,qd,qf,reduceIte,reduceCtorEq,zf,hz8,hw8];refine clN rfl rfl rfl ((wy.ok hr16).c _) ?_;refine zd tok 6 ?_;simp only[go_sem,qe,qb,qa,qc,qd,qf,reduceIte,reduceCtorEq,yc,zf,xB,hz8,hw8];refine nkN hK ?_
   refine ze fun Z17 hZ17=>?_
   refine rg tok [3,4,6,7,9,10,16,17,18,30] fun K hK=>?_
   simp only[go_sem,qe,qb,qa,qc,qd,qf,reduceIte,reduceCtorEq,hz8,hw8];apply hK
   refine zY (b:=(!r16.2)) rfl (fun hc18=>?_) (fun hc18=>?_)
   · rw[if_pos hc18] at h;apply ye;exact⟨_,_,⟨l2,v3,rfl,rfl,h⟩,(.t [0,1,2,3,4] false)⟩
   rw[Zg hc18] at h;apply zp;apply hZ17
   refine rc [3,4,6,7,9,12,13,16,17,18] fun K hK=>?_
   obtain⟨r19,hr19,h⟩:=bind_some h;refine zd tok 4 ?_;simp only[go_sem,qe,qb,qa,qc,qd,qf,reduceIte,reduceCtorEq,yc,zb,xB,hz8,hw8];refine clN rfl rfl rfl (ev_project_field a0 r16.1 y8.fTrees r19 hr19 _) ?_;refine zd tok 5 ?_;simp only[go_sem,qe,qb,qa,qc,qd,qf,reduceIte,reduceCtorEq,yc,zb,xB,hz8,hw8];refine nkN hK ?_
   refine rg tok [3,4,6,7,9,12,16,17,18,39] fun K hK=>?_
   simp only[go_sem,qe,qb,qa,qc,qd,qf,reduceIte,reduceCtorEq,hz8,hw8];apply hK
   refine zY (b:=r19.2) rfl (fun hc20=>?_) (fun hc20=>?_)
   · rw[if_pos hc20] at h;obtain⟨_u21,hu21,h⟩:=bind_some h;have gu21:=xh hu21;have f22:=(zX E34.len l2)
     refine rgE tok [3,4,6,7,16,17,18] fun K hK=>?_
     simp only[go_sem,qe,qb,qa,qc,qd,qf,reduceIte,reduceCtorEq,zU,yA,qY,qN,qW,true_and,q1,yR,yp,yU,zF,za,z8,zh,hz8,hw8,gu21,f22,yP,qV,qS,AV.one,qJ,qo,gt_iff_lt,zW,qD,qC,qG,qB,qE,qk,qp,qz,ql,qu,qF];apply hK
     exact⟨_,_,⟨l2++[(⟨y8.fTag,r19.1⟩:zA)],v3+1,rfl,rfl,h⟩,(.t [0,1,2,3,4] false)⟩
   rw[Zg hc20] at h;apply zp;exact⟨_,_,⟨l2,v3,rfl,rfl,h⟩,(.t [0,1,2,3,4] false)⟩
 rintro _ _ ⟨l11,v12,rfl,rfl,h⟩;unfold z7.j13 at h
 refine rgE tok [3,4,6,7,16,17,18] fun K hK=>?_
 simp only[go_sem,qe,qb,qa,qc,qd,qf,reduceIte,reduceCtorEq,zV,hz8,hw8];apply hK
 exact⟨_,_,_,qH q8.length,⟨p8++[y8],q8,x4+1,l11,v12,rfl,rfl,rfl,hE'8,hi'8,h⟩,.s⟩
mutual
def zS : Nat→zP→ZT→(List zq)→Option (List zq×Bool)
 |0,_,_,_=>none
 |k+1,a0,a1,a2=>zS.body (zS k) (z7 k) a0 a1 a2
def z7 : Nat→zP→yN→zq→Option zq
 |0,_,_,_=>none
 |k+1,a0,a1,a2=>z7.body (zS k) (z7 k) a0 a1 a2
end
theorem zS.all (k:Nat):(∀ (a0:zP) (a1:ZT) (a2:List zq) (r:List zq×Bool),zS k a0 a1 a2=some r→ACalls qi 164 [.agg (zb a0),.agg (yc a1),.ds true (qh ym a2) (qg a2) false] [] (fun r' _=>r'=.tup [.ds true (qh ym r.1) (qg r.1) false,.bool r.2]))∧(∀ (a0:zP) (a1:yN) (a2:zq) (r:zq),z7 k a0 a1 a2=some r→ACalls qi 119 [.agg (zb a0),.agg (zf a1),.agg (za a2)] [] (fun r' _=>r'=.agg (za r))):=by
 induction k with
 |zero=>exact⟨(fun a0 a1 a2 r h=>by simp only[zS] at h; cases h),(fun a0 a1 a2 r h=>by simp only[z7] at h; cases h)⟩
 |succ k ih=>exact⟨(fun a0 a1 a2 r h=>zS.step _ _ ih.1 ih.2 a0 a1 a2 r (by simpa only [zS] using h)),(fun a0 a1 a2 r h=>z7.step _ _ ih.1 ih.2 a0 a1 a2 r (by simpa only [z7] using h))⟩
theorem z7.ev (k:Nat)(a0:zP)(a1:yN)(a2:zq)(r:zq)(h:z7 k a0 a1 a2=some r)(σ:zi):ACalls qi 119 [.agg (zb a0),.agg (zf a1),.agg (za a2)] σ (fun r' σ'=>r'=.agg (za r)∧σ'=σ):=
 ((zS.all k).2 a0 a1 a2 r h).c σ
def wC (a0:zP)(a1:List UInt8)(a2:zq):Option (zq×Bool):=
 bnd (yy a0 a1) fun r1=>(if (!r1.2)=true then some true else (yO a0).bind fun r3=>some (!(decide (r3=0)))).bind fun c3=>(if (c3||(!(decide (a2.fKind=3))))=true then some true else (Ya a2).bind fun r5=>some (!r5)).bind fun c5=>(if c5=true then some ((⟨0,0,[],([]:List zA),([]:List yo)⟩:zq),false) else (z7 xG a0 r1.1 a2).bind fun r8=>some (r8,true))
theorem wC.ok {a0 a1 a2 r}(h:wC a0 a1 a2=some r):ACalls qi 79 [.agg (zb a0),.str a1,.agg (za a2)] [] (fun r' _=>r'=.tup [.agg (za r.1),.bool r.2]):=by
 refine zw (rs:=[.cell 6 37,.tmp 7]) tok Tryz.func79 rfl Tryz.ntmps79 rfl Tryz.call79 (by simp) ?_;refine zC [(0,.agg (zb a0)),(1,.str a1),(2,.agg (za a2))] ⟨rfl,rfl,rfl,trivial⟩ ?_;unfold wC at h
 refine rg tok [1,3,5,6] fun K hK=>?_
 simp only[go_sem,qe,qb,qa,qc,qd,qf,reduceIte,reduceCtorEq,za,zb,zh];apply hK
 refine rc [3,5,6,8,9] fun K hK=>?_
 obtain⟨r1,hr1,h⟩:=yi h;refine zd tok 2 ?_;simp only[go_sem,qe,qb,qa,qc,qd,qf,reduceIte,reduceCtorEq,zb];refine clN rfl rfl rfl ((yy.ok hr1).c _) ?_;refine zd tok 6 ?_;simp only[go_sem,qe,qb,qa,qc,qd,qf,reduceIte,reduceCtorEq,zf,zb];refine nkN hK ?_
 refine ze fun Z2 hZ2=>?_
 refine rc [3,5,6,8,32] fun K hK=>?_
 refine rnN 3 ?_;obtain⟨c3,hc3,h⟩:=bind_some h;refine zI 4 (fun L τ=>L=[(3,.op 0 0 0),(5,.op 1 0 0),(6,.op 2 0 0),(8,.op 3 0 0),(22,.bool c3)]∧τ=([.cells 0 (zb a0),.cells 0 (za a2),.cells 0 [.int .i64 0,.int .i64 0,.str [],.ds true [] 0 true,.ds true [] 0 true],.cells 0 (zf r1.1)]:zi)) ?_ ?_
 · refine yz (b:=(!r1.2)) 18 rfl (fun hg18=>?_) (fun hg18=>?_)
   · rw[if_pos hg18] at hc3;refine zd tok 4 ?_;simp only[go_sem,qe,qb,qa,qc,qd,qf,reduceIte,reduceCtorEq,zV,zb];cases hc3;refine zm ⟨rfl,_,_,⟨rfl,rfl⟩,.b hg18⟩
   rw[Zg hg18] at hc3;obtain⟨r4,hr4,hc3⟩:=bind_some hc3;refine zd tok 1 ?_;simp only[go_sem,qe,qb,qa,qc,qd,qf,reduceIte,reduceCtorEq,zb];refine clN rfl rfl rfl ((yO.ok hr4).c _) ?_;refine zd tok 2 ?_;simp only[go_sem,qe,qb,qa,qc,qd,qf,reduceIte,reduceCtorEq,zV,zb];cases hc3;refine zm ⟨rfl,_,_,⟨rfl,rfl⟩,.b hg18⟩
 rintro _ _ ⟨rfl,rfl⟩;refine zd tok 1 ?_;simp only[go_sem,qe,qb,qa,qc,qd,qf,reduceIte,reduceCtorEq,zb];refine zI 4 (fun L τ=>L=[(3,.op 0 0 0),(5,.op 1 0 0),(6,.op 2 0 0),(8,.op 3 0 0),(27,.bool (c3||(!(decide (a2.fKind=3)))))]∧τ=([.cells 0 (zb a0),.cells 0 (za a2),.cells 0 [.int .i64 0,.int .i64 0,.str [],.ds true [] 0 true,.ds true [] 0 true],.cells 0 (zf r1.1)]:zi)) ?_ ?_
 · refine yz (b:=c3) 23 rfl (fun hg23=>?_) (fun hg23=>?_)
   · refine zd tok 4 ?_;simp only[go_sem,qe,qb,qa,qc,qd,qf,reduceIte,reduceCtorEq,zV,zb];refine zm ⟨rfl,_,_,⟨rfl,rfl⟩,.b hg23⟩
   refine zd tok 4 ?_;simp only[go_sem,qe,qb,qa,qc,qd,qf,reduceIte,reduceCtorEq,zV,zb];refine zm ⟨rfl,_,_,⟨rfl,rfl⟩,.b hg23⟩
 rintro _ _ ⟨rfl,rfl⟩;refine zd tok 1 ?_;simp only[go_sem,qe,qb,qa,qc,qd,qf,reduceIte,reduceCtorEq,zb];obtain⟨c5,hc5,h⟩:=bind_some h;refine zI 4 (fun L τ=>L=[(3,.op 0 0 0),(5,.op 1 0 0),(6,.op 2 0 0),(8,.op 3 0 0),(32,.bool c5)]∧τ=([.cells 0 (zb a0),.cells 0 (za a2),.cells 0 [.int .i64 0,.int .i64 0,.str [],.ds true [] 0 true,.ds true [] 0 true],.cells 0 (zf r1.1)]:zi)) ?_ ?_
 · refine yz (b:=(c3||(!(decide (a2.fKind=3))))) 28 rfl (fun hg28=>?_) (fun hg28=>?_)
   · rw[if_pos hg28] at hc5;refine zd tok 4 ?_;simp only[go_sem,qe,qb,qa,qc,qd,qf,reduceIte,reduceCtorEq,za,zb,zh];cases hc5;refine zm ⟨rfl,_,_,⟨rfl,rfl⟩,.b hg28⟩
   rw[Zg hg28] at hc5;obtain⟨r6,hr6,hc5⟩:=bind_some hc5;refine zd tok 1 ?_;simp only[go_sem,qe,qb,qa,qc,qd,qf,reduceIte,reduceCtorEq,za,zb,zh];refine clN rfl rfl rfl ((Ya.ok hr6).c _) ?_;refine zd tok 2 ?_;simp only[go_sem,qe,qb,qa,qc,qd,qf,reduceIte,reduceCtorEq,za,zb,zh];cases hc5;refine zm ⟨rfl,_,_,⟨rfl,rfl⟩,.b hg28⟩
 rintro _ _ ⟨rfl,rfl⟩;refine nkN hK ?_;refine zY (b:=c5) rfl (fun hc7=>?_) (fun hc7=>?_)
 · rw[if_pos hc7] at h
   refine rg tok [6,7] fun K hK=>?_
   simp only[go_sem,qe,qb,qa,qc,qd,qf,reduceIte,reduceCtorEq,za,zh];apply hK
   cases h;exact rtA
 rw[Zg hc7] at h;apply zp;apply hZ2
 refine rc [6,7] fun K hK=>?_
 obtain⟨r8,hr8,h⟩:=bind_some h;refine zd tok 3 ?_;simp only[go_sem,qe,qb,qa,qc,qd,qf,reduceIte,reduceCtorEq,za,zf,zb,zh];refine clN rfl rfl rfl (z7.ev xG a0 r1.1 a2 r8 hr8 _) ?_;refine zd tok 2 ?_;simp only[go_sem,qe,qb,qa,qc,qd,qf,reduceIte,reduceCtorEq,za,zf,zb,zh];refine nkN hK ?_;cases h;exact rtA
end
end Go.Proofs.YtaahlckibpiphaaGreatDoor
