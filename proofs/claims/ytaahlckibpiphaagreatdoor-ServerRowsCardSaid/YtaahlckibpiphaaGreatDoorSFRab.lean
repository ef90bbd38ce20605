/- Parts of the proof, cut down to what it needs. -/
import Derived.Test.YtaahlckibpiphaaGreatDoorSFR
import Derived.Test.YtaahlckibpiphaaGreatDoorSFRa
set_option linter.constructorNameAsVariable false
set_option linter.unusedSimpArgs false
set_option linter.unusedVariables false
namespace Go.Proofs.YtaahlckibpiphaaGreatDoor
open _root_.List renaming length → qa, flatMap → qc, length_append → qk, length_cons → ql, map_nil → qn, map_cons → qq, length_nil → qr, append_assoc → qx, drop_zero → qz, mem_cons_self → qA, nil_append → qD, append_nil → qE, map_append → qF, cons_append → qH, range_zero → qQ, length_singleton → qS, flatMap_cons → qU, flatMap_append → qX, range_succ → qZ, all_cons → q9, all_nil → uc, flatMap_nil → uf, take_length → uj, eq_nil_of_length_eq_zero → ul, range → uD, filter_cons → uH, toList_toArray → ve

open _root_.Nat renaming reduceEqDiff → qb, reduceLT → qd, reduceAdd → qe, reduceLeDiff → qf, reduceMul → qj, reduceSub → qm, zero_add → qo, le_refl → qw, lt_succ_self → qy, reduceMod → ue, zero_le → uu, zero_mul → uw, add_zero → uP, add_assoc → vj
open _root_.Bool renaming or_true → qs, not_false → qt, not_true → qu, and_false → qv, and_true → qI, or_false → qK, and_self → qM, true_and → um, true_or → uA, false_or → uC, false_and → uY
open _root_.Int renaming toNat → qO

open _root_.Array renaming toList_map → vo
open _root_.UInt8 renaming ofNat → ub


open _root_.Go.Proofs.Tryz renaming prog → qg
section
set_option maxRecDepth 4000
set_option maxHeartbeats 1000000
open AM
def wZ.l4 (a0:List yc):Nat→Int→Option Bool
 |0,_=>none
 |k4+1,x2=>(if x2<(qa a0:Int) then (Yz a0 x2).bind fun y9=>(Yz a0 (IntKind.i64.wrap (x2-1))).bind fun y12=>(if y9.fTag<y12.fTag then some false else ((wZ.l4 a0 k4) (IntKind.i64.wrap (x2+1)))) else some true)
def wZ (a0:List yc):Option Bool:=
 (wZ.l4 a0 xo 1)
theorem wZ.ok {a0 r}(h:wZ a0=some r):ACalls qg 201 [.ds true (qc zs a0) (qa a0) false] [] (fun r' _=>r'=.bool r):=by
 refine zt (rs:=[.tmp 2]) U Tryz.func201 rfl Tryz.ntmps201 rfl Tryz.call201 (by simp) ?_;refine zA [(0,.ds true (qc zs a0) (qa a0) false)] ⟨rfl,trivial⟩ ?_;unfold wZ at h;refine D [0] ?_
 refine za fun Z1 hZ1=>?_
 refine D [0,3] ?_;apply zn;refine yh (fun m L τ=>∃ (k4:Nat) (x2:Int),m=0+k4∧L=[(0,.ds true (qc zs a0) (qa a0) false),(3,.int .i64 x2)]∧τ=([]:ze)∧wZ.l4 a0 k4 x2=some r) _ ⟨xo,1,rfl,rfl,rfl,h⟩ .s ?_;rintro m L τ ⟨k4,x2,rfl,rfl,rfl,h⟩
 rcases k4 with _|k4
 · cases h
 simp only[wZ.l4] at h
 refine za fun Z5 hZ5=>?_
 refine D [0,3,7] ?_;refine yn rfl (fun hc6=>?_) (fun hc6=>?_)
 · rw[if_pos hc6] at h;have t7:=eq_true hc6;apply zj;apply hZ5
   refine za fun Z8 hZ8=>?_
   apply zn;obtain⟨y9,hy9,h⟩:=bind_some h;have f10:=E35.idxS hy9;have f11:=E35.fldS0 (f:=3) rfl rfl hy9;obtain⟨y12,hy12,h⟩:=bind_some h;have f13:=E35.idxS hy12;have f14:=E35.fldS0 (f:=3) rfl rfl hy12
   refine rd [0,3,21] fun K J=>?_
   refine DW.start (T:=tab) [.any,.any,.any,.any,.at [],.any,.any,.any,.any,.any,.at [],.any] [] ?_;refine DW.runN U 8 ?_;simp only[go_sem,qd,qb,reduceCtorEq,zs,t7,f10,f11];refine DW.runN U 4 ?_;simp only[go_sem,qd,qb,reduceCtorEq,zs,f13,f14];refine DW.fin U (by decide +kernel) rfl ?_;simp only[zC,upd,qb,reduceIte,yX,xK];apply J
   refine yn rfl (fun hc15=>?_) (fun hc15=>?_)
   · rw[if_pos hc15] at h;have t16:=eq_true hc15
     refine rg U [2] fun K J=>?_
     simp only[go_sem,qd,qb,reduceCtorEq,t16];apply J
     cases h;exact rtA
   rw[if_neg hc15] at h;have t17:=eq_false hc15;apply zj;apply hZ8
   refine rgE U [0,3] fun K J=>?_
   simp only[go_sem,qd,qb,reduceCtorEq,t17];apply J
   exact⟨_,_,_,qy (0+k4),⟨k4,IntKind.i64.wrap (x2+1),rfl,rfl,rfl,h⟩,.s⟩
 rw[if_neg hc6] at h;have t18:=eq_false hc6;apply yf;apply hZ1
 refine rg U [2] fun K J=>?_
 simp only[go_sem,qd,qb,reduceCtorEq,t18];apply J
 cases h;exact rtA
def wu.j10 (x2:Int)(rec4:Int→Option Bool)(x9:Bool):Option Bool:=
 (if x9=true then some false else (rec4 (x2+1)))
def wu.l4 (a0:zk):List yc→Int→Option Bool
 |[],x2=>(wZ a0.fRest).bind fun r6=>some r6
 |y4::q4,x2=>bnd (Yo y4) fun r14=>(if (!r14)=true then (wu.j10 x2 (wu.l4 a0 q4) true) else bnd (ZV a0 y4.fTag) fun r17=>(wu.j10 x2 (wu.l4 a0 q4) r17))
def wu (a0:zk):Option Bool:=
 (wu.l4 a0 a0.fRest 0)
theorem wu.ok {a0 r}(h:wu a0=some r):ACalls qg 155 [.agg (zd a0)] [] (fun r' _=>r'=.bool r):=by
 refine zt (rs:=[.tmp 2]) U Tryz.func155 rfl Tryz.ntmps155 rfl Tryz.call155 (by simp) ?_;refine zA [(0,.agg (zd a0))] ⟨rfl,trivial⟩ ?_;unfold wu at h
 refine rg U [1] fun K J=>?_
 simp only[go_sem,qd,qb,qe,reduceCtorEq,zd];apply J
 refine za fun Z1 hZ1=>?_
 refine D [1,3] ?_;apply zn
 refine XK 0 rfl fun hb4=>?_
 replace hb4:qa a0.fRest≤9223372036854775807:=hb4.2.2.2.2.1.1;refine yh (fun m L τ=>∃ (p4 q4:List yc) (x2:Int),m=qa q4∧L=[(1,.op 0 0 0),(3,.int .i64 x2)]∧τ=([.cells 0 (zd a0)]:ze)∧a0.fRest=p4++q4∧x2=(qa p4:Int)∧wu.l4 a0 q4 x2=some r) _ ⟨[],a0.fRest,0,rfl,rfl,rfl,rfl,rfl,h⟩ .s ?_;rintro m L τ ⟨p4,q4,x2,rfl,rfl,rfl,hE4,hi4,h⟩
 rcases q4 with _|⟨y4,q4⟩
 · have hz4:=xC hE4 hi4;simp only[wu.l4] at h
   refine za fun Z5 hZ5=>?_
   refine rg U [1,3,8] fun K J=>?_
   simp only[go_sem,qd,qb,qe,hz4];apply J
   refine zG rfl ?_;apply yf;apply hZ1
   refine rc [2] fun K J=>?_
   obtain⟨r6,hr6,h⟩:=bind_some h;refine O 2 ?_;refine clN rfl rfl rfl ((wZ.ok hr6).c _) ?_;refine O 1 ?_;refine nkN J ?_;cases h;exact rtA
 obtain⟨hz4,hw4,hx4,hE'4,hi'4⟩:=yU hE4 hi4 hb4;simp only[wu.l4] at h
 refine za fun Z7 hZ7=>?_
 refine rg U [1,3,8] fun K J=>?_
 simp only[go_sem,qd,qb,qe,hz4];apply J
 refine zK rfl ?_;apply zj;apply hZ7
 refine za fun Z8 hZ8=>?_
 apply zn;refine xL (fun L τ=>∃ (x9:Bool),L=[(1,.op 0 0 0),(3,.int .i64 x2),(27,.bool x9)]∧τ=([.cells 0 (zd a0)]:ze)∧wu.j10 x2 (wu.l4 a0 q4) x9=some r) ?_ ?_
 · refine rdE [1,3,27] fun K J=>?_
   refine DW.start (T:=tab) [.any,.at [],.any,.any,.at [],.eff,.any,.any,.at [],.any,.at [],.any,.any,.any,.at [],.eff,.any] [] ?_;have f12:=E35.idxS hx4;have f13:=E35.loadS rfl rfl hx4;obtain⟨r14,hr14,h⟩:=ye h;refine DW.runN U 5 ?_;simp only[go_sem,qd,qb,qe,zs,f12,f13];refine DW.call rfl rfl rfl ((Yo.ok hr14).c _) ?_;refine DW.runN U 2 ?_;simp only[go_sem,qd,qb];refine DW.at (b:=(!r14)) 18 rfl (fun hg18=>?_) (fun hg18=>?_)
   · rw[if_pos hg18] at h;refine DW.runN U 8 ?_;simp only[go_sem,qd,qb];refine DW.runN U 1 ?_;simp only[go_sem,qd,qb];refine DW.fin U (by decide +kernel) rfl ?_;simp only[zC,upd,qb,reduceIte,yX,xK];apply J
     exact⟨_,_,⟨true,rfl,rfl,h⟩,.s⟩
   rw[Zf hg18] at h;have f15:=E35.idxS hx4;have f16:=E35.fldS0 (f:=3) rfl rfl hx4;obtain⟨r17,hr17,h⟩:=ye h;refine DW.runN U 7 ?_;simp only[go_sem,qd,qf,qb,qe,zs,f15,f16];refine DW.call rfl rfl rfl ((ZV.ok hr17).c _) ?_;refine DW.runN U 1 ?_;simp only[go_sem,qd,qb];refine DW.fin U (by decide +kernel) rfl ?_;simp only[zC,upd,qb,reduceIte,yX,xK];apply J
   exact⟨_,_,⟨r17,rfl,rfl,h⟩,.s⟩
 rintro _ _ ⟨x9,rfl,rfl,h⟩;unfold wu.j10 at h;refine zU (b:=x9) rfl (fun hc11=>?_) (fun hc11=>?_)
 · rw[if_pos hc11] at h;refine D [2] ?_;cases h;exact rtA
 rw[Zf hc11] at h;apply zj;apply hZ8
 refine rgE U [1,3] fun K J=>?_
 simp only[go_sem,qd,qb,hw4];apply J
 exact⟨_,_,_,qy q4.length,⟨p4++[y4],q4,x2+1,rfl,rfl,rfl,hE'4,hi'4,h⟩,.s⟩
def xU.body (y3:zk→Option Bool)(wP:(List zr)→Option Bool)(a0:zk):Option Bool:=
 (if a0.fKind=1 then some (((decide (a0.fS=[]))&&(decide ((qa a0.fEntries:Int)=0)))&&(decide ((qa a0.fRest:Int)=0))) else (if a0.fKind=2 then some (((decide (a0.fN=0))&&(decide ((qa a0.fEntries:Int)=0)))&&(decide ((qa a0.fRest:Int)=0))) else (if a0.fKind=3 then (if ((decide (a0.fN=0))&&(decide (a0.fS=[])))=true then (wP a0.fEntries).bind fun r16=>some r16 else some false).bind fun c16=>(if c16=true then (wu a0).bind fun r18=>some r18 else some false).bind fun c18=>some c18 else some false)))
theorem xU.step (y3:zk→Option Bool)(wP:(List zr)→Option Bool)(vay:∀ (a0:zk) (r:Bool),y3 a0=some r→ACalls qg 102 [.agg (zd a0)] [] (fun r' _=>r'=.bool r))(XP:∀ (a0:List zr) (r:Bool),wP a0=some r→ACalls qg 154 [.ds true (qc zx a0) (qa a0) false] [] (fun r' _=>r'=.bool r))(a0:zk)(r:Bool)(h:xU.body y3 wP a0=some r):ACalls qg 102 [.agg (zd a0)] [] (fun r' _=>r'=.bool r):=by
 have ev_ref09_check:=fun a0 r h σ=>(vay a0 r h).c σ
 have ev_ref09_entries:=fun a0 r h σ=>(XP a0 r h).c σ
 refine zt (rs:=[.tmp 2]) U Tryz.func102 rfl Tryz.ntmps102 rfl Tryz.call102 (by simp) ?_;refine zA [(0,.agg (zd a0))] ⟨rfl,trivial⟩ ?_;unfold xU.body at h
 refine rg U [1] fun K J=>?_
 simp only[go_sem,qd,qb,qe,reduceCtorEq,zd];apply J
 refine za fun Z1 hZ1=>?_
 refine D [1,4] ?_;apply zn;refine D [1,4,5] ?_;refine yn rfl (fun hc2=>?_) (fun hc2=>?_)
 · rw[if_pos hc2] at h;have t3:=eq_true hc2
   refine rc [2] fun K J=>?_
   refine zB U 4 ?_;simp only[go_sem,qd,qb,qe,t3];refine zH 5 (fun L τ=>L=[(1,.op 0 0 0),(15,.bool ((decide (a0.fS=[]))&&(decide ((qa a0.fEntries:Int)=0))))]∧τ=([.cells 0 (zd a0)]:ze)) ?_ ?_
   · refine wh 10 rfl (fun hg10=>?_) (fun hg10=>?_)
     · have t4:=eq_true hg10;refine O 5 ?_;refine zi ⟨rfl,_,_,⟨rfl,rfl⟩,.p t4⟩
     have t5:=eq_false hg10;refine O 5 ?_;refine zi ⟨rfl,_,_,⟨rfl,rfl⟩,.p t5⟩
   rintro _ _ ⟨rfl,rfl⟩;refine O 1 ?_;refine zH 5 (fun L τ=>L=[(21,.bool (((decide (a0.fS=[]))&&(decide ((qa a0.fEntries:Int)=0)))&&(decide ((qa a0.fRest:Int)=0))))]∧τ=([.cells 0 (zd a0)]:ze)) ?_ ?_
   · refine yB (b:=((decide (a0.fS=[]))&&(decide ((qa a0.fEntries:Int)=0)))) 16 rfl (fun hg16=>?_) (fun hg16=>?_)
     · refine O 5 ?_;refine zi ⟨rfl,_,_,⟨rfl,rfl⟩,.b hg16⟩
     refine O 5 ?_;refine zi ⟨rfl,_,_,⟨rfl,rfl⟩,.b hg16⟩
   rintro _ _ ⟨rfl,rfl⟩;refine O 1 ?_;refine nkN J ?_;cases h;exact rtA
 rw[if_neg hc2] at h;have t6:=eq_false hc2
 refine rg U [1,4,22] fun K J=>?_
 simp only[go_sem,qd,qb,t6];apply J
 refine yn rfl (fun hc7=>?_) (fun hc7=>?_)
 · rw[if_pos hc7] at h;have t8:=eq_true hc7
   refine rc [2] fun K J=>?_
   refine zB U 4 ?_;simp only[go_sem,qd,qb,qe,t8];refine zH 5 (fun L τ=>L=[(1,.op 0 0 0),(32,.bool ((decide (a0.fN=0))&&(decide ((qa a0.fEntries:Int)=0))))]∧τ=([.cells 0 (zd a0)]:ze)) ?_ ?_
   · refine wh 27 rfl (fun hg27=>?_) (fun hg27=>?_)
     · have t9:=eq_true hg27;refine O 5 ?_;refine zi ⟨rfl,_,_,⟨rfl,rfl⟩,.p t9⟩
     have t10:=eq_false hg27;refine O 5 ?_;refine zi ⟨rfl,_,_,⟨rfl,rfl⟩,.p t10⟩
   rintro _ _ ⟨rfl,rfl⟩;refine O 1 ?_;refine zH 5 (fun L τ=>L=[(38,.bool (((decide (a0.fN=0))&&(decide ((qa a0.fEntries:Int)=0)))&&(decide ((qa a0.fRest:Int)=0))))]∧τ=([.cells 0 (zd a0)]:ze)) ?_ ?_
   · refine yB (b:=((decide (a0.fN=0))&&(decide ((qa a0.fEntries:Int)=0)))) 33 rfl (fun hg33=>?_) (fun hg33=>?_)
     · refine O 5 ?_;refine zi ⟨rfl,_,_,⟨rfl,rfl⟩,.b hg33⟩
     refine O 5 ?_;refine zi ⟨rfl,_,_,⟨rfl,rfl⟩,.b hg33⟩
   rintro _ _ ⟨rfl,rfl⟩;refine O 1 ?_;refine nkN J ?_;cases h;exact rtA
 rw[if_neg hc7] at h;have t11:=eq_false hc7
 refine rg U [1,39] fun K J=>?_
 simp only[go_sem,qd,qb,t11];apply J
 refine yn rfl (fun hc12=>?_) (fun hc12=>?_)
 · rw[if_pos hc12] at h;have t13:=eq_true hc12
   refine rc [2] fun K J=>?_
   refine zB U 4 ?_;simp only[go_sem,qd,qb,qe,t13];refine zH 4 (fun L τ=>L=[(1,.op 0 0 0),(48,.bool ((decide (a0.fN=0))&&(decide (a0.fS=[]))))]∧τ=([.cells 0 (zd a0)]:ze)) ?_ ?_
   · refine wh 44 rfl (fun hg44=>?_) (fun hg44=>?_)
     · have t14:=eq_true hg44;refine O 4 ?_;refine zi ⟨rfl,_,_,⟨rfl,rfl⟩,.p t14⟩
     have t15:=eq_false hg44;refine O 4 ?_;refine zi ⟨rfl,_,_,⟨rfl,rfl⟩,.p t15⟩
   rintro _ _ ⟨rfl,rfl⟩;refine O 1 ?_;obtain⟨c16,hc16,h⟩:=bind_some h;refine zH 4 (fun L τ=>L=[(1,.op 0 0 0),(53,.bool c16)]∧τ=([.cells 0 (zd a0)]:ze)) ?_ ?_
   · refine yB (b:=((decide (a0.fN=0))&&(decide (a0.fS=[])))) 49 rfl (fun hg49=>?_) (fun hg49=>?_)
     · rw[if_pos hg49] at hc16;obtain⟨r17,hr17,hc16⟩:=bind_some hc16;refine O 2 ?_;refine clN rfl rfl rfl (ev_ref09_entries a0.fEntries r17 hr17 _) ?_;refine O 1 ?_;cases hc16;refine zi ⟨rfl,_,_,⟨rfl,rfl⟩,.b hg49⟩
     rw[Zf hg49] at hc16;refine O 4 ?_;cases hc16;refine zi ⟨rfl,_,_,⟨rfl,rfl⟩,.b hg49⟩
   rintro _ _ ⟨rfl,rfl⟩;refine O 1 ?_;obtain⟨c18,hc18,h⟩:=bind_some h;refine zH 3 (fun L τ=>L=[(57,.bool c18)]∧τ=([.cells 0 (zd a0)]:ze)) ?_ ?_
   · refine yB (b:=c16) 54 rfl (fun hg54=>?_) (fun hg54=>?_)
     · rw[if_pos hg54] at hc18;obtain⟨r19,hr19,hc18⟩:=bind_some hc18;refine O 1 ?_;refine clN rfl rfl rfl ((wu.ok hr19).c _) ?_;refine O 1 ?_;cases hc18;refine zi ⟨rfl,_,_,⟨rfl,rfl⟩,.b hg54⟩
     rw[Zf hg54] at hc18;refine O 3 ?_;cases hc18;refine zi ⟨rfl,_,_,⟨rfl,rfl⟩,.b hg54⟩
   rintro _ _ ⟨rfl,rfl⟩;refine O 1 ?_;refine nkN J ?_;cases h;exact rtA
 rw[if_neg hc12] at h;have t20:=eq_false hc12;apply zj;apply hZ1
 refine rg U [2] fun K J=>?_
 simp only[go_sem,qd,qb,t20];apply J
 cases h;exact rtA
def yj.j23 (x16:Int)(rec18:Int→Option Bool)(x22:Bool):Option Bool:=
 (if x22=true then some false else (rec18 (x16+1)))
def yj.l18 (y3:zk→Option Bool)(x3:Int)(rec6:Int→Int→Option Bool)(y6:zr):List zk→Int→Option Bool
 |[],x16=>(rec6 (x3+1) y6.fTag)
 |y18::q18,x16=>(Yz y6.fTrees 0).bind fun y27=>(if y18.fKind=y27.fKind then (y3 y18).bind fun r34=>(yj.j23 x16 (yj.l18 y3 x3 rec6 y6 q18) (!r34)) else (yj.j23 x16 (yj.l18 y3 x3 rec6 y6 q18) true))
def yj.l6 (y3:zk→Option Bool):List zr→Int→Int→Option Bool
 |[],x3,x2=>some true
 |y6::q6,x3,x2=>(if ((((decide (y6.fTag≤x2))||(decide (500<y6.fTag)))||(decide ((qa y6.fTrees:Int)<1)))||(decide (64<(qa y6.fTrees:Int))))=true then some false else (yj.l18 y3 x3 (yj.l6 y3 q6) y6 y6.fTrees 0))
def yj.body (y3:zk→Option Bool)(wP:(List zr)→Option Bool)(a0:List zr):Option Bool:=
 (yj.l6 y3 a0 0 0)
theorem yj.step (y3:zk→Option Bool)(wP:(List zr)→Option Bool)(vay:∀ (a0:zk) (r:Bool),y3 a0=some r→ACalls qg 102 [.agg (zd a0)] [] (fun r' _=>r'=.bool r))(XP:∀ (a0:List zr) (r:Bool),wP a0=some r→ACalls qg 154 [.ds true (qc zx a0) (qa a0) false] [] (fun r' _=>r'=.bool r))(a0:List zr)(r:Bool)(h:yj.body y3 wP a0=some r):ACalls qg 154 [.ds true (qc zx a0) (qa a0) false] [] (fun r' _=>r'=.bool r):=by
 have ev_ref09_check:=fun a0 r h σ=>(vay a0 r h).c σ
 have ev_ref09_entries:=fun a0 r h σ=>(XP a0 r h).c σ
 refine zt (rs:=[.tmp 2]) U Tryz.func154 rfl Tryz.ntmps154 rfl Tryz.call154 (by simp) ?_;refine zA [(0,.ds true (qc zx a0) (qa a0) false)] ⟨rfl,trivial⟩ ?_;unfold yj.body at h;refine D [0] ?_;refine D [0,3] ?_
 refine za fun Z1 hZ1=>?_
 refine D [0,3,4] ?_;apply zn
 refine xn 0 fun hb6=>?_
 replace hb6:qa a0≤9223372036854775807:=hb6.1;refine yh (fun m L τ=>∃ (p6 q6:List zr) (x3:Int) (x2:Int),m=qa q6∧L=[(0,.ds true (qc zx a0) (qa a0) false),(3,.int .i64 x2),(4,.int .i64 x3)]∧τ=([]:ze)∧a0=p6++q6∧x3=(qa p6:Int)∧yj.l6 y3 q6 x3 x2=some r) _ ⟨[],a0,0,0,rfl,rfl,rfl,rfl,rfl,h⟩ .s ?_;rintro m L τ ⟨p6,q6,x3,x2,rfl,rfl,rfl,hE6,hi6,h⟩
 rcases q6 with _|⟨y6,q6⟩
 · have hz6:=xC hE6 hi6;simp only[yj.l6] at h
   refine za fun Z7 hZ7=>?_
   refine rg U [0,3,4,10] fun K J=>?_
   simp only[go_sem,qd,qb,reduceCtorEq,hz6];apply J
   refine zG rfl ?_;apply yf;apply hZ1;refine D [2] ?_;cases h;exact rtA
 obtain⟨hz6,hw6,hx6,hE'6,hi'6⟩:=yU hE6 hi6 hb6;simp only[yj.l6] at h
 refine za fun Z8 hZ8=>?_
 refine rg U [0,3,4,10] fun K J=>?_
 simp only[go_sem,qd,qb,reduceCtorEq,hz6];apply J
 refine zK rfl ?_;apply zj;apply hZ8
 refine za fun Z9 hZ9=>?_
 apply zn;have f10:=E34.idxS hx6;have f11:=E34.loadS rfl rfl hx6
 refine rg U [0,3,4,5] fun K J=>?_
 simp only[go_sem,qd,qf,qb,qe,reduceCtorEq,zQ,yK,f10,f11];apply J
 refine za fun Z12 hZ12=>?_
 refine rc [0,4,5,37] fun K J=>?_
 refine O 5 ?_;refine zH 4 (fun L τ=>L=[(0,.ds true (qc zx a0) (qa a0) false),(4,.int .i64 x3),(5,.op 0 0 0),(25,.bool ((decide (y6.fTag≤x2))||(decide (500<y6.fTag))))]∧τ=([.cells 0 (zQ y6)]:ze)) ?_ ?_
 · refine wh 21 rfl (fun hg21=>?_) (fun hg21=>?_)
   · have t13:=eq_true hg21;refine O 4 ?_;refine zi ⟨rfl,_,_,⟨rfl,rfl⟩,.p t13⟩
   have t14:=eq_false hg21;refine O 4 ?_;refine zi ⟨rfl,_,_,⟨rfl,rfl⟩,.p t14⟩
 rintro _ _ ⟨rfl,rfl⟩;refine O 1 ?_;refine zH 5 (fun L τ=>L=[(0,.ds true (qc zx a0) (qa a0) false),(4,.int .i64 x3),(5,.op 0 0 0),(31,.bool (((decide (y6.fTag≤x2))||(decide (500<y6.fTag)))||(decide ((qa y6.fTrees:Int)<1))))]∧τ=([.cells 0 (zQ y6)]:ze)) ?_ ?_
 · refine yB (b:=((decide (y6.fTag≤x2))||(decide (500<y6.fTag)))) 26 rfl (fun hg26=>?_) (fun hg26=>?_)
   · refine O 5 ?_;refine zi ⟨rfl,_,_,⟨rfl,rfl⟩,.b hg26⟩
   refine O 5 ?_;refine zi ⟨rfl,_,_,⟨rfl,rfl⟩,.b hg26⟩
 rintro _ _ ⟨rfl,rfl⟩;refine O 1 ?_;refine zH 5 (fun L τ=>L=[(0,.ds true (qc zx a0) (qa a0) false),(4,.int .i64 x3),(5,.op 0 0 0),(37,.bool ((((decide (y6.fTag≤x2))||(decide (500<y6.fTag)))||(decide ((qa y6.fTrees:Int)<1)))||(decide (64<(qa y6.fTrees:Int)))))]∧τ=([.cells 0 (zQ y6)]:ze)) ?_ ?_
 · refine yB (b:=(((decide (y6.fTag≤x2))||(decide (500<y6.fTag)))||(decide ((qa y6.fTrees:Int)<1)))) 32 rfl (fun hg32=>?_) (fun hg32=>?_)
   · refine O 5 ?_;refine zi ⟨rfl,_,_,⟨rfl,rfl⟩,.b hg32⟩
   refine O 5 ?_;refine zi ⟨rfl,_,_,⟨rfl,rfl⟩,.b hg32⟩
 rintro _ _ ⟨rfl,rfl⟩;refine nkN J ?_;refine zU (b:=((((decide (y6.fTag≤x2))||(decide (500<y6.fTag)))||(decide ((qa y6.fTrees:Int)<1)))||(decide (64<(qa y6.fTrees:Int))))) rfl (fun hc15=>?_) (fun hc15=>?_)
 · rw[if_pos hc15] at h;refine D [2] ?_;cases h;exact rtA
 rw[Zf hc15] at h;apply zj;apply hZ12;refine D [0,3,4,5] ?_;refine D [0,3,4,5,6] ?_;apply zn
 refine XK 0 rfl fun hb18=>?_
 replace hb18:qa y6.fTrees≤9223372036854775807:=hb18.2.1.1;refine yh (fun m L τ=>∃ (p18 q18:List zk) (x16:Int),m=qa q18∧L=[(0,.ds true (qc zx a0) (qa a0) false),(3,.int .i64 y6.fTag),(4,.int .i64 x3),(5,.op 0 0 0),(6,.int .i64 x16)]∧τ=([.cells 0 (zQ y6)]:ze)∧y6.fTrees=p18++q18∧x16=(qa p18:Int)∧yj.l18 y3 x3 (yj.l6 y3 q6) y6 q18 x16=some r) _ ⟨[],y6.fTrees,0,rfl,rfl,rfl,rfl,rfl,h⟩ .s ?_;rintro m L τ ⟨p18,q18,x16,rfl,rfl,rfl,hE18,hi18,h⟩
 rcases q18 with _|⟨y18,q18⟩
 · have hz18:=xC hE18 hi18;simp only[yj.l18] at h
   refine za fun Z19 hZ19=>?_
   refine rg U [0,3,4,5,6,44] fun K J=>?_
   simp only[go_sem,qd,qb,qe,reduceCtorEq,hz18];apply J
   refine zG rfl ?_;apply yf;apply hZ9
   refine rgE U [0,3,4] fun K J=>?_
   simp only[go_sem,qd,qb,reduceCtorEq,hw6];apply J
   exact⟨_,_,_,qy q6.length,⟨p6++[y6],q6,x3+1,y6.fTag,rfl,rfl,rfl,hE'6,hi'6,h⟩,(.t [] false)⟩
 obtain⟨hz18,hw18,hx18,hE'18,hi'18⟩:=yU hE18 hi18 hb18;simp only[yj.l18] at h
 refine za fun Z20 hZ20=>?_
 refine rg U [0,3,4,5,6,44] fun K J=>?_
 simp only[go_sem,qd,qb,qe,reduceCtorEq,hz18];apply J
 refine zK rfl ?_;apply zj;apply hZ20
 refine za fun Z21 hZ21=>?_
 apply zn;refine xL (fun L τ=>∃ (x22:Bool),L=[(0,.ds true (qc zx a0) (qa a0) false),(3,.int .i64 y6.fTag),(4,.int .i64 x3),(5,.op 0 0 0),(6,.int .i64 x16),(67,.bool x22)]∧τ=([.cells 0 (zQ y6)]:ze)∧yj.j23 x16 (yj.l18 y3 x3 (yj.l6 y3 q6) y6 q18) x22=some r) ?_ ?_
 · refine rdE [0,3,4,5,6,67] fun K J=>?_
   refine DW.start (T:=tab) [.any,.at [],.any,.any,.any,.at [],.any,.at [],.any,.any,.at [],.any,.any,.any,.at [],.any,.any,.at [],.eff,.any,.any] [] ?_;have f25:=E38.idxS hx18;have f26:=E38.fldS0 (f:=3) rfl rfl hx18;obtain⟨y27,hy27,h⟩:=bind_some h;have f28:=E38.idxS hy27;have f29:=E38.fldS0 (f:=3) rfl rfl hy27;refine DW.runN U 8 ?_;simp only[go_sem,qd,qb,qe,reduceCtorEq,zd,yu,f25,f26];refine DW.runN U 5 ?_;simp only[go_sem,qd,qb,reduceCtorEq,zd,yu,f28,f29]
   refine DW.if 59 rfl (fun hg59=>?_) (fun hg59=>?_)
   · rw[if_neg hg59] at h;have t30:=eq_false hg59;refine DW.runN U 8 ?_;simp only[go_sem,qd,qb,reduceCtorEq,t30];refine DW.fin U (by decide +kernel) rfl ?_;simp only[zC,upd,qb,reduceIte,yX,xK];apply J
     exact⟨_,_,⟨true,rfl,rfl,h⟩,.s⟩
   rw[if_pos hg59] at h;have t31:=eq_true hg59;have f32:=E38.idxS hx18;have f33:=E38.loadS rfl rfl hx18;obtain⟨r34,hr34,h⟩:=bind_some h;refine DW.runN U 5 ?_;simp only[go_sem,qd,qb,qe,reduceCtorEq,zd,yu,t31,f32,f33];refine DW.call rfl rfl rfl (ev_ref09_check y18 r34 hr34 _) ?_;refine DW.runN U 2 ?_;simp only[go_sem,qd,qb,reduceCtorEq];refine DW.fin U (by decide +kernel) rfl ?_;simp only[zC,upd,qb,reduceIte,yX,xK];apply J
   exact⟨_,_,⟨!r34,rfl,rfl,h⟩,.s⟩
 rintro _ _ ⟨x22,rfl,rfl,h⟩;unfold yj.j23 at h;refine zU (b:=x22) rfl (fun hc24=>?_) (fun hc24=>?_)
 · rw[if_pos hc24] at h;refine D [2] ?_;cases h;exact rtA
 rw[Zf hc24] at h;apply zj;apply hZ21
 refine rgE U [0,3,4,5,6] fun K J=>?_
 simp only[go_sem,qd,qb,reduceCtorEq,hw18];apply J
 exact⟨_,_,_,qy q18.length,⟨p18++[y18],q18,x16+1,rfl,rfl,rfl,hE'18,hi'18,h⟩,.s⟩
mutual
def xU : Nat→zk→Option Bool
 |0,_=>none
 |k+1,a0=>xU.body (xU k) (yj k) a0
def yj : Nat→(List zr)→Option Bool
 |0,_=>none
 |k+1,a0=>yj.body (xU k) (yj k) a0
end
theorem xU.all (k:Nat):(∀ (a0:zk) (r:Bool),xU k a0=some r→ACalls qg 102 [.agg (zd a0)] [] (fun r' _=>r'=.bool r))∧(∀ (a0:List zr) (r:Bool),yj k a0=some r→ACalls qg 154 [.ds true (qc zx a0) (qa a0) false] [] (fun r' _=>r'=.bool r)):=by
 induction k with
 |zero=>exact⟨(fun a0 r h=>by simp only[xU] at h; cases h),(fun a0 r h=>by simp only[yj] at h; cases h)⟩
 |succ k ih=>exact⟨(fun a0 r h=>xU.step _ _ ih.1 ih.2 a0 r (by simpa only [xU] using h)),(fun a0 r h=>yj.step _ _ ih.1 ih.2 a0 r (by simpa only [yj] using h))⟩
theorem xU.ev (k:Nat)(a0:zk)(r:Bool)(h:xU k a0=some r)(σ:ze):ACalls qg 102 [.agg (zd a0)] σ (fun r' σ'=>r'=.bool r∧σ'=σ):=
 ((xU.all k).1 a0 r h).c σ
def Y0 (a0:zk):Option Bool:=
 (YZ a0).bind fun r1=>(if r1≤10 then (xU xo a0).bind fun r2=>some r2 else some false).bind fun c2=>some c2
theorem Y0.ok {a0 r}(h:Y0 a0=some r):ACalls qg 66 [.agg (zd a0)] [] (fun r' _=>r'=.bool r):=by
 refine zt (rs:=[.tmp 2]) U Tryz.func66 rfl Tryz.ntmps66 rfl Tryz.call66 (by simp) ?_;refine zA [(0,.agg (zd a0))] ⟨rfl,trivial⟩ ?_;unfold Y0 at h
 refine rg U [1] fun K J=>?_
 simp only[go_sem,qd,qb,qe,reduceCtorEq,zd];apply J
 refine rc [2] fun K J=>?_
 obtain⟨r1,hr1,h⟩:=bind_some h;refine O 1 ?_;refine clN rfl rfl rfl ((YZ.ok hr1).c _) ?_;refine O 2 ?_;obtain⟨c2,hc2,h⟩:=bind_some h;refine zH 3 (fun L τ=>L=[(9,.bool c2)]∧τ=([.cells 0 (zd a0)]:ze)) ?_ ?_
 · refine wh 6 rfl (fun hg6=>?_) (fun hg6=>?_)
   · have t3:=eq_true hg6;rw[if_pos hg6] at hc2;obtain⟨r4,hr4,hc2⟩:=bind_some hc2;refine O 1 ?_;refine clN rfl rfl rfl (xU.ev xo a0 r4 hr4 _) ?_;refine O 1 ?_;cases hc2;refine zi ⟨rfl,_,_,⟨rfl,rfl⟩,.p t3⟩
   have t5:=eq_false hg6;rw[if_neg hg6] at hc2;refine O 3 ?_;cases hc2;refine zi ⟨rfl,_,_,⟨rfl,rfl⟩,.p t5⟩
 rintro _ _ ⟨rfl,rfl⟩;refine O 1 ?_;refine nkN J ?_;cases h;exact rtA
def yy.j23 (x4:Int)(rec8:Int→List yc→Option (List yc))(l16:List yc)(x17:Int)(rec20:List yc→Int→Option (List yc))(x22:Bool):Option (List yc):=
 (if x22=true then (Yz l16 x17).bind fun y25=>(Yz l16 (IntKind.i64.wrap (x17-1))).bind fun y28=>(Yz (setI l16 (IntKind.i64.wrap (x17-1)) y25) x17).bind fun y34=>(rec20 (setI (setI l16 (IntKind.i64.wrap (x17-1)) y25) x17 y28) (IntKind.i64.wrap (x17-1))) else (rec8 (x4+1) l16))
def yy.l20 (x4:Int)(rec8:Int→List yc→Option (List yc)):Nat→List yc→Int→Option (List yc)
 |0,_,_=>none
 |k20+1,l16,x17=>(if 0<x17 then (Yz l16 (IntKind.i64.wrap (x17-1))).bind fun y39=>(Yz l16 x17).bind fun y42=>(yy.j23 x4 rec8 l16 x17 (yy.l20 x4 rec8 k20) (decide (y42.fTag<y39.fTag))) else (yy.j23 x4 rec8 l16 x17 (yy.l20 x4 rec8 k20) false))
def yy.l8 : List yc→Int→List yc→Option (List yc)
 |[],x4,l2=>some l2
 |y8::q8,x4,l2=>(X7 (qa l2+1) 40).bind fun _u14=>(yy.l20 x4 (yy.l8 q8) xo (l2++[y8]) (qa l2:Int))
def yy (a0:List yc):Option (List yc):=
 (yy.l8 a0 0 ([]:List yc))
theorem yy.own {a0 r}(h:yy a0=some r):ACalls qg 156 [.ds true (qc zs a0) (qa a0) false] [] (fun r' σ'=>r'=.os true 4 0 0 0 (qa r) false∧σ'=[.cells 0 (qc zs r)]):=by
 refine ACalls.own0 (by simp only[push_cast]) ?_;refine X9 (rs:=[.tmp 2]) U Tryz.func156 rfl Tryz.ntmps156 rfl Tryz.call156 (by simp) ?_;refine zA [(0,.ds true (qc zs a0) (qa a0) false)] ⟨rfl,trivial⟩ ?_;unfold yy at h;refine D [0] ?_;refine D [0,3] ?_;refine YV 3 4 rfl ?_;refine yT (L:=[(0,.ds true (qc zs a0) (qa a0) false),(3,.os true 4 0 0 0 (qa ([]:List yc)) false)]) (τ:=[.cells 0 (qc zs ([]:List yc))]) .s ?_
 refine za fun Z1 hZ1=>?_
 refine D [0,3,4] ?_;apply zn
 refine xn 0 fun hb8=>?_
 replace hb8:qa a0≤9223372036854775807:=hb8.1;refine yh (fun m L τ=>∃ (p8 q8:List yc) (x4:Int) (l2:List yc) (v3:Nat),m=qa q8∧L=[(0,.ds true (qc zs a0) (qa a0) false),(3,.os true 4 0 v3 0 (qa l2) false),(4,.int .i64 x4)]∧τ=([.cells v3 (qc zs l2)]:ze)∧a0=p8++q8∧x4=(qa p8:Int)∧yy.l8 q8 x4 l2=some r) _ ⟨[],a0,0,([]:List yc),0,rfl,rfl,rfl,rfl,rfl,h⟩ .s ?_;rintro m L τ ⟨p8,q8,x4,l2,v3,rfl,rfl,rfl,hE8,hi8,h⟩
 rcases q8 with _|⟨y8,q8⟩
 · have hz8:=xC hE8 hi8;simp only[yy.l8] at h
   refine za fun Z9 hZ9=>?_
   refine rg U [0,3,4,9] fun K J=>?_
   simp only[go_sem,qd,qb,reduceCtorEq,hz8];apply J
   refine zG rfl ?_;apply yf;apply hZ1;refine D [2] ?_;apply yk;cases h;simp only[ZJ,yQ,yZ,xQ,exists_eq_left',go_sem];refine⟨0,v3,by simp,?_,?_⟩
   · first|rfl|(simp only[go_sem,qd,qf,qb,qe,qj,qm,reduceIte,reduceCtorEq,push_cast,if_true,qz,qo,qq,qn,qF,qs,qK,qI,qv,qu,qt,zz,zs]<;>rfl)
   first|rfl|(simp only[go_sem,push_cast,qn,zz]<;>rfl)
 obtain⟨hz8,hw8,hx8,hE'8,hi'8⟩:=yU hE8 hi8 hb8;simp only[yy.l8] at h
 refine za fun Z10 hZ10=>?_
 refine rg U [0,3,4,9] fun K J=>?_
 simp only[go_sem,qd,qb,reduceCtorEq,hz8];apply J
 refine zK rfl ?_;apply zj;apply hZ10
 refine za fun Z11 hZ11=>?_
 apply zn;refine D [0,3,4,5] ?_;have f12:=E35.idxS hx8;have f13:=E35.loadS rfl rfl hx8;obtain⟨_u14,hu14,h⟩:=bind_some h;have gu14:=xf hu14;have f15:=(zV E35.len l2)
 refine rg U [0,3,4,5] fun K J=>?_
 simp only[go_sem,qd,qf,qb,qe,qj,reduceCtorEq,zS,yE,qZ,qQ,true_and,ue,yM,yw,yR,zs,f12,f13,gu14,f15,xw,uc,q9,AV.one,qM,qD,ql,qr,qo,qH];apply J
 refine yT (L:=[(0,.ds true (qc zs a0) (qa a0) false),(3,.os true 4 0 (v3+1) 0 (qa (l2++[y8])) false),(4,.int .i64 x4),(5,.int .i64 (qa l2:Int))]) (τ:=[.cells (v3+1) (qc zs (l2++[y8])),.cells 0 [.int .i64 y8.fTag,.int .i64 y8.fWire,.int .i64 y8.fN,.str y8.fB]]) .s ?_;apply zn;refine yh (fun m L τ=>∃ (k20:Nat) (l16:List yc) (x17:Int),m=0+k20∧L=[(0,.ds true (qc zs a0) (qa a0) false),(3,.os true 4 0 (v3+1) 0 (qa l16) false),(4,.int .i64 x4),(5,.int .i64 x17)]∧τ=([.cells (v3+1) (qc zs l16)]:ze)∧yy.l20 x4 (yy.l8 q8) k20 l16 x17=some r) _ ⟨xo,l2++[y8],(qa l2:Int),rfl,rfl,rfl,h⟩ (.t [0] false) ?_;rintro m L τ ⟨k20,l16,x17,rfl,rfl,rfl,h⟩
 rcases k20 with _|k20
 · cases h
 simp only[yy.l20] at h
 refine za fun Z21 hZ21=>?_
 refine xL (fun L τ=>∃ (x22:Bool),L=[(0,.ds true (qc zs a0) (qa a0) false),(3,.os true 4 0 (v3+1) 0 (qa l16) false),(4,.int .i64 x4),(5,.int .i64 x17),(36,.bool x22)]∧τ=([.cells (v3+1) (qc zs l16)]:ze)∧yy.j23 x4 (yy.l8 q8) l16 x17 (yy.l20 x4 (yy.l8 q8) k20) x22=some r) ?_ ?_
 · refine rdE [0,3,4,5,36] fun K J=>?_
   refine DW.start (T:=tab) [.any,.any,.any,.any,.any,.any,.any,.any,.at [],.any,.any,.any,.any,.at [],.any,.any] [] ?_;refine DW.runN U 3 ?_;simp only[go_sem,qd,qb,reduceCtorEq]
   refine DW.if 23 rfl (fun hg23=>?_) (fun hg23=>?_)
   · rw[if_pos hg23] at h;have t38:=eq_true hg23;obtain⟨y39,hy39,h⟩:=bind_some h;have f40:=E35.idxO hy39;have f41:=E35.rdfO0 hy39;obtain⟨y42,hy42,h⟩:=bind_some h;have f43:=E35.idxO hy42;have f44:=E35.rdfO0 hy42;refine DW.runN U 8 ?_;simp only[go_sem,qd,qb,reduceCtorEq,zs,t38,f40,f41];refine DW.runN U 5 ?_;simp only[go_sem,qd,qb,reduceCtorEq,zs,f43,f44];refine DW.fin U (by decide +kernel) rfl ?_;simp only[zC,upd,qb,reduceIte,yX,xK];apply J
     exact⟨_,_,⟨decide (y42.fTag<y39.fTag),rfl,rfl,h⟩,.s⟩
   rw[if_neg hg23] at h;have t45:=eq_false hg23;refine DW.runN U 8 ?_;simp only[go_sem,qd,qb,reduceCtorEq,t45];refine DW.runN U 5 ?_;simp only[go_sem,qd,qb,reduceCtorEq];refine DW.fin U (by decide +kernel) rfl ?_;simp only[zC,upd,qb,reduceIte,yX,xK];apply J
   exact⟨_,_,⟨false,rfl,rfl,h⟩,.s⟩
 rintro _ _ ⟨x22,rfl,rfl,h⟩;unfold yy.j23 at h;refine zU (b:=x22) rfl (fun hc24=>?_) (fun hc24=>?_)
 · rw[if_pos hc24] at h;apply zj;apply hZ21;apply zn;obtain⟨y25,hy25,h⟩:=bind_some h;have f26:=E35.idxO hy25;have f27:=E35.rdO hy25;obtain⟨y28,hy28,h⟩:=bind_some h;have f29:=E35.idxO hy28;have f30:=E35.rdO hy28;have f31:=E35.idxO hy28;have f32:=E35.stOc hy28;have f33:=E35.stOr hy28 (y:=y25) (cs:=[.int .i64 y25.fTag,.int .i64 y25.fWire,.int .i64 y25.fN,.str y25.fB]) rfl;simp only[wq] at f33;obtain⟨y34,hy34,h⟩:=bind_some h;have f35:=E35.idxO hy34;have f36:=E35.stOc hy34;have f37:=E35.stOr hy34 (y:=y28) (cs:=[.int .i64 y28.fTag,.int .i64 y28.fWire,.int .i64 y28.fN,.str y28.fB]) rfl;simp only[wq] at f37
   refine rd [0,3,4,5] fun K J=>?_
   refine DW.start (T:=tab) [.any,.any,.any,.any,.any,.any,.any,.any,.at [],.any,.any,.any,.any,.at [],.any,.eff,.any,.eff] [] ?_;refine DW.runN U 8 ?_;simp only[go_sem,qd,qb,reduceCtorEq,f26];refine DW.runN U 8 ?_;simp only[go_sem,qd,qb,qe,reduceCtorEq,zs,f27,f29,f30,f32,f33];refine DW.runN U 2 ?_;simp only[go_sem,qd,qb,qe,reduceCtorEq,f26,f36,f37];refine DW.fin U (by decide +kernel) rfl ?_;simp only[zC,upd,qb,reduceIte,yX,xK];apply J
   refine rgE U [0,3,4,5] fun K J=>?_
   simp only[go_sem,qd,qb,reduceCtorEq];apply J
   exact⟨_,_,_,qy (0+k20),⟨k20,setI (setI l16 (IntKind.i64.wrap (x17-1)) y25) x17 y28,IntKind.i64.wrap (x17-1),rfl,rfl,rfl,h⟩,.s⟩
 rw[Zf hc24] at h;apply yf;apply hZ11
 refine rgE U [0,3,4] fun K J=>?_
 simp only[go_sem,qd,qb,reduceCtorEq,hw8];apply J
 exact⟨_,_,_,qy q8.length,⟨p8++[y8],q8,x4+1,l16,v3+1,rfl,rfl,rfl,hE'8,hi'8,h⟩,.s⟩
theorem yy.ok {a0 r}(h:yy a0=some r):ACalls qg 156 [.ds true (qc zs a0) (qa a0) false] [] (fun r' _=>r'=.ds true (qc zs r) (qa r) false):=
 (yy.own h).ownData (zV E35.len r) (by simp only[push_cast])
def wA.l8 : Nat→List UInt8→Int→Option (List UInt8)
 |0,_,_=>none
 |k8+1,l2,x4=>(if 128≤x4 then (X7 (qa l2+1) 1).bind fun _u13=>((wA.l8 k8) (l2++[ub (qO (IntKind.u8.wrap ((IntKind.u8.wrap ((x4).tmod 128))+128)))]) (IntKind.u64.wrap ((x4).tdiv 128))) else (X7 (qa l2+1) 1).bind fun _u17=>some (l2++[ub (qO (IntKind.u8.wrap x4))]))
def wA (a0:Int):Option (List UInt8):=
 (wA.l8 xo ([]:List UInt8) a0)
theorem wA.own {a0 r}(h:wA a0=some r):ACalls qg 202 [.int .u64 a0] [] (fun r' σ'=>r'=.os true 1 0 0 0 (qa r) false∧σ'=[.cells 0 (qc ZR r)]):=by
 refine ACalls.own0 (by simp only[push_cast]) ?_;refine X9 (rs:=[.tmp 2]) U Tryz.func202 rfl Tryz.ntmps202 rfl Tryz.call202 (by simp) ?_;refine zA [(0,.int .u64 a0)] ⟨rfl,trivial⟩ ?_;unfold wA at h;refine D [0] ?_;refine D [0,3] ?_;refine YV 3 1 rfl ?_;refine yT (L:=[(0,.int .u64 a0),(3,.os true 1 0 0 0 (qa ([]:List UInt8)) false)]) (τ:=[.cells 0 (qc ZR ([]:List UInt8))]) .s ?_
 refine za fun Z1 hZ1=>?_
 apply zn;refine yh (fun m L τ=>∃ (k8:Nat) (l2:List UInt8) (x4:Int) (v3:Nat),m=0+k8∧L=[(0,.int .u64 x4),(3,.os true 1 0 v3 0 (qa l2) false)]∧τ=([.cells v3 (qc ZR l2)]:ze)∧wA.l8 k8 l2 x4=some r) _ ⟨xo,([]:List UInt8),a0,0,rfl,rfl,rfl,h⟩ .s ?_;rintro m L τ ⟨k8,l2,x4,v3,rfl,rfl,rfl,h⟩
 rcases k8 with _|k8
 · cases h
 simp only[wA.l8] at h
 refine za fun Z9 hZ9=>?_
 refine D [0,3,5] ?_;refine yn rfl (fun hc10=>?_) (fun hc10=>?_)
 · rw[if_pos hc10] at h;have t11:=eq_true hc10;apply zj;apply hZ9;apply zn;have f12:=w6 (T:=tab) (src:=287) (dst:=5) rfl rfl rfl;obtain⟨_u13,hu13,h⟩:=bind_some h;have gu13:=xf hu13;have f14:=(zV E48.len l2)
   refine rg U [0,3] fun K J=>?_
   simp only[go_sem,qd,qf,qb,qj,reduceCtorEq,zS,yE,qZ,qQ,true_and,ue,yM,yw,yR,t11,f12,gu13,f14,Int.reduceEq,xw,uc,q9,AV.one,qM,qD,ql,qr,qo,qH];apply J
   refine yT (L:=[(0,.int .u64 x4),(3,.os true 1 0 (v3+1) 0 (qa (l2++[ub (qO (IntKind.u8.wrap ((IntKind.u8.wrap ((x4).tmod 128))+128)))])) false)]) (τ:=[.cells (v3+1) (qc ZR (l2++[ub (qO (IntKind.u8.wrap ((IntKind.u8.wrap ((x4).tmod 128))+128)))])),.cells 0 [.int .u8 (IntKind.u8.wrap ((IntKind.u8.wrap ((x4).tmod 128))+128))]]) (.same (by first|exact⟨rfl,rfl,trivial⟩|rfl|(simp only[go_sem,reduceCtorEq,vcf,qk,ql,qr,qo,and_self]<;>rfl)) (by first|exact⟨rfl,rfl,trivial⟩|rfl|(simp only[go_sem,ZR,qX,qU,uf,qE,vch]<;>rfl))) ?_
   refine rgE U [0,3] fun K J=>?_
   simp only[go_sem,qd,qb,reduceCtorEq,Int.reduceEq];apply J
   exact⟨_,_,_,qy (0+k8),⟨k8,l2++[ub (qO (IntKind.u8.wrap ((IntKind.u8.wrap ((x4).tmod 128))+128)))],IntKind.u64.wrap ((x4).tdiv 128),v3+1,rfl,rfl,rfl,h⟩,(.t [0] false)⟩
 rw[if_neg hc10] at h;have t15:=eq_false hc10;apply yf;apply hZ1;have f16:=w6 (T:=tab) (src:=287) (dst:=5) rfl rfl rfl;obtain⟨_u17,hu17,h⟩:=bind_some h;have gu17:=xf hu17;have f18:=(zV E48.len l2)
 refine rg U [2] fun K J=>?_
 simp only[go_sem,qd,qf,qb,qj,reduceCtorEq,zS,yE,qZ,qQ,true_and,ue,yM,yw,yR,t15,f16,gu17,f18,xw,uc,q9,AV.one,qM,qD,ql,qr,qo,qH];apply J
 refine yT (L:=[(2,.os true 1 0 (v3+1) 0 (qa (l2++[ub (qO (IntKind.u8.wrap x4))])) false)]) (τ:=[.cells (v3+1) (qc ZR (l2++[ub (qO (IntKind.u8.wrap x4))])),.cells 0 [.int .u8 (IntKind.u8.wrap x4)]]) (.same (by first|exact⟨rfl,trivial⟩|rfl|(simp only[go_sem,vcf,qk,ql,qr,qo,and_self]<;>rfl)) (by first|exact⟨rfl,trivial⟩|rfl|(simp only[go_sem,ZR,qX,qU,uf,qE,vch]<;>rfl))) ?_;apply yk;cases h;simp only[ZJ,yQ,yZ,xQ,exists_eq_left',go_sem,qe];refine⟨0,v3+1,by simp,?_,?_⟩
 · first|rfl|(simp only[go_sem,qd,qf,qb,qe,qj,qm,reduceIte,reduceCtorEq,push_cast,if_true,qz,qo,qq,qn,qF,qs,qK,qI,qv,qu,qt,zz]<;>rfl)
 first|rfl|(simp only[go_sem,push_cast,qn,zz]<;>rfl)
theorem wA.ok {a0 r}(h:wA a0=some r):ACalls qg 202 [.int .u64 a0] [] (fun r' _=>r'=.ds true (qc ZR r) (qa r) false):=
 (wA.own h).ownData (zV E48.len r) (by simp only[push_cast])
def vab (a0:Int):Int:=
 (if 0≤a0 then IntKind.u64.wrap (2*(IntKind.u64.wrap a0)) else IntKind.u64.wrap ((IntKind.u64.wrap (2*(IntKind.u64.wrap (IntKind.i64.wrap (0-(IntKind.i64.wrap (a0+1)))))))+1))
end
section
set_option maxRecDepth 4000
set_option maxHeartbeats 1000000
open AM
theorem vab.ok {a0 r}(h:vab a0=r):ACalls qg 203 [.int .i64 a0] [] (fun r' _=>r'=.int .u64 r):=by
 refine zt (rs:=[.tmp 2]) U Tryz.func203 rfl Tryz.ntmps203 rfl Tryz.call203 (by simp) ?_;refine zA [(0,.int .i64 a0)] ⟨rfl,trivial⟩ ?_;unfold vab at h;refine D [0] ?_
 refine za fun Z1 hZ1=>?_
 refine D [0,4] ?_;refine yn rfl (fun hc2=>?_) (fun hc2=>?_)
 · rw[if_pos hc2] at h;have t3:=eq_true hc2;have f4:=w6 (T:=tab) (src:=3) (dst:=287) rfl rfl rfl
   refine rg U [2] fun K J=>?_
   simp only[go_sem,qd,qb,reduceCtorEq,t3,f4];apply J
   cases h;exact rtA
 rw[if_neg hc2] at h;have t5:=eq_false hc2;apply zj;apply hZ1;have f6:=w6 (T:=tab) (src:=3) (dst:=287) rfl rfl rfl
 refine rg U [2] fun K J=>?_
 simp only[go_sem,qd,qb,reduceCtorEq,t5,f6];apply J
 cases h;exact rtA
def YQ (a0:yc):Option (List UInt8):=
 (wA (IntKind.u64.wrap (IntKind.i64.wrap ((IntKind.i64.wrap (2*a0.fTag))+a0.fWire)))).bind fun r2=>(if a0.fWire=0 then bnd (vab a0.fN) fun r6=>(wA r6).bind fun r7=>(X7 (qa r2+qa r7) 1).bind fun _u9=>some (r2++r7) else (wA (IntKind.u64.wrap (qa a0.fB:Int))).bind fun r13=>(X7 (qa r2+qa r13) 1).bind fun _u15=>(X7 (qa (r2++r13)+qa a0.fB) 1).bind fun _u17=>some ((r2++r13)++a0.fB))
theorem YQ.own {a0 r}(h:YQ a0=some r):ACalls qg 158 [.agg (zs a0)] [] (fun r' σ'=>r'=.os true 1 0 0 0 (qa r) false∧σ'=[.cells 0 (qc ZR r)]):=by
 refine ACalls.own0 (by simp only[push_cast]) ?_;refine X9 (rs:=[.tmp 2]) U Tryz.func158 rfl Tryz.ntmps158 rfl Tryz.call158 (by simp) ?_;refine zA [(0,.agg (zs a0))] ⟨rfl,trivial⟩ ?_;unfold YQ at h
 refine rg U [1] fun K J=>?_
 simp only[go_sem,qd,qb,qe,reduceCtorEq,zs];apply J
 refine rc [1,3] fun K J=>?_
 have f1:=w6 (T:=tab) (src:=3) (dst:=287) rfl rfl rfl;obtain⟨r2,hr2,h⟩:=bind_some h;refine zB U 7 ?_;simp only[go_sem,qd,qb,qe,f1];refine clN rfl rfl rfl (@id (ACalls qg 202 [.int .u64 (IntKind.u64.wrap (IntKind.i64.wrap ((IntKind.i64.wrap (2*a0.fTag))+a0.fWire)))] [.cells 0 [.int .i64 a0.fTag,.int .i64 a0.fWire,.int .i64 a0.fN,.str a0.fB]] (fun r' σ'=>r'=.os true 1 1 0 0 (qa r2) false∧σ'=[.cells 0 [.int .i64 a0.fTag,.int .i64 a0.fWire,.int .i64 a0.fN,.str a0.fB],.cells 0 (qc ZR r2)])) ((wA.own hr2).ownAt0 (by simp only[push_cast]) (by simp only[push_cast]) _)) ?_;refine O 1 ?_;refine nkN J ?_
 refine za fun Z3 hZ3=>?_
 refine D [1,3,14] ?_;refine yn rfl (fun hc4=>?_) (fun hc4=>?_)
 · rw[if_pos hc4] at h;have t5:=eq_true hc4
   refine rc [2] fun K J=>?_
   obtain⟨r6,hr6,h⟩:=ye h;refine zB U 3 ?_;simp only[go_sem,qd,qb,qe,t5];refine clN rfl rfl rfl ((vab.ok hr6).c _) ?_;obtain⟨r7,hr7,h⟩:=bind_some h;refine clN rfl rfl rfl ((wA.ok hr7).c _) ?_
   have f8:=fun nl tt σ=>Zd E48.len r7 nl tt σ
   obtain⟨_u9,hu9,h⟩:=bind_some h;have gu9:=xf hu9;have f10:=(zV E48.len r2);refine zB U 2 ?_;simp only[go_sem,qd,qb,yM,yw,yR,true_and,f8,gu9,f10,YN,qo];refine nkN J ?_;refine yT (L:=[(2,.os true 1 1 (0+1) 0 (qa (r2++r7)) false)]) (τ:=[.cells 0 [.int .i64 a0.fTag,.int .i64 a0.fWire,.int .i64 a0.fN,.str a0.fB],.cells (0+1) (qc ZR (r2++r7))]) .s ?_;apply yk;cases h;simp only[ZJ,yQ,yZ,xQ,exists_eq_left',go_sem,qe];refine⟨1,0+1,by simp,?_,?_⟩
   · first|rfl|(simp only[go_sem,qd,qf,qb,qe,qj,qm,reduceIte,reduceCtorEq,push_cast,if_true,qz,qo,qq,qn,qF,qs,qK,qI,qv,qu,qt,zz]<;>rfl)
   first|rfl|(simp only[go_sem,push_cast,qo,qn,zz]<;>rfl)
 rw[if_neg hc4] at h;have t11:=eq_false hc4;apply zj;apply hZ3
 refine rc [1,3] fun K J=>?_
 have f12:=w6 (T:=tab) (src:=3) (dst:=287) rfl rfl rfl;obtain⟨r13,hr13,h⟩:=bind_some h;refine zB U 5 ?_;simp only[go_sem,qd,qb,qe,t11,f12];refine clN rfl rfl rfl ((wA.ok hr13).c _) ?_
 have f14:=fun nl tt σ=>Zd E48.len r13 nl tt σ
 obtain⟨_u15,hu15,h⟩:=bind_some h;have gu15:=xf hu15;have f16:=(zV E48.len r2);refine zB U 2 ?_;simp only[go_sem,qd,qb,yM,yw,yR,true_and,f14,gu15,f16,YN,qo];refine nkN J ?_;refine yT (L:=[(1,.op 0 0 0),(3,.os true 1 1 (0+1) 0 (qa (r2++r13)) false)]) (τ:=[.cells 0 [.int .i64 a0.fTag,.int .i64 a0.fWire,.int .i64 a0.fN,.str a0.fB],.cells (0+1) (qc ZR (r2++r13))]) .s ?_;obtain⟨_u17,hu17,h⟩:=bind_some h;have gu17:=xf hu17
 first|simp only[qk] at gu17|skip
 have f18:=(zV E48.len (r2++r13));simp only[qX,qk] at f18
 refine rg U [2] fun K J=>?_
 simp only[go_sem,qd,qb,qe,yM,yw,yR,true_and,gu17,f18,srcCells_s,vbh,YN,qX,qk,ql,qr,qo,qx];apply J
 refine yT (L:=[(2,.os true 1 1 (0+1+1) 0 (qa ((r2++r13)++a0.fB)) false)]) (τ:=[.cells 0 [.int .i64 a0.fTag,.int .i64 a0.fWire,.int .i64 a0.fN,.str a0.fB],.cells (0+1+1) (qc ZR ((r2++r13)++a0.fB))]) .s ?_;apply yk;cases h;simp only[ZJ,yQ,yZ,xQ,exists_eq_left',go_sem,qe];refine⟨1,0+1+1,by simp,?_,?_⟩
 · first|rfl|(simp only[go_sem,qd,qf,qb,qe,qj,qm,reduceIte,reduceCtorEq,push_cast,if_true,qz,qo,qq,qn,qF,qs,qK,qI,qv,qu,qt,zz]<;>rfl)
 first|rfl|(simp only[go_sem,qe,push_cast,qo,qn,zz]<;>rfl)
theorem YQ.ok {a0 r}(h:YQ a0=some r):ACalls qg 158 [.agg (zs a0)] [] (fun r' _=>r'=.ds true (qc ZR r) (qa r) false):=
 (YQ.own h).ownData (zV E48.len r) (by simp only[push_cast])
def xp.l13 : List yc→Int→List UInt8→Option (List UInt8×Int)
 |[],x9,l7=>some (l7,0)
 |y13::q13,x9,l7=>(YQ y13).bind fun r19=>(X7 (qa l7+qa r19) 1).bind fun _u21=>(if 4096<(qa (l7++r19):Int) then some (([]:List UInt8),4) else ((xp.l13 q13) (x9+1) (l7++r19)))
def xp.l4 (a0:List yc):List yc→Int→Option (List UInt8×Int)
 |[],x2=>(xp.l13 a0 0 ([]:List UInt8))
 |y4::q4,x2=>bnd (Yo y4) fun r30=>(if (!r30)=true then some (([]:List UInt8),1) else ((xp.l4 a0 q4) (x2+1)))
def xp (a0:List yc):Option (List UInt8×Int):=
 (xp.l4 a0 a0 0)
theorem xp.ok {a0 r}(h:xp a0=some r):ACalls qg 104 [.ds true (qc zs a0) (qa a0) false] [] (fun r' _=>r'=.tup [.ds true (qc ZR r.1) (qa r.1) false,.int .i64 r.2]):=by
 refine zt (rs:=[.tmp 2,.tmp 3]) U Tryz.func104 rfl Tryz.ntmps104 rfl Tryz.call104 (by simp) ?_;refine zA [(0,.ds true (qc zs a0) (qa a0) false)] ⟨rfl,trivial⟩ ?_;unfold xp at h;refine D [0] ?_;refine D [0,4] ?_;refine YV 4 1 rfl ?_;refine yT (L:=[(0,.ds true (qc zs a0) (qa a0) false),(4,.os true 1 0 0 0 (qa ([]:List UInt8)) false)]) (τ:=[.cells 0 (qc ZR ([]:List UInt8))]) .s ?_
 refine za fun Z1 hZ1=>?_
 refine D [0,4,5] ?_;apply zn
 refine xn 0 fun hb4=>?_
 replace hb4:qa a0≤9223372036854775807:=hb4.1;refine yh (fun m L τ=>∃ (p4 q4:List yc) (x2:Int),m=qa q4∧L=[(0,.ds true (qc zs a0) (qa a0) false),(4,.os true 1 0 0 0 (qa ([]:List UInt8)) false),(5,.int .i64 x2)]∧τ=([.cells 0 (qc ZR ([]:List UInt8))]:ze)∧a0=p4++q4∧x2=(qa p4:Int)∧xp.l4 a0 q4 x2=some r) _ ⟨[],a0,0,rfl,rfl,rfl,rfl,rfl,h⟩ .s ?_;rintro m L τ ⟨p4,q4,x2,rfl,rfl,rfl,hE4,hi4,h⟩
 rcases q4 with _|⟨y4,q4⟩
 · have hz4:=xC hE4 hi4;simp only[xp.l4] at h
   refine za fun Z5 hZ5=>?_
   refine rg U [0,4,5,10] fun K J=>?_
   simp only[go_sem,qd,qb,reduceCtorEq,hz4];apply J
   refine zG rfl ?_;apply yf;apply hZ1
   refine za fun Z6 hZ6=>?_
   refine D [0,4,6] ?_;apply zn
   refine xn 0 fun hb13=>?_
   replace hb13:qa a0≤9223372036854775807:=hb13.1;refine yh (fun m L τ=>∃ (p13 q13:List yc) (x9:Int) (l7:List UInt8) (v8:Nat),m=qa q13∧L=[(0,.ds true (qc zs a0) (qa a0) false),(4,.os true 1 0 v8 0 (qa l7) false),(6,.int .i64 x9)]∧τ=([.cells v8 (qc ZR l7)]:ze)∧a0=p13++q13∧x9=(qa p13:Int)∧xp.l13 q13 x9 l7=some r) _ ⟨[],a0,0,([]:List UInt8),0,rfl,rfl,rfl,rfl,rfl,h⟩ .s ?_;rintro m L τ ⟨p13,q13,x9,l7,v8,rfl,rfl,rfl,hE13,hi13,h⟩
   rcases q13 with _|⟨y13,q13⟩
   · have hz13:=xC hE13 hi13;simp only[xp.l13] at h
     refine za fun Z14 hZ14=>?_
     refine rg U [0,4,6,22] fun K J=>?_
     simp only[go_sem,qd,qb,reduceCtorEq,hz13];apply J
     refine zG rfl ?_;apply yf;apply hZ6;refine D [2,3] ?_;cases h;exact rtA
   obtain⟨hz13,hw13,hx13,hE'13,hi'13⟩:=yU hE13 hi13 hb13;simp only[xp.l13] at h
   refine za fun Z15 hZ15=>?_
   refine rg U [0,4,6,22] fun K J=>?_
   simp only[go_sem,qd,qb,reduceCtorEq,hz13];apply J
   refine zK rfl ?_;apply zj;apply hZ15
   refine za fun Z16 hZ16=>?_
   apply zn
   refine rc [0,4,6] fun K J=>?_
   have f17:=E35.idxS hx13;have f18:=E35.loadS rfl rfl hx13;obtain⟨r19,hr19,h⟩:=bind_some h;refine zB U 5 ?_;simp only[go_sem,qd,qb,reduceCtorEq,zs,f17,f18];refine clN rfl rfl rfl ((YQ.ok hr19).c _) ?_
   have f20:=fun nl tt σ=>Zd E48.len r19 nl tt σ
   obtain⟨_u21,hu21,h⟩:=bind_some h;have gu21:=xf hu21;have f22:=(zV E48.len l7);refine zB U 2 ?_;simp only[go_sem,qd,qb,reduceCtorEq,yM,yw,yR,true_and,f20,gu21,f22,YN];refine nkN J ?_;refine yT (L:=[(0,.ds true (qc zs a0) (qa a0) false),(4,.os true 1 0 (v8+1) 0 (qa (l7++r19)) false),(6,.int .i64 x9)]) (τ:=[.cells (v8+1) (qc ZR (l7++r19))]) .s ?_;refine D [0,4,6,34] ?_;refine yn rfl (fun hc23=>?_) (fun hc23=>?_)
   · rw[if_pos hc23] at h;have t24:=eq_true hc23
     refine rg U [2,3] fun K J=>?_
     simp only[go_sem,qd,qb,reduceCtorEq,t24];apply J
     cases h;exact rtA
   rw[if_neg hc23] at h;have t25:=eq_false hc23;apply zj;apply hZ16
   refine rgE U [0,4,6] fun K J=>?_
   simp only[go_sem,qd,qb,reduceCtorEq,hw13,t25];apply J
   exact⟨_,_,_,qy q13.length,⟨p13++[y13],q13,x9+1,l7++r19,v8+1,rfl,rfl,rfl,hE'13,hi'13,h⟩,.s⟩
 obtain⟨hz4,hw4,hx4,hE'4,hi'4⟩:=yU hE4 hi4 hb4;simp only[xp.l4] at h
 refine za fun Z26 hZ26=>?_
 refine rg U [0,4,5,10] fun K J=>?_
 simp only[go_sem,qd,qb,reduceCtorEq,hz4];apply J
 refine zK rfl ?_;apply zj;apply hZ26
 refine za fun Z27 hZ27=>?_
 apply zn
 refine rc [0,4,5,18] fun K J=>?_
 have f28:=E35.idxS hx4;have f29:=E35.loadS rfl rfl hx4;obtain⟨r30,hr30,h⟩:=ye h;refine zB U 4 ?_;simp only[go_sem,qd,qb,reduceCtorEq,zs,f28,f29];refine clN rfl rfl rfl ((Yo.ok hr30).c _) ?_;refine O 1 ?_;refine nkN J ?_;refine zU (b:=(!r30)) rfl (fun hc31=>?_) (fun hc31=>?_)
 · rw[if_pos hc31] at h;refine D [2,3] ?_;cases h;exact rtA
 rw[Zf hc31] at h;apply zj;apply hZ27
 refine rgE U [0,4,5] fun K J=>?_
 simp only[go_sem,qd,qb,reduceCtorEq,hw4];apply J
 exact⟨_,_,_,qy q4.length,⟨p4++[y4],q4,x2+1,rfl,rfl,rfl,hE'4,hi'4,h⟩,.s⟩
def xM.body (yL:zk→Option (List UInt8×Int))(Zs:zk→Option (List yc×Int))(a0:zk):Option (List UInt8×Int):=
 (Zs a0).bind fun r1=>(if r1.2=0 then (xp r1.1).bind fun r6=>some (r6.1,r6.2) else some (([]:List UInt8),r1.2))
theorem xM.step (yL:zk→Option (List UInt8×Int))(Zs:zk→Option (List yc×Int))(vad:∀ (a0:zk) (r:List UInt8×Int),yL a0=some r→ACalls qg 67 [.agg (zd a0)] [] (fun r' _=>r'=.tup [.ds true (qc ZR r.1) (qa r.1) false,.int .i64 r.2]))(vba:∀ (a0:zk) (r:List yc×Int),Zs a0=some r→ACalls qg 103 [.agg (zd a0)] [] (fun r' _=>r'=.tup [.ds true (qc zs r.1) (qa r.1) false,.int .i64 r.2]))(a0:zk)(r:List UInt8×Int)(h:xM.body yL Zs a0=some r):ACalls qg 67 [.agg (zd a0)] [] (fun r' _=>r'=.tup [.ds true (qc ZR r.1) (qa r.1) false,.int .i64 r.2]):=by
 have ev_ref11_encode:=fun a0 r h σ=>(vad a0 r h).c σ
 have ev_ref11_raws:=fun a0 r h σ=>(vba a0 r h).c σ
 refine zt (rs:=[.tmp 2,.tmp 3]) U Tryz.func67 rfl Tryz.ntmps67 rfl Tryz.call67 (by simp) ?_;refine zA [(0,.agg (zd a0))] ⟨rfl,trivial⟩ ?_;unfold xM.body at h
 refine rg U [1] fun K J=>?_
 simp only[go_sem,qd,qb,qe,reduceCtorEq,zd];apply J
 refine rc [4,5] fun K J=>?_
 obtain⟨r1,hr1,h⟩:=bind_some h;refine O 1 ?_;refine clN rfl rfl rfl (ev_ref11_raws a0 r1 hr1 _) ?_;refine O 5 ?_;refine nkN J ?_
 refine za fun Z2 hZ2=>?_
 refine D [4,5,12] ?_;refine yn rfl (fun hc3=>?_) (fun hc3=>?_)
 · rw[if_neg hc3] at h;have t4:=eq_false hc3
   refine rg U [2,3] fun K J=>?_
   simp only[go_sem,qd,qb,t4];apply J
   cases h;exact rtA
 rw[if_pos hc3] at h;have t5:=eq_true hc3;apply zj;apply hZ2
 refine rc [2,3] fun K J=>?_
 obtain⟨r6,hr6,h⟩:=bind_some h;refine zB U 1 ?_;simp only[go_sem,qd,qb,t5];refine clN rfl rfl rfl ((xp.ok hr6).c _) ?_;refine O 4 ?_;refine nkN J ?_;cases h;exact rtA
def yF.j37 (x18:Int)(l16:List yc)(rec22:Int→List yc→Option (List yc×Int))(m2_36:yc):Option (List yc×Int):=
 (if 4096<(qa m2_36.fB:Int) then some (([]:List yc),4) else (X7 (qa l16+1) 40).bind fun _u42=>(rec22 (x18+1) (l16++[m2_36])))
def yF.l22 (yL:zk→Option (List UInt8×Int))(x4:Int)(rec8:Int→List yc→Option (List yc×Int))(y8:zr):List zk→Int→List yc→Option (List yc×Int)
 |[],x18,l16=>(rec8 (x4+1) l16)
 |y22::q22,x18,l16=>(if y22.fKind=1 then (yF.j37 x18 l16 (yF.l22 yL x4 rec8 y8 q22) (⟨y8.fTag,0,y22.fN,[]⟩:yc)) else (if y22.fKind=2 then (yF.j37 x18 l16 (yF.l22 yL x4 rec8 y8 q22) (⟨y8.fTag,1,0,y22.fS⟩:yc)) else (yL y22).bind fun r50=>(if r50.2=0 then (yF.j37 x18 l16 (yF.l22 yL x4 rec8 y8 q22) (⟨y8.fTag,1,0,r50.1⟩:yc)) else some (([]:List yc),r50.2))))
def yF.l8 (yL:zk→Option (List UInt8×Int))(a0:zk):List zr→Int→List yc→Option (List yc×Int)
 |[],x4,l2=>(X7 (qa l2+qa a0.fRest) 40).bind fun _u11=>(yy (l2++a0.fRest)).bind fun r13=>some (r13,0)
 |y8::q8,x4,l2=>(yF.l22 yL x4 (yF.l8 yL a0 q8) y8 y8.fTrees 0 l2)
def yF.body (yL:zk→Option (List UInt8×Int))(Zs:zk→Option (List yc×Int))(a0:zk):Option (List yc×Int):=
 (yF.l8 yL a0 a0.fEntries 0 ([]:List yc))
theorem yF.step (yL:zk→Option (List UInt8×Int))(Zs:zk→Option (List yc×Int))(vad:∀ (a0:zk) (r:List UInt8×Int),yL a0=some r→ACalls qg 67 [.agg (zd a0)] [] (fun r' _=>r'=.tup [.ds true (qc ZR r.1) (qa r.1) false,.int .i64 r.2]))(vba:∀ (a0:zk) (r:List yc×Int),Zs a0=some r→ACalls qg 103 [.agg (zd a0)] [] (fun r' _=>r'=.tup [.ds true (qc zs r.1) (qa r.1) false,.int .i64 r.2]))(a0:zk)(r:List yc×Int)(h:yF.body yL Zs a0=some r):ACalls qg 103 [.agg (zd a0)] [] (fun r' _=>r'=.tup [.ds true (qc zs r.1) (qa r.1) false,.int .i64 r.2]):=by
 have ev_ref11_encode:=fun a0 r h σ=>(vad a0 r h).c σ
 have ev_ref11_raws:=fun a0 r h σ=>(vba a0 r h).c σ
 refine zt (rs:=[.tmp 2,.tmp 3]) U Tryz.func103 rfl Tryz.ntmps103 rfl Tryz.call103 (by simp) ?_;refine zA [(0,.agg (zd a0))] ⟨rfl,trivial⟩ ?_;unfold yF.body at h
 refine rg U [1] fun K J=>?_
 simp only[go_sem,qd,qb,qe,reduceCtorEq,zd];apply J
 refine D [1,4] ?_;refine YV 4 4 rfl ?_;refine yT (L:=[(1,.op 0 0 0),(4,.os true 4 1 0 0 (qa ([]:List yc)) false)]) (τ:=[.cells 0 (zd a0),.cells 0 (qc zs ([]:List yc))]) .s ?_
 refine za fun Z1 hZ1=>?_
 refine D [1,4,5] ?_;apply zn
 refine XK 0 rfl fun hb8=>?_
 replace hb8:qa a0.fEntries≤9223372036854775807:=hb8.2.2.2.1.1;refine yh (fun m L τ=>∃ (p8 q8:List zr) (x4:Int) (l2:List yc) (v3:Nat),m=qa q8∧L=[(1,.op 0 0 0),(4,.os true 4 1 v3 0 (qa l2) false),(5,.int .i64 x4)]∧τ=([.cells 0 (zd a0),.cells v3 (qc zs l2)]:ze)∧a0.fEntries=p8++q8∧x4=(qa p8:Int)∧yF.l8 yL a0 q8 x4 l2=some r) _ ⟨[],a0.fEntries,0,([]:List yc),0,rfl,rfl,rfl,rfl,rfl,h⟩ .s ?_;rintro m L τ ⟨p8,q8,x4,l2,v3,rfl,rfl,rfl,hE8,hi8,h⟩
 rcases q8 with _|⟨y8,q8⟩
 · have hz8:=xC hE8 hi8;simp only[yF.l8] at h
   refine za fun Z9 hZ9=>?_
   refine rg U [1,4,5,15] fun K J=>?_
   simp only[go_sem,qd,qb,qe,hz8];apply J
   refine zG rfl ?_;apply yf;apply hZ1
   refine rc [2,3] fun K J=>?_
   have f10:=fun nl tt σ=>Zd E35.len a0.fRest nl tt σ
   obtain⟨_u11,hu11,h⟩:=bind_some h;have gu11:=xf hu11;have f12:=(zV E35.len l2);obtain⟨r13,hr13,h⟩:=bind_some h;refine zB U 4 ?_;simp only[go_sem,qd,qb,qe,yM,yw,yR,true_and,f10,gu11,f12,YN,ql,qr,qo];refine vbF (L:=[(80,.ds true (qc zs (l2++a0.fRest)) (qa (l2++a0.fRest)) false)]) (τ:=[]) (.t [] false) ?_;refine clN rfl rfl rfl ((yy.ok hr13).c _) ?_;refine O 2 ?_;refine nkN J ?_;refine yT (L:=[(2,.ds true (qc zs r13) (qa r13) false),(3,.int .i64 0)]) (τ:=[]) .s ?_;cases h;exact rtA
 obtain⟨hz8,hw8,hx8,hE'8,hi'8⟩:=yU hE8 hi8 hb8;simp only[yF.l8] at h
 refine za fun Z14 hZ14=>?_
 refine rg U [1,4,5,15] fun K J=>?_
 simp only[go_sem,qd,qb,qe,hz8];apply J
 refine zK rfl ?_;apply zj;apply hZ14
 refine za fun Z15 hZ15=>?_
 apply zn;refine D [1,4,5,6] ?_;apply zn
 refine XK 0 rfl fun hb22=>?_
 replace hb22:=deepL_idx hb22.2.2.2.1.2 hx8;rw[yK] at hb22;replace hb22:qa y8.fTrees≤9223372036854775807:=hb22.2.1.1;refine yh (fun m L τ=>∃ (p22 q22:List zk) (x18:Int) (l16:List yc) (v17:Nat),m=qa q22∧L=[(1,.op 0 0 0),(4,.os true 4 1 v17 0 (qa l16) false),(5,.int .i64 x4),(6,.int .i64 x18)]∧τ=([.cells 0 (zd a0),.cells v17 (qc zs l16)]:ze)∧y8.fTrees=p22++q22∧x18=(qa p22:Int)∧yF.l22 yL x4 (yF.l8 yL a0 q8) y8 q22 x18 l16=some r) _ ⟨[],y8.fTrees,0,l2,v3,rfl,rfl,rfl,rfl,rfl,h⟩ .s ?_;rintro m L τ ⟨p22,q22,x18,l16,v17,rfl,rfl,rfl,hE22,hi22,h⟩
 rcases q22 with _|⟨y22,q22⟩
 · have hz22:=xC hE22 hi22;simp only[yF.l22] at h
   refine za fun Z23 hZ23=>?_
   have f24:=E34.idxS hx8;have f25:=E34.fldS (f:=38) rfl rfl hx8 (o:=1) (by decide)
   refine rg U [1,4,5,6,26] fun K J=>?_
   simp only[go_sem,qd,qb,qe,zQ,yK,hz22,f24,f25];apply J
   refine zG rfl ?_;apply yf;apply hZ15
   refine rgE U [1,4,5] fun K J=>?_
   simp only[go_sem,qd,qb,hw8];apply J
   exact⟨_,_,_,qy q8.length,⟨p8++[y8],q8,x4+1,l16,v17,rfl,rfl,rfl,hE'8,hi'8,h⟩,.s⟩
 obtain⟨hz22,hw22,hx22,hE'22,hi'22⟩:=yU hE22 hi22 hb22;simp only[yF.l22] at h
 refine za fun Z26 hZ26=>?_
 have f27:=E34.idxS hx8;have f28:=E34.fldS (f:=38) rfl rfl hx8 (o:=1) (by decide)
 refine rg U [1,4,5,6,26] fun K J=>?_
 simp only[go_sem,qd,qb,qe,zQ,yK,hz22,f27,f28];apply J
 refine zK rfl ?_;apply zj;apply hZ26
 refine za fun Z29 hZ29=>?_
 apply zn;have f30:=E34.idxS hx8;have f31:=E34.fldS (f:=38) rfl rfl hx8 (o:=1) (by decide);have f32:=E38.idxS hx22;have f33:=E38.loadS rfl rfl hx22
 refine rg U [1,4,5,6,7] fun K J=>?_
 simp only[go_sem,qd,qf,qb,qe,zQ,zd,yK,yu,f30,f31,f32,f33];apply J
 have f34:=E34.idxS hx8;have f35:=E34.fldS0 (f:=3) rfl rfl hx8
 refine rg U [1,4,5,6,7,8] fun K J=>?_
 simp only[go_sem,qd,qf,qb,qe,zQ,yK,f34,f35];apply J
 refine xL (fun L τ=>∃ (m2_36:yc),L=[(1,.op 0 0 0),(4,.os true 4 1 v17 0 (qa l16) false),(5,.int .i64 x4),(6,.int .i64 x18),(8,.op 2 0 0)]∧τ=([.cells 0 (zd a0),.cells v17 (qc zs l16),.cells 0 [.int .i64 m2_36.fTag,.int .i64 m2_36.fWire,.int .i64 m2_36.fN,.str m2_36.fB]]:ze)∧yF.j37 x18 l16 (yF.l22 yL x4 (yF.l8 yL a0 q8) y8 q22) m2_36=some r) ?_ ?_
 · refine D [1,4,5,6,7,8,46] ?_;apply zn;refine D [1,4,5,6,7,8,46,58] ?_;refine yn rfl (fun hc44=>?_) (fun hc44=>?_)
   · rw[if_pos hc44] at h;have t45:=eq_true hc44
     refine rg U [1,4,5,6,7,8] fun K J=>?_
     simp only[go_sem,qd,qf,qb,qe,t45];apply J
     refine rgE U [1,4,5,6,8] fun K J=>?_
     simp only[go_sem,qd,qf,qb,qe];apply J
     exact⟨_,_,⟨(⟨y8.fTag,0,y22.fN,[]⟩:yc),rfl,rfl,h⟩,(.t [0,1,3] false)⟩
   rw[if_neg hc44] at h;have t46:=eq_false hc44
   refine rg U [1,4,5,6,7,8,64] fun K J=>?_
   simp only[go_sem,qd,qb,t46];apply J
   refine yn rfl (fun hc47=>?_) (fun hc47=>?_)
   · rw[if_pos hc47] at h;have t48:=eq_true hc47
     refine rgE U [1,4,5,6,8] fun K J=>?_
     simp only[go_sem,qd,qf,qb,qe,t48];apply J
     exact⟨_,_,⟨(⟨y8.fTag,1,0,y22.fS⟩:yc),rfl,rfl,h⟩,(.t [0,1,3] false)⟩
   rw[if_neg hc47] at h;have t49:=eq_false hc47
   refine rc [1,4,5,6,8,9,10] fun K J=>?_
   obtain⟨r50,hr50,h⟩:=bind_some h;refine zB U 1 ?_;simp only[go_sem,qd,qf,qb,qe,t49];refine clN rfl rfl rfl (ev_ref11_encode y22 r50 hr50 _) ?_;refine O 5 ?_;refine nkN J ?_
   refine za fun Z51 hZ51=>?_
   refine D [1,4,5,6,8,9,10,53] ?_;refine yn rfl (fun hc52=>?_) (fun hc52=>?_)
   · rw[if_neg hc52] at h;have t53:=eq_false hc52
     refine rg U [2,3] fun K J=>?_
     simp only[go_sem,qd,qb,t53];apply J
     cases h;exact rtA
   rw[if_pos hc52] at h;have t54:=eq_true hc52;apply zj;apply hZ51;have f55:=vb0 (T:=tab) (src:=48) (dst:=9) rfl rfl rfl rfl rfl rfl r50.1
   refine rgE U [1,4,5,6,8] fun K J=>?_
   simp only[go_sem,qd,qf,qb,qe,t54,f55];apply J
   exact⟨_,_,⟨(⟨y8.fTag,1,0,r50.1⟩:yc),rfl,rfl,h⟩,(.t [0,1,3] false)⟩
 rintro _ _ ⟨m2_36,rfl,rfl,h⟩;unfold yF.j37 at h
 refine za fun Z38 hZ38=>?_
 refine D [1,4,5,6,8,72] ?_;refine yn rfl (fun hc39=>?_) (fun hc39=>?_)
 · rw[if_pos hc39] at h;have t40:=eq_true hc39
   refine rg U [2,3] fun K J=>?_
   simp only[go_sem,qd,qb,t40];apply J
   cases h;exact rtA
 rw[if_neg hc39] at h;have t41:=eq_false hc39;apply zj;apply hZ38;obtain⟨_u42,hu42,h⟩:=bind_some h;have gu42:=xf hu42;have f43:=(zV E35.len l16)
 refine rgE U [1,4,5,6] fun K J=>?_
 simp only[go_sem,qd,qf,qb,qe,qj,zS,yE,qZ,qQ,true_and,ue,yM,yw,yR,t41,gu42,f43,xw,uc,q9,AV.one,qM,qD,ql,qr,qo,qH];apply J
 apply hZ29
 refine rgE U [1,4,5,6] fun K J=>?_
 simp only[go_sem,qd,qb,hw22];apply J
 exact⟨_,_,_,qy q22.length,⟨p22++[y22],q22,x18+1,l16++[m2_36],v17+1,rfl,rfl,rfl,hE'22,hi'22,h⟩,(.t [0,1] false)⟩
mutual
def xM : Nat→zk→Option (List UInt8×Int)
 |0,_=>none
 |k+1,a0=>xM.body (xM k) (yF k) a0
def yF : Nat→zk→Option (List yc×Int)
 |0,_=>none
 |k+1,a0=>yF.body (xM k) (yF k) a0
end
theorem xM.all (k:Nat):(∀ (a0:zk) (r:List UInt8×Int),xM k a0=some r→ACalls qg 67 [.agg (zd a0)] [] (fun r' _=>r'=.tup [.ds true (qc ZR r.1) (qa r.1) false,.int .i64 r.2]))∧(∀ (a0:zk) (r:List yc×Int),yF k a0=some r→ACalls qg 103 [.agg (zd a0)] [] (fun r' _=>r'=.tup [.ds true (qc zs r.1) (qa r.1) false,.int .i64 r.2])):=by
 induction k with
 |zero=>exact⟨(fun a0 r h=>by simp only[xM] at h; cases h),(fun a0 r h=>by simp only[yF] at h; cases h)⟩
 |succ k ih=>exact⟨(fun a0 r h=>xM.step _ _ ih.1 ih.2 a0 r (by simpa only [xM] using h)),(fun a0 r h=>yF.step _ _ ih.1 ih.2 a0 r (by simpa only [yF] using h))⟩
theorem xM.ev (k:Nat)(a0:zk)(r:List UInt8×Int)(h:xM k a0=some r)(σ:ze):ACalls qg 67 [.agg (zd a0)] σ (fun r' σ'=>r'=.tup [.ds true (qc ZR r.1) (qa r.1) false,.int .i64 r.2]∧σ'=σ):=
 ((xM.all k).1 a0 r h).c σ
def wD (a0:zk):Option (List UInt8×Int):=
 (if a0.fKind=3 then (Y0 a0).bind fun r2=>some (!r2) else some true).bind fun c2=>(if c2=true then some (([]:List UInt8),1) else (xM xo a0).bind fun r7=>some (r7.1,r7.2))
theorem wD.ok {a0 r}(h:wD a0=some r):ACalls qg 20 [.agg (zd a0)] [] (fun r' _=>r'=.tup [.ds true (qc ZR r.1) (qa r.1) false,.int .i64 r.2]):=by
 refine zt (rs:=[.tmp 2,.tmp 3]) U Tryz.func20 rfl Tryz.ntmps20 rfl Tryz.call20 (by simp) ?_;refine zA [(0,.agg (zd a0))] ⟨rfl,trivial⟩ ?_;unfold wD at h
 refine rg U [1] fun K J=>?_
 simp only[go_sem,qd,qb,qe,reduceCtorEq,zd];apply J
 refine za fun Z1 hZ1=>?_
 refine rc [1,11] fun K J=>?_
 refine O 4 ?_;obtain⟨c2,hc2,h⟩:=bind_some h;refine zH 4 (fun L τ=>L=[(1,.op 0 0 0),(11,.bool c2)]∧τ=([.cells 0 (zd a0)]:ze)) ?_ ?_
 · refine wh 7 rfl (fun hg7=>?_) (fun hg7=>?_)
   · have t3:=eq_false hg7;rw[if_neg hg7] at hc2;refine O 4 ?_;cases hc2;refine zi ⟨rfl,_,_,⟨rfl,rfl⟩,.p t3⟩
   have t4:=eq_true hg7;rw[if_pos hg7] at hc2;obtain⟨r5,hr5,hc2⟩:=bind_some hc2;refine O 1 ?_;refine clN rfl rfl rfl ((Y0.ok hr5).c _) ?_;refine O 2 ?_;cases hc2;refine zi ⟨rfl,_,_,⟨rfl,rfl⟩,.p t4⟩
 rintro _ _ ⟨rfl,rfl⟩;refine nkN J ?_;refine zU (b:=c2) rfl (fun hc6=>?_) (fun hc6=>?_)
 · rw[if_pos hc6] at h;refine D [2,3] ?_;cases h;exact rtA
 rw[Zf hc6] at h;apply zj;apply hZ1
 refine rc [2,3] fun K J=>?_
 obtain⟨r7,hr7,h⟩:=bind_some h;refine O 1 ?_;refine clN rfl rfl rfl (xM.ev xo a0 r7 hr7 _) ?_;refine O 4 ?_;refine nkN J ?_;cases h;exact rtA
def wY.j3 (x2:Int):Option Int:=
 some x2
def wY (a0:Int)(a1:Int):Option Int:=
 (grd (a1≠0)).bind fun _u1=>(if (a0).tmod a1<0 then (wY.j3 (IntKind.i64.wrap ((a0).tmod a1+a1))) else (wY.j3 ((a0).tmod a1)))
theorem wY.ok {a0 a1 r}(h:wY a0 a1=some r):ACalls qg 25 [.int .i64 a0,.int .i64 a1] [] (fun r' _=>r'=.int .i64 r):=by
 refine zt (rs:=[.tmp 4]) U Tryz.func25 rfl Tryz.ntmps25 rfl Tryz.call25 (by simp) ?_;refine zA [(0,.int .i64 a0),(1,.int .i64 a1)] ⟨rfl,rfl,trivial⟩ ?_;unfold wY at h;refine D [0,1] ?_;obtain⟨_u1,hu1,h⟩:=bind_some h;have gu1:=Ya hu1;have gu1f:=eq_false gu1
 refine rg U [1,5] fun K J=>?_
 simp only[go_sem,qd,qb,reduceCtorEq,gu1f];apply J
 refine xL (fun L τ=>∃ (x2:Int),L=[(5,.int .i64 x2)]∧τ=([]:ze)∧wY.j3 x2=some r) ?_ ?_
 · refine D [1,5,10] ?_;refine yn rfl (fun hc4=>?_) (fun hc4=>?_)
   · rw[if_pos hc4] at h;have t5:=eq_true hc4
     refine rgE U [5] fun K J=>?_
     simp only[go_sem,qd,qb,t5];apply J
     exact⟨_,_,⟨IntKind.i64.wrap ((a0).tmod a1+a1),rfl,rfl,h⟩,.s⟩
   rw[if_neg hc4] at h;have t6:=eq_false hc4;apply zj;exact⟨_,_,⟨(a0).tmod a1,rfl,rfl,h⟩,.s⟩
 rintro _ _ ⟨x2,rfl,rfl,h⟩;unfold wY.j3 at h;refine D [4] ?_;cases h;exact rtA
def Za (a0:Int):zE:=
 (⟨[97],[(⟨[109],[(⟨[120],1,1,(⟨a0,[]⟩:Yi)⟩:ZS)],([]:List Int)⟩:ya)],([]:List wJ),[(⟨[99],[109],[109]⟩:Zg)]⟩:zE)
theorem Za.ok {a0 r}(h:Za a0=r):ACalls qg 46 [.int .i64 a0] [] (fun r' _=>r'=.agg (zb r)):=by
 refine zt (rs:=[.cell 2 31]) U Tryz.func46 rfl Tryz.ntmps46 rfl Tryz.call46 (by simp) ?_;refine zA [(0,.int .i64 a0)] ⟨rfl,trivial⟩ ?_;unfold Za at h;refine D [0,2] ?_
 refine rg U [2] fun K J=>?_
 simp only[go_sem,qd,qf,qb,qe,qj,reduceCtorEq,zS,yE,qZ,qQ,true_and,ue];apply J
 cases h;exact rtA
def xS (a0:Int):zk:=
 (if a0=0 then (⟨3,0,[],([]:List zr),([]:List yc)⟩:zk) else (⟨3,0,[],[(⟨1,[(⟨1,a0,[],([]:List zr),([]:List yc)⟩:zk)]⟩:zr)],([]:List yc)⟩:zk))
theorem xS.ok {a0 r}(h:xS a0=r):ACalls qg 49 [.int .i64 a0] [] (fun r' _=>r'=.agg (zd r)):=by
 refine zt (rs:=[.cell 2 37]) U Tryz.func49 rfl Tryz.ntmps49 rfl Tryz.call49 (by simp) ?_;refine zA [(0,.int .i64 a0)] ⟨rfl,trivial⟩ ?_;unfold xS at h;refine D [0,2] ?_;refine D [0,2,3] ?_
 refine za fun Z1 hZ1=>?_
 refine D [0,2,3,6] ?_;refine yn rfl (fun hc2=>?_) (fun hc2=>?_)
 · rw[if_neg hc2] at h;have t3:=eq_false hc2
   refine rgE U [2,3] fun K J=>?_
   simp only[go_sem,qd,qf,qb,qe,qj,reduceCtorEq,zS,yE,qZ,qQ,true_and,ue,t3];apply J
   apply hZ1;refine D [2] ?_;cases h;exact rtA
 rw[if_pos hc2] at h;have t4:=eq_true hc2;apply zj;apply hZ1
 refine rg U [2] fun K J=>?_
 simp only[go_sem,qd,qf,qb,qe,reduceCtorEq,t4];apply J
 cases h;exact rtA
def ZD (a0:List GRow):Option (List GRow):=(X7 (qa a0) 176).bind fun _=>some a0
theorem ZD.ok (a0 r:List GRow)(h:ZD a0=some r):ACalls qg 83 [.ds true (qc yx a0) (qa a0) false] [] (fun r' _=>r'=.ds true (qc yx r) (qa r) false):=by
 obtain⟨_u,hu,h⟩:=bind_some h;have gu:=xf hu;cases h
 have f1:=fun nl tt σ=>Zd E82.len a0 nl tt σ
 have f2:=zV E82.len a0;have f3:=YN yx a0
 have fin:∀ σ id ver tt,ze.at σ id ver=some (qc yx a0)→tell σ [] true 12 (.os true 11 id ver 0 (qa a0) tt)=.ds true (qc yx a0) (qa a0) false:=by
  intro σ id ver tt hs
  simp only[ZT,Zi,hs,qz,qo];rw[if_pos (by rw[f2]; exact qw _),← f2,uj,zz]
 refine zt (rs:=[.tmp 2]) U Tryz.func83 rfl Tryz.ntmps83 rfl Tryz.call83 (by simp) ?_;refine zA [(0,.ds true (qc yx a0) (qa a0) false)] ⟨rfl,trivial⟩ ?_;refine D [0] ?_
 refine za fun Z1 hZ1=>?_
 refine rc [0,4] fun K J=>?_
 refine O 1 ?_
 refine Xq U rfl rfl rfl rfl rfl rfl fun b hnil=>?_
 have hb:b=true→a0=[]:=fun hb=>by
  have:=hnil hb;simp only[yR,go_sem,reduceCtorEq] at this;exact ul this
 clear hnil
 refine nkN J ?_;cases b
 · refine zG rfl ?_;apply zj;apply hZ1
   refine rg U [2] fun K J=>?_
   by_cases h0:qa a0=0
   · obtain rfl:=ul h0;simp only[go_sem,qd,qb,qe,reduceCtorEq,zS,yE,qQ,uu,yM,yw,yR,xb,uf,qr,uw,uc];apply J
     apply yk;simp only[ZJ,yQ,yZ,xQ,exists_eq_left',go_sem]
     first|rfl|(simp only[go_sem,qd,qf,qb,qe,qj,qm,reduceIte,reduceCtorEq,ZT,Zi,qn]<;>rfl)
   have h1:=eq_false h0;simp only[go_sem,qd,qb,qe,reduceCtorEq,zS,yE,qQ,uu,yM,yw,yR,f1,f3,h1,gu,xw,qn,qD,uw];apply J
   apply yk;simp only[ZJ,yQ,yZ,xQ,exists_eq_left',go_sem];exact fin _ _ _ _ (by simp only[ze.at_hd,ze.at_tl,if_true])
 obtain rfl:=hb rfl;refine zK rfl ?_;refine D [2] ?_;apply yk;simp only[ZJ,yQ,yZ,xQ,exists_eq_left',go_sem]
 first|rfl|(simp only[go_sem,qd,qf,qb,qe,qj,qm,reduceIte,reduceCtorEq,Xl,qn,qs,qu,qv]<;>rfl)
theorem ZD.ev (a0 r:List GRow)(h:ZD a0=some r)(σ:ze):ACalls qg 83 [.ds true (qc yx a0) (qa a0) false] σ (fun r' σ'=>r'=.ds true (qc yx r) (qa r) false∧σ'=σ):=
 (ZD.ok a0 r h).pureAt (by simp only[AV.canon,xx,xA,qM,qt,uA]) (by simp only[AV.canon,xA,qM,qt,uA]) σ
def vaS (a0:Int):Zn:=
 (⟨(if 1<(if 8<a0 then 8 else a0) then (if 8<a0 then 8 else a0) else 1),([]:List xB),0,(⟨[],[],0⟩:vaZ xB xF),(⟨[],[],0⟩:vaZ Int Int)⟩:Zn)
theorem vaS.ok {a0 r}(h:vaS a0=r):ACalls qg 84 [.int .i64 a0] [] (fun r' σ'=>r'=.op 0 0 0∧σ'=[.cells 0 [.int .i64 r.fsize,.os true 2 1 (r.vorder) 0 (qa r.forder) false,.mp 2,.mp 3],.cells (r.vorder) (qc zp r.forder),.map (yN zD zT r.freplies.l) (some (r.freplies.bs,r.freplies.ck)),.map (yN (AV.int .i64) (AV.int .i64) r.flast.l) (some (r.flast.bs,r.flast.ck))]):=by
 refine acalls_ptr (rs:=[.tmp 2]) U Tryz.func84 rfl Tryz.ntmps84 rfl Tryz.call84 (by simp) ?_;refine zA [(0,.int .i64 a0)] ⟨rfl,trivial⟩ ?_;unfold vaS at h;refine D [0] ?_
 refine rg U [2] fun K J=>?_
 simp only[go_sem,qd,qf,qb,qe,reduceCtorEq,vbm,vdx,vcb,vcc];apply J
 refine ZN 2 1 2 rfl (by simp) rfl (L:=[(2,.op 2 0 0)]) (τ:=[.map (yN zD zT []) (some ([],0)),.map (yN (AV.int .i64) (AV.int .i64) []) (some ([],0)),.cells 0 [.int .i64 (if 1<(if 8<a0 then 8 else a0) then (if 8<a0 then 8 else a0) else 1),.os true 2 3 0 0 (qa ([]:List xB)) false,.mp 0,.mp 1],.cells 0 (qc zp ([]:List xB))]) .s ?_;refine yT (L:=[(2,.op 2 0 0)]) (τ:=[.map (yN zD zT []) (some ([],0)),.map (yN (AV.int .i64) (AV.int .i64) []) (some ([],0)),.cells 0 [.int .i64 (if 1<(if 8<a0 then 8 else a0) then (if 8<a0 then 8 else a0) else 1),.os true 2 3 0 0 (qa ([]:List xB)) false,.mp 0,.mp 1],.cells 0 (qc zp ([]:List xB))]) .s ?_;apply yk;obtain rfl:=h;simp only[ZJ,yQ,yZ,xQ,exists_eq_left',go_sem,qe];refine⟨[2,3,0,1],by decide,by simp,?_,?_⟩
 · first|rfl|(simp only[go_sem,qd,qf,qb,qe,qj,qm,reduceIte,reduceCtorEq,push_cast,if_true,qz,qo,qq,qn,qF,qs,qK,qI,qv,qu,qt,zz,zp]<;>rfl)
 first|rfl|(simp only[go_sem,qd,qf,qb,qe,qj,qm,reduceIte,reduceCtorEq,push_cast,if_true,qz,qo,qq,qn,qF,qs,qK,qI,qv,qu,qt,zz,zp]<;>rfl)
def ZC (a0:List Int):Option (List Int):=(X7 (qa a0) 8).bind fun _=>some a0
theorem ZC.ok (a0 r:List Int)(h:ZC a0=some r):ACalls qg 129 [.ds true (qc wN a0) (qa a0) false] [] (fun r' _=>r'=.ds true (qc wN r) (qa r) false):=by
 obtain⟨_u,hu,h⟩:=bind_some h;have gu:=xf hu;cases h
 have f1:=fun nl tt σ=>Zd E26.len a0 nl tt σ
 have f2:=zV E26.len a0;have f3:=YN wN a0
 have fin:∀ σ id ver tt,ze.at σ id ver=some (qc wN a0)→tell σ [] true 12 (.os true 1 id ver 0 (qa a0) tt)=.ds true (qc wN a0) (qa a0) false:=by
  intro σ id ver tt hs
  simp only[ZT,Zi,hs,qz,qo];rw[if_pos (by rw[f2]; exact qw _),← f2,uj,zz]
 refine zt (rs:=[.tmp 2]) U Tryz.func129 rfl Tryz.ntmps129 rfl Tryz.call129 (by simp) ?_;refine zA [(0,.ds true (qc wN a0) (qa a0) false)] ⟨rfl,trivial⟩ ?_;refine D [0] ?_
 refine za fun Z1 hZ1=>?_
 refine rc [0,4] fun K J=>?_
 refine O 1 ?_
 refine Xq U rfl rfl rfl rfl rfl rfl fun b hnil=>?_
 have hb:b=true→a0=[]:=fun hb=>by
  have:=hnil hb;simp only[yR,go_sem,reduceCtorEq] at this;exact ul this
 clear hnil
 refine nkN J ?_;cases b
 · refine zG rfl ?_;apply zj;apply hZ1
   refine rg U [2] fun K J=>?_
   by_cases h0:qa a0=0
   · obtain rfl:=ul h0;simp only[go_sem,qd,qb,reduceCtorEq,zS,yE,qQ,uu,yM,yw,yR,xb,uf,qr,uw,uc];apply J
     apply yk;simp only[ZJ,yQ,yZ,xQ,exists_eq_left',go_sem]
     first|rfl|(simp only[go_sem,qd,qf,qb,qe,qj,qm,reduceIte,reduceCtorEq,ZT,Zi,qn]<;>rfl)
   have h1:=eq_false h0;simp only[go_sem,qd,qb,reduceCtorEq,zS,yE,qQ,uu,yM,yw,yR,f1,f3,h1,gu,xw,qn,qD,uw];apply J
   apply yk;simp only[ZJ,yQ,yZ,xQ,exists_eq_left',go_sem];exact fin _ _ _ _ (by simp only[ze.at_hd,ze.at_tl,if_true])
 obtain rfl:=hb rfl;refine zK rfl ?_;refine D [2] ?_;apply yk;simp only[ZJ,yQ,yZ,xQ,exists_eq_left',go_sem]
 first|rfl|(simp only[go_sem,qd,qf,qb,qe,qj,qm,reduceIte,reduceCtorEq,Xl,qn,qs,qu,qv]<;>rfl)
theorem ZC.ev (a0 r:List Int)(h:ZC a0=some r)(σ:ze):ACalls qg 129 [.ds true (qc wN a0) (qa a0) false] σ (fun r' σ'=>r'=.ds true (qc wN r) (qa r) false∧σ'=σ):=
 (ZC.ok a0 r h).pureAt (by simp only[AV.canon,xx,xA,qM,qt,uA]) (by simp only[AV.canon,xA,qM,qt,uA]) σ
def wW (a0:List zE):Option (List zE):=(X7 (qa a0) 88).bind fun _=>some a0
theorem wW.ok (a0 r:List zE)(h:wW a0=some r):ACalls qg 130 [.ds true (qc zb a0) (qa a0) false] [] (fun r' _=>r'=.ds true (qc zb r) (qa r) false):=by
 obtain⟨_u,hu,h⟩:=bind_some h;have gu:=xf hu;cases h
 have f1:=fun nl tt σ=>Zd E33.len a0 nl tt σ
 have f2:=zV E33.len a0;have f3:=YN zb a0
 have fin:∀ σ id ver tt,ze.at σ id ver=some (qc zb a0)→tell σ [] true 12 (.os true 4 id ver 0 (qa a0) tt)=.ds true (qc zb a0) (qa a0) false:=by
  intro σ id ver tt hs
  simp only[ZT,Zi,hs,qz,qo];rw[if_pos (by rw[f2]; exact qw _),← f2,uj,zz]
 refine zt (rs:=[.tmp 2]) U Tryz.func130 rfl Tryz.ntmps130 rfl Tryz.call130 (by simp) ?_;refine zA [(0,.ds true (qc zb a0) (qa a0) false)] ⟨rfl,trivial⟩ ?_;refine D [0] ?_
 refine za fun Z1 hZ1=>?_
 refine rc [0,4] fun K J=>?_
 refine O 1 ?_
 refine Xq U rfl rfl rfl rfl rfl rfl fun b hnil=>?_
 have hb:b=true→a0=[]:=fun hb=>by
  have:=hnil hb;simp only[yR,go_sem,reduceCtorEq] at this;exact ul this
 clear hnil
 refine nkN J ?_;cases b
 · refine zG rfl ?_;apply zj;apply hZ1
   refine rg U [2] fun K J=>?_
   by_cases h0:qa a0=0
   · obtain rfl:=ul h0;simp only[go_sem,qd,qb,qe,reduceCtorEq,zS,yE,qQ,uu,yM,yw,yR,xb,uf,qr,uw,uc];apply J
     apply yk;simp only[ZJ,yQ,yZ,xQ,exists_eq_left',go_sem]
     first|rfl|(simp only[go_sem,qd,qf,qb,qe,qj,qm,reduceIte,reduceCtorEq,ZT,Zi,qn]<;>rfl)
   have h1:=eq_false h0;simp only[go_sem,qd,qb,qe,reduceCtorEq,zS,yE,qQ,uu,yM,yw,yR,f1,f3,h1,gu,xw,qn,qD,uw];apply J
   apply yk;simp only[ZJ,yQ,yZ,xQ,exists_eq_left',go_sem];exact fin _ _ _ _ (by simp only[ze.at_hd,ze.at_tl,if_true])
 obtain rfl:=hb rfl;refine zK rfl ?_;refine D [2] ?_;apply yk;simp only[ZJ,yQ,yZ,xQ,exists_eq_left',go_sem]
 first|rfl|(simp only[go_sem,qd,qf,qb,qe,qj,qm,reduceIte,reduceCtorEq,Xl,qn,qs,qu,qv]<;>rfl)
end
section
set_option maxRecDepth 4000
set_option maxHeartbeats 1000000
open AM
theorem wW.ev (a0 r:List zE)(h:wW a0=some r)(σ:ze):ACalls qg 130 [.ds true (qc zb a0) (qa a0) false] σ (fun r' σ'=>r'=.ds true (qc zb r) (qa r) false∧σ'=σ):=
 (wW.ok a0 r h).pureAt (by simp only[AV.canon,xx,xA,qM,qt,uA]) (by simp only[AV.canon,xA,qM,qt,uA]) σ
def Yc (a0:xI)(a1:List Int)(a2:List zE):Option xI:=
 (ZC a1).bind fun r1=>(wW a2).bind fun r2=>some (⟨a0.fself,r1,r2,a0.fnewest,a0.frows,a0.fcache,a0.feffects,a0.veffects⟩:xI)
theorem Yc.ok {a0 a1 a2 r}(h:Yc a0 a1 a2=some r):ACalls qg 85 [.op 0 0 0,.ds true (qc wN a1) (qa a1) false,.ds true (qc zb a2) (qa a2) false] [.cells 0 [.int .i64 a0.fself,.ds true (qc wN a0.fnumbers) (qa a0.fnumbers) false,.ds true (qc zb a0.fschemas) (qa a0.fschemas) false,.str a0.fnewest.fName,.ds true (qc zf a0.fnewest.fMessages) (qa a0.fnewest.fMessages) false,.ds true (qc zh a0.fnewest.fEnums) (qa a0.fnewest.fEnums) false,.ds true (qc zq a0.fnewest.fMethods) (qa a0.fnewest.fMethods) false,.ds true (qc yx a0.frows) (qa a0.frows) false,.op 1 0 0,.os true 8 5 (a0.veffects) 0 (qa a0.feffects) false],.cells 0 [.int .i64 a0.fcache.fsize,.os true 2 2 (a0.fcache.vorder) 0 (qa a0.fcache.forder) false,.mp 3,.mp 4],.cells (a0.fcache.vorder) (qc zp a0.fcache.forder),.map (yN zD zT a0.fcache.freplies.l) (some (a0.fcache.freplies.bs,a0.fcache.freplies.ck)),.map (yN (AV.int .i64) (AV.int .i64) a0.fcache.flast.l) (some (a0.fcache.flast.bs,a0.fcache.flast.ck)),.cells (a0.veffects) (qc zl a0.feffects)] (fun r' σ'=>r'=.tup []∧σ'=[.cells 0 [.int .i64 r.fself,.ds true (qc wN r.fnumbers) (qa r.fnumbers) false,.ds true (qc zb r.fschemas) (qa r.fschemas) false,.str r.fnewest.fName,.ds true (qc zf r.fnewest.fMessages) (qa r.fnewest.fMessages) false,.ds true (qc zh r.fnewest.fEnums) (qa r.fnewest.fEnums) false,.ds true (qc zq r.fnewest.fMethods) (qa r.fnewest.fMethods) false,.ds true (qc yx r.frows) (qa r.frows) false,.op 1 0 0,.os true 8 5 (r.veffects) 0 (qa r.feffects) false],.cells 0 [.int .i64 r.fcache.fsize,.os true 2 2 (r.fcache.vorder) 0 (qa r.fcache.forder) false,.mp 3,.mp 4],.cells (r.fcache.vorder) (qc zp r.fcache.forder),.map (yN zD zT r.fcache.freplies.l) (some (r.fcache.freplies.bs,r.fcache.freplies.ck)),.map (yN (AV.int .i64) (AV.int .i64) r.fcache.flast.l) (some (r.fcache.flast.bs,r.fcache.flast.ck)),.cells (r.veffects) (qc zl r.feffects)]):=by
 refine ZO [0,1,2,3,4,5] (rs:=[]) U Tryz.func85 rfl Tryz.ntmps85 rfl Tryz.call85 (by simp) rfl ?_;refine zA [(0,.op 0 0 0),(1,.ds true (qc wN a1) (qa a1) false),(2,.ds true (qc zb a2) (qa a2) false)] ⟨rfl,rfl,rfl,trivial⟩ ?_;unfold Yc at h
 refine rcE [] fun K J=>?_
 obtain⟨r1,hr1,h⟩:=bind_some h;refine O 3 ?_;refine clN rfl rfl rfl (ZC.ev a1 r1 hr1 _) ?_;obtain⟨r2,hr2,h⟩:=bind_some h;refine O 1 ?_;refine clN rfl rfl rfl (wW.ev a2 r2 hr2 _) ?_;refine O 6 ?_;refine nkN J ?_
 -- end
 cases h;simp only[ZJ,yQ,xQ,exists_eq_left',go_sem,qe];refine⟨by decide,by simp,?_,?_⟩
 · first|rfl|(simp only[go_sem,qd,qf,qb,qe,qj,qm,reduceIte,reduceCtorEq,push_cast,if_true,qz,qo,qq,qn,qF,qs,qK,qI,qv,qu,qt,zz,zd,zp,zb,zl,yu]<;>rfl)
 first|rfl|(simp only[go_sem,qb,qe,reduceCtorEq,push_cast,if_true,qo,qq,qn,qs,qv,qu,zz]<;>rfl)
def wQ (o:Option xI):ze:=match o with
 |none=>[]
 |some x=>[.cells 0 [.int .i64 x.fself,.ds true (qc wN x.fnumbers) (qa x.fnumbers) false,.ds true (qc zb x.fschemas) (qa x.fschemas) false,.str x.fnewest.fName,.ds true (qc zf x.fnewest.fMessages) (qa x.fnewest.fMessages) false,.ds true (qc zh x.fnewest.fEnums) (qa x.fnewest.fEnums) false,.ds true (qc zq x.fnewest.fMethods) (qa x.fnewest.fMethods) false,.ds true (qc yx x.frows) (qa x.frows) false,.op 1 0 0,.os true 8 5 (x.veffects) 0 (qa x.feffects) false],.cells 0 [.int .i64 x.fcache.fsize,.os true 2 2 (x.fcache.vorder) 0 (qa x.fcache.forder) false,.mp 3,.mp 4],.cells (x.fcache.vorder) (qc zp x.fcache.forder),.map (yN zD zT x.fcache.freplies.l) (some (x.fcache.freplies.bs,x.fcache.freplies.ck)),.map (yN (AV.int .i64) (AV.int .i64) x.fcache.flast.l) (some (x.fcache.flast.bs,x.fcache.flast.ck)),.cells (x.veffects) (qc zl x.feffects)]
def Zy (a0:Int)(a1:List Int)(a2:List zE)(a3:zE)(a4:List GRow)(a5:Int):Option (Option xI×Int):=
 (Zw a0 a1 a2).bind fun r2=>(if ((!r2)||(decide (32<(qa a4:Int))))=true then some true else (yH a3).bind fun r3=>some (!(decide (r3=0)))).bind fun c3=>(if c3=true then some ((none:Option xI),1) else (ZD a4).bind fun r6=>bnd (vaS a5) fun r7=>(Yc (⟨a0,([]:List Int),([]:List zE),a3,r6,r7,([]:List xv),0⟩:xI) a1 a2).bind fun r8=>some ((some r8),0))
theorem Zy.ok {a0 a1 a2 a3 a4 a5 r}(h:Zy a0 a1 a2 a3 a4 a5=some r):ACalls qg 45 [.int .i64 a0,.ds true (qc wN a1) (qa a1) false,.ds true (qc zb a2) (qa a2) false,.agg (zb a3),.ds true (qc yx a4) (qa a4) false,.int .i64 a5] [] (fun r' σ'=>r'=.tup [newV r.1 0,.int .i64 r.2]∧σ'=wQ r.1):=by
 refine acalls_ptr (rs:=[.tmp 12,.tmp 13]) U Tryz.func45 rfl Tryz.ntmps45 rfl Tryz.call45 (by simp) ?_;refine zA [(0,.int .i64 a0),(1,.ds true (qc wN a1) (qa a1) false),(2,.ds true (qc zb a2) (qa a2) false),(3,.agg (zb a3)),(4,.ds true (qc yx a4) (qa a4) false),(5,.int .i64 a5)] ⟨rfl,rfl,rfl,rfl,rfl,rfl,trivial⟩ ?_;unfold Zy at h
 refine rg U [0,1,2,4,5,9] fun K J=>?_
 simp only[go_sem,qd,qb,qe,reduceCtorEq,zb];apply J
 refine za fun Z1 hZ1=>?_
 refine rc [0,1,2,4,5,9,29] fun K J=>?_
 obtain⟨r2,hr2,h⟩:=bind_some h;refine O 3 ?_;refine clN rfl rfl rfl ((Zw.ok hr2).c _) ?_;refine O 2 ?_;refine zH 4 (fun L τ=>L=[(0,.int .i64 a0),(1,.ds true (qc wN a1) (qa a1) false),(2,.ds true (qc zb a2) (qa a2) false),(4,.ds true (qc yx a4) (qa a4) false),(5,.int .i64 a5),(9,.op 0 0 0),(24,.bool ((!r2)||(decide (32<(qa a4:Int)))))]∧τ=([.cells 0 (zb a3)]:ze)) ?_ ?_
 · refine yB (b:=(!r2)) 20 rfl (fun hg20=>?_) (fun hg20=>?_)
   · refine O 4 ?_;refine zi ⟨rfl,_,_,⟨rfl,rfl⟩,.b hg20⟩
   refine O 4 ?_;refine zi ⟨rfl,_,_,⟨rfl,rfl⟩,.b hg20⟩
 rintro _ _ ⟨rfl,rfl⟩;refine O 1 ?_;obtain⟨c3,hc3,h⟩:=bind_some h;refine zH 4 (fun L τ=>L=[(0,.int .i64 a0),(1,.ds true (qc wN a1) (qa a1) false),(2,.ds true (qc zb a2) (qa a2) false),(4,.ds true (qc yx a4) (qa a4) false),(5,.int .i64 a5),(9,.op 0 0 0),(29,.bool c3)]∧τ=([.cells 0 (zb a3)]:ze)) ?_ ?_
 · refine yB (b:=((!r2)||(decide (32<(qa a4:Int))))) 25 rfl (fun hg25=>?_) (fun hg25=>?_)
   · rw[if_pos hg25] at hc3;refine O 4 ?_;cases hc3;refine zi ⟨rfl,_,_,⟨rfl,rfl⟩,.b hg25⟩
   rw[Zf hg25] at hc3;obtain⟨r4,hr4,hc3⟩:=bind_some hc3;refine O 1 ?_;refine clN rfl rfl rfl ((yH.ok hr4).c _) ?_;refine O 2 ?_;cases hc3;refine zi ⟨rfl,_,_,⟨rfl,rfl⟩,.b hg25⟩
 rintro _ _ ⟨rfl,rfl⟩;refine nkN J ?_;refine zU (b:=c3) rfl (fun hc5=>?_) (fun hc5=>?_)
 · rw[if_pos hc5] at h;refine D [12,13] ?_;apply yk;cases h;simp only[ZJ,yQ,yZ,xQ,exists_eq_left',vcD,wQ,go_sem,qb];refine⟨[],by decide,by simp,?_,?_⟩
   · first|rfl|(simp only[go_sem,qd,qf,qb,qe,qj,qm,reduceIte,reduceCtorEq,push_cast,if_true,qz,qo,qq,qn,qF,qs,qK,qI,qv,qu,qt,zz]<;>rfl)
   first|rfl|(simp only[go_sem,qd,qf,qb,qe,qj,qm,reduceIte,reduceCtorEq,push_cast,if_true,qz,qo,qq,qn,qF,qs,qK,qI,qv,qu,qt,zz]<;>rfl)
 rw[Zf hc5] at h;apply zj;apply hZ1;obtain⟨r6,hr6,h⟩:=bind_some h;obtain⟨r7,hr7,h⟩:=ye h
 refine rd [1,2,14] fun K J=>?_
 refine DW.start (T:=tab) [.any,.own 2 [],.any,.eff,.any,.eff,.any,.eff,.any] [(2,[])] ?_;refine DW.runN U 3 ?_;simp only[go_sem,qd,qf,qb,qe,reduceCtorEq];refine DW.call rfl rfl rfl (ZD.ev a4 r6 hr6 _) ?_;refine DW.runN U 1 ?_;simp only[go_sem,qd,qb,reduceCtorEq];refine DW.callS rfl rfl rfl (@id (ACalls qg 84 [.int .i64 a5] [.cells 0 (zb a3)] (fun r' σ'=>r'=.op 1 0 0∧σ'=[.cells 0 (zb a3),.cells 0 [.int .i64 r7.fsize,.os true 2 2 (r7.vorder) 0 (qa r7.forder) false,.mp 3,.mp 4],.cells (r7.vorder) (qc zp r7.forder),.map (yN zD zT r7.freplies.l) (some (r7.freplies.bs,r7.freplies.ck)),.map (yN (AV.int .i64) (AV.int .i64) r7.flast.l) (some (r7.flast.bs,r7.flast.ck))])) ((vaS.ok hr7).ix [])) (XL (by simp only[go_sem,qf,qe])) ?_;refine DW.runN U 3 ?_;simp only[go_sem,qd,qf,qb,qe,reduceCtorEq];refine DW.fin U (by decide +kernel) rfl ?_;simp only[zC,upd,qb,reduceIte,yX,xK];apply J
 refine ZN 5 9 8 rfl (by simp) rfl (L:=[(1,.ds true (qc wN a1) (qa a1) false),(2,.ds true (qc zb a2) (qa a2) false),(14,.op 5 0 0)]) (τ:=[.cells 0 (zb a3),.cells 0 [.int .i64 r7.fsize,.os true 2 2 (r7.vorder) 0 (qa r7.forder) false,.mp 3,.mp 4],.cells (r7.vorder) (qc zp r7.forder),.map (yN zD zT r7.freplies.l) (some (r7.freplies.bs,r7.freplies.ck)),.map (yN (AV.int .i64) (AV.int .i64) r7.flast.l) (some (r7.flast.bs,r7.flast.ck)),.cells 0 [.int .i64 a0,.ds true [] 0 true,.ds true [] 0 true,.str a3.fName,.ds true (qc zf a3.fMessages) (qa a3.fMessages) false,.ds true (qc zh a3.fEnums) (qa a3.fEnums) false,.ds true (qc zq a3.fMethods) (qa a3.fMethods) false,.ds true (qc yx r6) (qa r6) false,.op 1 0 0,.os true 8 6 0 0 (qa ([]:List xv)) false],.cells 0 (qc zl ([]:List xv))]) .s ?_;refine yT (L:=[(1,.ds true (qc wN a1) (qa a1) false),(2,.ds true (qc zb a2) (qa a2) false),(14,.op 4 0 0)]) (τ:=[.cells 0 [.int .i64 r7.fsize,.os true 2 1 (r7.vorder) 0 (qa r7.forder) false,.mp 2,.mp 3],.cells (r7.vorder) (qc zp r7.forder),.map (yN zD zT r7.freplies.l) (some (r7.freplies.bs,r7.freplies.ck)),.map (yN (AV.int .i64) (AV.int .i64) r7.flast.l) (some (r7.flast.bs,r7.flast.ck)),.cells 0 [.int .i64 a0,.ds true (qc wN ([]:List Int)) (qa ([]:List Int)) false,.ds true (qc zb ([]:List zE)) (qa ([]:List zE)) false,.str a3.fName,.ds true (qc zf a3.fMessages) (qa a3.fMessages) false,.ds true (qc zh a3.fEnums) (qa a3.fEnums) false,.ds true (qc zq a3.fMethods) (qa a3.fMethods) false,.ds true (qc yx r6) (qa r6) false,.op 0 0 0,.os true 8 5 0 0 (qa ([]:List xv)) false],.cells 0 (qc zl ([]:List xv))]) (.t [1,2,3,4,5,6] true) ?_
 refine rc [14] fun K J=>?_
 obtain⟨r8,hr8,h⟩:=bind_some h;refine O 3 ?_;refine clN rfl rfl rfl (@id (ACalls qg 85 [.op 4 0 0,.ds true (qc wN a1) (qa a1) false,.ds true (qc zb a2) (qa a2) false] [.cells 0 [.int .i64 r7.fsize,.os true 2 1 (r7.vorder) 0 (qa r7.forder) false,.mp 2,.mp 3],.cells (r7.vorder) (qc zp r7.forder),.map (yN zD zT r7.freplies.l) (some (r7.freplies.bs,r7.freplies.ck)),.map (yN (AV.int .i64) (AV.int .i64) r7.flast.l) (some (r7.flast.bs,r7.flast.ck)),.cells 0 [.int .i64 a0,.ds true (qc wN ([]:List Int)) (qa ([]:List Int)) false,.ds true (qc zb ([]:List zE)) (qa ([]:List zE)) false,.str a3.fName,.ds true (qc zf a3.fMessages) (qa a3.fMessages) false,.ds true (qc zh a3.fEnums) (qa a3.fEnums) false,.ds true (qc zq a3.fMethods) (qa a3.fMethods) false,.ds true (qc yx r6) (qa r6) false,.op 0 0 0,.os true 8 5 0 0 (qa ([]:List xv)) false],.cells 0 (qc zl ([]:List xv))] (fun r' σ'=>r'=.tup []∧σ'=[.cells 0 [.int .i64 r8.fcache.fsize,.os true 2 1 (r8.fcache.vorder) 0 (qa r8.fcache.forder) false,.mp 2,.mp 3],.cells (r8.fcache.vorder) (qc zp r8.fcache.forder),.map (yN zD zT r8.fcache.freplies.l) (some (r8.fcache.freplies.bs,r8.fcache.freplies.ck)),.map (yN (AV.int .i64) (AV.int .i64) r8.fcache.flast.l) (some (r8.fcache.flast.bs,r8.fcache.flast.ck)),.cells 0 [.int .i64 r8.fself,.ds true (qc wN r8.fnumbers) (qa r8.fnumbers) false,.ds true (qc zb r8.fschemas) (qa r8.fschemas) false,.str r8.fnewest.fName,.ds true (qc zf r8.fnewest.fMessages) (qa r8.fnewest.fMessages) false,.ds true (qc zh r8.fnewest.fEnums) (qa r8.fnewest.fEnums) false,.ds true (qc zq r8.fnewest.fMethods) (qa r8.fnewest.fMethods) false,.ds true (qc yx r8.frows) (qa r8.frows) false,.op 0 0 0,.os true 8 5 (r8.veffects) 0 (qa r8.feffects) false],.cells (r8.veffects) (qc zl r8.feffects)])) ((Yc.ok hr8).ix [4,0,1,2,3,5])) ?_;refine nkN J ?_;refine D [12,13] ?_;apply yk;cases h;simp only[ZJ,yQ,yZ,xQ,exists_eq_left',vcC,wQ,go_sem,qb,qe];refine⟨[4,0,1,2,3,5],by decide,by simp,?_,?_⟩
 · first|rfl|(simp only[go_sem,qd,qf,qb,qe,qj,qm,reduceIte,reduceCtorEq,push_cast,if_true,qz,qo,qq,qn,qF,qs,qK,qI,qv,qu,qt,zz,zd,zp,zb,zl,yu]<;>rfl)
 first|rfl|(simp only[go_sem,qb,qe,reduceCtorEq,push_cast,if_true,qo,qq,qn,qs,qv,qu,zz]<;>rfl)
theorem Zy.at {a0 a1 a2 a3 a4 a5 r}(h:Zy a0 a1 a2 a3 a4 a5=some r)(σ:ze):ACalls qg 45 [.int .i64 a0,.ds true (qc wN a1) (qa a1) false,.ds true (qc zb a2) (qa a2) false,.agg (zb a3),.ds true (qc yx a4) (qa a4) false,.int .i64 a5] σ (fun r' σ'=>r'=.tup [newV r.1 σ.length,.int .i64 r.2]∧σ'=σ++(wQ r.1).map (vd2 fun i=>σ.length+i)):=
 ACalls.newAt (x:=fun n=>.tup [newV r.1 n,.int .i64 r.2]) (Zy.ok h) (fun n=>by obtain⟨o,e⟩:=r; cases o<;>simp only[vcD,vcC,AV.ren,vb7,uP]) (by simp only[push_cast]) σ
def wU (a0:Zn)(a1:Int)(a2:Int):xF×Int:=
 (if ((vak a0.freplies.l (⟨a1,a2⟩:xB)).isSome)=true then ((vak a0.freplies.l (⟨a1,a2⟩:xB)).getD (⟨0,0,0,0,0,[],0,[]⟩:xF),2) else (if (((vak a0.flast.l a1).isSome)&&(decide (a2≤(vak a0.flast.l a1).getD 0)))=true then ((⟨0,0,0,0,0,[],0,[]⟩:xF),3) else ((⟨0,0,0,0,0,[],0,[]⟩:xF),1)))
theorem wU.ok {a0 a1 a2 r}(h:wU a0 a1 a2=r):ACalls qg 132 [.op 0 0 0,.int .i64 a1,.int .i64 a2] [.cells 0 [.int .i64 a0.fsize,.os true 2 1 (a0.vorder) 0 (qa a0.forder) false,.mp 2,.mp 3],.cells (a0.vorder) (qc zp a0.forder),.map (yN zD zT a0.freplies.l) (some (a0.freplies.bs,a0.freplies.ck)),.map (yN (AV.int .i64) (AV.int .i64) a0.flast.l) (some (a0.flast.bs,a0.flast.ck))] (fun r' σ'=>r'=.tup [.agg (zv r.1),.int .i64 r.2]∧σ'=[.cells 0 [.int .i64 a0.fsize,.os true 2 1 (a0.vorder) 0 (qa a0.forder) false,.mp 2,.mp 3],.cells (a0.vorder) (qc zp a0.forder),.map (yN zD zT a0.freplies.l) (some (a0.freplies.bs,a0.freplies.ck)),.map (yN (AV.int .i64) (AV.int .i64) a0.flast.l) (some (a0.flast.bs,a0.flast.ck))]):=by
 refine ZO [0,1,2,3] (rs:=[.cell 6 43,.tmp 7]) U Tryz.func132 rfl Tryz.ntmps132 rfl Tryz.call132 (by simp) rfl ?_;refine zA [(0,.op 0 0 0),(1,.int .i64 a1),(2,.int .i64 a2)] ⟨rfl,rfl,rfl,trivial⟩ ?_;unfold wU at h;refine D [0,1,2,6] ?_
 refine za fun Z1 hZ1=>?_
 have f2:=fun (o0:Yy) (o1:Yy) (x:ze)=>va9 (T:=tab) (t:=205) (ek:=zD) (ev:=zT) (z:=(⟨0,0,0,0,0,[],0,[]⟩:xF)) KA268 rfl rfl rfl rfl a0.freplies.l (⟨a1,a2⟩:xB) true (o0::o1::.map (yN zD zT a0.freplies.l) (some (a0.freplies.bs,a0.freplies.ck))::x) 2 rfl
 simp only[zD,zp,zT,zv] at f2
 refine rg U [0,1,2,6,8,9] fun K J=>?_
 simp only[go_sem,qd,qf,qb,qe,reduceCtorEq,vaI,if_false,if_true,f2];apply J
 refine D [0,1,2,6,8,23] ?_;refine zU (b:=((vak a0.freplies.l (⟨a1,a2⟩:xB)).isSome)) rfl (fun hc3=>?_) (fun hc3=>?_)
 · rw[if_pos hc3] at h;refine D [6,7] ?_;apply yk;obtain rfl:=h;simp only[ZJ,yQ,yZ,xQ,exists_eq_left',go_sem,qf,qb,qe,zv];refine⟨by decide,by simp,?_,?_⟩
   · first|rfl|(simp only[go_sem,qd,qf,qb,qe,qj,qm,reduceIte,reduceCtorEq,push_cast,if_true,qz,qo,qq,qn,qF,qs,qK,qI,qv,qu,qt,zz,zp,zv]<;>rfl)
   first|rfl|(simp only[go_sem,qb,qe,reduceCtorEq,push_cast,if_true,qo,qq,qn,zz]<;>rfl)
 rw[Zf hc3] at h;apply zj;apply hZ1
 refine za fun Z4 hZ4=>?_
 have f5:=fun (o0:Yy) (o1:Yy) (o2:Yy) (x:ze)=>va9 (T:=tab) (t:=206) (ek:=(AV.int .i64)) (ev:=(AV.int .i64)) (z:=0) (vdL.int rfl rfl rfl rfl) rfl rfl rfl rfl a0.flast.l a1 true (o0::o1::o2::.map (yN (AV.int .i64) (AV.int .i64) a0.flast.l) (some (a0.flast.bs,a0.flast.ck))::x) 3 rfl
 refine rg U [2,6,10,11] fun K J=>?_
 simp only[go_sem,qd,qb,qe,reduceCtorEq,vaI,if_false,if_true,f5];apply J
 refine rc [6,39] fun K J=>?_
 refine O 2 ?_;refine zH 4 (fun L τ=>L=[(6,.op 4 0 0),(39,.bool (((vak a0.flast.l a1).isSome)&&(decide (a2≤(vak a0.flast.l a1).getD 0))))]∧τ=([.cells 0 [.int .i64 a0.fsize,.os true 2 1 (a0.vorder) 0 (qa a0.forder) false,.mp 2,.mp 3],.cells (a0.vorder) (qc zp a0.forder),.map (yN zD zT a0.freplies.l) (some (a0.freplies.bs,a0.freplies.ck)),.map (yN (AV.int .i64) (AV.int .i64) a0.flast.l) (some (a0.flast.bs,a0.flast.ck)),.cells 0 [.int .i64 0,.int .i64 0,.int .i64 0,.int .i64 0,.int .i64 0,.str [],.int .i64 0,.str []],.cells 0 [.int .i64 (((vak a0.freplies.l (⟨a1,a2⟩:xB)).getD (⟨0,0,0,0,0,[],0,[]⟩:xF)).fKind),.int .i64 (((vak a0.freplies.l (⟨a1,a2⟩:xB)).getD (⟨0,0,0,0,0,[],0,[]⟩:xF)).fFrom),.int .i64 (((vak a0.freplies.l (⟨a1,a2⟩:xB)).getD (⟨0,0,0,0,0,[],0,[]⟩:xF)).fTo),.int .i64 (((vak a0.freplies.l (⟨a1,a2⟩:xB)).getD (⟨0,0,0,0,0,[],0,[]⟩:xF)).fID),.int .i64 (((vak a0.freplies.l (⟨a1,a2⟩:xB)).getD (⟨0,0,0,0,0,[],0,[]⟩:xF)).fVersion),.str (((vak a0.freplies.l (⟨a1,a2⟩:xB)).getD (⟨0,0,0,0,0,[],0,[]⟩:xF)).fMethod),.int .i64 (((vak a0.freplies.l (⟨a1,a2⟩:xB)).getD (⟨0,0,0,0,0,[],0,[]⟩:xF)).fErr),.str (((vak a0.freplies.l (⟨a1,a2⟩:xB)).getD (⟨0,0,0,0,0,[],0,[]⟩:xF)).fBody)]]:ze)) ?_ ?_
 · refine yB (b:=((vak a0.flast.l a1).isSome)) 35 rfl (fun hg35=>?_) (fun hg35=>?_)
   · refine O 4 ?_;refine zi ⟨rfl,_,_,⟨rfl,rfl⟩,.b hg35⟩
   refine O 4 ?_;refine zi ⟨rfl,_,_,⟨rfl,rfl⟩,.b hg35⟩
 rintro _ _ ⟨rfl,rfl⟩;refine nkN J ?_;refine zU (b:=(((vak a0.flast.l a1).isSome)&&(decide (a2≤(vak a0.flast.l a1).getD 0)))) rfl (fun hc6=>?_) (fun hc6=>?_)
 · rw[if_pos hc6] at h;refine D [6,7] ?_;apply yk;obtain rfl:=h;simp only[ZJ,yQ,yZ,xQ,exists_eq_left',go_sem,qf,qb,qe,zv];refine⟨by decide,by simp,?_,?_⟩
   · first|rfl|(simp only[go_sem,qd,qf,qb,qe,qj,qm,reduceIte,reduceCtorEq,push_cast,if_true,qz,qo,qq,qn,qF,qs,qK,qI,qv,qu,qt,zz,zp,zv]<;>rfl)
   first|rfl|(simp only[go_sem,qb,qe,reduceCtorEq,push_cast,if_true,qo,qq,qn,zz]<;>rfl)
 rw[Zf hc6] at h;apply zj;apply hZ4;refine D [6,7] ?_;apply yk;obtain rfl:=h;simp only[ZJ,yQ,yZ,xQ,exists_eq_left',go_sem,qf,qb,qe,zv];refine⟨by decide,by simp,?_,?_⟩
 · first|rfl|(simp only[go_sem,qd,qf,qb,qe,qj,qm,reduceIte,reduceCtorEq,push_cast,if_true,qz,qo,qq,qn,qF,qs,qK,qI,qv,qu,qt,zz,zp,zv]<;>rfl)
 first|rfl|(simp only[go_sem,qb,qe,reduceCtorEq,push_cast,if_true,qo,qq,qn,zz]<;>rfl)
def wk.l4 (a1:Int):List Int→Int→Int
 |[],x2=>(-1)
 |y4::q4,x2=>(if a1=y4 then x2 else ((wk.l4 a1 q4) (x2+1)))
def wk (a0:List Int)(a1:Int):Int:=
 (wk.l4 a1 a0 0)
theorem wk.ok {a0 a1 r}(h:wk a0 a1=r):ACalls qg 174 [.ds true (qc wN a0) (qa a0) false,.int .i64 a1] [] (fun r' _=>r'=.int .i64 r):=by
 refine zt (rs:=[.tmp 4]) U Tryz.func174 rfl Tryz.ntmps174 rfl Tryz.call174 (by simp) ?_;refine zA [(0,.ds true (qc wN a0) (qa a0) false),(1,.int .i64 a1)] ⟨rfl,rfl,trivial⟩ ?_;unfold wk at h;refine D [0,1] ?_
 refine za fun Z1 hZ1=>?_
 refine D [0,1,7,8] ?_;apply zn
 refine xn 0 fun hb4=>?_
 replace hb4:qa a0≤9223372036854775807:=hb4.1;refine yh (fun m L τ=>∃ (p4 q4:List Int) (x2:Int),m=qa q4∧L=[(0,.ds true (qc wN a0) (qa a0) false),(1,.int .i64 a1),(7,.int .i64 (qa a0:Int)),(8,.int .i64 x2)]∧τ=([]:ze)∧a0=p4++q4∧x2=(qa p4:Int)∧wk.l4 a1 q4 x2=r) _ ⟨[],a0,0,rfl,rfl,rfl,rfl,rfl,h⟩ .s ?_;rintro m L τ ⟨p4,q4,x2,rfl,rfl,rfl,hE4,hi4,h⟩
 rcases q4 with _|⟨y4,q4⟩
 · have hz4:=xC hE4 hi4;simp only[wk.l4] at h
   refine rg U [0,1,7,8,9] fun K J=>?_
   simp only[go_sem,qd,qb,reduceCtorEq,hz4];apply J
   refine za fun Z5 hZ5=>?_
   refine zG rfl ?_;apply yf;apply hZ1;refine D [4] ?_;cases h;exact rtA
 obtain⟨hz4,hw4,hx4,hE'4,hi'4⟩:=yU hE4 hi4 hb4;simp only[wk.l4] at h
 refine rg U [0,1,7,8,9] fun K J=>?_
 simp only[go_sem,qd,qb,reduceCtorEq,hz4];apply J
 refine za fun Z6 hZ6=>?_
 refine zK rfl ?_;apply zj;apply hZ6
 refine za fun Z7 hZ7=>?_
 apply zn;refine D [0,1,5,7,8] ?_;have f8:=E26.idxS hx4;have f9:=E26.fldS0 (f:=3) rfl rfl hx4
 refine rg U [0,1,5,7,8,16] fun K J=>?_
 simp only[go_sem,qd,qb,reduceCtorEq,wN,f8,f9];apply J
 refine yn rfl (fun hc10=>?_) (fun hc10=>?_)
 · rw[if_pos hc10] at h;have t11:=eq_true hc10
   refine rg U [4] fun K J=>?_
   simp only[go_sem,qd,qb,reduceCtorEq,t11];apply J
   cases h;exact rtA
 rw[if_neg hc10] at h;have t12:=eq_false hc10;apply zj;apply hZ7
 refine rgE U [0,1,7,8] fun K J=>?_
 simp only[go_sem,qd,qb,reduceCtorEq,hw4,t12];apply J
 exact⟨_,_,_,qy q4.length,⟨p4++[y4],q4,x2+1,rfl,rfl,rfl,hE'4,hi'4,h⟩,.s⟩
def wX (a0:xI)(a1:xF):Option (Y4×Int):=
 bnd (wk a0.fnumbers a1.fVersion) fun r1=>(if r1<0 then some ((⟨(⟨[],([]:List ya),([]:List wJ),([]:List Zg)⟩:zE),(⟨[],[],[]⟩:Zg),(⟨[],[],[]⟩:Zg),(⟨0,0,[],([]:List zr),([]:List yc)⟩:zk)⟩:Y4),18) else (Yz a0.fschemas (IntKind.i64.wrap ((qa a0.fschemas:Int)-1))).bind fun y6=>(Yz a0.fschemas r1).bind fun y9=>bnd (wi y9 a1.fMethod) fun r12=>bnd (wi y6 a1.fMethod) fun r13=>(if ((!r12.2)||(!r13.2))=true then some ((⟨(⟨[],([]:List ya),([]:List wJ),([]:List Zg)⟩:zE),(⟨[],[],[]⟩:Zg),(⟨[],[],[]⟩:Zg),(⟨0,0,[],([]:List zr),([]:List yc)⟩:zk)⟩:Y4),21) else (grd (qa a1.fBody≤9223372036854775807)).bind fun _u16=>(ZH y9 r12.1.fIn a1.fBody).bind fun r18=>(if r18.2=0 then (xE y9 y6 r12.1.fIn r13.1.fIn).bind fun r23=>(ZB r23.1 r18.1).bind fun r24=>some ((⟨y9,r13.1,r12.1,r24.1⟩:Y4),r24.2) else some ((⟨(⟨[],([]:List ya),([]:List wJ),([]:List Zg)⟩:zE),(⟨[],[],[]⟩:Zg),(⟨[],[],[]⟩:Zg),(⟨0,0,[],([]:List zr),([]:List yc)⟩:zk)⟩:Y4),r18.2))))
theorem wX.ok {a0 a1 r}(h:wX a0 a1=some r):ACalls qg 133 [.op 0 0 0,.agg (zv a1)] [.cells 0 [.int .i64 a0.fself,.ds true (qc wN a0.fnumbers) (qa a0.fnumbers) false,.ds true (qc zb a0.fschemas) (qa a0.fschemas) false,.str a0.fnewest.fName,.ds true (qc zf a0.fnewest.fMessages) (qa a0.fnewest.fMessages) false,.ds true (qc zh a0.fnewest.fEnums) (qa a0.fnewest.fEnums) false,.ds true (qc zq a0.fnewest.fMethods) (qa a0.fnewest.fMethods) false,.ds true (qc yx a0.frows) (qa a0.frows) false,.op 1 0 0,.os true 8 5 (a0.veffects) 0 (qa a0.feffects) false],.cells 0 [.int .i64 a0.fcache.fsize,.os true 2 2 (a0.fcache.vorder) 0 (qa a0.fcache.forder) false,.mp 3,.mp 4],.cells (a0.fcache.vorder) (qc zp a0.fcache.forder),.map (yN zD zT a0.fcache.freplies.l) (some (a0.fcache.freplies.bs,a0.fcache.freplies.ck)),.map (yN (AV.int .i64) (AV.int .i64) a0.fcache.flast.l) (some (a0.fcache.flast.bs,a0.fcache.flast.ck)),.cells (a0.veffects) (qc zl a0.feffects)] (fun r' σ'=>r'=.tup [.agg (xe r.1),.int .i64 r.2]∧σ'=[.cells 0 [.int .i64 a0.fself,.ds true (qc wN a0.fnumbers) (qa a0.fnumbers) false,.ds true (qc zb a0.fschemas) (qa a0.fschemas) false,.str a0.fnewest.fName,.ds true (qc zf a0.fnewest.fMessages) (qa a0.fnewest.fMessages) false,.ds true (qc zh a0.fnewest.fEnums) (qa a0.fnewest.fEnums) false,.ds true (qc zq a0.fnewest.fMethods) (qa a0.fnewest.fMethods) false,.ds true (qc yx a0.frows) (qa a0.frows) false,.op 1 0 0,.os true 8 5 (a0.veffects) 0 (qa a0.feffects) false],.cells 0 [.int .i64 a0.fcache.fsize,.os true 2 2 (a0.fcache.vorder) 0 (qa a0.fcache.forder) false,.mp 3,.mp 4],.cells (a0.fcache.vorder) (qc zp a0.fcache.forder),.map (yN zD zT a0.fcache.freplies.l) (some (a0.fcache.freplies.bs,a0.fcache.freplies.ck)),.map (yN (AV.int .i64) (AV.int .i64) a0.fcache.flast.l) (some (a0.fcache.flast.bs,a0.fcache.flast.ck)),.cells (a0.veffects) (qc zl a0.feffects)]):=by
 refine ZO [0,1,2,3,4,5] (rs:=[.cell 4 216,.tmp 5]) U Tryz.func133 rfl Tryz.ntmps133 rfl Tryz.call133 (by simp) rfl ?_;refine zA [(0,.op 0 0 0),(1,.agg (zv a1))] ⟨rfl,rfl,trivial⟩ ?_;unfold wX at h
 refine rg U [0,3,4] fun K J=>?_
 simp only[go_sem,qd,qb,qe,reduceCtorEq,zv];apply J
 obtain⟨r1,hr1,h⟩:=ye h
 refine rd [0,3,4,6] fun K J=>?_
 refine DW.start (T:=tab) [.any,.any,.any,.at [],.any,.at [],.eff,.any] [] ?_;refine DW.runN U 6 ?_;simp only[go_sem,qd,qb,qe,reduceCtorEq];refine DW.call rfl rfl rfl ((wk.ok hr1).c _) ?_;refine DW.runN U 1 ?_;simp only[go_sem,qd,qb,reduceCtorEq];refine DW.fin U (by decide +kernel) rfl ?_;simp only[zC,upd,qb,reduceIte,yX,xK];apply J
 refine za fun Z2 hZ2=>?_
 refine D [0,3,4,6,23] ?_;refine yn rfl (fun hc3=>?_) (fun hc3=>?_)
 · rw[if_pos hc3] at h;have t4:=eq_true hc3
   refine rg U [4,5] fun K J=>?_
   simp only[go_sem,qd,qf,qb,qe,reduceCtorEq,t4];apply J
   apply yk;cases h;simp only[ZJ,yQ,yZ,xQ,exists_eq_left',go_sem,qf,qb,qe,xe];refine⟨by decide,by simp,?_,?_⟩
   · first|rfl|(simp only[go_sem,qd,qf,qb,qe,qj,qm,reduceIte,reduceCtorEq,push_cast,if_true,qz,qo,qq,qn,qF,qs,qK,qI,qv,qu,qt,zz,zd,zp,zq,zb,zl,xe,yu]<;>rfl)
   first|rfl|(simp only[go_sem,qb,qe,reduceCtorEq,push_cast,if_true,qo,qq,qn,qs,qv,qu,zz]<;>rfl)
 rw[if_neg hc3] at h;have t5:=eq_false hc3;apply zj;apply hZ2;obtain⟨y6,hy6,h⟩:=bind_some h;have f7:=E33.idxS hy6;have f8:=E33.loadS rfl rfl hy6
 refine rd [0,3,4,6,7] fun K J=>?_
 refine DW.start (T:=tab) [.any,.any,.any,.own 1 [],.any,.any,.any,.own 1 [],.own 1 [],.any,.any,.own 1 [],.eff,.eff] [(1,[])] ?_;refine DW.runN U 8 ?_;simp only[go_sem,qd,qb,qe,reduceCtorEq,t5];refine DW.runN U 6 ?_;simp only[go_sem,qd,qf,qb,qe,reduceCtorEq,zb,f7,f8];refine DW.fin U (by decide +kernel) rfl ?_;simp only[zC,upd,qb,reduceIte,yX,xK];apply J
 obtain⟨y9,hy9,h⟩:=bind_some h;have f10:=E33.idxS hy9;have f11:=E33.loadS rfl rfl hy9
 refine rg U [3,4,7,8] fun K J=>?_
 simp only[go_sem,qd,qf,qb,qe,reduceCtorEq,zb,f10,f11];apply J
 refine D [3,4,7,8] ?_
 refine rc [3,4,7,8,9] fun K J=>?_
 obtain⟨r12,hr12,h⟩:=ye h;refine O 4 ?_;refine clN rfl rfl rfl ((wi.ok hr12).c _) ?_;refine zB U 6 ?_;simp only[go_sem,qd,qf,qb,qe,zq,xe];refine nkN J ?_
 refine rc [3,4,7,8,9,10] fun K J=>?_
 obtain⟨r13,hr13,h⟩:=ye h;refine O 3 ?_;refine clN rfl rfl rfl ((wi.ok hr13).c _) ?_;refine zB U 6 ?_;simp only[go_sem,qd,qf,qb,qe,zq,xe];refine nkN J ?_
 refine za fun Z14 hZ14=>?_
 refine rc [3,4,7,8,67] fun K J=>?_
 refine O 3 ?_;refine zH 3 (fun L τ=>L=[(3,.op 6 0 0),(4,.op 7 0 0),(7,.op 8 0 0),(8,.op 9 0 0),(67,.bool ((!r12.2)||(!r13.2)))]∧τ=([.cells 0 [.int .i64 a0.fself,.ds true (qc wN a0.fnumbers) (qa a0.fnumbers) false,.ds true (qc zb a0.fschemas) (qa a0.fschemas) false,.str a0.fnewest.fName,.ds true (qc zf a0.fnewest.fMessages) (qa a0.fnewest.fMessages) false,.ds true (qc zh a0.fnewest.fEnums) (qa a0.fnewest.fEnums) false,.ds true (qc zq a0.fnewest.fMethods) (qa a0.fnewest.fMethods) false,.ds true (qc yx a0.frows) (qa a0.frows) false,.op 1 0 0,.os true 8 5 (a0.veffects) 0 (qa a0.feffects) false],.cells 0 [.int .i64 a0.fcache.fsize,.os true 2 2 (a0.fcache.vorder) 0 (qa a0.fcache.forder) false,.mp 3,.mp 4],.cells (a0.fcache.vorder) (qc zp a0.fcache.forder),.map (yN zD zT a0.fcache.freplies.l) (some (a0.fcache.freplies.bs,a0.fcache.freplies.ck)),.map (yN (AV.int .i64) (AV.int .i64) a0.fcache.flast.l) (some (a0.fcache.flast.bs,a0.fcache.flast.ck)),.cells (a0.veffects) (qc zl a0.feffects),.cells 0 (zv a1),.cells 0 [.str [],.ds true [] 0 true,.ds true [] 0 true,.ds true [] 0 true,.str [],.str [],.str [],.str [],.str [],.str [],.int .i64 0,.int .i64 0,.str [],.ds true [] 0 true,.ds true [] 0 true],.cells 0 (zb y6),.cells 0 [.str y9.fName,.ds true (qc zf y9.fMessages) (qa y9.fMessages) false,.ds true (qc zh y9.fEnums) (qa y9.fEnums) false,.ds true (qc zq y9.fMethods) (qa y9.fMethods) false,.str r13.1.fName,.str r13.1.fIn,.str r13.1.fOut,.str r12.1.fName,.str r12.1.fIn,.str r12.1.fOut,.int .i64 0,.int .i64 0,.str [],.ds true [] 0 true,.ds true [] 0 true]]:ze)) ?_ ?_
 · refine yB (b:=(!r12.2)) 64 rfl (fun hg64=>?_) (fun hg64=>?_)
   · refine O 3 ?_;refine zi ⟨rfl,_,_,⟨rfl,rfl⟩,.b hg64⟩
   refine O 3 ?_;refine zi ⟨rfl,_,_,⟨rfl,rfl⟩,.b hg64⟩
 rintro _ _ ⟨rfl,rfl⟩;refine nkN J ?_;refine zU (b:=((!r12.2)||(!r13.2))) rfl (fun hc15=>?_) (fun hc15=>?_)
 · rw[if_pos hc15] at h;refine D [4,5] ?_;apply yk;cases h;simp only[ZJ,yQ,yZ,xQ,exists_eq_left',go_sem,qf,qb,qe,xe];refine⟨by decide,by simp,?_,?_⟩
   · first|rfl|(simp only[go_sem,qd,qf,qb,qe,qj,qm,reduceIte,reduceCtorEq,push_cast,if_true,qz,qo,qq,qn,qF,qs,qK,qI,qv,qu,qt,zz,zd,zp,zq,zb,zl,xe,yu]<;>rfl)
   first|rfl|(simp only[go_sem,qb,qe,reduceCtorEq,push_cast,if_true,qo,qq,qn,qs,qv,qu,zz]<;>rfl)
 rw[Zf hc15] at h;apply zj;apply hZ14
 refine rc [4,7,8,11,12] fun K J=>?_
 obtain⟨_u16,hu16,h⟩:=bind_some h;have gu16:=Ya hu16;have gu16t:=eq_true gu16;have f17:=conv_s2b (T:=tab) (src:=9) (dst:=48) rfl rfl rfl rfl rfl rfl (Ya hu16);obtain⟨r18,hr18,h⟩:=bind_some h;refine zB U 8 ?_;simp only[go_sem,qd,qf,qb,qe,f17];refine vbF (L:=[(4,.op 6 0 0),(7,.op 7 0 0),(8,.op 8 0 0),(71,.agg (zb y9)),(74,.str r12.1.fIn),(77,.ds true (qc ZR a1.fBody) (qa a1.fBody) false)]) (τ:=[.cells 0 [.int .i64 a0.fself,.ds true (qc wN a0.fnumbers) (qa a0.fnumbers) false,.ds true (qc zb a0.fschemas) (qa a0.fschemas) false,.str a0.fnewest.fName,.ds true (qc zf a0.fnewest.fMessages) (qa a0.fnewest.fMessages) false,.ds true (qc zh a0.fnewest.fEnums) (qa a0.fnewest.fEnums) false,.ds true (qc zq a0.fnewest.fMethods) (qa a0.fnewest.fMethods) false,.ds true (qc yx a0.frows) (qa a0.frows) false,.op 1 0 0,.os true 8 5 (a0.veffects) 0 (qa a0.feffects) false],.cells 0 [.int .i64 a0.fcache.fsize,.os true 2 2 (a0.fcache.vorder) 0 (qa a0.fcache.forder) false,.mp 3,.mp 4],.cells (a0.fcache.vorder) (qc zp a0.fcache.forder),.map (yN zD zT a0.fcache.freplies.l) (some (a0.fcache.freplies.bs,a0.fcache.freplies.ck)),.map (yN (AV.int .i64) (AV.int .i64) a0.fcache.flast.l) (some (a0.fcache.flast.bs,a0.fcache.flast.ck)),.cells (a0.veffects) (qc zl a0.feffects),.cells 0 [.str [],.ds true [] 0 true,.ds true [] 0 true,.ds true [] 0 true,.str [],.str [],.str [],.str [],.str [],.str [],.int .i64 0,.int .i64 0,.str [],.ds true [] 0 true,.ds true [] 0 true],.cells 0 (zb y6),.cells 0 [.str y9.fName,.ds true (qc zf y9.fMessages) (qa y9.fMessages) false,.ds true (qc zh y9.fEnums) (qa y9.fEnums) false,.ds true (qc zq y9.fMethods) (qa y9.fMethods) false,.str r13.1.fName,.str r13.1.fIn,.str r13.1.fOut,.str r12.1.fName,.str r12.1.fIn,.str r12.1.fOut,.int .i64 0,.int .i64 0,.str [],.ds true [] 0 true,.ds true [] 0 true]]) (.t [0,1,2,3,4,5,7,8,9] false) ?_;refine clN rfl rfl rfl ((ZH.ok hr18).c _) ?_;refine zB U 6 ?_;simp only[go_sem,qd,qf,qb,qe,zd,zb];refine nkN J ?_
 refine za fun Z19 hZ19=>?_
 refine D [4,7,8,11,12,82] ?_;refine yn rfl (fun hc20=>?_) (fun hc20=>?_)
 · rw[if_neg hc20] at h;have t21:=eq_false hc20
   refine rg U [4,5] fun K J=>?_
   simp only[go_sem,qd,qf,qb,qe,t21];apply J
   apply yk;cases h;simp only[ZJ,yQ,yZ,xQ,exists_eq_left',go_sem,qf,qb,qe,xe];refine⟨by decide,by simp,?_,?_⟩
   · first|rfl|(simp only[go_sem,qd,qf,qb,qe,qj,qm,reduceIte,reduceCtorEq,push_cast,if_true,qz,qo,qq,qn,qF,qs,qK,qI,qv,qu,qt,zz,zd,zp,zq,zb,zl,xe,yu]<;>rfl)
   first|rfl|(simp only[go_sem,qb,qe,reduceCtorEq,push_cast,if_true,qo,qq,qn,qs,qv,qu,zz]<;>rfl)
 rw[if_pos hc20] at h;have t22:=eq_true hc20;apply zj;apply hZ19
 refine rc [4,8,11,13] fun K J=>?_
 obtain⟨r23,hr23,h⟩:=bind_some h;refine zB U 9 ?_;simp only[go_sem,qd,qf,qb,qe,t22];refine clN rfl rfl rfl ((xE.ok hr23).c _) ?_;refine zB U 6 ?_;simp only[go_sem,qd,qf,qb,qe,zX];refine nkN J ?_
 refine rc [4,8,12] fun K J=>?_
 obtain⟨r24,hr24,h⟩:=bind_some h;refine O 2 ?_;refine clN rfl rfl rfl ((ZB.ok hr24).c _) ?_;refine zB U 6 ?_;simp only[go_sem,qd,qf,qb,qe,zd,xe];refine nkN J ?_;refine D [4,5] ?_;apply yk;cases h;simp only[ZJ,yQ,yZ,xQ,exists_eq_left',go_sem,qf,qb,qe,xe];refine⟨by decide,by simp,?_,?_⟩
 · first|rfl|(simp only[go_sem,push_cast,qq,qn,qs,qv,qu,zz]<;>rfl)
 first|rfl|(simp only[go_sem,qb,qe,reduceCtorEq,push_cast,if_true,qo,qq,qn,qs,qv,qu,zz]<;>rfl)
def wx.j5 (a1:zk):Option Bool:=
 some (decide (a1.fKind=1))
def wx.j18 (a0:Yi)(a1:zk)(x17:Bool):Option Bool:=
 (if x17=true then bnd (if a1.fKind=1 then bnd (Zq a0 a1.fN) fun r21=>r21 else false) fun c21=>some c21 else (if a0.fKind=4 then (if a1.fKind=2 then (wt a1.fS).bind fun r29=>some r29 else some false).bind fun c29=>some c29 else (if a0.fKind=5 then some (decide (a1.fKind=2)) else some (decide (a1.fKind=3)))))
def wx (a0:Yi)(a1:zk):Option Bool:=
 (if a0.fKind=1 then (wx.j5 a1) else (if a0.fKind=2 then (wx.j5 a1) else (if a0.fKind=3 then (wx.j18 a0 a1 (decide (a0.fKind=3))) else (wx.j18 a0 a1 (decide (a0.fKind=6))))))
theorem wx.ok {a0 a1 r}(h:wx a0 a1=some r):ACalls qg 207 [.agg (Zh a0),.agg (zd a1)] [] (fun r' _=>r'=.bool r):=by
 refine zt (rs:=[.tmp 4]) U Tryz.func207 rfl Tryz.ntmps207 rfl Tryz.call207 (by simp) ?_;refine zA [(0,.agg (Zh a0)),(1,.agg (zd a1))] ⟨rfl,rfl,trivial⟩ ?_;unfold wx at h
 refine rg U [2,3] fun K J=>?_
 simp only[go_sem,qd,qb,qe,reduceCtorEq,zd,Zh];apply J
 refine za fun Z1 hZ1=>?_
 refine D [2,3,6] ?_;apply zn
 refine za fun Z2 hZ2=>?_
 apply zn
 refine za fun Z3 hZ3=>?_
 apply zn
 refine za fun Z4 hZ4=>?_
 apply zn;refine xL (fun L τ=>L=[(3,.op 0 0 0)]∧τ=([.cells 0 (zd a1)]:ze)∧wx.j5 a1=some r) ?_ ?_
 · apply zn;apply zn
   refine za fun Z7 hZ7=>?_
   refine za fun Z8 hZ8=>?_
   refine D [2,3,6,7] ?_;refine yn rfl (fun hc9=>?_) (fun hc9=>?_)
   · rw[if_pos hc9] at h;have t10:=eq_true hc9;apply yf;exact⟨_,_,⟨rfl,rfl,h⟩,(.t [1] false)⟩
   rw[if_neg hc9] at h;have t11:=eq_false hc9;apply zj;apply hZ8
   refine za fun Z12 hZ12=>?_
   refine rg U [2,3,6,9] fun K J=>?_
   simp only[go_sem,qd,qb,t11];apply J
   refine yn rfl (fun hc13=>?_) (fun hc13=>?_)
   · rw[if_pos hc13] at h;have t14:=eq_true hc13;apply yf;exact⟨_,_,⟨rfl,rfl,h⟩,(.t [1] false)⟩
   rw[if_neg hc13] at h;have t15:=eq_false hc13;apply zj;apply hZ12
   refine za fun Z16 hZ16=>?_
   refine xL (fun L τ=>∃ (x17:Bool),L=[(2,.op 0 0 0),(3,.op 1 0 0),(6,.int .i64 a0.fKind),(11,.bool x17)]∧τ=([.cells 0 [.int .i64 a0.fKind,.str a0.fName],.cells 0 (zd a1)]:ze)∧wx.j18 a0 a1 x17=some r) ?_ ?_
   · refine rg U [2,3,6,11] fun K J=>?_
     simp only[go_sem,qd,qb,t15];apply J
     refine yn rfl (fun hc38=>?_) (fun hc38=>?_)
     · rw[if_pos hc38] at h;have t39:=eq_true hc38;apply zj;exact⟨_,_,⟨decide (a0.fKind=3),rfl,rfl,h⟩,.s⟩
     rw[if_neg hc38] at h;have t40:=eq_false hc38
     refine rgE U [2,3,6,11] fun K J=>?_
     simp only[go_sem,qd,qb,t40];apply J
     exact⟨_,_,⟨decide (a0.fKind=6),rfl,rfl,h⟩,.s⟩
   rintro _ _ ⟨x17,rfl,rfl,h⟩;unfold wx.j18 at h;refine zU (b:=x17) rfl (fun hc19=>?_) (fun hc19=>?_)
   · rw[if_pos hc19] at h;apply yf;apply hZ4
     refine za fun Z20 hZ20=>?_
     refine rc [4] fun K J=>?_
     refine O 4 ?_;obtain⟨c21,hc21,h⟩:=ye h;refine zH 5 (fun L τ=>L=[(29,.bool c21)]∧τ=([.cells 0 [.int .i64 a0.fKind,.str a0.fName],.cells 0 (zd a1)]:ze)) ?_ ?_
     · refine wh 24 rfl (fun hg24=>?_) (fun hg24=>?_)
       · have t22:=eq_true hg24;rw[if_pos hg24] at hc21;obtain⟨r23,hr23,hc21⟩:=ye hc21;refine O 3 ?_;refine clN rfl rfl rfl ((Zq.ok hr23).c _) ?_;refine O 1 ?_;subst hc21;refine zi ⟨rfl,_,_,⟨rfl,rfl⟩,.p t22⟩
       have t24:=eq_false hg24;rw[if_neg hg24] at hc21;refine O 5 ?_;subst hc21;refine zi ⟨rfl,_,_,⟨rfl,rfl⟩,.p t24⟩
     rintro _ _ ⟨rfl,rfl⟩;refine O 1 ?_;refine nkN J ?_;cases h;exact rtA
   rw[Zf hc19] at h;apply zj;apply hZ16
   refine za fun Z25 hZ25=>?_
   refine D [3,6,14] ?_;refine yn rfl (fun hc26=>?_) (fun hc26=>?_)
   · rw[if_pos hc26] at h;have t27:=eq_true hc26;apply yf;apply hZ3
     refine za fun Z28 hZ28=>?_
     refine rc [4] fun K J=>?_
     refine zB U 4 ?_;simp only[go_sem,qd,qb,qe,t27];obtain⟨c29,hc29,h⟩:=bind_some h;refine zH 4 (fun L τ=>L=[(37,.bool c29)]∧τ=([.cells 0 [.int .i64 a0.fKind,.str a0.fName],.cells 0 (zd a1)]:ze)) ?_ ?_
     · refine wh 33 rfl (fun hg33=>?_) (fun hg33=>?_)
       · have t30:=eq_true hg33;rw[if_pos hg33] at hc29;obtain⟨r31,hr31,hc29⟩:=bind_some hc29;refine O 2 ?_;refine clN rfl rfl rfl ((wt.ok hr31).c _) ?_;refine O 1 ?_;cases hc29;refine zi ⟨rfl,_,_,⟨rfl,rfl⟩,.p t30⟩
       have t32:=eq_false hg33;rw[if_neg hg33] at hc29;refine O 4 ?_;cases hc29;refine zi ⟨rfl,_,_,⟨rfl,rfl⟩,.p t32⟩
     rintro _ _ ⟨rfl,rfl⟩;refine O 1 ?_;refine nkN J ?_;cases h;exact rtA
   rw[if_neg hc26] at h;have t33:=eq_false hc26;apply zj;apply hZ25
   refine rg U [3,16] fun K J=>?_
   simp only[go_sem,qd,qb,t33];apply J
   refine yn rfl (fun hc34=>?_) (fun hc34=>?_)
   · rw[if_pos hc34] at h;have t35:=eq_true hc34;apply yf;apply hZ2
     refine za fun Z36 hZ36=>?_
     refine rg U [4] fun K J=>?_
     simp only[go_sem,qd,qb,qe,t35];apply J
     cases h;exact rtA
   rw[if_neg hc34] at h;have t37:=eq_false hc34;apply zj;apply hZ7;apply yf;apply hZ1
   refine rg U [4] fun K J=>?_
   simp only[go_sem,qd,qb,qe,t37];apply J
   cases h;exact rtA
 rintro _ _ ⟨rfl,rfl,h⟩;unfold wx.j5 at h
 refine za fun Z6 hZ6=>?_
 refine D [4] ?_;cases h;exact rtA
end
section
set_option maxRecDepth 4000
set_option maxHeartbeats 1000000
open AM
def zP.j29 (x11:Int)(l9:List zk)(rec15:Int→List zk→Option (List zk×Bool))(m3_28:zk):Option (List zk×Bool):=
 (X7 (qa l9+1) 80).bind fun _u30=>(rec15 (x11+1) (l9++[m3_28]))
def zP.l15 (ym:zE→ya→zk→Option zk)(a0:zE)(a1:ZS):List zk→Int→List zk→Option (List zk×Bool)
 |[],x11,l9=>(if a1.fLabel=1 then (Yz l9 0).bind fun y17=>bnd (Zx y17) fun r20=>some (!r20) else some true).bind fun c17=>some (l9,c17)
 |y15::q15,x11,l9=>(if a1.fType.fKind=1 then bnd (wz y15.fN) fun r34=>(zP.j29 x11 l9 (zP.l15 ym a0 a1 q15) (⟨y15.fKind,r34,y15.fS,y15.fEntries,y15.fRest⟩:zk)) else (if a1.fType.fKind=7 then bnd (yq a0 a1.fType.fName) fun r38=>(ym a0 r38.1 y15).bind fun r39=>(zP.j29 x11 l9 (zP.l15 ym a0 a1 q15) r39) else (zP.j29 x11 l9 (zP.l15 ym a0 a1 q15) y15)))
def zP.j7 (ym:zE→ya→zk→Option zk)(a0:zE)(a1:ZS)(x6:List zk):Option (List zk×Bool):=
 (zP.l15 ym a0 a1 x6 0 ([]:List zk))
def zP.l4 (ym:zE→ya→zk→Option zk)(a0:zE)(a1:ZS)(a2:List zk):List zk→Int→Option (List zk×Bool)
 |[],x2=>(if a1.fLabel=3 then (zP.j7 ym a0 a1 a2) else (grd ((0:Int)≤IntKind.i64.wrap ((qa a2:Int)-1)∧IntKind.i64.wrap ((qa a2:Int)-1)≤(qa a2:Int)∧(qa a2:Int)≤(qa a2:Int))).bind fun _u43=>(zP.j7 ym a0 a1 (vct a2 (IntKind.i64.wrap ((qa a2:Int)-1)) (qa a2:Int))))
 |y4::q4,x2=>(wx a1.fType y4).bind fun r50=>(if (!r50)=true then some (([]:List zk),false) else ((zP.l4 ym a0 a1 a2 q4) (x2+1)))
def zP.body (xu:zE→ZS→(List zk)→Option (List zk×Bool))(ym:zE→ya→zk→Option zk)(a0:zE)(a1:ZS)(a2:List zk):Option (List zk×Bool):=
 (zP.l4 ym a0 a1 a2 a2 0)
theorem zP.step (xu:zE→ZS→(List zk)→Option (List zk×Bool))(ym:zE→ya→zk→Option zk)(XQ:∀ (a0:zE) (a1:ZS) (a2:List zk) (r:List zk×Bool),xu a0 a1 a2=some r→ACalls qg 164 [.agg (zb a0),.agg (yr a1),.ds true (qc yp a2) (qa a2) false] [] (fun r' _=>r'=.tup [.ds true (qc yp r.1) (qa r.1) false,.bool r.2]))(Xc:∀ (a0:zE) (a1:ya) (a2:zk) (r:zk),ym a0 a1 a2=some r→ACalls qg 119 [.agg (zb a0),.agg (zf a1),.agg (zd a2)] [] (fun r' _=>r'=.agg (zd r)))(a0:zE)(a1:ZS)(a2:List zk)(r:List zk×Bool)(h:zP.body xu ym a0 a1 a2=some r):ACalls qg 164 [.agg (zb a0),.agg (yr a1),.ds true (qc yp a2) (qa a2) false] [] (fun r' _=>r'=.tup [.ds true (qc yp r.1) (qa r.1) false,.bool r.2]):=by
 have ev_project_field:=fun a0 a1 a2 r h σ=>(XQ a0 a1 a2 r h).c σ
 have ev_project_message:=fun a0 a1 a2 r h σ=>(Xc a0 a1 a2 r h).c σ
 refine zt (rs:=[.tmp 6,.tmp 7]) U Tryz.func164 rfl Tryz.ntmps164 rfl Tryz.call164 (by simp) ?_;refine zA [(0,.agg (zb a0)),(1,.agg (yr a1)),(2,.ds true (qc yp a2) (qa a2) false)] ⟨rfl,rfl,rfl,trivial⟩ ?_;unfold zP.body at h
 refine rg U [2,3,4] fun K J=>?_
 simp only[go_sem,qd,qb,qe,reduceCtorEq,yr,zb];apply J
 refine za fun Z1 hZ1=>?_
 refine D [2,3,4,15,16,17] ?_;apply zn
 refine xn 2 fun hb4=>?_
 replace hb4:qa a2≤9223372036854775807:=hb4.1;refine yh (fun m L τ=>∃ (p4 q4:List zk) (x2:Int),m=qa q4∧L=[(2,.ds true (qc yp a2) (qa a2) false),(3,.op 0 0 0),(4,.op 1 0 0),(15,.ds true (qc yp a2) (qa a2) false),(16,.int .i64 (qa a2:Int)),(17,.int .i64 x2)]∧τ=([.cells 0 (zb a0),.cells 0 (yr a1)]:ze)∧a2=p4++q4∧x2=(qa p4:Int)∧zP.l4 ym a0 a1 a2 q4 x2=some r) _ ⟨[],a2,0,rfl,rfl,rfl,rfl,rfl,h⟩ .s ?_;rintro m L τ ⟨p4,q4,x2,rfl,rfl,rfl,hE4,hi4,h⟩
 rcases q4 with _|⟨y4,q4⟩
 · have hz4:=xC hE4 hi4;simp only[zP.l4] at h
   refine rg U [2,3,4,15,16,17,18] fun K J=>?_
   simp only[go_sem,qd,qb,hz4];apply J
   refine za fun Z5 hZ5=>?_
   refine zG rfl ?_;apply yf;apply hZ1;refine xL (fun L τ=>∃ (x6:List zk),L=[(2,.ds true (qc yp x6) (qa x6) false),(3,.op 0 0 0),(4,.op 1 0 0)]∧τ=([.cells 0 (zb a0),.cells 0 (yr a1)]:ze)∧zP.j7 ym a0 a1 x6=some r) ?_ ?_
   · refine D [2,3,4,29] ?_;refine yn rfl (fun hc41=>?_) (fun hc41=>?_)
     · rw[if_neg hc41] at h;have t42:=eq_false hc41;obtain⟨_u43,hu43,h⟩:=bind_some h;have gu43:=Ya hu43;have f44:=E38.sl_lo gu43
       refine rgE U [2,3,4] fun K J=>?_
       simp only[go_sem,qd,qb,t42,f44];apply J
       exact⟨_,_,⟨vct a2 (IntKind.i64.wrap ((qa a2:Int)-1)) (qa a2:Int),rfl,rfl,h⟩,.s⟩
     rw[if_pos hc41] at h;have t45:=eq_true hc41;apply zj;exact⟨_,_,⟨a2,rfl,rfl,h⟩,.s⟩
   rintro _ _ ⟨x6,rfl,rfl,h⟩;unfold zP.j7 at h;refine D [2,3,4,10] ?_;refine YV 10 5 rfl ?_;refine yT (L:=[(2,.ds true (qc yp x6) (qa x6) false),(3,.op 0 0 0),(4,.op 1 0 0),(10,.os true 5 2 0 0 (qa ([]:List zk)) false)]) (τ:=[.cells 0 (zb a0),.cells 0 (yr a1),.cells 0 (qc yp ([]:List zk))]) .s ?_
   refine za fun Z8 hZ8=>?_
   refine D [3,4,10,35,36,37] ?_;apply zn
   refine xn 35 fun hb15=>?_
   replace hb15:qa x6≤9223372036854775807:=hb15.1;refine yh (fun m L τ=>∃ (p15 q15:List zk) (x11:Int) (l9:List zk) (v10:Nat),m=qa q15∧L=[(3,.op 0 0 0),(4,.op 1 0 0),(10,.os true 5 2 v10 0 (qa l9) false),(35,.ds true (qc yp x6) (qa x6) false),(36,.int .i64 (qa x6:Int)),(37,.int .i64 x11)]∧τ=([.cells 0 (zb a0),.cells 0 (yr a1),.cells v10 (qc yp l9)]:ze)∧x6=p15++q15∧x11=(qa p15:Int)∧zP.l15 ym a0 a1 q15 x11 l9=some r) _ ⟨[],x6,0,([]:List zk),0,rfl,rfl,rfl,rfl,rfl,h⟩ .s ?_;rintro m L τ ⟨p15,q15,x11,l9,v10,rfl,rfl,rfl,hE15,hi15,h⟩
   rcases q15 with _|⟨y15,q15⟩
   · have hz15:=xC hE15 hi15;simp only[zP.l15] at h
     refine rg U [3,4,10,35,36,37,38] fun K J=>?_
     simp only[go_sem,qd,qb,hz15];apply J
     refine za fun Z16 hZ16=>?_
     refine zG rfl ?_;apply yf;apply hZ8
     refine rc [6,7] fun K J=>?_
     refine O 5 ?_;obtain⟨c17,hc17,h⟩:=bind_some h;refine zH 6 (fun L τ=>L=[(69,.os true 5 2 v10 0 (qa l9) false),(79,.bool c17)]∧τ=([.cells 0 (zb a0),.cells 0 (yr a1),.cells v10 (qc yp l9)]:ze)) ?_ ?_
     · refine wh 73 rfl (fun hg73=>?_) (fun hg73=>?_)
       · have t18:=eq_false hg73;rw[if_neg hg73] at hc17;refine O 6 ?_;cases hc17;refine zi ⟨rfl,_,_,⟨rfl,rfl⟩,.p t18⟩
       have t19:=eq_true hg73;rw[if_pos hg73] at hc17;obtain⟨y20,hy20,hc17⟩:=bind_some hc17;have f21:=E38.idxO hy20;have f22:=E38.rdO hy20;obtain⟨r23,hr23,hc17⟩:=ye hc17;refine zB U 3 ?_;simp only[go_sem,qd,qb,zd,yu,f21,f22];refine clN rfl rfl rfl ((Zx.ok hr23).c _) ?_;refine O 2 ?_;cases hc17;refine zi ⟨rfl,_,_,⟨rfl,rfl⟩,.p t19⟩
     rintro _ _ ⟨rfl,rfl⟩;refine O 2 ?_;refine nkN J ?_;cases h;exact rtA
   obtain⟨hz15,hw15,hx15,hE'15,hi'15⟩:=yU hE15 hi15 hb15;simp only[zP.l15] at h
   refine rg U [3,4,10,35,36,37,38] fun K J=>?_
   simp only[go_sem,qd,qb,hz15];apply J
   refine za fun Z24 hZ24=>?_
   refine zK rfl ?_;apply zj;apply hZ24
   refine za fun Z25 hZ25=>?_
   apply zn;have f26:=E38.idxS hx15;have f27:=E38.loadS rfl rfl hx15
   refine rg U [3,4,10,12,35,36,37] fun K J=>?_
   simp only[go_sem,qd,qf,qb,qe,zd,yu,f26,f27];apply J
   refine xL (fun L τ=>∃ (m3_28:zk),L=[(3,.op 0 0 0),(4,.op 1 0 0),(10,.os true 5 2 v10 0 (qa l9) false),(12,.op 3 0 0),(35,.ds true (qc yp x6) (qa x6) false),(36,.int .i64 (qa x6:Int)),(37,.int .i64 x11)]∧τ=([.cells 0 (zb a0),.cells 0 (yr a1),.cells v10 (qc yp l9),.cells 0 (zd m3_28)]:ze)∧zP.j29 x11 l9 (zP.l15 ym a0 a1 q15) m3_28=some r) ?_ ?_
   · refine D [3,4,10,12,35,36,37,43] ?_;apply zn;refine D [3,4,10,12,35,36,37,43,44] ?_;refine yn rfl (fun hc32=>?_) (fun hc32=>?_)
     · rw[if_pos hc32] at h;have t33:=eq_true hc32
       refine rcE [3,4,10,12,35,36,37] fun K J=>?_
       obtain⟨r34,hr34,h⟩:=ye h;refine zB U 2 ?_;simp only[go_sem,qd,qb,qe,t33];refine clN rfl rfl rfl ((wz.ok hr34).c _) ?_;refine O 2 ?_;refine nkN J ?_;exact⟨_,_,⟨(⟨y15.fKind,r34,y15.fS,y15.fEntries,y15.fRest⟩:zk),rfl,rfl,h⟩,.s⟩
     rw[if_neg hc32] at h;have t35:=eq_false hc32
     refine rg U [3,4,10,12,35,36,37,50] fun K J=>?_
     simp only[go_sem,qd,qb,t35];apply J
     refine yn rfl (fun hc36=>?_) (fun hc36=>?_)
     · rw[if_pos hc36] at h;have t37:=eq_true hc36
       refine rc [3,4,10,12,13,35,36,37] fun K J=>?_
       obtain⟨r38,hr38,h⟩:=ye h;refine zB U 4 ?_;simp only[go_sem,qd,qf,qb,qe,t37];refine clN rfl rfl rfl ((yq.ok hr38).c _) ?_;refine zB U 6 ?_;simp only[go_sem,qd,qf,qb,qe,zf];refine nkN J ?_
       refine rcE [3,4,10,12,35,36,37] fun K J=>?_
       obtain⟨r39,hr39,h⟩:=bind_some h;refine O 3 ?_;refine clN rfl rfl rfl (ev_project_message a0 r38.1 y15 r39 hr39 _) ?_;refine zB U 1 ?_;simp only[go_sem,qf,qb,qe,zd];refine nkN J ?_;exact⟨_,_,⟨r39,rfl,rfl,h⟩,(.t [0,1,2,3] false)⟩
     rw[if_neg hc36] at h;have t40:=eq_false hc36;apply zj;exact⟨_,_,⟨y15,rfl,rfl,h⟩,.s⟩
   rintro _ _ ⟨m3_28,rfl,rfl,h⟩;unfold zP.j29 at h;obtain⟨_u30,hu30,h⟩:=bind_some h;have gu30:=xf hu30;have f31:=(zV E38.len l9)
   refine rgE U [3,4,10,35,36,37] fun K J=>?_
   simp only[go_sem,qd,qf,qb,qe,qj,zS,yE,qZ,qQ,true_and,ue,yM,yw,yR,gu30,f31,xw,uc,q9,AV.one,qM,qD,ql,qr,qo,qH];apply J
   apply hZ25
   refine rgE U [3,4,10,35,36,37] fun K J=>?_
   simp only[go_sem,qd,qb,hw15];apply J
   exact⟨_,_,_,qy q15.length,⟨p15++[y15],q15,x11+1,l9++[m3_28],v10+1,rfl,rfl,rfl,hE'15,hi'15,h⟩,(.t [0,1,2] false)⟩
 obtain⟨hz4,hw4,hx4,hE'4,hi'4⟩:=yU hE4 hi4 hb4;simp only[zP.l4] at h
 refine rg U [2,3,4,15,16,17,18] fun K J=>?_
 simp only[go_sem,qd,qb,hz4];apply J
 refine za fun Z46 hZ46=>?_
 refine zK rfl ?_;apply zj;apply hZ46
 refine za fun Z47 hZ47=>?_
 apply zn;have f48:=E38.idxS hx4;have f49:=E38.loadS rfl rfl hx4
 refine rg U [2,3,4,9,15,16,17] fun K J=>?_
 simp only[go_sem,qd,qf,qb,qe,zd,yu,f48,f49];apply J
 refine rc [2,3,4,15,16,17,25] fun K J=>?_
 obtain⟨r50,hr50,h⟩:=bind_some h;refine O 3 ?_;refine clN rfl rfl rfl ((wx.ok hr50).c _) ?_;refine O 1 ?_;refine nkN J ?_;refine zU (b:=(!r50)) rfl (fun hc51=>?_) (fun hc51=>?_)
 · rw[if_pos hc51] at h;refine D [6,7] ?_;cases h;exact rtA
 rw[Zf hc51] at h;apply zj;apply hZ47
 refine rgE U [2,3,4,15,16,17] fun K J=>?_
 simp only[go_sem,qd,qb,hw4];apply J
 exact⟨_,_,_,qy q4.length,⟨p4++[y4],q4,x2+1,rfl,rfl,rfl,hE'4,hi'4,h⟩,(.t [0,1] false)⟩
def yb.j13 (x4:Int)(rec8:Int→List zr→Option zk)(l11:List zr):Option zk:=
 (rec8 (x4+1) l11)
def yb.l8 (xu:zE→ZS→(List zk)→Option (List zk×Bool))(a0:zE)(a1:ya):List zr→Int→List zr→Option zk
 |[],x4,l2=>some (⟨3,0,[],l2,([]:List yc)⟩:zk)
 |y8::q8,x4,l2=>bnd (zI a1 y8.fTag) fun r16=>(if (!r16.2)=true then (yb.j13 x4 (yb.l8 xu a0 a1 q8) l2) else (xu a0 r16.1 y8.fTrees).bind fun r19=>(if r19.2=true then (X7 (qa l2+1) 32).bind fun _u21=>(yb.j13 x4 (yb.l8 xu a0 a1 q8) (l2++[(⟨y8.fTag,r19.1⟩:zr)])) else (yb.j13 x4 (yb.l8 xu a0 a1 q8) l2)))
def yb.body (xu:zE→ZS→(List zk)→Option (List zk×Bool))(ym:zE→ya→zk→Option zk)(a0:zE)(a1:ya)(a2:zk):Option zk:=
 (yb.l8 xu a0 a1 a2.fEntries 0 ([]:List zr))
theorem yb.step (xu:zE→ZS→(List zk)→Option (List zk×Bool))(ym:zE→ya→zk→Option zk)(XQ:∀ (a0:zE) (a1:ZS) (a2:List zk) (r:List zk×Bool),xu a0 a1 a2=some r→ACalls qg 164 [.agg (zb a0),.agg (yr a1),.ds true (qc yp a2) (qa a2) false] [] (fun r' _=>r'=.tup [.ds true (qc yp r.1) (qa r.1) false,.bool r.2]))(Xc:∀ (a0:zE) (a1:ya) (a2:zk) (r:zk),ym a0 a1 a2=some r→ACalls qg 119 [.agg (zb a0),.agg (zf a1),.agg (zd a2)] [] (fun r' _=>r'=.agg (zd r)))(a0:zE)(a1:ya)(a2:zk)(r:zk)(h:yb.body xu ym a0 a1 a2=some r):ACalls qg 119 [.agg (zb a0),.agg (zf a1),.agg (zd a2)] [] (fun r' _=>r'=.agg (zd r)):=by
 have ev_project_field:=fun a0 a1 a2 r h σ=>(XQ a0 a1 a2 r h).c σ
 have ev_project_message:=fun a0 a1 a2 r h σ=>(Xc a0 a1 a2 r h).c σ
 refine zt (rs:=[.cell 6 37]) U Tryz.func119 rfl Tryz.ntmps119 rfl Tryz.call119 (by simp) ?_;refine zA [(0,.agg (zb a0)),(1,.agg (zf a1)),(2,.agg (zd a2))] ⟨rfl,rfl,rfl,trivial⟩ ?_;unfold yb.body at h
 refine rg U [3,4,5,6] fun K J=>?_
 simp only[go_sem,qd,qb,qe,reduceCtorEq,zd,zf,zb];apply J
 refine D [3,4,5,6,7] ?_;refine ZN 4 3 2 rfl (by simp) rfl (L:=[(3,.op 0 0 0),(4,.op 1 0 0),(5,.op 2 0 0),(6,.op 3 0 0),(7,.op 4 0 0)]) (τ:=[.cells 0 (zb a0),.cells 0 (zf a1),.cells 0 (zd a2),.cells 0 [.int .i64 0,.int .i64 0,.str [],.ds true [] 0 true,.ds true [] 0 true],.cells 0 [.int .i64 3,.int .i64 0,.str [],.os true 2 5 0 0 (qa ([]:List zr)) false,.ds true [] 0 true],.cells 0 (qc zx ([]:List zr))]) .s ?_
 refine za fun Z1 hZ1=>?_
 refine D [3,4,6,7,16,17,18] ?_;apply zn
 refine xn 16 fun hb8=>?_
 replace hb8:qa a2.fEntries≤9223372036854775807:=hb8.1;refine yh (fun m L τ=>∃ (p8 q8:List zr) (x4:Int) (l2:List zr) (v3:Nat),m=qa q8∧L=[(3,.op 0 0 0),(4,.op 1 0 0),(6,.op 2 0 0),(7,.op 3 0 0),(16,.ds true (qc zx a2.fEntries) (qa a2.fEntries) false),(17,.int .i64 (qa a2.fEntries:Int)),(18,.int .i64 x4)]∧τ=([.cells 0 (zb a0),.cells 0 (zf a1),.cells 0 [.int .i64 0,.int .i64 0,.str [],.ds true [] 0 true,.ds true [] 0 true],.cells 0 [.int .i64 3,.int .i64 0,.str [],.os true 2 4 v3 0 (qa l2) false,.ds true [] 0 true],.cells v3 (qc zx l2)]:ze)∧a2.fEntries=p8++q8∧x4=(qa p8:Int)∧yb.l8 xu a0 a1 q8 x4 l2=some r) _ ⟨[],a2.fEntries,0,([]:List zr),0,rfl,rfl,rfl,rfl,rfl,h⟩ (.t [0,1,3,4,5] false) ?_;rintro m L τ ⟨p8,q8,x4,l2,v3,rfl,rfl,rfl,hE8,hi8,h⟩
 rcases q8 with _|⟨y8,q8⟩
 · have hz8:=xC hE8 hi8;simp only[yb.l8] at h
   refine rg U [3,4,6,7,16,17,18,19] fun K J=>?_
   simp only[go_sem,qd,qb,hz8];apply J
   refine za fun Z9 hZ9=>?_
   refine zG rfl ?_;apply yf;apply hZ1;refine D [6] ?_;cases h;exact rtA
 obtain⟨hz8,hw8,hx8,hE'8,hi'8⟩:=yU hE8 hi8 hb8;simp only[yb.l8] at h
 refine rg U [3,4,6,7,16,17,18,19] fun K J=>?_
 simp only[go_sem,qd,qb,hz8];apply J
 refine za fun Z10 hZ10=>?_
 refine zK rfl ?_;apply zj;apply hZ10;refine xL (fun L τ=>∃ (l11:List zr) (v12:Nat),L=[(3,.op 0 0 0),(4,.op 1 0 0),(6,.op 2 0 0),(7,.op 3 0 0),(16,.ds true (qc zx a2.fEntries) (qa a2.fEntries) false),(17,.int .i64 (qa a2.fEntries:Int)),(18,.int .i64 x4)]∧τ=([.cells 0 (zb a0),.cells 0 (zf a1),.cells 0 [.int .i64 0,.int .i64 0,.str [],.ds true [] 0 true,.ds true [] 0 true],.cells 0 [.int .i64 3,.int .i64 0,.str [],.os true 2 4 v12 0 (qa l11) false,.ds true [] 0 true],.cells v12 (qc zx l11)]:ze)∧yb.j13 x4 (yb.l8 xu a0 a1 q8) l11=some r) ?_ ?_
 · apply zn;have f14:=E34.idxS hx8;have f15:=E34.loadS rfl rfl hx8
   refine rg U [3,4,6,7,9,16,17,18] fun K J=>?_
   simp only[go_sem,qd,qf,qb,qe,zQ,yK,f14,f15];apply J
   refine rc [3,4,6,7,9,10,11,16,17,18] fun K J=>?_
   obtain⟨r16,hr16,h⟩:=ye h;refine O 3 ?_;refine clN rfl rfl rfl ((zI.ok hr16).c _) ?_;refine zB U 6 ?_;simp only[go_sem,qd,qf,qb,qe,yr];refine nkN J ?_
   refine za fun Z17 hZ17=>?_
   refine D [3,4,6,7,9,10,16,17,18,30] ?_;refine zU (b:=(!r16.2)) rfl (fun hc18=>?_) (fun hc18=>?_)
   · rw[if_pos hc18] at h;apply yf;exact⟨_,_,⟨l2,v3,rfl,rfl,h⟩,(.t [0,1,2,3,4] false)⟩
   rw[Zf hc18] at h;apply zj;apply hZ17
   refine rc [3,4,6,7,9,12,13,16,17,18] fun K J=>?_
   obtain⟨r19,hr19,h⟩:=bind_some h;refine O 4 ?_;refine clN rfl rfl rfl (ev_project_field a0 r16.1 y8.fTrees r19 hr19 _) ?_;refine O 5 ?_;refine nkN J ?_;refine D [3,4,6,7,9,12,16,17,18,39] ?_;refine zU (b:=r19.2) rfl (fun hc20=>?_) (fun hc20=>?_)
   · rw[if_pos hc20] at h;obtain⟨_u21,hu21,h⟩:=bind_some h;have gu21:=xf hu21;have f22:=(zV E34.len l2)
     refine rgE U [3,4,6,7,16,17,18] fun K J=>?_
     simp only[go_sem,qd,qf,qb,qe,qj,zS,yE,qZ,qQ,true_and,ue,yM,yw,yR,gu21,f22,xw,uc,q9,AV.one,qM,qD,ql,qr,qo,qH];apply J
     exact⟨_,_,⟨l2++[(⟨y8.fTag,r19.1⟩:zr)],v3+1,rfl,rfl,h⟩,(.t [0,1,2,3,4] false)⟩
   rw[Zf hc20] at h;apply zj;exact⟨_,_,⟨l2,v3,rfl,rfl,h⟩,(.t [0,1,2,3,4] false)⟩
 rintro _ _ ⟨l11,v12,rfl,rfl,h⟩;unfold yb.j13 at h
 refine rgE U [3,4,6,7,16,17,18] fun K J=>?_
 simp only[go_sem,qd,qb,hw8];apply J
 exact⟨_,_,_,qy q8.length,⟨p8++[y8],q8,x4+1,l11,v12,rfl,rfl,rfl,hE'8,hi'8,h⟩,.s⟩
mutual
def zP : Nat→zE→ZS→(List zk)→Option (List zk×Bool)
 |0,_,_,_=>none
 |k+1,a0,a1,a2=>zP.body (zP k) (yb k) a0 a1 a2
def yb : Nat→zE→ya→zk→Option zk
 |0,_,_,_=>none
 |k+1,a0,a1,a2=>yb.body (zP k) (yb k) a0 a1 a2
end
theorem zP.all (k:Nat):(∀ (a0:zE) (a1:ZS) (a2:List zk) (r:List zk×Bool),zP k a0 a1 a2=some r→ACalls qg 164 [.agg (zb a0),.agg (yr a1),.ds true (qc yp a2) (qa a2) false] [] (fun r' _=>r'=.tup [.ds true (qc yp r.1) (qa r.1) false,.bool r.2]))∧(∀ (a0:zE) (a1:ya) (a2:zk) (r:zk),yb k a0 a1 a2=some r→ACalls qg 119 [.agg (zb a0),.agg (zf a1),.agg (zd a2)] [] (fun r' _=>r'=.agg (zd r))):=by
 induction k with
 |zero=>exact⟨(fun a0 a1 a2 r h=>by simp only[zP] at h; cases h),(fun a0 a1 a2 r h=>by simp only[yb] at h; cases h)⟩
 |succ k ih=>exact⟨(fun a0 a1 a2 r h=>zP.step _ _ ih.1 ih.2 a0 a1 a2 r (by simpa only [zP] using h)),(fun a0 a1 a2 r h=>yb.step _ _ ih.1 ih.2 a0 a1 a2 r (by simpa only [yb] using h))⟩
theorem yb.ev (k:Nat)(a0:zE)(a1:ya)(a2:zk)(r:zk)(h:yb k a0 a1 a2=some r)(σ:ze):ACalls qg 119 [.agg (zb a0),.agg (zf a1),.agg (zd a2)] σ (fun r' σ'=>r'=.agg (zd r)∧σ'=σ):=
 ((zP.all k).2 a0 a1 a2 r h).c σ
def wI (a0:zE)(a1:List UInt8)(a2:zk):Option (zk×Bool):=
 bnd (yq a0 a1) fun r1=>(if (!r1.2)=true then some true else (yH a0).bind fun r3=>some (!(decide (r3=0)))).bind fun c3=>(if (c3||(!(decide (a2.fKind=3))))=true then some true else (Yk a2).bind fun r5=>some (!r5)).bind fun c5=>(if c5=true then some ((⟨0,0,[],([]:List zr),([]:List yc)⟩:zk),false) else (yb xo a0 r1.1 a2).bind fun r8=>some (r8,true))
theorem wI.ok {a0 a1 a2 r}(h:wI a0 a1 a2=some r):ACalls qg 79 [.agg (zb a0),.str a1,.agg (zd a2)] [] (fun r' _=>r'=.tup [.agg (zd r.1),.bool r.2]):=by
 refine zt (rs:=[.cell 6 37,.tmp 7]) U Tryz.func79 rfl Tryz.ntmps79 rfl Tryz.call79 (by simp) ?_;refine zA [(0,.agg (zb a0)),(1,.str a1),(2,.agg (zd a2))] ⟨rfl,rfl,rfl,trivial⟩ ?_;unfold wI at h
 refine rg U [1,3,5,6] fun K J=>?_
 simp only[go_sem,qd,qb,qe,reduceCtorEq,zd,zb];apply J
 refine rc [3,5,6,8,9] fun K J=>?_
 obtain⟨r1,hr1,h⟩:=ye h;refine O 2 ?_;refine clN rfl rfl rfl ((yq.ok hr1).c _) ?_;refine zB U 6 ?_;simp only[go_sem,qd,qf,qb,qe,zf];refine nkN J ?_
 refine za fun Z2 hZ2=>?_
 refine rc [3,5,6,8,32] fun K J=>?_
 refine O 3 ?_;obtain⟨c3,hc3,h⟩:=bind_some h;refine zH 4 (fun L τ=>L=[(3,.op 0 0 0),(5,.op 1 0 0),(6,.op 2 0 0),(8,.op 3 0 0),(22,.bool c3)]∧τ=([.cells 0 (zb a0),.cells 0 (zd a2),.cells 0 [.int .i64 0,.int .i64 0,.str [],.ds true [] 0 true,.ds true [] 0 true],.cells 0 (zf r1.1)]:ze)) ?_ ?_
 · refine yB (b:=(!r1.2)) 18 rfl (fun hg18=>?_) (fun hg18=>?_)
   · rw[if_pos hg18] at hc3;refine O 4 ?_;cases hc3;refine zi ⟨rfl,_,_,⟨rfl,rfl⟩,.b hg18⟩
   rw[Zf hg18] at hc3;obtain⟨r4,hr4,hc3⟩:=bind_some hc3;refine O 1 ?_;refine clN rfl rfl rfl ((yH.ok hr4).c _) ?_;refine O 2 ?_;cases hc3;refine zi ⟨rfl,_,_,⟨rfl,rfl⟩,.b hg18⟩
 rintro _ _ ⟨rfl,rfl⟩;refine O 1 ?_;refine zH 4 (fun L τ=>L=[(3,.op 0 0 0),(5,.op 1 0 0),(6,.op 2 0 0),(8,.op 3 0 0),(27,.bool (c3||(!(decide (a2.fKind=3)))))]∧τ=([.cells 0 (zb a0),.cells 0 (zd a2),.cells 0 [.int .i64 0,.int .i64 0,.str [],.ds true [] 0 true,.ds true [] 0 true],.cells 0 (zf r1.1)]:ze)) ?_ ?_
 · refine yB (b:=c3) 23 rfl (fun hg23=>?_) (fun hg23=>?_)
   · refine O 4 ?_;refine zi ⟨rfl,_,_,⟨rfl,rfl⟩,.b hg23⟩
   refine O 4 ?_;refine zi ⟨rfl,_,_,⟨rfl,rfl⟩,.b hg23⟩
 rintro _ _ ⟨rfl,rfl⟩;refine O 1 ?_;obtain⟨c5,hc5,h⟩:=bind_some h;refine zH 4 (fun L τ=>L=[(3,.op 0 0 0),(5,.op 1 0 0),(6,.op 2 0 0),(8,.op 3 0 0),(32,.bool c5)]∧τ=([.cells 0 (zb a0),.cells 0 (zd a2),.cells 0 [.int .i64 0,.int .i64 0,.str [],.ds true [] 0 true,.ds true [] 0 true],.cells 0 (zf r1.1)]:ze)) ?_ ?_
 · refine yB (b:=(c3||(!(decide (a2.fKind=3))))) 28 rfl (fun hg28=>?_) (fun hg28=>?_)
   · rw[if_pos hg28] at hc5;refine O 4 ?_;cases hc5;refine zi ⟨rfl,_,_,⟨rfl,rfl⟩,.b hg28⟩
   rw[Zf hg28] at hc5;obtain⟨r6,hr6,hc5⟩:=bind_some hc5;refine O 1 ?_;refine clN rfl rfl rfl ((Yk.ok hr6).c _) ?_;refine O 2 ?_;cases hc5;refine zi ⟨rfl,_,_,⟨rfl,rfl⟩,.b hg28⟩
 rintro _ _ ⟨rfl,rfl⟩;refine nkN J ?_;refine zU (b:=c5) rfl (fun hc7=>?_) (fun hc7=>?_)
 · rw[if_pos hc7] at h;refine D [6,7] ?_;cases h;exact rtA
 rw[Zf hc7] at h;apply zj;apply hZ2
 refine rc [6,7] fun K J=>?_
 obtain⟨r8,hr8,h⟩:=bind_some h;refine zB U 3 ?_;simp only[go_sem,qd,qf,qb,qe,zd];refine clN rfl rfl rfl (yb.ev xo a0 r1.1 a2 r8 hr8 _) ?_;refine zB U 2 ?_;simp only[go_sem,qd,qf,qb,qe,zd];refine nkN J ?_;cases h;exact rtA
def xJ.l8 (a1:List yc):List yc→Int→Option Bool
 |[],x6=>some true
 |y8::q8,x6=>(Yz a1 x6).bind fun y14=>(if (!(decide (y8.fTag=y14.fTag)&&(decide (y8.fWire=y14.fWire)&&(decide (y8.fN=y14.fN)&&decide (y8.fB=y14.fB)))))=true then some false else ((xJ.l8 a1 q8) (x6+1)))
def xJ (a0:List yc)(a1:List yc):Option Bool:=
 (if (qa a0:Int)=(qa a1:Int) then (xJ.l8 a1 a0 0) else some false)
theorem xJ.ok {a0 a1 r}(h:xJ a0 a1=some r):ACalls qg 120 [.ds true (qc zs a0) (qa a0) false,.ds true (qc zs a1) (qa a1) false] [] (fun r' _=>r'=.bool r):=by
 refine zt (rs:=[.tmp 4]) U Tryz.func120 rfl Tryz.ntmps120 rfl Tryz.call120 (by simp) ?_;refine zA [(0,.ds true (qc zs a0) (qa a0) false),(1,.ds true (qc zs a1) (qa a1) false)] ⟨rfl,rfl,trivial⟩ ?_;unfold xJ at h;refine D [0,1] ?_
 refine za fun Z1 hZ1=>?_
 refine D [0,1,10] ?_;refine yn rfl (fun hc2=>?_) (fun hc2=>?_)
 · rw[if_neg hc2] at h;have t3:=eq_false hc2
   refine rg U [4] fun K J=>?_
   simp only[go_sem,qd,qb,reduceCtorEq,t3];apply J
   cases h;exact rtA
 rw[if_pos hc2] at h;have t4:=eq_true hc2;apply zj;apply hZ1
 refine za fun Z5 hZ5=>?_
 refine rg U [0,1,12,13] fun K J=>?_
 simp only[go_sem,qd,qb,reduceCtorEq,t4];apply J
 apply zn
 refine xn 0 fun hb8=>?_
 replace hb8:qa a0≤9223372036854775807:=hb8.1;refine yh (fun m L τ=>∃ (p8 q8:List yc) (x6:Int),m=qa q8∧L=[(0,.ds true (qc zs a0) (qa a0) false),(1,.ds true (qc zs a1) (qa a1) false),(12,.int .i64 (qa a0:Int)),(13,.int .i64 x6)]∧τ=([]:ze)∧a0=p8++q8∧x6=(qa p8:Int)∧xJ.l8 a1 q8 x6=some r) _ ⟨[],a0,0,rfl,rfl,rfl,rfl,rfl,h⟩ .s ?_;rintro m L τ ⟨p8,q8,x6,rfl,rfl,rfl,hE8,hi8,h⟩
 rcases q8 with _|⟨y8,q8⟩
 · have hz8:=xC hE8 hi8;simp only[xJ.l8] at h
   refine rg U [0,1,12,13,14] fun K J=>?_
   simp only[go_sem,qd,qb,reduceCtorEq,hz8];apply J
   refine za fun Z9 hZ9=>?_
   refine zG rfl ?_;apply yf;apply hZ5;refine D [4] ?_;cases h;exact rtA
 obtain⟨hz8,hw8,hx8,hE'8,hi'8⟩:=yU hE8 hi8 hb8;simp only[xJ.l8] at h
 refine rg U [0,1,12,13,14] fun K J=>?_
 simp only[go_sem,qd,qb,reduceCtorEq,hz8];apply J
 refine za fun Z10 hZ10=>?_
 refine zK rfl ?_;apply zj;apply hZ10
 refine za fun Z11 hZ11=>?_
 apply zn;refine D [0,1,5,12,13] ?_;have f12:=E35.idxS hx8;have f13:=E35.loadS rfl rfl hx8;obtain⟨y14,hy14,h⟩:=bind_some h;have f15:=E35.idxS hy14;have f16:=E35.loadS rfl rfl hy14
 refine rd [0,1,12,13,24] fun K J=>?_
 refine DW.start (T:=tab) [.any,.any,.any,.at [],.any,.any,.any,.at [],.any] [] ?_;refine DW.runN U 8 ?_;simp only[go_sem,qd,qb,reduceCtorEq,zs,f12,f13,f15,f16];refine DW.runN U 1 ?_;simp only[go_sem,qd,qb,reduceCtorEq,evEqA,vat,ceq];refine DW.fin U (by decide +kernel) rfl ?_;simp only[zC,upd,qb,reduceIte,yX,xK];apply J
 refine zU (b:=(!(decide (y8.fTag=y14.fTag)&&(decide (y8.fWire=y14.fWire)&&(decide (y8.fN=y14.fN)&&decide (y8.fB=y14.fB)))))) rfl (fun hc17=>?_) (fun hc17=>?_)
 · rw[if_pos hc17] at h;refine D [4] ?_;cases h;exact rtA
 rw[Zf hc17] at h;apply zj;apply hZ11
 refine rgE U [0,1,12,13] fun K J=>?_
 simp only[go_sem,qd,qb,reduceCtorEq,hw8];apply J
 exact⟨_,_,_,qy q8.length,⟨p8++[y8],q8,x6+1,rfl,rfl,rfl,hE'8,hi'8,h⟩,.s⟩
def wg.body (xl:zk→zk→Option Bool)(yP:zr→zr→Option Bool)(zF:(List zr)→(List zr)→Option Bool)(zM:(List zk)→(List zk)→Option Bool)(a0:zk)(a1:zk):Option Bool:=
 (if (((decide (a0.fKind=a1.fKind))&&(decide (a0.fN=a1.fN)))&&(decide (a0.fS=a1.fS)))=true then (xJ a0.fRest a1.fRest).bind fun r3=>some r3 else some false).bind fun c3=>(if c3=true then (zF a0.fEntries a1.fEntries).bind fun r5=>some r5 else some false).bind fun c5=>some c5
theorem wg.step (xl:zk→zk→Option Bool)(yP:zr→zr→Option Bool)(zF:(List zr)→(List zr)→Option Bool)(zM:(List zk)→(List zk)→Option Bool)(Yq:∀ (a0:zk) (a1:zk) (r:Bool),xl a0 a1=some r→ACalls qg 80 [.agg (zd a0),.agg (zd a1)] [] (fun r' _=>r'=.bool r))(ZK:∀ (a0:zr) (a1:zr) (r:Bool),yP a0 a1=some r→ACalls qg 122 [.agg (zQ a0),.agg (zQ a1)] [] (fun r' _=>r'=.bool r))(yW:∀ (a0:List zr) (a1:List zr) (r:Bool),zF a0 a1=some r→ACalls qg 121 [.ds true (qc zx a0) (qa a0) false,.ds true (qc zx a1) (qa a1) false,.fn (.func 122) [] []] [] (fun r' _=>r'=.bool r))(xg:∀ (a0:List zk) (a1:List zk) (r:Bool),zM a0 a1=some r→ACalls qg 123 [.ds true (qc yp a0) (qa a0) false,.ds true (qc yp a1) (qa a1) false,.fn (.func 80) [] []] [] (fun r' _=>r'=.bool r))(a0:zk)(a1:zk)(r:Bool)(h:wg.body xl yP zF zM a0 a1=some r):ACalls qg 80 [.agg (zd a0),.agg (zd a1)] [] (fun r' _=>r'=.bool r):=by
 have ev_value_Same:=fun a0 a1 r h σ=>(Yq a0 a1 r h).c σ
 have ev_value_Same_1:=fun a0 a1 r h σ=>(ZK a0 a1 r h).c σ
 have ev_slices_EqualFunc_Entry_value_Same_1:=fun a0 a1 r h σ=>(yW a0 a1 r h).c σ
 have ev_slices_EqualFunc_Tree_value_Same:=fun a0 a1 r h σ=>(xg a0 a1 r h).c σ
 refine zt (rs:=[.tmp 4]) U Tryz.func80 rfl Tryz.ntmps80 rfl Tryz.call80 (by simp) ?_;refine zA [(0,.agg (zd a0)),(1,.agg (zd a1))] ⟨rfl,rfl,trivial⟩ ?_;unfold wg.body at h
 refine rg U [2,3] fun K J=>?_
 simp only[go_sem,qd,qb,qe,reduceCtorEq,zd];apply J
 refine rc [4] fun K J=>?_
 refine O 6 ?_;refine zH 6 (fun L τ=>L=[(2,.op 0 0 0),(3,.op 1 0 0),(16,.bool ((decide (a0.fKind=a1.fKind))&&(decide (a0.fN=a1.fN))))]∧τ=([.cells 0 (zd a0),.cells 0 (zd a1)]:ze)) ?_ ?_
 · refine wh 10 rfl (fun hg10=>?_) (fun hg10=>?_)
   · have t1:=eq_true hg10;refine O 6 ?_;refine zi ⟨rfl,_,_,⟨rfl,rfl⟩,.p t1⟩
   have t2:=eq_false hg10;refine O 6 ?_;refine zi ⟨rfl,_,_,⟨rfl,rfl⟩,.p t2⟩
 rintro _ _ ⟨rfl,rfl⟩;refine O 1 ?_;refine zH 6 (fun L τ=>L=[(2,.op 0 0 0),(3,.op 1 0 0),(23,.bool (((decide (a0.fKind=a1.fKind))&&(decide (a0.fN=a1.fN)))&&(decide (a0.fS=a1.fS))))]∧τ=([.cells 0 (zd a0),.cells 0 (zd a1)]:ze)) ?_ ?_
 · refine yB (b:=((decide (a0.fKind=a1.fKind))&&(decide (a0.fN=a1.fN)))) 17 rfl (fun hg17=>?_) (fun hg17=>?_)
   · refine O 6 ?_;refine zi ⟨rfl,_,_,⟨rfl,rfl⟩,.b hg17⟩
   refine O 6 ?_;refine zi ⟨rfl,_,_,⟨rfl,rfl⟩,.b hg17⟩
 rintro _ _ ⟨rfl,rfl⟩;refine O 1 ?_;obtain⟨c3,hc3,h⟩:=bind_some h;refine zH 6 (fun L τ=>L=[(2,.op 0 0 0),(3,.op 1 0 0),(30,.bool c3)]∧τ=([.cells 0 (zd a0),.cells 0 (zd a1)]:ze)) ?_ ?_
 · refine yB (b:=(((decide (a0.fKind=a1.fKind))&&(decide (a0.fN=a1.fN)))&&(decide (a0.fS=a1.fS)))) 24 rfl (fun hg24=>?_) (fun hg24=>?_)
   · rw[if_pos hg24] at hc3;obtain⟨r4,hr4,hc3⟩:=bind_some hc3;refine O 4 ?_;refine clN rfl rfl rfl ((xJ.ok hr4).c _) ?_;refine O 1 ?_;cases hc3;refine zi ⟨rfl,_,_,⟨rfl,rfl⟩,.b hg24⟩
   rw[Zf hg24] at hc3;refine O 6 ?_;cases hc3;refine zi ⟨rfl,_,_,⟨rfl,rfl⟩,.b hg24⟩
 rintro _ _ ⟨rfl,rfl⟩;refine O 1 ?_;obtain⟨c5,hc5,h⟩:=bind_some h;refine zH 6 (fun L τ=>L=[(37,.bool c5)]∧τ=([.cells 0 (zd a0),.cells 0 (zd a1)]:ze)) ?_ ?_
 · refine yB (b:=c3) 31 rfl (fun hg31=>?_) (fun hg31=>?_)
   · rw[if_pos hg31] at hc5;obtain⟨r6,hr6,hc5⟩:=bind_some hc5;refine O 4 ?_;refine clN rfl rfl rfl (ev_slices_EqualFunc_Entry_value_Same_1 a0.fEntries a1.fEntries r6 hr6 _) ?_;refine O 1 ?_;cases hc5;refine zi ⟨rfl,_,_,⟨rfl,rfl⟩,.b hg31⟩
   rw[Zf hg31] at hc5;refine O 6 ?_;cases hc5;refine zi ⟨rfl,_,_,⟨rfl,rfl⟩,.b hg31⟩
 rintro _ _ ⟨rfl,rfl⟩;refine O 1 ?_;refine nkN J ?_;cases h;exact rtA
def wC.body (xl:zk→zk→Option Bool)(yP:zr→zr→Option Bool)(zF:(List zr)→(List zr)→Option Bool)(zM:(List zk)→(List zk)→Option Bool)(a0:zr)(a1:zr):Option Bool:=
 (if a0.fTag=a1.fTag then (zM a0.fTrees a1.fTrees).bind fun r1=>some r1 else some false).bind fun c1=>some c1
theorem wC.step (xl:zk→zk→Option Bool)(yP:zr→zr→Option Bool)(zF:(List zr)→(List zr)→Option Bool)(zM:(List zk)→(List zk)→Option Bool)(Yq:∀ (a0:zk) (a1:zk) (r:Bool),xl a0 a1=some r→ACalls qg 80 [.agg (zd a0),.agg (zd a1)] [] (fun r' _=>r'=.bool r))(ZK:∀ (a0:zr) (a1:zr) (r:Bool),yP a0 a1=some r→ACalls qg 122 [.agg (zQ a0),.agg (zQ a1)] [] (fun r' _=>r'=.bool r))(yW:∀ (a0:List zr) (a1:List zr) (r:Bool),zF a0 a1=some r→ACalls qg 121 [.ds true (qc zx a0) (qa a0) false,.ds true (qc zx a1) (qa a1) false,.fn (.func 122) [] []] [] (fun r' _=>r'=.bool r))(xg:∀ (a0:List zk) (a1:List zk) (r:Bool),zM a0 a1=some r→ACalls qg 123 [.ds true (qc yp a0) (qa a0) false,.ds true (qc yp a1) (qa a1) false,.fn (.func 80) [] []] [] (fun r' _=>r'=.bool r))(a0:zr)(a1:zr)(r:Bool)(h:wC.body xl yP zF zM a0 a1=some r):ACalls qg 122 [.agg (zQ a0),.agg (zQ a1)] [] (fun r' _=>r'=.bool r):=by
 have ev_value_Same:=fun a0 a1 r h σ=>(Yq a0 a1 r h).c σ
 have ev_value_Same_1:=fun a0 a1 r h σ=>(ZK a0 a1 r h).c σ
 have ev_slices_EqualFunc_Entry_value_Same_1:=fun a0 a1 r h σ=>(yW a0 a1 r h).c σ
 have ev_slices_EqualFunc_Tree_value_Same:=fun a0 a1 r h σ=>(xg a0 a1 r h).c σ
 refine zt (rs:=[.tmp 4]) U Tryz.func122 rfl Tryz.ntmps122 rfl Tryz.call122 (by simp) ?_;refine zA [(0,.agg (zQ a0)),(1,.agg (zQ a1))] ⟨rfl,rfl,trivial⟩ ?_;unfold wC.body at h
 refine rg U [2,3] fun K J=>?_
 simp only[go_sem,qd,qb,qe,reduceCtorEq,zQ];apply J
 refine rc [4] fun K J=>?_
 refine O 6 ?_;obtain⟨c1,hc1,h⟩:=bind_some h;refine zH 6 (fun L τ=>L=[(16,.bool c1)]∧τ=([.cells 0 (zQ a0),.cells 0 (zQ a1)]:ze)) ?_ ?_
 · refine wh 10 rfl (fun hg10=>?_) (fun hg10=>?_)
   · have t2:=eq_true hg10;rw[if_pos hg10] at hc1;obtain⟨r3,hr3,hc1⟩:=bind_some hc1;refine O 4 ?_;refine clN rfl rfl rfl (ev_slices_EqualFunc_Tree_value_Same a0.fTrees a1.fTrees r3 hr3 _) ?_;refine O 1 ?_;cases hc1;refine zi ⟨rfl,_,_,⟨rfl,rfl⟩,.p t2⟩
   have t4:=eq_false hg10;rw[if_neg hg10] at hc1;refine O 6 ?_;cases hc1;refine zi ⟨rfl,_,_,⟨rfl,rfl⟩,.p t4⟩
 rintro _ _ ⟨rfl,rfl⟩;refine O 1 ?_;refine nkN J ?_;cases h;exact rtA
def zw.l8 (yP:zr→zr→Option Bool)(a1:List zr):List zr→Int→Option Bool
 |[],x6=>some true
 |y8::q8,x6=>(Yz a1 x6).bind fun y14=>(yP y8 y14).bind fun r17=>(if (!r17)=true then some false else ((zw.l8 yP a1 q8) (x6+1)))
def zw.body (xl:zk→zk→Option Bool)(yP:zr→zr→Option Bool)(zF:(List zr)→(List zr)→Option Bool)(zM:(List zk)→(List zk)→Option Bool)(a0:List zr)(a1:List zr):Option Bool:=
 (if (qa a0:Int)=(qa a1:Int) then (zw.l8 yP a1 a0 0) else some false)
theorem zw.step (xl:zk→zk→Option Bool)(yP:zr→zr→Option Bool)(zF:(List zr)→(List zr)→Option Bool)(zM:(List zk)→(List zk)→Option Bool)(Yq:∀ (a0:zk) (a1:zk) (r:Bool),xl a0 a1=some r→ACalls qg 80 [.agg (zd a0),.agg (zd a1)] [] (fun r' _=>r'=.bool r))(ZK:∀ (a0:zr) (a1:zr) (r:Bool),yP a0 a1=some r→ACalls qg 122 [.agg (zQ a0),.agg (zQ a1)] [] (fun r' _=>r'=.bool r))(yW:∀ (a0:List zr) (a1:List zr) (r:Bool),zF a0 a1=some r→ACalls qg 121 [.ds true (qc zx a0) (qa a0) false,.ds true (qc zx a1) (qa a1) false,.fn (.func 122) [] []] [] (fun r' _=>r'=.bool r))(xg:∀ (a0:List zk) (a1:List zk) (r:Bool),zM a0 a1=some r→ACalls qg 123 [.ds true (qc yp a0) (qa a0) false,.ds true (qc yp a1) (qa a1) false,.fn (.func 80) [] []] [] (fun r' _=>r'=.bool r))(a0:List zr)(a1:List zr)(r:Bool)(h:zw.body xl yP zF zM a0 a1=some r):ACalls qg 121 [.ds true (qc zx a0) (qa a0) false,.ds true (qc zx a1) (qa a1) false,.fn (.func 122) [] []] [] (fun r' _=>r'=.bool r):=by
 have ev_value_Same:=fun a0 a1 r h σ=>(Yq a0 a1 r h).c σ
 have ev_value_Same_1:=fun a0 a1 r h σ=>(ZK a0 a1 r h).c σ
 have ev_slices_EqualFunc_Entry_value_Same_1:=fun a0 a1 r h σ=>(yW a0 a1 r h).c σ
 have ev_slices_EqualFunc_Tree_value_Same:=fun a0 a1 r h σ=>(xg a0 a1 r h).c σ
 refine zt (rs:=[.tmp 6]) U Tryz.func121 rfl Tryz.ntmps121 rfl Tryz.call121 (by simp) ?_;refine zA [(0,.ds true (qc zx a0) (qa a0) false),(1,.ds true (qc zx a1) (qa a1) false),(2,.fn (.func 122) [] [])] ⟨rfl,rfl,rfl,trivial⟩ ?_;unfold zw.body at h;refine D [0,1,2] ?_
 refine za fun Z1 hZ1=>?_
 refine D [0,1,2,14] ?_;refine yn rfl (fun hc2=>?_) (fun hc2=>?_)
 · rw[if_neg hc2] at h;have t3:=eq_false hc2
   refine rg U [6] fun K J=>?_
   simp only[go_sem,qd,qb,reduceCtorEq,t3];apply J
   cases h;exact rtA
 rw[if_pos hc2] at h;have t4:=eq_true hc2;apply zj;apply hZ1
 refine za fun Z5 hZ5=>?_
 refine rg U [1,2,15,16,17] fun K J=>?_
 simp only[go_sem,qd,qb,reduceCtorEq,t4];apply J
 apply zn
 refine xn 15 fun hb8=>?_
 replace hb8:qa a0≤9223372036854775807:=hb8.1;refine yh (fun m L τ=>∃ (p8 q8:List zr) (x6:Int),m=qa q8∧L=[(1,.ds true (qc zx a1) (qa a1) false),(2,.fn (.func 122) [] []),(15,.ds true (qc zx a0) (qa a0) false),(16,.int .i64 (qa a0:Int)),(17,.int .i64 x6)]∧τ=([]:ze)∧a0=p8++q8∧x6=(qa p8:Int)∧zw.l8 yP a1 q8 x6=some r) _ ⟨[],a0,0,rfl,rfl,rfl,rfl,rfl,h⟩ .s ?_;rintro m L τ ⟨p8,q8,x6,rfl,rfl,rfl,hE8,hi8,h⟩
 rcases q8 with _|⟨y8,q8⟩
 · have hz8:=xC hE8 hi8;simp only[zw.l8] at h
   refine rg U [1,2,15,16,17,18] fun K J=>?_
   simp only[go_sem,qd,qb,hz8];apply J
   refine za fun Z9 hZ9=>?_
   refine zG rfl ?_;apply yf;apply hZ5;refine D [6] ?_;cases h;exact rtA
 obtain⟨hz8,hw8,hx8,hE'8,hi'8⟩:=yU hE8 hi8 hb8;simp only[zw.l8] at h
 refine rg U [1,2,15,16,17,18] fun K J=>?_
 simp only[go_sem,qd,qb,hz8];apply J
 refine za fun Z10 hZ10=>?_
 refine zK rfl ?_;apply zj;apply hZ10
 refine za fun Z11 hZ11=>?_
 apply zn;have f12:=E34.idxS hx8;have f13:=E34.loadS rfl rfl hx8
 refine rg U [1,2,7,8,15,16,17] fun K J=>?_
 simp only[go_sem,qd,qf,qb,qe,zQ,yK,f12,f13];apply J
 obtain⟨y14,hy14,h⟩:=bind_some h;have f15:=E34.idxS hy14;have f16:=E34.loadS rfl rfl hy14
 refine rg U [1,2,8,9,15,16,17] fun K J=>?_
 simp only[go_sem,qd,qf,qb,qe,zQ,yK,f15,f16];apply J
 refine rc [1,2,15,16,17,30] fun K J=>?_
 obtain⟨r17,hr17,h⟩:=bind_some h;refine O 3 ?_;refine clN rfl rfl rfl (ev_value_Same_1 y8 y14 r17 hr17 _) ?_;refine O 1 ?_;refine nkN J ?_;refine zU (b:=(!r17)) rfl (fun hc18=>?_) (fun hc18=>?_)
 · rw[if_pos hc18] at h;refine D [6] ?_;cases h;exact rtA
 rw[Zf hc18] at h;apply zj;apply hZ11
 refine rgE U [1,2,15,16,17] fun K J=>?_
 simp only[go_sem,qd,qb,hw8];apply J
 exact⟨_,_,_,qy q8.length,⟨p8++[y8],q8,x6+1,rfl,rfl,rfl,hE'8,hi'8,h⟩,(.t [] false)⟩
end
section
set_option maxRecDepth 4000
set_option maxHeartbeats 1000000
open AM
def zy.l8 (xl:zk→zk→Option Bool)(a1:List zk):List zk→Int→Option Bool
 |[],x6=>some true
 |y8::q8,x6=>(Yz a1 x6).bind fun y14=>(xl y8 y14).bind fun r17=>(if (!r17)=true then some false else ((zy.l8 xl a1 q8) (x6+1)))
def zy.body (xl:zk→zk→Option Bool)(yP:zr→zr→Option Bool)(zF:(List zr)→(List zr)→Option Bool)(zM:(List zk)→(List zk)→Option Bool)(a0:List zk)(a1:List zk):Option Bool:=
 (if (qa a0:Int)=(qa a1:Int) then (zy.l8 xl a1 a0 0) else some false)
theorem zy.step (xl:zk→zk→Option Bool)(yP:zr→zr→Option Bool)(zF:(List zr)→(List zr)→Option Bool)(zM:(List zk)→(List zk)→Option Bool)(Yq:∀ (a0:zk) (a1:zk) (r:Bool),xl a0 a1=some r→ACalls qg 80 [.agg (zd a0),.agg (zd a1)] [] (fun r' _=>r'=.bool r))(ZK:∀ (a0:zr) (a1:zr) (r:Bool),yP a0 a1=some r→ACalls qg 122 [.agg (zQ a0),.agg (zQ a1)] [] (fun r' _=>r'=.bool r))(yW:∀ (a0:List zr) (a1:List zr) (r:Bool),zF a0 a1=some r→ACalls qg 121 [.ds true (qc zx a0) (qa a0) false,.ds true (qc zx a1) (qa a1) false,.fn (.func 122) [] []] [] (fun r' _=>r'=.bool r))(xg:∀ (a0:List zk) (a1:List zk) (r:Bool),zM a0 a1=some r→ACalls qg 123 [.ds true (qc yp a0) (qa a0) false,.ds true (qc yp a1) (qa a1) false,.fn (.func 80) [] []] [] (fun r' _=>r'=.bool r))(a0:List zk)(a1:List zk)(r:Bool)(h:zy.body xl yP zF zM a0 a1=some r):ACalls qg 123 [.ds true (qc yp a0) (qa a0) false,.ds true (qc yp a1) (qa a1) false,.fn (.func 80) [] []] [] (fun r' _=>r'=.bool r):=by
 have ev_value_Same:=fun a0 a1 r h σ=>(Yq a0 a1 r h).c σ
 have ev_value_Same_1:=fun a0 a1 r h σ=>(ZK a0 a1 r h).c σ
 have ev_slices_EqualFunc_Entry_value_Same_1:=fun a0 a1 r h σ=>(yW a0 a1 r h).c σ
 have ev_slices_EqualFunc_Tree_value_Same:=fun a0 a1 r h σ=>(xg a0 a1 r h).c σ
 refine zt (rs:=[.tmp 6]) U Tryz.func123 rfl Tryz.ntmps123 rfl Tryz.call123 (by simp) ?_;refine zA [(0,.ds true (qc yp a0) (qa a0) false),(1,.ds true (qc yp a1) (qa a1) false),(2,.fn (.func 80) [] [])] ⟨rfl,rfl,rfl,trivial⟩ ?_;unfold zy.body at h;refine D [0,1,2] ?_
 refine za fun Z1 hZ1=>?_
 refine D [0,1,2,14] ?_;refine yn rfl (fun hc2=>?_) (fun hc2=>?_)
 · rw[if_neg hc2] at h;have t3:=eq_false hc2
   refine rg U [6] fun K J=>?_
   simp only[go_sem,qd,qb,reduceCtorEq,t3];apply J
   cases h;exact rtA
 rw[if_pos hc2] at h;have t4:=eq_true hc2;apply zj;apply hZ1
 refine za fun Z5 hZ5=>?_
 refine rg U [1,2,15,16,17] fun K J=>?_
 simp only[go_sem,qd,qb,reduceCtorEq,t4];apply J
 apply zn
 refine xn 15 fun hb8=>?_
 replace hb8:qa a0≤9223372036854775807:=hb8.1;refine yh (fun m L τ=>∃ (p8 q8:List zk) (x6:Int),m=qa q8∧L=[(1,.ds true (qc yp a1) (qa a1) false),(2,.fn (.func 80) [] []),(15,.ds true (qc yp a0) (qa a0) false),(16,.int .i64 (qa a0:Int)),(17,.int .i64 x6)]∧τ=([]:ze)∧a0=p8++q8∧x6=(qa p8:Int)∧zy.l8 xl a1 q8 x6=some r) _ ⟨[],a0,0,rfl,rfl,rfl,rfl,rfl,h⟩ .s ?_;rintro m L τ ⟨p8,q8,x6,rfl,rfl,rfl,hE8,hi8,h⟩
 rcases q8 with _|⟨y8,q8⟩
 · have hz8:=xC hE8 hi8;simp only[zy.l8] at h
   refine rg U [1,2,15,16,17,18] fun K J=>?_
   simp only[go_sem,qd,qb,hz8];apply J
   refine za fun Z9 hZ9=>?_
   refine zG rfl ?_;apply yf;apply hZ5;refine D [6] ?_;cases h;exact rtA
 obtain⟨hz8,hw8,hx8,hE'8,hi'8⟩:=yU hE8 hi8 hb8;simp only[zy.l8] at h
 refine rg U [1,2,15,16,17,18] fun K J=>?_
 simp only[go_sem,qd,qb,hz8];apply J
 refine za fun Z10 hZ10=>?_
 refine zK rfl ?_;apply zj;apply hZ10
 refine za fun Z11 hZ11=>?_
 apply zn;have f12:=E38.idxS hx8;have f13:=E38.loadS rfl rfl hx8
 refine rg U [1,2,7,8,15,16,17] fun K J=>?_
 simp only[go_sem,qd,qf,qb,qe,zd,yu,f12,f13];apply J
 obtain⟨y14,hy14,h⟩:=bind_some h;have f15:=E38.idxS hy14;have f16:=E38.loadS rfl rfl hy14
 refine rg U [1,2,8,9,15,16,17] fun K J=>?_
 simp only[go_sem,qd,qf,qb,qe,zd,yu,f15,f16];apply J
 refine rc [1,2,15,16,17,30] fun K J=>?_
 obtain⟨r17,hr17,h⟩:=bind_some h;refine O 3 ?_;refine clN rfl rfl rfl (ev_value_Same y8 y14 r17 hr17 _) ?_;refine O 1 ?_;refine nkN J ?_;refine zU (b:=(!r17)) rfl (fun hc18=>?_) (fun hc18=>?_)
 · rw[if_pos hc18] at h;refine D [6] ?_;cases h;exact rtA
 rw[Zf hc18] at h;apply zj;apply hZ11
 refine rgE U [1,2,15,16,17] fun K J=>?_
 simp only[go_sem,qd,qb,hw8];apply J
 exact⟨_,_,_,qy q8.length,⟨p8++[y8],q8,x6+1,rfl,rfl,rfl,hE'8,hi'8,h⟩,(.t [] false)⟩
mutual
def wg : Nat→zk→zk→Option Bool
 |0,_,_=>none
 |k+1,a0,a1=>wg.body (wg k) (wC k) (zw k) (zy k) a0 a1
def wC : Nat→zr→zr→Option Bool
 |0,_,_=>none
 |k+1,a0,a1=>wC.body (wg k) (wC k) (zw k) (zy k) a0 a1
def zw : Nat→(List zr)→(List zr)→Option Bool
 |0,_,_=>none
 |k+1,a0,a1=>zw.body (wg k) (wC k) (zw k) (zy k) a0 a1
def zy : Nat→(List zk)→(List zk)→Option Bool
 |0,_,_=>none
 |k+1,a0,a1=>zy.body (wg k) (wC k) (zw k) (zy k) a0 a1
end
theorem wg.all (k:Nat):(∀ (a0:zk) (a1:zk) (r:Bool),wg k a0 a1=some r→ACalls qg 80 [.agg (zd a0),.agg (zd a1)] [] (fun r' _=>r'=.bool r))∧(∀ (a0:zr) (a1:zr) (r:Bool),wC k a0 a1=some r→ACalls qg 122 [.agg (zQ a0),.agg (zQ a1)] [] (fun r' _=>r'=.bool r))∧(∀ (a0:List zr) (a1:List zr) (r:Bool),zw k a0 a1=some r→ACalls qg 121 [.ds true (qc zx a0) (qa a0) false,.ds true (qc zx a1) (qa a1) false,.fn (.func 122) [] []] [] (fun r' _=>r'=.bool r))∧(∀ (a0:List zk) (a1:List zk) (r:Bool),zy k a0 a1=some r→ACalls qg 123 [.ds true (qc yp a0) (qa a0) false,.ds true (qc yp a1) (qa a1) false,.fn (.func 80) [] []] [] (fun r' _=>r'=.bool r)):=by
 induction k with
 |zero=>exact⟨(fun a0 a1 r h=>by simp only[wg] at h; cases h),(fun a0 a1 r h=>by simp only[wC] at h; cases h),(fun a0 a1 r h=>by simp only[zw] at h; cases h),(fun a0 a1 r h=>by simp only[zy] at h; cases h)⟩
 |succ k ih=>exact⟨(fun a0 a1 r h=>wg.step _ _ _ _ ih.1 ih.2.1 ih.2.2.1 ih.2.2.2 a0 a1 r (by simpa only [wg] using h)),(fun a0 a1 r h=>wC.step _ _ _ _ ih.1 ih.2.1 ih.2.2.1 ih.2.2.2 a0 a1 r (by simpa only [wC] using h)),(fun a0 a1 r h=>zw.step _ _ _ _ ih.1 ih.2.1 ih.2.2.1 ih.2.2.2 a0 a1 r (by simpa only [zw] using h)),(fun a0 a1 r h=>zy.step _ _ _ _ ih.1 ih.2.1 ih.2.2.1 ih.2.2.2 a0 a1 r (by simpa only [zy] using h))⟩
theorem wg.ev (k:Nat)(a0:zk)(a1:zk)(r:Bool)(h:wg k a0 a1=some r)(σ:ze):ACalls qg 80 [.agg (zd a0),.agg (zd a1)] σ (fun r' σ'=>r'=.bool r∧σ'=σ):=
 ((wg.all k).1 a0 a1 r h).c σ
def xy.j10 (x5:Int)(rec7:Int→Option zk):Option zk:=
 (rec7 (x5+1))
def xy.l7 (a0:zE)(a3:List UInt8)(a4:zk)(r1:Zg×Bool):List GRow→Int→Option zk
 |[],x5=>some (⟨3,0,[],([]:List zr),([]:List yc)⟩:zk)
 |y7::q7,x5=>(if y7.fMethod=a3 then (wI a0 r1.1.fIn y7.fIn).bind fun r17=>(wI a0 r1.1.fOut y7.fOut).bind fun r18=>(if (r17.2&&r18.2)=true then (wg xo r17.1 a4).bind fun r19=>some r19 else some false).bind fun c19=>(if c19=true then some r18.1 else (xy.j10 x5 (xy.l7 a0 a3 a4 r1 q7))) else (xy.j10 x5 (xy.l7 a0 a3 a4 r1 q7)))
def xy (a0:zE)(a1:zE)(a2:List GRow)(a3:List UInt8)(a4:zk):Option zk:=
 bnd (wi a0 a3) fun r1=>(if (!r1.2)=true then some (⟨0,0,[],([]:List zr),([]:List yc)⟩:zk) else (xy.l7 a0 a3 a4 r1 a2 0))
theorem xy.ok {a0 a1 a2 a3 a4 r}(h:xy a0 a1 a2 a3 a4=some r):ACalls qg 42 [.agg (zb a0),.agg (zb a1),.ds true (qc yx a2) (qa a2) false,.str a3,.agg (zd a4)] [] (fun r' _=>r'=.agg (zd r)):=by
 refine zt (rs:=[.cell 10 37]) U Tryz.func42 rfl Tryz.ntmps42 rfl Tryz.call42 (by simp) ?_;refine zA [(0,.agg (zb a0)),(1,.agg (zb a1)),(2,.ds true (qc yx a2) (qa a2) false),(3,.str a3),(4,.agg (zd a4))] ⟨rfl,rfl,rfl,rfl,rfl,trivial⟩ ?_;unfold xy at h
 refine rg U [2,3,5,9,10] fun K J=>?_
 simp only[go_sem,qd,qb,qe,reduceCtorEq,zd,zb];apply J
 refine rc [2,3,5,9,10,11,12] fun K J=>?_
 obtain⟨r1,hr1,h⟩:=ye h;refine O 2 ?_;refine clN rfl rfl rfl ((wi.ok hr1).c _) ?_;refine zB U 6 ?_;simp only[go_sem,qd,qf,qb,qe,zq];refine nkN J ?_
 refine za fun Z2 hZ2=>?_
 refine D [2,3,5,9,10,11,26] ?_;refine zU (b:=(!r1.2)) rfl (fun hc3=>?_) (fun hc3=>?_)
 · rw[if_pos hc3] at h;refine D [10] ?_;cases h;exact rtA
 rw[Zf hc3] at h;apply zj;apply hZ2
 refine za fun Z4 hZ4=>?_
 refine D [3,5,9,10,11,28,29,30] ?_;apply zn
 refine xn 28 fun hb7=>?_
 replace hb7:qa a2≤9223372036854775807:=hb7.1;refine yh (fun m L τ=>∃ (p7 q7:List GRow) (x5:Int),m=qa q7∧L=[(3,.str a3),(5,.op 0 0 0),(9,.op 1 0 0),(10,.op 2 0 0),(11,.op 3 0 0),(28,.ds true (qc yx a2) (qa a2) false),(29,.int .i64 (qa a2:Int)),(30,.int .i64 x5)]∧τ=([.cells 0 (zb a0),.cells 0 (zd a4),.cells 0 [.int .i64 0,.int .i64 0,.str [],.ds true [] 0 true,.ds true [] 0 true],.cells 0 [.str r1.1.fName,.str r1.1.fIn,.str r1.1.fOut]]:ze)∧a2=p7++q7∧x5=(qa p7:Int)∧xy.l7 a0 a3 a4 r1 q7 x5=some r) _ ⟨[],a2,0,rfl,rfl,rfl,rfl,rfl,h⟩ (.t [0,2,3,4] false) ?_;rintro m L τ ⟨p7,q7,x5,rfl,rfl,rfl,hE7,hi7,h⟩
 rcases q7 with _|⟨y7,q7⟩
 · have hz7:=xC hE7 hi7;simp only[xy.l7] at h
   refine rg U [3,5,9,10,11,28,29,30,31] fun K J=>?_
   simp only[go_sem,qd,qb,hz7];apply J
   refine za fun Z8 hZ8=>?_
   refine zG rfl ?_;apply yf;apply hZ4;refine D [10] ?_;cases h;exact rtA
 obtain⟨hz7,hw7,hx7,hE'7,hi'7⟩:=yU hE7 hi7 hb7;simp only[xy.l7] at h
 refine rg U [3,5,9,10,11,28,29,30,31] fun K J=>?_
 simp only[go_sem,qd,qb,hz7];apply J
 refine za fun Z9 hZ9=>?_
 refine zK rfl ?_;apply zj;apply hZ9;refine xL (fun L τ=>L=[(3,.str a3),(5,.op 0 0 0),(9,.op 1 0 0),(10,.op 2 0 0),(11,.op 3 0 0),(28,.ds true (qc yx a2) (qa a2) false),(29,.int .i64 (qa a2:Int)),(30,.int .i64 x5)]∧τ=([.cells 0 (zb a0),.cells 0 (zd a4),.cells 0 [.int .i64 0,.int .i64 0,.str [],.ds true [] 0 true,.ds true [] 0 true],.cells 0 [.str r1.1.fName,.str r1.1.fIn,.str r1.1.fOut]]:ze)∧xy.j10 x5 (xy.l7 a0 a3 a4 r1 q7)=some r) ?_ ?_
 · apply zn;have f11:=E82.idxS hx7;have f12:=E82.loadS rfl rfl hx7
   refine rg U [3,5,9,10,11,14,28,29,30] fun K J=>?_
   simp only[go_sem,qd,qf,qb,qe,yx,f11,f12];apply J
   refine za fun Z13 hZ13=>?_
   refine D [3,5,9,10,11,14,28,29,30,37] ?_;refine yn rfl (fun hc14=>?_) (fun hc14=>?_)
   · rw[if_neg hc14] at h;have t15:=eq_false hc14;apply yf;exact⟨_,_,⟨rfl,rfl,h⟩,(.t [0,1,2,3] false)⟩
   rw[if_pos hc14] at h;have t16:=eq_true hc14;apply zj;apply hZ13
   refine rc [3,5,9,10,11,14,15,16,28,29,30] fun K J=>?_
   obtain⟨r17,hr17,h⟩:=bind_some h;refine zB U 5 ?_;simp only[go_sem,qd,qf,qb,qe,zd,t16];refine clN rfl rfl rfl ((wI.ok hr17).c _) ?_;refine zB U 6 ?_;simp only[go_sem,qd,qf,qb,qe,zd];refine nkN J ?_
   refine rc [3,5,9,10,11,15,16,17,18,28,29,30] fun K J=>?_
   obtain⟨r18,hr18,h⟩:=bind_some h;refine zB U 5 ?_;simp only[go_sem,qd,qf,qb,qe,zd];refine clN rfl rfl rfl ((wI.ok hr18).c _) ?_;refine zB U 6 ?_;simp only[go_sem,qd,qf,qb,qe,zd];refine nkN J ?_
   refine rc [3,5,9,10,11,17,28,29,30,64] fun K J=>?_
   refine O 2 ?_;refine zH 2 (fun L τ=>L=[(3,.str a3),(5,.op 0 0 0),(9,.op 1 0 0),(10,.op 2 0 0),(11,.op 3 0 0),(15,.op 5 0 0),(17,.op 6 0 0),(28,.ds true (qc yx a2) (qa a2) false),(29,.int .i64 (qa a2:Int)),(30,.int .i64 x5),(59,.bool (r17.2&&r18.2))]∧τ=([.cells 0 (zb a0),.cells 0 (zd a4),.cells 0 [.int .i64 0,.int .i64 0,.str [],.ds true [] 0 true,.ds true [] 0 true],.cells 0 [.str r1.1.fName,.str r1.1.fIn,.str r1.1.fOut],.cells 0 (yx y7),.cells 0 (zd r17.1),.cells 0 (zd r18.1)]:ze)) ?_ ?_
   · refine yB (b:=r17.2) 57 rfl (fun hg57=>?_) (fun hg57=>?_)
     · refine O 2 ?_;refine zi ⟨rfl,_,_,⟨rfl,rfl⟩,.b hg57⟩
     refine O 2 ?_;refine zi ⟨rfl,_,_,⟨rfl,rfl⟩,.b hg57⟩
   rintro _ _ ⟨rfl,rfl⟩;refine O 1 ?_;obtain⟨c19,hc19,h⟩:=bind_some h;refine zH 4 (fun L τ=>L=[(3,.str a3),(5,.op 0 0 0),(9,.op 1 0 0),(10,.op 2 0 0),(11,.op 3 0 0),(17,.op 6 0 0),(28,.ds true (qc yx a2) (qa a2) false),(29,.int .i64 (qa a2:Int)),(30,.int .i64 x5),(64,.bool c19)]∧τ=([.cells 0 (zb a0),.cells 0 (zd a4),.cells 0 [.int .i64 0,.int .i64 0,.str [],.ds true [] 0 true,.ds true [] 0 true],.cells 0 [.str r1.1.fName,.str r1.1.fIn,.str r1.1.fOut],.cells 0 (yx y7),.cells 0 (zd r17.1),.cells 0 (zd r18.1)]:ze)) ?_ ?_
   · refine yB (b:=(r17.2&&r18.2)) 60 rfl (fun hg60=>?_) (fun hg60=>?_)
     · rw[if_pos hg60] at hc19;obtain⟨r20,hr20,hc19⟩:=bind_some hc19;refine O 2 ?_;refine clN rfl rfl rfl (wg.ev xo r17.1 a4 r20 hr20 _) ?_;refine O 1 ?_;cases hc19;refine zi ⟨rfl,_,_,⟨rfl,rfl⟩,.b hg60⟩
     rw[Zf hg60] at hc19;refine O 4 ?_;cases hc19;refine zi ⟨rfl,_,_,⟨rfl,rfl⟩,.b hg60⟩
   rintro _ _ ⟨rfl,rfl⟩;refine nkN J ?_;refine zU (b:=c19) rfl (fun hc21=>?_) (fun hc21=>?_)
   · rw[if_pos hc21] at h;refine D [10] ?_;cases h;exact rtA
   rw[Zf hc21] at h;apply zj;exact⟨_,_,⟨rfl,rfl,h⟩,(.t [0,1,2,3] false)⟩
 rintro _ _ ⟨rfl,rfl,h⟩;unfold xy.j10 at h
 refine rgE U [3,5,9,10,11,28,29,30] fun K J=>?_
 simp only[go_sem,qd,qb,hw7];apply J
 exact⟨_,_,_,qy q7.length,⟨p7++[y7],q7,x5+1,rfl,rfl,rfl,hE'7,hi'7,h⟩,.s⟩
def wB.j19 (a0:Zn)(a1:Int)(a2:Int)(w9:vaZ xB xF)(w12:vaZ Int Int)(x18:Bool):Option (Int×Zn):=
 (if x18=true then none else some (0,(⟨a0.fsize,a0.forder++[(⟨a1,a2⟩:xB)],a0.vorder+1,w9,w12⟩:Zn)))
def wB (a0:Zn)(a1:Int)(a2:Int)(a3:xF):Option (Int×Zn):=
 bnd (wU a0 a1 a2) fun r2=>(if r2.2=1 then (X7 (qa a0.forder+1) 16).bind fun _u6=>(vaZ.sto (vaZ.ent (⟨0,0,0,0,0,[],0,[]⟩:xF) a0.freplies (⟨a1,a2⟩:xB)) (vaZ.stamp a0.freplies (⟨a1,a2⟩:xB)) a3).bind fun w9=>(vaZ.sto (vaZ.ent 0 a0.flast a1) (vaZ.stamp a0.flast a1) a2).bind fun w12=>(Yz (a0.forder++[(⟨a1,a2⟩:xB)]) 0).bind fun y15=>(if a0.fsize<(qa (a0.forder++[(⟨a1,a2⟩:xB)]):Int) then (wB.j19 a0 a1 a2 w9 w12 (!(decide (y15.ffrom=a1)&&decide (y15.fid=a2)))) else (wB.j19 a0 a1 a2 w9 w12 false)) else some (20,a0))
theorem wB.ok {a0 a1 a2 a3 r}(h:wB a0 a1 a2 a3=some r):ACalls qg 134 [.op 0 0 0,.int .i64 a1,.int .i64 a2,.agg (zv a3)] [.cells 0 [.int .i64 a0.fsize,.os true 2 1 (a0.vorder) 0 (qa a0.forder) false,.mp 2,.mp 3],.cells (a0.vorder) (qc zp a0.forder),.map (yN zD zT a0.freplies.l) (some (a0.freplies.bs,a0.freplies.ck)),.map (yN (AV.int .i64) (AV.int .i64) a0.flast.l) (some (a0.flast.bs,a0.flast.ck))] (fun r' σ'=>r'=.int .i64 r.1∧σ'=[.cells 0 [.int .i64 r.2.fsize,.os true 2 1 (r.2.vorder) 0 (qa r.2.forder) false,.mp 2,.mp 3],.cells (r.2.vorder) (qc zp r.2.forder),.map (yN zD zT r.2.freplies.l) (some (r.2.freplies.bs,r.2.freplies.ck)),.map (yN (AV.int .i64) (AV.int .i64) r.2.flast.l) (some (r.2.flast.bs,r.2.flast.ck))]):=by
 refine ZO [0,1,2,3] (rs:=[.tmp 8]) U Tryz.func134 rfl Tryz.ntmps134 rfl Tryz.call134 (by simp) rfl ?_;refine zA [(0,.op 0 0 0),(1,.int .i64 a1),(2,.int .i64 a2),(3,.agg (zv a3))] ⟨rfl,rfl,rfl,rfl,trivial⟩ ?_;unfold wB at h
 refine rg U [0,1,2,7] fun K J=>?_
 simp only[go_sem,qd,qb,qe,reduceCtorEq,zv];apply J
 refine za fun Z1 hZ1=>?_
 refine rc [0,1,2,7,10] fun K J=>?_
 obtain⟨r2,hr2,h⟩:=ye h;refine O 3 ?_;refine clN rfl rfl rfl (@id (ACalls qg 132 [.op 0 0 0,.int .i64 a1,.int .i64 a2] [.cells 0 [.int .i64 a0.fsize,.os true 2 1 (a0.vorder) 0 (qa a0.forder) false,.mp 2,.mp 3],.cells (a0.vorder) (qc zp a0.forder),.map (yN zD zT a0.freplies.l) (some (a0.freplies.bs,a0.freplies.ck)),.map (yN (AV.int .i64) (AV.int .i64) a0.flast.l) (some (a0.flast.bs,a0.flast.ck)),.cells 0 (zv a3)] (fun r' σ'=>r'=.tup [.agg (zv r2.1),.int .i64 r2.2]∧σ'=[.cells 0 [.int .i64 a0.fsize,.os true 2 1 (a0.vorder) 0 (qa a0.forder) false,.mp 2,.mp 3],.cells (a0.vorder) (qc zp a0.forder),.map (yN zD zT a0.freplies.l) (some (a0.freplies.bs,a0.freplies.ck)),.map (yN (AV.int .i64) (AV.int .i64) a0.flast.l) (some (a0.flast.bs,a0.flast.ck)),.cells 0 (zv a3)])) ((wU.ok hr2).ix [0,1,2,3])) ?_;refine zB U 6 ?_;simp only[go_sem,qd,qf,qb,qe,reduceCtorEq,zv];refine nkN J ?_;refine D [0,1,2,7,21] ?_;refine yn rfl (fun hc3=>?_) (fun hc3=>?_)
 · rw[if_neg hc3] at h;have t4:=eq_false hc3
   refine rg U [8] fun K J=>?_
   simp only[go_sem,qd,qb,reduceCtorEq,t4];apply J
   apply yk;cases h;simp only[ZJ,yQ,yZ,xQ,exists_eq_left',go_sem,qe];refine⟨by decide,by simp,?_,?_⟩
   · first|rfl|(simp only[go_sem,qd,qf,qb,qe,qj,qm,reduceIte,reduceCtorEq,push_cast,if_true,qz,qo,qq,qn,qF,qs,qK,qI,qv,qu,qt,zz,zp]<;>rfl)
   first|rfl|(simp only[go_sem,qb,qe,reduceCtorEq,push_cast,if_true,qo,qq,qn,zz]<;>rfl)
 rw[if_pos hc3] at h;have t5:=eq_true hc3;apply zj;apply hZ1
 refine rg U [0,1,2,7,11] fun K J=>?_
 simp only[go_sem,qd,qf,qb,qe,reduceCtorEq,t5];apply J
 obtain⟨_u6,hu6,h⟩:=bind_some h;have gu6:=xf hu6;have f7:=(zV E207.len a0.forder)
 refine rd [0,1,2,7,11] fun K J=>?_
 refine DW.start (T:=tab) [.any,.any,.any,.any,.own 1 [],.at [],.eff,.eff,.any,.any,.eff] [(1,[])] ?_;refine DW.runN U 8 ?_;simp only[go_sem,qd,qf,qb,qe,qj,reduceCtorEq,zS,yE,qZ,qQ,true_and,ue,yM,yw,yR,gu6,f7,xw,uc,q9,AV.one,qM,qD,ql,qr,qo,qH];refine DW.runN U 3 ?_;simp only[go_sem,qd,qf,qb,qe,reduceCtorEq,ql,qr,qo];refine DW.fin U (by decide +kernel) rfl ?_;simp only[zC,upd,qb,reduceIte,yX,xK];apply J
 refine yT (L:=[(0,.op 0 0 0),(1,.int .i64 a1),(2,.int .i64 a2),(7,.op 4 0 0),(11,.op 6 0 0)]) (τ:=[.cells 0 [.int .i64 a0.fsize,.os true 2 1 (a0.vorder+1) 0 (qa (a0.forder++[(⟨a1,a2⟩:xB)])) false,.mp 2,.mp 3],.cells (a0.vorder+1) (qc zp (a0.forder++[(⟨a1,a2⟩:xB)])),.map (yN zD zT a0.freplies.l) (some (a0.freplies.bs,a0.freplies.ck)),.map (yN (AV.int .i64) (AV.int .i64) a0.flast.l) (some (a0.flast.bs,a0.flast.ck)),.cells 0 (zv a3),.cells 0 (zv r2.1),.cells 0 [.int .i64 a1,.int .i64 a2],.cells 0 [.int .i64 a1,.int .i64 a2]]) .s ?_
 have f8:=fun (o0:Yy) (o1:Yy) (x:ze)=>entry_B (T:=tab) (t:=205) (ek:=zD) (ev:=zT) (z:=(⟨0,0,0,0,0,[],0,[]⟩:xF)) KA268 rfl rfl rfl rfl a0.freplies (⟨a1,a2⟩:xB) (o0::o1::.map (yN zD zT a0.freplies.l) (some (a0.freplies.bs,a0.freplies.ck))::x) 2 rfl rfl
 simp only[vcN,zD,zp,zT,zv] at f8;obtain⟨w9,hw9,h⟩:=bind_some h
 have f10:=fun (o0:Yy) (o1:Yy) (x:ze)=>store_B (ek:=zD) (ev:=zT) hw9 (o0::o1::.map (yN zD zT (vaZ.ent (⟨0,0,0,0,0,[],0,[]⟩:xF) a0.freplies (⟨a1,a2⟩:xB)).l) (some ((vaZ.ent (⟨0,0,0,0,0,[],0,[]⟩:xF) a0.freplies (⟨a1,a2⟩:xB)).bs,(vaZ.ent (⟨0,0,0,0,0,[],0,[]⟩:xF) a0.freplies (⟨a1,a2⟩:xB)).ck))::x) 2 rfl rfl .i64
 simp only[vcN,zT,zv] at f10
 have f11:=fun (o0:Yy) (o1:Yy) (o2:Yy) (x:ze)=>entry_B (T:=tab) (t:=206) (ek:=(AV.int .i64)) (ev:=(AV.int .i64)) (z:=0) (vdL.int rfl rfl rfl rfl) rfl rfl rfl rfl a0.flast a1 (o0::o1::o2::.map (yN (AV.int .i64) (AV.int .i64) a0.flast.l) (some (a0.flast.bs,a0.flast.ck))::x) 3 rfl rfl
 simp only[vcN] at f11;obtain⟨w12,hw12,h⟩:=bind_some h
 have f13:=fun (o0:Yy) (o1:Yy) (o2:Yy) (x:ze)=>store_B (ek:=(AV.int .i64)) (ev:=(AV.int .i64)) hw12 (o0::o1::o2::.map (yN (AV.int .i64) (AV.int .i64) (vaZ.ent 0 a0.flast a1).l) (some ((vaZ.ent 0 a0.flast a1).bs,(vaZ.ent 0 a0.flast a1).ck))::x) 3 rfl rfl .i64
 simp only[vcN] at f13
 refine rd [0,11] fun K J=>?_
 refine DW.start (T:=tab) [.any,.any,.any,.at [],.at [],.any,.any,.any,.at [],.any,.own 1 [2],.any,.eff,.any,.eff,.eff,.any,.eff] [(1,[2])] ?_;refine DW.runN U 8 ?_;simp only[go_sem,qd,qf,qb,qe,reduceCtorEq];refine DW.runN U 8 ?_;simp only[go_sem,qd,qf,qb,qe,reduceCtorEq,f8,f10,f11];refine DW.runN U 2 ?_;simp only[go_sem,qd,qf,qb,qe,reduceCtorEq,f13];refine DW.fin U (by decide +kernel) rfl ?_;simp only[zC,upd,qb,reduceIte,yX,xK];apply J
 refine za fun Z14 hZ14=>?_
 obtain⟨y15,hy15,h⟩:=bind_some h;have f16:=E207.idxO hy15;have f17:=E207.rdO hy15
 refine rg U [0,11,12] fun K J=>?_
 simp only[go_sem,qd,qf,qb,qe,reduceCtorEq,zp,f16,f17];apply J
 refine xL (fun L τ=>∃ (x18:Bool),L=[(0,.op 0 0 0),(12,.op 4 0 0),(71,.bool x18)]∧τ=([.cells 0 [.int .i64 a0.fsize,.os true 2 1 (a0.vorder+1) 0 (qa (a0.forder++[(⟨a1,a2⟩:xB)])) false,.mp 2,.mp 3],.cells (a0.vorder+1) (qc zp (a0.forder++[(⟨a1,a2⟩:xB)])),.map (yN zD zT w9.l) (some (w9.bs,w9.ck)),.map (yN (AV.int .i64) (AV.int .i64) w12.l) (some (w12.bs,w12.ck)),.cells 0 [.int .i64 y15.ffrom,.int .i64 y15.fid]]:ze)∧wB.j19 a0 a1 a2 w9 w12 x18=some r) ?_ ?_
 · refine rdE [0,12,71] fun K J=>?_
   refine DW.start (T:=tab) [.any,.any,.any,.at [],.at [],.any,.any,.any,.at [],.any,.any,.at [],.at [],.any,.any] [] ?_;refine DW.runN U 8 ?_;simp only[go_sem,qd,qb,qe,reduceCtorEq];refine DW.runN U 3 ?_;simp only[go_sem,qd,qb,qe,reduceCtorEq]
   refine DW.if 67 rfl (fun hg67=>?_) (fun hg67=>?_)
   · rw[if_pos hg67] at h;have t22:=eq_true hg67;refine DW.runN U 4 ?_;simp only[go_sem,qd,qf,qb,qe,reduceCtorEq,t22,evEqA,vat,ceq];refine DW.fin U (by decide +kernel) rfl ?_;simp only[zC,upd,qb,reduceIte,yX,xK];apply J
     exact⟨_,_,⟨!(decide (y15.ffrom=a1)&&decide (y15.fid=a2)),rfl,rfl,h⟩,(.t [0,1,2,3,8] false)⟩
   rw[if_neg hg67] at h;have t23:=eq_false hg67;refine DW.runN U 4 ?_;simp only[go_sem,qd,qb,reduceCtorEq,t23];refine DW.fin U (by decide +kernel) rfl ?_;simp only[zC,upd,qb,reduceIte,yX,xK];apply J
   exact⟨_,_,⟨false,rfl,rfl,h⟩,(.t [0,1,2,3,8] false)⟩
 rintro _ _ ⟨x18,rfl,rfl,h⟩;unfold wB.j19 at h;refine zU (b:=x18) rfl (fun hc20=>?_) (fun hc20=>?_)
 · rw[if_pos hc20] at h
   have f21:=fun (o0:Yy) (o1:Yy) (x:ze)=>delete_B (T:=tab) (t:=205) (ek:=zD) (ev:=zT) KA268 rfl rfl w9 y15 (o0::o1::.map (yN zD zT w9.l) (some (w9.bs,w9.ck))::x) 2 rfl rfl rfl
   simp only[vcN,zD,zp] at f21
   refine rd [0] fun K J=>?_
   refine DW.start (T:=tab) [.any,.any,.any,.at [],.at [],.eff] [] ?_;refine DW.runN U 6 ?_;simp only[go_sem,qd,qf,qb,qe,reduceCtorEq,f21];refine DW.fin U (by decide +kernel) rfl ?_;simp only[zC,upd,qb,reduceIte,yX,xK];apply J
   cases h
 rw[Zf hc20] at h;apply zj;apply hZ14;refine D [8] ?_;apply yk;cases h;simp only[ZJ,yQ,yZ,xQ,exists_eq_left',go_sem,qe];refine⟨by decide,by simp,?_,?_⟩
 · first|rfl|(simp only[go_sem,qd,qf,qb,qe,qj,qm,reduceIte,reduceCtorEq,push_cast,if_true,qz,qo,qq,qn,qF,qs,qK,qI,qv,qu,qt,zz,zp]<;>rfl)
 first|rfl|(simp only[go_sem,qb,qe,reduceCtorEq,push_cast,if_true,qo,qq,qn,zz]<;>rfl)
def xh.j24 (a0:xI)(a1:xF)(r10:Y4×Int)(x22:Int)(x23:List UInt8):Option (xF×xI):=
 (wB a0.fcache a1.fFrom a1.fID (⟨4,a0.fself,a1.fFrom,a1.fID,a1.fVersion,a1.fMethod,x22,x23⟩:xF)).bind fun r26=>some ((⟨4,a0.fself,a1.fFrom,a1.fID,a1.fVersion,a1.fMethod,x22,x23⟩:xF),(⟨a0.fself,a0.fnumbers,a0.fschemas,a0.fnewest,a0.frows,r26.2,a0.feffects++[(⟨a1.fFrom,a1.fID,a1.fMethod,r10.1.fin⟩:xv)],a0.veffects+1⟩:xI))
def xh (a0:xI)(a1:xF):Option (xF×xI):=
 bnd (wU a0.fcache a1.fFrom a1.fID) fun r1=>(if r1.2=2 then some (r1.1,a0) else (if r1.2=3 then some ((⟨4,a0.fself,a1.fFrom,a1.fID,a1.fVersion,a1.fMethod,20,[]⟩:xF),a0) else (wX a0 a1).bind fun r10=>(if r10.2=0 then (Yz a0.fschemas (IntKind.i64.wrap ((qa a0.fschemas:Int)-1))).bind fun y15=>(X7 (qa a0.feffects+1) 112).bind fun _u18=>(xy y15 a0.fnewest a0.frows a1.fMethod r10.1.fin).bind fun r20=>(xE y15 r10.1.fschema r10.1.fown.fOut r10.1.ftheirs.fOut).bind fun r21=>(ZB r21.1 r20).bind fun r27=>(if r27.2=0 then (ZW r27.1).bind fun r30=>(xh.j24 a0 a1 r10 r30.2 r30.1) else (xh.j24 a0 a1 r10 r27.2 ([]:List UInt8))) else some ((⟨4,a0.fself,a1.fFrom,a1.fID,a1.fVersion,a1.fMethod,r10.2,[]⟩:xF),a0))))
theorem xh.ok {a0 a1 r}(h:xh a0 a1=some r):ACalls qg 87 [.op 0 0 0,.agg (zv a1)] [.cells 0 [.int .i64 a0.fself,.ds true (qc wN a0.fnumbers) (qa a0.fnumbers) false,.ds true (qc zb a0.fschemas) (qa a0.fschemas) false,.str a0.fnewest.fName,.ds true (qc zf a0.fnewest.fMessages) (qa a0.fnewest.fMessages) false,.ds true (qc zh a0.fnewest.fEnums) (qa a0.fnewest.fEnums) false,.ds true (qc zq a0.fnewest.fMethods) (qa a0.fnewest.fMethods) false,.ds true (qc yx a0.frows) (qa a0.frows) false,.op 1 0 0,.os true 8 5 (a0.veffects) 0 (qa a0.feffects) false],.cells 0 [.int .i64 a0.fcache.fsize,.os true 2 2 (a0.fcache.vorder) 0 (qa a0.fcache.forder) false,.mp 3,.mp 4],.cells (a0.fcache.vorder) (qc zp a0.fcache.forder),.map (yN zD zT a0.fcache.freplies.l) (some (a0.fcache.freplies.bs,a0.fcache.freplies.ck)),.map (yN (AV.int .i64) (AV.int .i64) a0.fcache.flast.l) (some (a0.fcache.flast.bs,a0.fcache.flast.ck)),.cells (a0.veffects) (qc zl a0.feffects)] (fun r' σ'=>r'=.agg (zv r.1)∧σ'=[.cells 0 [.int .i64 r.2.fself,.ds true (qc wN r.2.fnumbers) (qa r.2.fnumbers) false,.ds true (qc zb r.2.fschemas) (qa r.2.fschemas) false,.str r.2.fnewest.fName,.ds true (qc zf r.2.fnewest.fMessages) (qa r.2.fnewest.fMessages) false,.ds true (qc zh r.2.fnewest.fEnums) (qa r.2.fnewest.fEnums) false,.ds true (qc zq r.2.fnewest.fMethods) (qa r.2.fnewest.fMethods) false,.ds true (qc yx r.2.frows) (qa r.2.frows) false,.op 1 0 0,.os true 8 5 (r.2.veffects) 0 (qa r.2.feffects) false],.cells 0 [.int .i64 r.2.fcache.fsize,.os true 2 2 (r.2.fcache.vorder) 0 (qa r.2.fcache.forder) false,.mp 3,.mp 4],.cells (r.2.fcache.vorder) (qc zp r.2.fcache.forder),.map (yN zD zT r.2.fcache.freplies.l) (some (r.2.fcache.freplies.bs,r.2.fcache.freplies.ck)),.map (yN (AV.int .i64) (AV.int .i64) r.2.fcache.flast.l) (some (r.2.fcache.flast.bs,r.2.fcache.flast.ck)),.cells (r.2.veffects) (qc zl r.2.feffects)]):=by
 refine ZO [0,1,2,3,4,5] (rs:=[.cell 4 43]) U Tryz.func87 rfl Tryz.ntmps87 rfl Tryz.call87 (by simp) rfl ?_;refine zA [(0,.op 0 0 0),(1,.agg (zv a1))] ⟨rfl,rfl,trivial⟩ ?_;unfold xh at h
 refine rg U [0,3,4] fun K J=>?_
 simp only[go_sem,qd,qb,qe,reduceCtorEq,zv];apply J
 obtain⟨r1,hr1,h⟩:=ye h
 refine rd [0,3,4,5,6] fun K J=>?_
 refine DW.start (T:=tab) [.any,.any,.any,.at [],.any,.at [],.any,.at [],.eff,.any,.any,.any,.flt,.eff,.any] [] ?_;refine DW.runN U 8 ?_;simp only[go_sem,qd,qb,qe,reduceCtorEq,zv];refine DW.callS rfl rfl rfl (@id (ACalls qg 132 [.op 1 0 0,.int .i64 a1.fFrom,.int .i64 a1.fID] [.cells 0 [.int .i64 a0.fself,.ds true (qc wN a0.fnumbers) (qa a0.fnumbers) false,.ds true (qc zb a0.fschemas) (qa a0.fschemas) false,.str a0.fnewest.fName,.ds true (qc zf a0.fnewest.fMessages) (qa a0.fnewest.fMessages) false,.ds true (qc zh a0.fnewest.fEnums) (qa a0.fnewest.fEnums) false,.ds true (qc zq a0.fnewest.fMethods) (qa a0.fnewest.fMethods) false,.ds true (qc yx a0.frows) (qa a0.frows) false,.op 1 0 0,.os true 8 5 (a0.veffects) 0 (qa a0.feffects) false],.cells 0 [.int .i64 a0.fcache.fsize,.os true 2 2 (a0.fcache.vorder) 0 (qa a0.fcache.forder) false,.mp 3,.mp 4],.cells (a0.fcache.vorder) (qc zp a0.fcache.forder),.map (yN zD zT a0.fcache.freplies.l) (some (a0.fcache.freplies.bs,a0.fcache.freplies.ck)),.map (yN (AV.int .i64) (AV.int .i64) a0.fcache.flast.l) (some (a0.fcache.flast.bs,a0.fcache.flast.ck)),.cells (a0.veffects) (qc zl a0.feffects),.cells 0 (zv a1),.cells 0 [.int .i64 0,.int .i64 0,.int .i64 0,.int .i64 0,.int .i64 0,.str [],.int .i64 0,.str []]] (fun r' σ'=>r'=.tup [.agg (zv r1.1),.int .i64 r1.2]∧σ'=[.cells 0 [.int .i64 a0.fself,.ds true (qc wN a0.fnumbers) (qa a0.fnumbers) false,.ds true (qc zb a0.fschemas) (qa a0.fschemas) false,.str a0.fnewest.fName,.ds true (qc zf a0.fnewest.fMessages) (qa a0.fnewest.fMessages) false,.ds true (qc zh a0.fnewest.fEnums) (qa a0.fnewest.fEnums) false,.ds true (qc zq a0.fnewest.fMethods) (qa a0.fnewest.fMethods) false,.ds true (qc yx a0.frows) (qa a0.frows) false,.op 1 0 0,.os true 8 5 (a0.veffects) 0 (qa a0.feffects) false],.cells 0 [.int .i64 a0.fcache.fsize,.os true 2 2 (a0.fcache.vorder) 0 (qa a0.fcache.forder) false,.mp 3,.mp 4],.cells (a0.fcache.vorder) (qc zp a0.fcache.forder),.map (yN zD zT a0.fcache.freplies.l) (some (a0.fcache.freplies.bs,a0.fcache.freplies.ck)),.map (yN (AV.int .i64) (AV.int .i64) a0.fcache.flast.l) (some (a0.fcache.flast.bs,a0.fcache.flast.ck)),.cells (a0.veffects) (qc zl a0.feffects),.cells 0 (zv a1),.cells 0 [.int .i64 0,.int .i64 0,.int .i64 0,.int .i64 0,.int .i64 0,.str [],.int .i64 0,.str []]])) ((wU.ok hr1).ix [1,2,3,4])) (XL (by simp only[go_sem])) ?_;refine DW.runN U 6 ?_;simp only[go_sem,qd,qf,qb,qe,reduceCtorEq,zv];refine DW.fin U (by decide +kernel) rfl ?_;simp only[zC,upd,qb,reduceIte,yX,xK];apply J
 refine za fun Z2 hZ2=>?_
 refine D [0,3,4,5,6,28] ?_;refine yn rfl (fun hc3=>?_) (fun hc3=>?_)
 · rw[if_pos hc3] at h;have t4:=eq_true hc3
   refine rg U [4] fun K J=>?_
   simp only[go_sem,qd,qf,qb,qe,reduceCtorEq,t4];apply J
   apply yk;cases h;simp only[ZJ,yQ,yZ,xQ,exists_eq_left',go_sem,qf,qe,zv];refine⟨by decide,by simp,?_,?_⟩
   · first|rfl|(simp only[go_sem,qd,qf,qb,qe,qj,qm,reduceIte,reduceCtorEq,push_cast,if_true,qz,qo,qq,qn,qF,qs,qK,qI,qv,qu,qt,zz,zd,zp,zv,zb,zl,yu]<;>rfl)
   first|rfl|(simp only[go_sem,qb,qe,reduceCtorEq,push_cast,if_true,qo,qq,qn,qs,qv,qu,zz]<;>rfl)
 rw[if_neg hc3] at h;have t5:=eq_false hc3;apply zj;apply hZ2
 refine rd [0,3,4,6,7] fun K J=>?_
 refine DW.start (T:=tab) [.any,.any,.any,.own 1 [],.any,.own 1 [],.any,.own 1 [],.any,.own 1 [],.any,.own 1 [],.any,.eff,.eff] [(1,[])] ?_;refine DW.runN U 8 ?_;simp only[go_sem,qd,qb,qe,reduceCtorEq,zv,t5];refine DW.runN U 7 ?_;simp only[go_sem,qd,qf,qb,qe,reduceCtorEq];refine DW.fin U (by decide +kernel) rfl ?_;simp only[zC,upd,qb,reduceIte,yX,xK];apply J
 refine za fun Z6 hZ6=>?_
 refine D [0,3,4,7,44] ?_;refine yn rfl (fun hc7=>?_) (fun hc7=>?_)
 · rw[if_pos hc7] at h;have t8:=eq_true hc7
   refine rg U [4,7] fun K J=>?_
   simp only[go_sem,qd,qf,qb,qe,reduceCtorEq,t8];apply J
   refine D [4] ?_;apply yk;cases h;simp only[ZJ,yQ,yZ,xQ,exists_eq_left',go_sem,qf,qe,zv];refine⟨by decide,by simp,?_,?_⟩
   · first|rfl|(simp only[go_sem,qd,qf,qb,qe,qj,qm,reduceIte,reduceCtorEq,push_cast,if_true,qz,qo,qq,qn,qF,qs,qK,qI,qv,qu,qt,zz,zd,zp,zv,zb,zl,yu]<;>rfl)
   first|rfl|(simp only[go_sem,qb,qe,reduceCtorEq,push_cast,if_true,qo,qq,qn,qs,qv,qu,zz]<;>rfl)
 rw[if_neg hc7] at h;have t9:=eq_false hc7;apply zj;apply hZ6
 refine rc [0,3,4,7,8,9] fun K J=>?_
 obtain⟨r10,hr10,h⟩:=bind_some h;refine zB U 2 ?_;simp only[go_sem,qd,qf,qb,qe,reduceCtorEq,zv,t9];refine clN rfl rfl rfl (@id (ACalls qg 133 [.op 0 0 0,.agg (zv a1)] [.cells 0 [.int .i64 a0.fself,.ds true (qc wN a0.fnumbers) (qa a0.fnumbers) false,.ds true (qc zb a0.fschemas) (qa a0.fschemas) false,.str a0.fnewest.fName,.ds true (qc zf a0.fnewest.fMessages) (qa a0.fnewest.fMessages) false,.ds true (qc zh a0.fnewest.fEnums) (qa a0.fnewest.fEnums) false,.ds true (qc zq a0.fnewest.fMethods) (qa a0.fnewest.fMethods) false,.ds true (qc yx a0.frows) (qa a0.frows) false,.op 1 0 0,.os true 8 5 (a0.veffects) 0 (qa a0.feffects) false],.cells 0 [.int .i64 a0.fcache.fsize,.os true 2 2 (a0.fcache.vorder) 0 (qa a0.fcache.forder) false,.mp 3,.mp 4],.cells (a0.fcache.vorder) (qc zp a0.fcache.forder),.map (yN zD zT a0.fcache.freplies.l) (some (a0.fcache.freplies.bs,a0.fcache.freplies.ck)),.map (yN (AV.int .i64) (AV.int .i64) a0.fcache.flast.l) (some (a0.fcache.flast.bs,a0.fcache.flast.ck)),.cells (a0.veffects) (qc zl a0.feffects),.cells 0 (zv a1),.cells 0 [.int .i64 0,.int .i64 0,.int .i64 0,.int .i64 0,.int .i64 0,.str [],.int .i64 0,.str []],.cells 0 (zv r1.1),.cells 0 [.int .i64 4,.int .i64 a0.fself,.int .i64 a1.fFrom,.int .i64 a1.fID,.int .i64 a1.fVersion,.str a1.fMethod,.int .i64 0,.str []]] (fun r' σ'=>r'=.tup [.agg (xe r10.1),.int .i64 r10.2]∧σ'=[.cells 0 [.int .i64 a0.fself,.ds true (qc wN a0.fnumbers) (qa a0.fnumbers) false,.ds true (qc zb a0.fschemas) (qa a0.fschemas) false,.str a0.fnewest.fName,.ds true (qc zf a0.fnewest.fMessages) (qa a0.fnewest.fMessages) false,.ds true (qc zh a0.fnewest.fEnums) (qa a0.fnewest.fEnums) false,.ds true (qc zq a0.fnewest.fMethods) (qa a0.fnewest.fMethods) false,.ds true (qc yx a0.frows) (qa a0.frows) false,.op 1 0 0,.os true 8 5 (a0.veffects) 0 (qa a0.feffects) false],.cells 0 [.int .i64 a0.fcache.fsize,.os true 2 2 (a0.fcache.vorder) 0 (qa a0.fcache.forder) false,.mp 3,.mp 4],.cells (a0.fcache.vorder) (qc zp a0.fcache.forder),.map (yN zD zT a0.fcache.freplies.l) (some (a0.fcache.freplies.bs,a0.fcache.freplies.ck)),.map (yN (AV.int .i64) (AV.int .i64) a0.fcache.flast.l) (some (a0.fcache.flast.bs,a0.fcache.flast.ck)),.cells (a0.veffects) (qc zl a0.feffects),.cells 0 (zv a1),.cells 0 [.int .i64 0,.int .i64 0,.int .i64 0,.int .i64 0,.int .i64 0,.str [],.int .i64 0,.str []],.cells 0 (zv r1.1),.cells 0 [.int .i64 4,.int .i64 a0.fself,.int .i64 a1.fFrom,.int .i64 a1.fID,.int .i64 a1.fVersion,.str a1.fMethod,.int .i64 0,.str []]])) ((wX.ok hr10).ix [0,1,2,3,4,5])) ?_;refine zB U 6 ?_;simp only[go_sem,qd,qf,qb,qe,reduceCtorEq,xe];refine nkN J ?_
 refine za fun Z11 hZ11=>?_
 refine D [0,3,4,7,8,9,54] ?_;refine yn rfl (fun hc12=>?_) (fun hc12=>?_)
 · rw[if_neg hc12] at h;have t13:=eq_false hc12
   refine rg U [4,7] fun K J=>?_
   simp only[go_sem,qd,qf,qb,qe,reduceCtorEq,t13];apply J
   refine D [4] ?_;apply yk;cases h;simp only[ZJ,yQ,yZ,xQ,exists_eq_left',go_sem,qf,qe,zv];refine⟨by decide,by simp,?_,?_⟩
   · first|rfl|(simp only[go_sem,qd,qf,qb,qe,qj,qm,reduceIte,reduceCtorEq,push_cast,if_true,qz,qo,qq,qn,qF,qs,qK,qI,qv,qu,qt,zz,zd,zp,zv,zb,zl,yu]<;>rfl)
   first|rfl|(simp only[go_sem,qb,qe,reduceCtorEq,push_cast,if_true,qo,qq,qn,qs,qv,qu,zz]<;>rfl)
 rw[if_pos hc12] at h;have t14:=eq_true hc12;apply zj;apply hZ11;obtain⟨y15,hy15,h⟩:=bind_some h;have f16:=E33.idxS hy15;have f17:=E33.loadS rfl rfl hy15
 refine rd [0,3,4,7,8,10] fun K J=>?_
 refine DW.start (T:=tab) [.any,.any,.any,.own 1 [],.any,.any,.any,.own 1 [],.own 1 [],.any,.any,.own 1 [],.eff,.eff] [(1,[])] ?_;refine DW.runN U 8 ?_;simp only[go_sem,qd,qb,qe,reduceCtorEq,t14];refine DW.runN U 6 ?_;simp only[go_sem,qd,qf,qb,qe,reduceCtorEq,zb,f16,f17];refine DW.fin U (by decide +kernel) rfl ?_;simp only[zC,upd,qb,reduceIte,yX,xK];apply J
 obtain⟨_u18,hu18,h⟩:=bind_some h;have gu18:=xf hu18;have f19:=(zV E92.len a0.feffects)
 refine rd [0,3,4,7,8,10] fun K J=>?_
 refine DW.start (T:=tab) [.any,.any,.any,.any,.own 1 [],.any,.at [],.any,.at [],.any,.at [],.any,.at [],.any,.eff,.eff,.any,.any,.eff] [(1,[])] ?_;refine DW.runN U 8 ?_;simp only[go_sem,qd,qb,qe,reduceCtorEq,ql,qr,qo];refine DW.runN U 8 ?_;simp only[go_sem,qd,qf,qb,qe,qj,reduceCtorEq,zS,yE,qZ,qQ,true_and,ue,yM,yw,yR,gu18,f19,xw,uc,q9,AV.one,qM,qD,ql,qr,qo,qH];refine DW.runN U 3 ?_;simp only[go_sem,qd,qf,qb,qe,reduceCtorEq,ql,qr,qo];refine DW.fin U (by decide +kernel) rfl ?_;simp only[zC,upd,qb,reduceIte,yX,xK];apply J
 refine yT (L:=[(0,.op 0 0 0),(3,.op 6 0 0),(4,.op 7 0 0),(7,.op 9 0 0),(8,.op 10 0 0),(10,.op 11 0 0)]) (τ:=[.cells 0 [.int .i64 a0.fself,.ds true (qc wN a0.fnumbers) (qa a0.fnumbers) false,.ds true (qc zb a0.fschemas) (qa a0.fschemas) false,.str a0.fnewest.fName,.ds true (qc zf a0.fnewest.fMessages) (qa a0.fnewest.fMessages) false,.ds true (qc zh a0.fnewest.fEnums) (qa a0.fnewest.fEnums) false,.ds true (qc zq a0.fnewest.fMethods) (qa a0.fnewest.fMethods) false,.ds true (qc yx a0.frows) (qa a0.frows) false,.op 1 0 0,.os true 8 5 (a0.veffects+1) 0 (qa (a0.feffects++[(⟨a1.fFrom,a1.fID,a1.fMethod,r10.1.fin⟩:xv)])) false],.cells 0 [.int .i64 a0.fcache.fsize,.os true 2 2 (a0.fcache.vorder) 0 (qa a0.fcache.forder) false,.mp 3,.mp 4],.cells (a0.fcache.vorder) (qc zp a0.fcache.forder),.map (yN zD zT a0.fcache.freplies.l) (some (a0.fcache.freplies.bs,a0.fcache.freplies.ck)),.map (yN (AV.int .i64) (AV.int .i64) a0.fcache.flast.l) (some (a0.fcache.flast.bs,a0.fcache.flast.ck)),.cells (a0.veffects+1) (qc zl (a0.feffects++[(⟨a1.fFrom,a1.fID,a1.fMethod,r10.1.fin⟩:xv)])),.cells 0 (zv a1),.cells 0 [.int .i64 0,.int .i64 0,.int .i64 0,.int .i64 0,.int .i64 0,.str [],.int .i64 0,.str []],.cells 0 (zv r1.1),.cells 0 [.int .i64 4,.int .i64 a0.fself,.int .i64 a1.fFrom,.int .i64 a1.fID,.int .i64 a1.fVersion,.str a1.fMethod,.int .i64 0,.str []],.cells 0 (xe r10.1),.cells 0 (zb y15),.cells 0 [.int .i64 a1.fFrom,.int .i64 a1.fID,.str a1.fMethod,.int .i64 r10.1.fin.fKind,.int .i64 r10.1.fin.fN,.str r10.1.fin.fS,.ds true (qc zx r10.1.fin.fEntries) (qa r10.1.fin.fEntries) false,.ds true (qc zs r10.1.fin.fRest) (qa r10.1.fin.fRest) false]]) .s ?_;obtain⟨r20,hr20,h⟩:=bind_some h
 refine rd [0,3,4,7,8,10,11] fun K J=>?_
 refine DW.start (T:=tab) [.at [],.any,.any,.any,.at [],.any,.any,.any,.at [],.any,.at [],.any,.at [],.eff,.flt,.eff] [] ?_;refine DW.runN U 8 ?_;simp only[go_sem,qd,qf,qb,qe,reduceCtorEq];refine DW.runN U 5 ?_;simp only[go_sem,qd,qf,qb,qe,reduceCtorEq];refine DW.call rfl rfl rfl ((xy.ok hr20).c _) ?_;refine DW.runN U 2 ?_;simp only[go_sem,qd,qf,qb,qe,reduceCtorEq,zd];refine DW.fin U (by decide +kernel) rfl ?_;simp only[zC,upd,qb,reduceIte,yX,xK];apply J
 refine rc [0,3,4,7,11,12] fun K J=>?_
 obtain⟨r21,hr21,h⟩:=bind_some h;refine O 9 ?_;refine clN rfl rfl rfl ((xE.ok hr21).c _) ?_;refine zB U 6 ?_;simp only[go_sem,qd,qf,qb,qe,reduceCtorEq,zX];refine nkN J ?_;refine D [0,3,4,7,11,12,14] ?_;refine xL (fun L τ=>∃ (x22:Int) (x23:List UInt8),L=[(0,.op 0 0 0),(3,.op 6 0 0),(4,.op 7 0 0),(7,.op 8 0 0),(9,.int .i64 x22),(14,.ds true (qc ZR x23) (qa x23) false)]∧τ=([.cells 0 [.int .i64 a0.fself,.ds true (qc wN a0.fnumbers) (qa a0.fnumbers) false,.ds true (qc zb a0.fschemas) (qa a0.fschemas) false,.str a0.fnewest.fName,.ds true (qc zf a0.fnewest.fMessages) (qa a0.fnewest.fMessages) false,.ds true (qc zh a0.fnewest.fEnums) (qa a0.fnewest.fEnums) false,.ds true (qc zq a0.fnewest.fMethods) (qa a0.fnewest.fMethods) false,.ds true (qc yx a0.frows) (qa a0.frows) false,.op 1 0 0,.os true 8 5 (a0.veffects+1) 0 (qa (a0.feffects++[(⟨a1.fFrom,a1.fID,a1.fMethod,r10.1.fin⟩:xv)])) false],.cells 0 [.int .i64 a0.fcache.fsize,.os true 2 2 (a0.fcache.vorder) 0 (qa a0.fcache.forder) false,.mp 3,.mp 4],.cells (a0.fcache.vorder) (qc zp a0.fcache.forder),.map (yN zD zT a0.fcache.freplies.l) (some (a0.fcache.freplies.bs,a0.fcache.freplies.ck)),.map (yN (AV.int .i64) (AV.int .i64) a0.fcache.flast.l) (some (a0.fcache.flast.bs,a0.fcache.flast.ck)),.cells (a0.veffects+1) (qc zl (a0.feffects++[(⟨a1.fFrom,a1.fID,a1.fMethod,r10.1.fin⟩:xv)])),.cells 0 (zv a1),.cells 0 [.int .i64 0,.int .i64 0,.int .i64 0,.int .i64 0,.int .i64 0,.str [],.int .i64 0,.str []],.cells 0 [.int .i64 4,.int .i64 a0.fself,.int .i64 a1.fFrom,.int .i64 a1.fID,.int .i64 a1.fVersion,.str a1.fMethod,.int .i64 0,.str []]]:ze)∧xh.j24 a0 a1 r10 x22 x23=some r) ?_ ?_
 · refine rc [0,3,4,7,9,11,14] fun K J=>?_
   obtain⟨r27,hr27,h⟩:=bind_some h;refine O 2 ?_;refine clN rfl rfl rfl ((ZB.ok hr27).c _) ?_;refine zB U 5 ?_;simp only[go_sem,qd,qf,qb,qe,reduceCtorEq,zd];refine nkN J ?_;refine D [0,3,4,7,9,11,14,122] ?_;refine yn rfl (fun hc28=>?_) (fun hc28=>?_)
   · rw[if_pos hc28] at h;have t29:=eq_true hc28
     refine rcE [0,3,4,7,9,14] fun K J=>?_
     obtain⟨r30,hr30,h⟩:=bind_some h;refine zB U 1 ?_;simp only[go_sem,qd,qf,qb,qe,reduceCtorEq,t29];refine clN rfl rfl rfl ((ZW.ok hr30).c _) ?_;refine O 5 ?_;refine nkN J ?_;exact⟨_,_,⟨r30.2,r30.1,rfl,rfl,h⟩,(.t [0,1,2,3,4,5,6,7,9] false)⟩
   rw[if_neg hc28] at h;have t31:=eq_false hc28;apply zj;exact⟨_,_,⟨r27.2,([]:List UInt8),rfl,rfl,h⟩,(.t [0,1,2,3,4,5,6,7,9] true)⟩
 rintro _ _ ⟨x22,x23,rfl,rfl,h⟩;unfold xh.j24 at h;have f25:=vb0 (T:=tab) (src:=48) (dst:=9) rfl rfl rfl rfl rfl rfl x23
 refine rd [0,3,4,7] fun K J=>?_
 refine DW.start (T:=tab) [.any,.any,.own 1 [8],.any,.eff,.any,.eff] [(1,[8])] ?_;refine DW.runN U 7 ?_;simp only[go_sem,qd,qf,qb,qe,reduceCtorEq,zv,f25];refine DW.fin U (by decide +kernel) rfl ?_;simp only[zC,upd,qb,reduceIte,yX,xK];apply J
 obtain⟨r26,hr26,h⟩:=bind_some h
 refine rd [4,7] fun K J=>?_
 refine DW.start (T:=tab) [.any,.any,.any,.at [],.any,.at [],.any,.at [],.at [],.eff] [] ?_;refine DW.runN U 8 ?_;simp only[go_sem,qd,qb,qe,reduceCtorEq,zv];refine DW.runN U 1 ?_;simp only[go_sem,qd,qf,qb,qe,reduceCtorEq];refine DW.callS rfl rfl rfl (@id (ACalls qg 134 [.op 1 0 0,.int .i64 a1.fFrom,.int .i64 a1.fID,.agg [.int .i64 4,.int .i64 a0.fself,.int .i64 a1.fFrom,.int .i64 a1.fID,.int .i64 a1.fVersion,.str a1.fMethod,.int .i64 x22,.str x23]] [.cells 0 [.int .i64 a0.fself,.ds true (qc wN a0.fnumbers) (qa a0.fnumbers) false,.ds true (qc zb a0.fschemas) (qa a0.fschemas) false,.str a0.fnewest.fName,.ds true (qc zf a0.fnewest.fMessages) (qa a0.fnewest.fMessages) false,.ds true (qc zh a0.fnewest.fEnums) (qa a0.fnewest.fEnums) false,.ds true (qc zq a0.fnewest.fMethods) (qa a0.fnewest.fMethods) false,.ds true (qc yx a0.frows) (qa a0.frows) false,.op 1 0 0,.os true 8 5 (a0.veffects+1) 0 (qa (a0.feffects++[(⟨a1.fFrom,a1.fID,a1.fMethod,r10.1.fin⟩:xv)])) false],.cells 0 [.int .i64 a0.fcache.fsize,.os true 2 2 (a0.fcache.vorder) 0 (qa a0.fcache.forder) false,.mp 3,.mp 4],.cells (a0.fcache.vorder) (qc zp a0.fcache.forder),.map (yN zD zT a0.fcache.freplies.l) (some (a0.fcache.freplies.bs,a0.fcache.freplies.ck)),.map (yN (AV.int .i64) (AV.int .i64) a0.fcache.flast.l) (some (a0.fcache.flast.bs,a0.fcache.flast.ck)),.cells (a0.veffects+1) (qc zl (a0.feffects++[(⟨a1.fFrom,a1.fID,a1.fMethod,r10.1.fin⟩:xv)])),.cells 0 (zv a1),.cells 0 [.int .i64 0,.int .i64 0,.int .i64 0,.int .i64 0,.int .i64 0,.str [],.int .i64 0,.str []],.cells 0 [.int .i64 4,.int .i64 a0.fself,.int .i64 a1.fFrom,.int .i64 a1.fID,.int .i64 a1.fVersion,.str a1.fMethod,.int .i64 x22,.str x23]] (fun r' σ'=>r'=.int .i64 r26.1∧σ'=[.cells 0 [.int .i64 a0.fself,.ds true (qc wN a0.fnumbers) (qa a0.fnumbers) false,.ds true (qc zb a0.fschemas) (qa a0.fschemas) false,.str a0.fnewest.fName,.ds true (qc zf a0.fnewest.fMessages) (qa a0.fnewest.fMessages) false,.ds true (qc zh a0.fnewest.fEnums) (qa a0.fnewest.fEnums) false,.ds true (qc zq a0.fnewest.fMethods) (qa a0.fnewest.fMethods) false,.ds true (qc yx a0.frows) (qa a0.frows) false,.op 1 0 0,.os true 8 5 (a0.veffects+1) 0 (qa (a0.feffects++[(⟨a1.fFrom,a1.fID,a1.fMethod,r10.1.fin⟩:xv)])) false],.cells 0 [.int .i64 r26.2.fsize,.os true 2 2 (r26.2.vorder) 0 (qa r26.2.forder) false,.mp 3,.mp 4],.cells (r26.2.vorder) (qc zp r26.2.forder),.map (yN zD zT r26.2.freplies.l) (some (r26.2.freplies.bs,r26.2.freplies.ck)),.map (yN (AV.int .i64) (AV.int .i64) r26.2.flast.l) (some (r26.2.flast.bs,r26.2.flast.ck)),.cells (a0.veffects+1) (qc zl (a0.feffects++[(⟨a1.fFrom,a1.fID,a1.fMethod,r10.1.fin⟩:xv)])),.cells 0 (zv a1),.cells 0 [.int .i64 0,.int .i64 0,.int .i64 0,.int .i64 0,.int .i64 0,.str [],.int .i64 0,.str []],.cells 0 [.int .i64 4,.int .i64 a0.fself,.int .i64 a1.fFrom,.int .i64 a1.fID,.int .i64 a1.fVersion,.str a1.fMethod,.int .i64 x22,.str x23]])) ((wB.ok hr26).ix [1,2,3,4])) (XL (by simp only[go_sem])) ?_;refine DW.fin U (by decide +kernel) rfl ?_;simp only[zC,XN,upd,qb,reduceIte,yX,xK];apply J
 refine D [4] ?_;apply yk;cases h;simp only[ZJ,yQ,yZ,xQ,exists_eq_left',go_sem,qf,qe,zv];refine⟨by decide,by simp,?_,?_⟩
 · first|rfl|(simp only[go_sem,qd,qf,qb,qe,qj,qm,reduceIte,reduceCtorEq,push_cast,if_true,qz,qo,qq,qn,qF,qs,qK,qI,qv,qu,qt,zz,zd,zp,zv,zb,zl,yu]<;>rfl)
 first|rfl|(simp only[go_sem,qb,qe,reduceCtorEq,push_cast,if_true,qo,qq,qn,qs,qv,qu,zz]<;>rfl)
end
section
set_option maxRecDepth 4000
set_option maxHeartbeats 1000000
open AM
def xi (a0:xI)(a1:xF):Option (xF×Bool×xI):=
 (if a1.fTo=a0.fself then (if a1.fKind=1 then (wj a0 a1.fBody).bind fun r8=>some ((⟨2,a0.fself,a1.fFrom,a1.fID,r8,[],0,[]⟩:xF),true,a0) else (if a1.fKind=3 then (xh a0 a1).bind fun r12=>some (r12.1,true,r12.2) else some ((⟨0,0,0,0,0,[],0,[]⟩:xF),false,a0))) else some ((⟨0,0,0,0,0,[],0,[]⟩:xF),false,a0))
theorem xi.ok {a0 a1 r}(h:xi a0 a1=some r):ACalls qg 47 [.op 0 0 0,.agg (zv a1)] [.cells 0 [.int .i64 a0.fself,.ds true (qc wN a0.fnumbers) (qa a0.fnumbers) false,.ds true (qc zb a0.fschemas) (qa a0.fschemas) false,.str a0.fnewest.fName,.ds true (qc zf a0.fnewest.fMessages) (qa a0.fnewest.fMessages) false,.ds true (qc zh a0.fnewest.fEnums) (qa a0.fnewest.fEnums) false,.ds true (qc zq a0.fnewest.fMethods) (qa a0.fnewest.fMethods) false,.ds true (qc yx a0.frows) (qa a0.frows) false,.op 1 0 0,.os true 8 5 (a0.veffects) 0 (qa a0.feffects) false],.cells 0 [.int .i64 a0.fcache.fsize,.os true 2 2 (a0.fcache.vorder) 0 (qa a0.fcache.forder) false,.mp 3,.mp 4],.cells (a0.fcache.vorder) (qc zp a0.fcache.forder),.map (yN zD zT a0.fcache.freplies.l) (some (a0.fcache.freplies.bs,a0.fcache.freplies.ck)),.map (yN (AV.int .i64) (AV.int .i64) a0.fcache.flast.l) (some (a0.fcache.flast.bs,a0.fcache.flast.ck)),.cells (a0.veffects) (qc zl a0.feffects)] (fun r' σ'=>r'=.tup [.agg (zv r.1),.bool r.2.1]∧σ'=[.cells 0 [.int .i64 r.2.2.fself,.ds true (qc wN r.2.2.fnumbers) (qa r.2.2.fnumbers) false,.ds true (qc zb r.2.2.fschemas) (qa r.2.2.fschemas) false,.str r.2.2.fnewest.fName,.ds true (qc zf r.2.2.fnewest.fMessages) (qa r.2.2.fnewest.fMessages) false,.ds true (qc zh r.2.2.fnewest.fEnums) (qa r.2.2.fnewest.fEnums) false,.ds true (qc zq r.2.2.fnewest.fMethods) (qa r.2.2.fnewest.fMethods) false,.ds true (qc yx r.2.2.frows) (qa r.2.2.frows) false,.op 1 0 0,.os true 8 5 (r.2.2.veffects) 0 (qa r.2.2.feffects) false],.cells 0 [.int .i64 r.2.2.fcache.fsize,.os true 2 2 (r.2.2.fcache.vorder) 0 (qa r.2.2.fcache.forder) false,.mp 3,.mp 4],.cells (r.2.2.fcache.vorder) (qc zp r.2.2.fcache.forder),.map (yN zD zT r.2.2.fcache.freplies.l) (some (r.2.2.fcache.freplies.bs,r.2.2.fcache.freplies.ck)),.map (yN (AV.int .i64) (AV.int .i64) r.2.2.fcache.flast.l) (some (r.2.2.fcache.flast.bs,r.2.2.fcache.flast.ck)),.cells (r.2.2.veffects) (qc zl r.2.2.feffects)]):=by
 refine ZO [0,1,2,3,4,5] (rs:=[.cell 4 43,.tmp 5]) U Tryz.func47 rfl Tryz.ntmps47 rfl Tryz.call47 (by simp) rfl ?_;refine zA [(0,.op 0 0 0),(1,.agg (zv a1))] ⟨rfl,rfl,trivial⟩ ?_;unfold xi at h
 refine rg U [0,3,4] fun K J=>?_
 simp only[go_sem,qd,qb,qe,reduceCtorEq,zv];apply J
 refine za fun Z1 hZ1=>?_
 refine rd [0,3,4,12] fun K J=>?_
 refine DW.start (T:=tab) [.any,.at [],.any,.any,.any,.at [],.any] [] ?_;refine DW.runN U 7 ?_;simp only[go_sem,qd,qb,qe,reduceCtorEq];refine DW.fin U (by decide +kernel) rfl ?_;simp only[zC,upd,qb,reduceIte,yX,xK];apply J
 refine yn rfl (fun hc2=>?_) (fun hc2=>?_)
 · rw[if_neg hc2] at h;have t3:=eq_false hc2
   refine rg U [4,5] fun K J=>?_
   simp only[go_sem,qd,qf,qb,qe,reduceCtorEq,t3];apply J
   apply yk;cases h;simp only[ZJ,yQ,yZ,xQ,exists_eq_left',go_sem,qf,qb,qe,zv];refine⟨by decide,by simp,?_,?_⟩
   · first|rfl|(simp only[go_sem,qd,qf,qb,qe,qj,qm,reduceIte,reduceCtorEq,push_cast,if_true,qz,qo,qq,qn,qF,qs,qK,qI,qv,qu,qt,zz,zd,zp,zv,zb,zl,yu]<;>rfl)
   first|rfl|(simp only[go_sem,qb,qe,reduceCtorEq,push_cast,if_true,qo,qq,qn,qs,qv,qu,zz]<;>rfl)
 rw[if_pos hc2] at h;have t4:=eq_true hc2;apply zj;apply hZ1
 refine za fun Z5 hZ5=>?_
 refine rg U [0,3,4,15] fun K J=>?_
 simp only[go_sem,qd,qb,qe,reduceCtorEq,t4];apply J
 apply zn;refine D [0,3,4,15,16] ?_;refine yn rfl (fun hc6=>?_) (fun hc6=>?_)
 · rw[if_pos hc6] at h;have t7:=eq_true hc6;obtain⟨r8,hr8,h⟩:=bind_some h
   refine rd [4,5] fun K J=>?_
   refine DW.start (T:=tab) [.any,.any,.any,.own 1 [],.any,.own 1 [],.any,.own 1 [],.any,.any,.at [],.eff,.any,.eff,.any] [(1,[])] ?_;refine DW.runN U 8 ?_;simp only[go_sem,qd,qb,qe,reduceCtorEq,zv,t7];refine DW.runN U 3 ?_;simp only[go_sem,qd,qb,qe,reduceCtorEq];refine DW.callS rfl rfl rfl (@id (ACalls qg 86 [.op 0 0 0,.str a1.fBody] [.cells 0 [.int .i64 a0.fself,.ds true (qc wN a0.fnumbers) (qa a0.fnumbers) false,.ds true (qc zb a0.fschemas) (qa a0.fschemas) false,.str a0.fnewest.fName,.ds true (qc zf a0.fnewest.fMessages) (qa a0.fnewest.fMessages) false,.ds true (qc zh a0.fnewest.fEnums) (qa a0.fnewest.fEnums) false,.ds true (qc zq a0.fnewest.fMethods) (qa a0.fnewest.fMethods) false,.ds true (qc yx a0.frows) (qa a0.frows) false,.op 1 0 0,.os true 8 5 (a0.veffects) 0 (qa a0.feffects) false],.cells 0 [.int .i64 a0.fcache.fsize,.os true 2 2 (a0.fcache.vorder) 0 (qa a0.fcache.forder) false,.mp 3,.mp 4],.cells (a0.fcache.vorder) (qc zp a0.fcache.forder),.map (yN zD zT a0.fcache.freplies.l) (some (a0.fcache.freplies.bs,a0.fcache.freplies.ck)),.map (yN (AV.int .i64) (AV.int .i64) a0.fcache.flast.l) (some (a0.fcache.flast.bs,a0.fcache.flast.ck)),.cells (a0.veffects) (qc zl a0.feffects),.cells 0 (zv a1),.cells 0 [.int .i64 0,.int .i64 0,.int .i64 0,.int .i64 0,.int .i64 0,.str [],.int .i64 0,.str []]] (fun r' σ'=>r'=.int .i64 r8∧σ'=[.cells 0 [.int .i64 a0.fself,.ds true (qc wN a0.fnumbers) (qa a0.fnumbers) false,.ds true (qc zb a0.fschemas) (qa a0.fschemas) false,.str a0.fnewest.fName,.ds true (qc zf a0.fnewest.fMessages) (qa a0.fnewest.fMessages) false,.ds true (qc zh a0.fnewest.fEnums) (qa a0.fnewest.fEnums) false,.ds true (qc zq a0.fnewest.fMethods) (qa a0.fnewest.fMethods) false,.ds true (qc yx a0.frows) (qa a0.frows) false,.op 1 0 0,.os true 8 5 (a0.veffects) 0 (qa a0.feffects) false],.cells 0 [.int .i64 a0.fcache.fsize,.os true 2 2 (a0.fcache.vorder) 0 (qa a0.fcache.forder) false,.mp 3,.mp 4],.cells (a0.fcache.vorder) (qc zp a0.fcache.forder),.map (yN zD zT a0.fcache.freplies.l) (some (a0.fcache.freplies.bs,a0.fcache.freplies.ck)),.map (yN (AV.int .i64) (AV.int .i64) a0.fcache.flast.l) (some (a0.fcache.flast.bs,a0.fcache.flast.ck)),.cells (a0.veffects) (qc zl a0.feffects),.cells 0 (zv a1),.cells 0 [.int .i64 0,.int .i64 0,.int .i64 0,.int .i64 0,.int .i64 0,.str [],.int .i64 0,.str []]])) ((wj.ok a0 a1.fBody r8 hr8).ix [0,1,2,3,4,5])) (XL (by simp only[go_sem,qf])) ?_;refine DW.runN U 3 ?_;simp only[go_sem,qd,qf,qb,qe,reduceCtorEq];refine DW.fin U (by decide +kernel) rfl ?_;simp only[zC,upd,qb,reduceIte,yX,xK];apply J
   apply yk;cases h;simp only[ZJ,yQ,yZ,xQ,exists_eq_left',go_sem,qf,qb,qe,zv];refine⟨by decide,by simp,?_,?_⟩
   · first|rfl|(simp only[go_sem,qd,qf,qb,qe,qj,qm,reduceIte,reduceCtorEq,push_cast,if_true,qz,qo,qq,qn,qF,qs,qK,qI,qv,qu,qt,zz,zd,zp,zv,zb,zl,yu]<;>rfl)
   first|rfl|(simp only[go_sem,qb,qe,reduceCtorEq,push_cast,if_true,qo,qq,qn,qs,qv,qu,zz]<;>rfl)
 rw[if_neg hc6] at h;have t9:=eq_false hc6
 refine rg U [0,3,4,31] fun K J=>?_
 simp only[go_sem,qd,qb,reduceCtorEq,t9];apply J
 refine yn rfl (fun hc10=>?_) (fun hc10=>?_)
 · rw[if_pos hc10] at h;have t11:=eq_true hc10
   refine rc [4,5] fun K J=>?_
   obtain⟨r12,hr12,h⟩:=bind_some h;refine zB U 2 ?_;simp only[go_sem,qd,qf,qb,qe,reduceCtorEq,zv,t11];refine clN rfl rfl rfl (@id (ACalls qg 87 [.op 0 0 0,.agg (zv a1)] [.cells 0 [.int .i64 a0.fself,.ds true (qc wN a0.fnumbers) (qa a0.fnumbers) false,.ds true (qc zb a0.fschemas) (qa a0.fschemas) false,.str a0.fnewest.fName,.ds true (qc zf a0.fnewest.fMessages) (qa a0.fnewest.fMessages) false,.ds true (qc zh a0.fnewest.fEnums) (qa a0.fnewest.fEnums) false,.ds true (qc zq a0.fnewest.fMethods) (qa a0.fnewest.fMethods) false,.ds true (qc yx a0.frows) (qa a0.frows) false,.op 1 0 0,.os true 8 5 (a0.veffects) 0 (qa a0.feffects) false],.cells 0 [.int .i64 a0.fcache.fsize,.os true 2 2 (a0.fcache.vorder) 0 (qa a0.fcache.forder) false,.mp 3,.mp 4],.cells (a0.fcache.vorder) (qc zp a0.fcache.forder),.map (yN zD zT a0.fcache.freplies.l) (some (a0.fcache.freplies.bs,a0.fcache.freplies.ck)),.map (yN (AV.int .i64) (AV.int .i64) a0.fcache.flast.l) (some (a0.fcache.flast.bs,a0.fcache.flast.ck)),.cells (a0.veffects) (qc zl a0.feffects),.cells 0 (zv a1),.cells 0 [.int .i64 0,.int .i64 0,.int .i64 0,.int .i64 0,.int .i64 0,.str [],.int .i64 0,.str []]] (fun r' σ'=>r'=.agg (zv r12.1)∧σ'=[.cells 0 [.int .i64 r12.2.fself,.ds true (qc wN r12.2.fnumbers) (qa r12.2.fnumbers) false,.ds true (qc zb r12.2.fschemas) (qa r12.2.fschemas) false,.str r12.2.fnewest.fName,.ds true (qc zf r12.2.fnewest.fMessages) (qa r12.2.fnewest.fMessages) false,.ds true (qc zh r12.2.fnewest.fEnums) (qa r12.2.fnewest.fEnums) false,.ds true (qc zq r12.2.fnewest.fMethods) (qa r12.2.fnewest.fMethods) false,.ds true (qc yx r12.2.frows) (qa r12.2.frows) false,.op 1 0 0,.os true 8 5 (r12.2.veffects) 0 (qa r12.2.feffects) false],.cells 0 [.int .i64 r12.2.fcache.fsize,.os true 2 2 (r12.2.fcache.vorder) 0 (qa r12.2.fcache.forder) false,.mp 3,.mp 4],.cells (r12.2.fcache.vorder) (qc zp r12.2.fcache.forder),.map (yN zD zT r12.2.fcache.freplies.l) (some (r12.2.fcache.freplies.bs,r12.2.fcache.freplies.ck)),.map (yN (AV.int .i64) (AV.int .i64) r12.2.fcache.flast.l) (some (r12.2.fcache.flast.bs,r12.2.fcache.flast.ck)),.cells (r12.2.veffects) (qc zl r12.2.feffects),.cells 0 (zv a1),.cells 0 [.int .i64 0,.int .i64 0,.int .i64 0,.int .i64 0,.int .i64 0,.str [],.int .i64 0,.str []]])) ((xh.ok hr12).ix [0,1,2,3,4,5])) ?_;refine zB U 2 ?_;simp only[go_sem,qd,qf,qb,qe,reduceCtorEq,zv];refine nkN J ?_;apply yk;cases h;simp only[ZJ,yQ,yZ,xQ,exists_eq_left',go_sem,qf,qb,qe,zv];refine⟨by decide,by simp,?_,?_⟩
   · first|rfl|(simp only[go_sem,qd,qf,qb,qe,qj,qm,reduceIte,reduceCtorEq,push_cast,if_true,qz,qo,qq,qn,qF,qs,qK,qI,qv,qu,qt,zz,zd,zp,zv,zb,zl,yu]<;>rfl)
   first|rfl|(simp only[go_sem,qb,qe,reduceCtorEq,push_cast,if_true,qo,qq,qn,qs,qv,qu,zz]<;>rfl)
 rw[if_neg hc10] at h;have t13:=eq_false hc10;apply zj;apply hZ5
 refine rg U [4,5] fun K J=>?_
 simp only[go_sem,qd,qf,qb,qe,reduceCtorEq,t13];apply J
 apply yk;cases h;simp only[ZJ,yQ,yZ,xQ,exists_eq_left',go_sem,qf,qb,qe,zv];refine⟨by decide,by simp,?_,?_⟩
 · first|rfl|(simp only[go_sem,qd,qf,qb,qe,qj,qm,reduceIte,reduceCtorEq,push_cast,if_true,qz,qo,qq,qn,qF,qs,qK,qI,qv,qu,qt,zz,zd,zp,zv,zb,zl,yu]<;>rfl)
 first|rfl|(simp only[go_sem,qb,qe,reduceCtorEq,push_cast,if_true,qo,qq,qn,qs,qv,qu,zz]<;>rfl)
def Ym (a0:List xv):Option (List xv):=(X7 (qa a0) 112).bind fun _=>some a0
theorem Ym.lo (a0 r:List xv)(h:Ym a0=some r)(ver:Nat):ACalls qg 88 [.os true 8 0 ver 0 (qa a0) false] [.cells ver (qc zl a0)] (fun r' σ'=>r'=.ds true (qc zl r) (qa r) false∧σ'=[.cells ver (qc zl a0)]):=by
 obtain⟨_u,hu,h⟩:=bind_some h;have gu:=xf hu;cases h;have f2:=zV E92.len a0;have f3:=YN zl a0
 have f1:∀ τ:ze,xb (.cells ver (qc zl a0)::τ) 8 (.os true 8 0 ver 0 (qa a0) false)=some (qa a0,qc zl a0):=fun τ=>by
  simp only[xb,ze.at_hd,if_true,qz,qo,← f2,uj,qw]
 have fin:∀ σ id ver tt,ze.at σ id ver=some (qc zl a0)→idxOf [0] id 0=none→tell σ [0] true 12 (.os true 8 id ver 0 (qa a0) tt)=.ds true (qc zl a0) (qa a0) false:=by
  intro σ id ver tt hs hk
  simp only[ZT,hk,hs,qz,qo];rw[if_pos (by rw[f2]; exact qw _),← f2,uj,zz]
 refine ZO [0] (rs:=[.tmp 2]) U Tryz.func88 rfl Tryz.ntmps88 rfl Tryz.call88 (by simp) rfl ?_;refine zA [(0,.os true 8 0 ver 0 (qa a0) false)] ⟨rfl,trivial⟩ ?_;refine D [0] ?_
 refine za fun Z1 hZ1=>?_
 refine rc [0,4] fun K J=>?_
 refine O 1 ?_
 refine Xq U rfl rfl rfl rfl rfl rfl fun b hnil=>?_
 have hb:b=true→a0=[]:=fun hb=>by
  have:=hnil hb;simp only[yR,go_sem,reduceCtorEq] at this;exact ul this
 clear hnil
 refine nkN J ?_;cases b
 · refine zG rfl ?_;apply zj;apply hZ1
   refine rg U [2] fun K J=>?_
   by_cases h0:qa a0=0
   · obtain rfl:=ul h0;simp only[go_sem,qd,qb,qe,reduceCtorEq,zS,yE,qQ,uu,yM,yw,yR,xb,uf,qr,uw,uc,List.drop_nil,List.take_nil,uP,and_self];apply J
     apply yk;simp only[ZJ,yQ,yZ,xQ,exists_eq_left',go_sem,qe];refine⟨by decide,by simp,?_,?_⟩
     · first|rfl|(simp only[go_sem,qd,qf,qb,qe,qj,qm,reduceIte,reduceCtorEq,ZT,Zi,Yx,qn]<;>rfl)
     first|rfl|(simp only[go_sem,qd,qf,qb,qe,qj,qm,reduceIte,reduceCtorEq,Y5,vbt,YD,Y6,Xm,qn]<;>rfl)
   have h1:=eq_false h0;simp only[go_sem,qd,qb,qe,reduceCtorEq,zS,yE,qQ,uu,yM,yw,yR,f1,f3,h1,gu,xw,qn,qD,uw];apply J
   apply yk;simp only[ZJ,yQ,yZ,xQ,exists_eq_left',go_sem,qe];refine⟨by decide,by simp,?_,?_⟩
   · exact fin _ _ _ _ (by simp only[ze.at_hd,ze.at_tl,if_true]) rfl
   first|rfl|(simp only[go_sem,Y5,YD,Y6,zz,qn]<;>rfl)
 obtain rfl:=hb rfl;refine zK rfl ?_;refine D [2] ?_;apply yk;simp only[ZJ,yQ,yZ,xQ,exists_eq_left',go_sem];refine⟨by decide,by simp,?_,?_⟩
 · first|rfl|(simp only[go_sem,qd,qf,qb,qe,qj,qm,reduceIte,reduceCtorEq,Xl,qn,qs,qK,qu,qt,qI,qv]<;>rfl)
 first|rfl|(simp only[go_sem,qd,qf,qb,qe,qj,qm,reduceIte,reduceCtorEq,Y5,vbt,YD,Y6,Xm,zz,qn,uf]<;>rfl)
def Zr (a0:xI):Option (List xv):=
 (Ym a0.feffects).bind fun r1=>some r1
theorem Zr.ok {a0 r}(h:Zr a0=some r):ACalls qg 48 [.op 0 0 0] [.cells 0 [.int .i64 a0.fself,.ds true (qc wN a0.fnumbers) (qa a0.fnumbers) false,.ds true (qc zb a0.fschemas) (qa a0.fschemas) false,.str a0.fnewest.fName,.ds true (qc zf a0.fnewest.fMessages) (qa a0.fnewest.fMessages) false,.ds true (qc zh a0.fnewest.fEnums) (qa a0.fnewest.fEnums) false,.ds true (qc zq a0.fnewest.fMethods) (qa a0.fnewest.fMethods) false,.ds true (qc yx a0.frows) (qa a0.frows) false,.op 1 0 0,.os true 8 5 (a0.veffects) 0 (qa a0.feffects) false],.cells 0 [.int .i64 a0.fcache.fsize,.os true 2 2 (a0.fcache.vorder) 0 (qa a0.fcache.forder) false,.mp 3,.mp 4],.cells (a0.fcache.vorder) (qc zp a0.fcache.forder),.map (yN zD zT a0.fcache.freplies.l) (some (a0.fcache.freplies.bs,a0.fcache.freplies.ck)),.map (yN (AV.int .i64) (AV.int .i64) a0.fcache.flast.l) (some (a0.fcache.flast.bs,a0.fcache.flast.ck)),.cells (a0.veffects) (qc zl a0.feffects)] (fun r' σ'=>r'=.ds true (qc zl r) (qa r) false∧σ'=[.cells 0 [.int .i64 a0.fself,.ds true (qc wN a0.fnumbers) (qa a0.fnumbers) false,.ds true (qc zb a0.fschemas) (qa a0.fschemas) false,.str a0.fnewest.fName,.ds true (qc zf a0.fnewest.fMessages) (qa a0.fnewest.fMessages) false,.ds true (qc zh a0.fnewest.fEnums) (qa a0.fnewest.fEnums) false,.ds true (qc zq a0.fnewest.fMethods) (qa a0.fnewest.fMethods) false,.ds true (qc yx a0.frows) (qa a0.frows) false,.op 1 0 0,.os true 8 5 (a0.veffects) 0 (qa a0.feffects) false],.cells 0 [.int .i64 a0.fcache.fsize,.os true 2 2 (a0.fcache.vorder) 0 (qa a0.fcache.forder) false,.mp 3,.mp 4],.cells (a0.fcache.vorder) (qc zp a0.fcache.forder),.map (yN zD zT a0.fcache.freplies.l) (some (a0.fcache.freplies.bs,a0.fcache.freplies.ck)),.map (yN (AV.int .i64) (AV.int .i64) a0.fcache.flast.l) (some (a0.fcache.flast.bs,a0.fcache.flast.ck)),.cells (a0.veffects) (qc zl a0.feffects)]):=by
 refine ZO [0,1,2,3,4,5] (rs:=[.tmp 2]) U Tryz.func48 rfl Tryz.ntmps48 rfl Tryz.call48 (by simp) rfl ?_;refine zA [(0,.op 0 0 0)] ⟨rfl,trivial⟩ ?_;unfold Zr at h;refine D [0] ?_
 refine rc [2] fun K J=>?_
 obtain⟨r1,hr1,h⟩:=bind_some h;refine O 4 ?_;refine clN rfl rfl rfl (@id (ACalls qg 88 [.os true 8 5 (a0.veffects) 0 (qa a0.feffects) false] [.cells 0 [.int .i64 a0.fself,.ds true (qc wN a0.fnumbers) (qa a0.fnumbers) false,.ds true (qc zb a0.fschemas) (qa a0.fschemas) false,.str a0.fnewest.fName,.ds true (qc zf a0.fnewest.fMessages) (qa a0.fnewest.fMessages) false,.ds true (qc zh a0.fnewest.fEnums) (qa a0.fnewest.fEnums) false,.ds true (qc zq a0.fnewest.fMethods) (qa a0.fnewest.fMethods) false,.ds true (qc yx a0.frows) (qa a0.frows) false,.op 1 0 0,.os true 8 5 (a0.veffects) 0 (qa a0.feffects) false],.cells 0 [.int .i64 a0.fcache.fsize,.os true 2 2 (a0.fcache.vorder) 0 (qa a0.fcache.forder) false,.mp 3,.mp 4],.cells (a0.fcache.vorder) (qc zp a0.fcache.forder),.map (yN zD zT a0.fcache.freplies.l) (some (a0.fcache.freplies.bs,a0.fcache.freplies.ck)),.map (yN (AV.int .i64) (AV.int .i64) a0.fcache.flast.l) (some (a0.fcache.flast.bs,a0.fcache.flast.ck)),.cells (a0.veffects) (qc zl a0.feffects)] (fun r' σ'=>r'=.ds true (qc zl r1) (qa r1) false∧σ'=[.cells 0 [.int .i64 a0.fself,.ds true (qc wN a0.fnumbers) (qa a0.fnumbers) false,.ds true (qc zb a0.fschemas) (qa a0.fschemas) false,.str a0.fnewest.fName,.ds true (qc zf a0.fnewest.fMessages) (qa a0.fnewest.fMessages) false,.ds true (qc zh a0.fnewest.fEnums) (qa a0.fnewest.fEnums) false,.ds true (qc zq a0.fnewest.fMethods) (qa a0.fnewest.fMethods) false,.ds true (qc yx a0.frows) (qa a0.frows) false,.op 1 0 0,.os true 8 5 (a0.veffects) 0 (qa a0.feffects) false],.cells 0 [.int .i64 a0.fcache.fsize,.os true 2 2 (a0.fcache.vorder) 0 (qa a0.fcache.forder) false,.mp 3,.mp 4],.cells (a0.fcache.vorder) (qc zp a0.fcache.forder),.map (yN zD zT a0.fcache.freplies.l) (some (a0.fcache.freplies.bs,a0.fcache.freplies.ck)),.map (yN (AV.int .i64) (AV.int .i64) a0.fcache.flast.l) (some (a0.fcache.flast.bs,a0.fcache.flast.ck)),.cells (a0.veffects) (qc zl a0.feffects)])) ((Ym.lo a0.feffects r1 hr1 a0.veffects).i [5])) ?_;refine O 1 ?_;refine nkN J ?_;apply yk;cases h;simp only[ZJ,yQ,yZ,xQ,exists_eq_left',go_sem,qe];refine⟨by decide,by simp,?_,?_⟩
 · first|rfl|(simp only[go_sem,push_cast,qs,qv,qu,zz]<;>rfl)
 first|rfl|(simp only[go_sem,qb,qe,reduceCtorEq,push_cast,if_true,qo,qq,qn,qs,qv,qu,zz]<;>rfl)
def Xr  : Option Bool:=
 bnd (Za 1) fun r1=>bnd (Za 1) fun r2=>bnd (xS 5) fun r3=>bnd (xS 7) fun r4=>(Zy 0 [1] [r1] r2 [(⟨[99],r3,r4⟩:GRow)] 4).bind fun r5=>(match r5.1 with|.none=>(if ((!(decide (r5.2=0)))||true)=true then some false else none)|.some y6=>(if ((!(decide (r5.2=0)))||false)=true then some false else (xi y6 (⟨3,1,0,1,1,[99],0,[2,10]⟩:xF)).bind fun r15=>(xi r15.2.2 (⟨3,1,0,1,1,[99],0,[2,10]⟩:xF)).bind fun r16=>(if (((r15.2.1&&r16.2.1)&&(decide (r15.1.fKind=r16.1.fKind)&&(decide (r15.1.fFrom=r16.1.fFrom)&&(decide (r15.1.fTo=r16.1.fTo)&&(decide (r15.1.fID=r16.1.fID)&&(decide (r15.1.fVersion=r16.1.fVersion)&&(decide (r15.1.fMethod=r16.1.fMethod)&&(decide (r15.1.fErr=r16.1.fErr)&&decide (r15.1.fBody=r16.1.fBody)))))))))&&(decide (r15.1.fBody=[2,14])))=true then (Zr r16.2.2).bind fun r17=>some (decide ((qa r17:Int)=1)) else some false).bind fun c17=>some c17))
theorem Xr.ok  (r:Bool)(h:Xr=some r):ACalls qg 41 [] [] (fun r' _=>r'=.bool r):=by
 refine zt (rs:=[.tmp 0]) U Tryz.func41 rfl Tryz.ntmps41 rfl Tryz.call41 (by simp) ?_;refine zA [] trivial ?_;unfold Xr at h;refine D [] ?_
 refine rc [1,2] fun K J=>?_
 obtain⟨r1,hr1,h⟩:=ye h;refine zB U 1 ?_;simp only[go_sem,qd,qf,qj,zS,yE,qZ,qQ,true_and,ue];refine clN rfl rfl rfl ((Za.ok hr1).c _) ?_;obtain⟨r2,hr2,h⟩:=ye h;refine zB U 1 ?_;simp only[go_sem,qd,qf,qb,qe,qj,zS,yE,qZ,qQ,true_and,ue,zb];refine clN rfl rfl rfl ((Za.ok hr2).c _) ?_;obtain⟨r3,hr3,h⟩:=ye h;refine clN rfl rfl rfl ((xS.ok hr3).c _) ?_;obtain⟨r4,hr4,h⟩:=ye h;refine clN rfl rfl rfl ((xS.ok hr4).c _) ?_;obtain⟨r5,hr5,h⟩:=bind_some h;refine zB U 2 ?_;simp only[go_sem,qd,qf,qb,qe,qj,zS,yE,qZ,qQ,true_and,ue,zd,zb];refine vbF (L:=[(9,.ds true (qc wN [1]) (qa [1]) false),(11,.ds true (qc zb [r1]) (qa [r1]) false),(12,.agg (zb r2)),(16,.ds true (qc yx [(⟨[99],r3,r4⟩:GRow)]) (qa [(⟨[99],r3,r4⟩:GRow)]) false)]) (τ:=[]) (.t [] false) ?_;refine clN rfl rfl rfl (Zy.at hr5 _) ?_;refine zB U 5 ?_;simp only[go_sem,qd,qb,qe,yx,zb];refine nkN J ?_
 generalize hz6:r5.1=z6 at h ⊢
 rcases z6 with _|y6
 · try dsimp only at h
   simp only[vcD,wQ];refine awp_eqS (τ:=[]) (by first|rfl|(simp only[qq,qn,qE,qD,qH,renO_mapE,renO_cells,vb7,AV.ren,vd3,XV,qe]<;>first|rfl|(and_intros<;>rfl))) ?_
   refine za fun Z7 hZ7=>?_
   refine rc [1,25] fun K J=>?_
   refine O 3 ?_;refine zH 3 (fun L τ=>L=[(1,.nilp),(25,.bool ((!(decide (r5.2=0)))||true))]∧τ=([]:ze)) ?_ ?_
   · refine wh 22 rfl (fun hg22=>?_) (fun hg22=>?_)
     · have t8:=eq_false hg22;refine O 3 ?_;refine zi ⟨rfl,_,_,⟨rfl,rfl⟩,.p t8⟩
     have t9:=eq_true hg22;refine zB U 3 ?_;simp only[go_sem,qd,qb,evEq];refine zi ⟨rfl,_,_,⟨rfl,rfl⟩,.p t9⟩
   rintro _ _ ⟨rfl,rfl⟩;refine nkN J ?_;refine zU (b:=((!(decide (r5.2=0)))||true)) rfl (fun hc10=>?_) (fun hc10=>?_)
   · rw[if_pos hc10] at h;refine D [0] ?_;cases h;exact rtA
   rw[Zf hc10] at h;apply zj;apply hZ7;refine D [1,3] ?_;cases h
 try dsimp only at h
 simp only[vcC,wQ];refine awp_eqS (τ:=[.cells 0 [.int .i64 y6.fself,.ds true (qc wN y6.fnumbers) (qa y6.fnumbers) false,.ds true (qc zb y6.fschemas) (qa y6.fschemas) false,.str y6.fnewest.fName,.ds true (qc zf y6.fnewest.fMessages) (qa y6.fnewest.fMessages) false,.ds true (qc zh y6.fnewest.fEnums) (qa y6.fnewest.fEnums) false,.ds true (qc zq y6.fnewest.fMethods) (qa y6.fnewest.fMethods) false,.ds true (qc yx y6.frows) (qa y6.frows) false,.op 1 0 0,.os true 8 5 (y6.veffects) 0 (qa y6.feffects) false],.cells 0 [.int .i64 y6.fcache.fsize,.os true 2 2 (y6.fcache.vorder) 0 (qa y6.fcache.forder) false,.mp 3,.mp 4],.cells (y6.fcache.vorder) (qc zp y6.fcache.forder),.map (yN zD zT y6.fcache.freplies.l) (some (y6.fcache.freplies.bs,y6.fcache.freplies.ck)),.map (yN (AV.int .i64) (AV.int .i64) y6.fcache.flast.l) (some (y6.fcache.flast.bs,y6.fcache.flast.ck)),.cells (y6.veffects) (qc zl y6.feffects)]) (by first|rfl|(simp only[qq,qn,renO_mapE,renO_cells,vb7,AV.ren,XV]<;>first|rfl|(and_intros<;>rfl))) ?_
 refine za fun Z11 hZ11=>?_
 refine rc [1,25] fun K J=>?_
 refine O 3 ?_;refine zH 3 (fun L τ=>L=[(1,.op 0 0 0),(25,.bool ((!(decide (r5.2=0)))||false))]∧τ=([.cells 0 [.int .i64 y6.fself,.ds true (qc wN y6.fnumbers) (qa y6.fnumbers) false,.ds true (qc zb y6.fschemas) (qa y6.fschemas) false,.str y6.fnewest.fName,.ds true (qc zf y6.fnewest.fMessages) (qa y6.fnewest.fMessages) false,.ds true (qc zh y6.fnewest.fEnums) (qa y6.fnewest.fEnums) false,.ds true (qc zq y6.fnewest.fMethods) (qa y6.fnewest.fMethods) false,.ds true (qc yx y6.frows) (qa y6.frows) false,.op 1 0 0,.os true 8 5 (y6.veffects) 0 (qa y6.feffects) false],.cells 0 [.int .i64 y6.fcache.fsize,.os true 2 2 (y6.fcache.vorder) 0 (qa y6.fcache.forder) false,.mp 3,.mp 4],.cells (y6.fcache.vorder) (qc zp y6.fcache.forder),.map (yN zD zT y6.fcache.freplies.l) (some (y6.fcache.freplies.bs,y6.fcache.freplies.ck)),.map (yN (AV.int .i64) (AV.int .i64) y6.fcache.flast.l) (some (y6.fcache.flast.bs,y6.fcache.flast.ck)),.cells (y6.veffects) (qc zl y6.feffects)]:ze)) ?_ ?_
 · refine wh 22 rfl (fun hg22=>?_) (fun hg22=>?_)
   · have t12:=eq_false hg22;refine O 3 ?_;refine zi ⟨rfl,_,_,⟨rfl,rfl⟩,.p t12⟩
   have t13:=eq_true hg22;refine zB U 3 ?_;simp only[go_sem,qd,qb,evEq];refine zi ⟨rfl,_,_,⟨rfl,rfl⟩,.p t13⟩
 rintro _ _ ⟨rfl,rfl⟩;refine nkN J ?_;refine zU (b:=((!(decide (r5.2=0)))||false)) rfl (fun hc14=>?_) (fun hc14=>?_)
 · rw[if_pos hc14] at h;refine D [0] ?_;cases h;exact rtA
 rw[Zf hc14] at h;apply zj;apply hZ11;refine D [1,3] ?_
 refine rc [1,3,4,5] fun K J=>?_
 obtain⟨r15,hr15,h⟩:=bind_some h;refine O 2 ?_;refine clN rfl rfl rfl (@id (ACalls qg 47 [.op 0 0 0,.agg [.int .i64 3,.int .i64 1,.int .i64 0,.int .i64 1,.int .i64 1,.str [99],.int .i64 0,.str [2,10]]] [.cells 0 [.int .i64 y6.fself,.ds true (qc wN y6.fnumbers) (qa y6.fnumbers) false,.ds true (qc zb y6.fschemas) (qa y6.fschemas) false,.str y6.fnewest.fName,.ds true (qc zf y6.fnewest.fMessages) (qa y6.fnewest.fMessages) false,.ds true (qc zh y6.fnewest.fEnums) (qa y6.fnewest.fEnums) false,.ds true (qc zq y6.fnewest.fMethods) (qa y6.fnewest.fMethods) false,.ds true (qc yx y6.frows) (qa y6.frows) false,.op 1 0 0,.os true 8 5 (y6.veffects) 0 (qa y6.feffects) false],.cells 0 [.int .i64 y6.fcache.fsize,.os true 2 2 (y6.fcache.vorder) 0 (qa y6.fcache.forder) false,.mp 3,.mp 4],.cells (y6.fcache.vorder) (qc zp y6.fcache.forder),.map (yN zD zT y6.fcache.freplies.l) (some (y6.fcache.freplies.bs,y6.fcache.freplies.ck)),.map (yN (AV.int .i64) (AV.int .i64) y6.fcache.flast.l) (some (y6.fcache.flast.bs,y6.fcache.flast.ck)),.cells (y6.veffects) (qc zl y6.feffects),.cells 0 [.int .i64 3,.int .i64 1,.int .i64 0,.int .i64 1,.int .i64 1,.str [99],.int .i64 0,.str [2,10]]] (fun r' σ'=>r'=.tup [.agg (zv r15.1),.bool r15.2.1]∧σ'=[.cells 0 [.int .i64 r15.2.2.fself,.ds true (qc wN r15.2.2.fnumbers) (qa r15.2.2.fnumbers) false,.ds true (qc zb r15.2.2.fschemas) (qa r15.2.2.fschemas) false,.str r15.2.2.fnewest.fName,.ds true (qc zf r15.2.2.fnewest.fMessages) (qa r15.2.2.fnewest.fMessages) false,.ds true (qc zh r15.2.2.fnewest.fEnums) (qa r15.2.2.fnewest.fEnums) false,.ds true (qc zq r15.2.2.fnewest.fMethods) (qa r15.2.2.fnewest.fMethods) false,.ds true (qc yx r15.2.2.frows) (qa r15.2.2.frows) false,.op 1 0 0,.os true 8 5 (r15.2.2.veffects) 0 (qa r15.2.2.feffects) false],.cells 0 [.int .i64 r15.2.2.fcache.fsize,.os true 2 2 (r15.2.2.fcache.vorder) 0 (qa r15.2.2.fcache.forder) false,.mp 3,.mp 4],.cells (r15.2.2.fcache.vorder) (qc zp r15.2.2.fcache.forder),.map (yN zD zT r15.2.2.fcache.freplies.l) (some (r15.2.2.fcache.freplies.bs,r15.2.2.fcache.freplies.ck)),.map (yN (AV.int .i64) (AV.int .i64) r15.2.2.fcache.flast.l) (some (r15.2.2.fcache.flast.bs,r15.2.2.fcache.flast.ck)),.cells (r15.2.2.veffects) (qc zl r15.2.2.feffects),.cells 0 [.int .i64 3,.int .i64 1,.int .i64 0,.int .i64 1,.int .i64 1,.str [99],.int .i64 0,.str [2,10]]])) ((xi.ok hr15).ix [0,1,2,3,4,5])) ?_;refine zB U 6 ?_;simp only[go_sem,qd,qf,qb,qe,zv];refine nkN J ?_
 refine rc [1,4,5,6,7] fun K J=>?_
 obtain⟨r16,hr16,h⟩:=bind_some h;refine O 2 ?_;refine clN rfl rfl rfl (@id (ACalls qg 47 [.op 0 0 0,.agg [.int .i64 3,.int .i64 1,.int .i64 0,.int .i64 1,.int .i64 1,.str [99],.int .i64 0,.str [2,10]]] [.cells 0 [.int .i64 r15.2.2.fself,.ds true (qc wN r15.2.2.fnumbers) (qa r15.2.2.fnumbers) false,.ds true (qc zb r15.2.2.fschemas) (qa r15.2.2.fschemas) false,.str r15.2.2.fnewest.fName,.ds true (qc zf r15.2.2.fnewest.fMessages) (qa r15.2.2.fnewest.fMessages) false,.ds true (qc zh r15.2.2.fnewest.fEnums) (qa r15.2.2.fnewest.fEnums) false,.ds true (qc zq r15.2.2.fnewest.fMethods) (qa r15.2.2.fnewest.fMethods) false,.ds true (qc yx r15.2.2.frows) (qa r15.2.2.frows) false,.op 1 0 0,.os true 8 5 (r15.2.2.veffects) 0 (qa r15.2.2.feffects) false],.cells 0 [.int .i64 r15.2.2.fcache.fsize,.os true 2 2 (r15.2.2.fcache.vorder) 0 (qa r15.2.2.fcache.forder) false,.mp 3,.mp 4],.cells (r15.2.2.fcache.vorder) (qc zp r15.2.2.fcache.forder),.map (yN zD zT r15.2.2.fcache.freplies.l) (some (r15.2.2.fcache.freplies.bs,r15.2.2.fcache.freplies.ck)),.map (yN (AV.int .i64) (AV.int .i64) r15.2.2.fcache.flast.l) (some (r15.2.2.fcache.flast.bs,r15.2.2.fcache.flast.ck)),.cells (r15.2.2.veffects) (qc zl r15.2.2.feffects),.cells 0 [.int .i64 3,.int .i64 1,.int .i64 0,.int .i64 1,.int .i64 1,.str [99],.int .i64 0,.str [2,10]],.cells 0 (zv r15.1)] (fun r' σ'=>r'=.tup [.agg (zv r16.1),.bool r16.2.1]∧σ'=[.cells 0 [.int .i64 r16.2.2.fself,.ds true (qc wN r16.2.2.fnumbers) (qa r16.2.2.fnumbers) false,.ds true (qc zb r16.2.2.fschemas) (qa r16.2.2.fschemas) false,.str r16.2.2.fnewest.fName,.ds true (qc zf r16.2.2.fnewest.fMessages) (qa r16.2.2.fnewest.fMessages) false,.ds true (qc zh r16.2.2.fnewest.fEnums) (qa r16.2.2.fnewest.fEnums) false,.ds true (qc zq r16.2.2.fnewest.fMethods) (qa r16.2.2.fnewest.fMethods) false,.ds true (qc yx r16.2.2.frows) (qa r16.2.2.frows) false,.op 1 0 0,.os true 8 5 (r16.2.2.veffects) 0 (qa r16.2.2.feffects) false],.cells 0 [.int .i64 r16.2.2.fcache.fsize,.os true 2 2 (r16.2.2.fcache.vorder) 0 (qa r16.2.2.fcache.forder) false,.mp 3,.mp 4],.cells (r16.2.2.fcache.vorder) (qc zp r16.2.2.fcache.forder),.map (yN zD zT r16.2.2.fcache.freplies.l) (some (r16.2.2.fcache.freplies.bs,r16.2.2.fcache.freplies.ck)),.map (yN (AV.int .i64) (AV.int .i64) r16.2.2.fcache.flast.l) (some (r16.2.2.fcache.flast.bs,r16.2.2.fcache.flast.ck)),.cells (r16.2.2.veffects) (qc zl r16.2.2.feffects),.cells 0 [.int .i64 3,.int .i64 1,.int .i64 0,.int .i64 1,.int .i64 1,.str [99],.int .i64 0,.str [2,10]],.cells 0 (zv r15.1)])) ((xi.ok hr16).ix [0,1,2,3,4,5])) ?_;refine zB U 6 ?_;simp only[go_sem,qd,qf,qb,qe,zv];refine nkN J ?_
 refine rc [0] fun K J=>?_
 refine O 2 ?_;refine zH 2 (fun L τ=>L=[(1,.op 0 0 0),(4,.op 7 0 0),(6,.op 8 0 0),(42,.bool (r15.2.1&&r16.2.1))]∧τ=([.cells 0 [.int .i64 r16.2.2.fself,.ds true (qc wN r16.2.2.fnumbers) (qa r16.2.2.fnumbers) false,.ds true (qc zb r16.2.2.fschemas) (qa r16.2.2.fschemas) false,.str r16.2.2.fnewest.fName,.ds true (qc zf r16.2.2.fnewest.fMessages) (qa r16.2.2.fnewest.fMessages) false,.ds true (qc zh r16.2.2.fnewest.fEnums) (qa r16.2.2.fnewest.fEnums) false,.ds true (qc zq r16.2.2.fnewest.fMethods) (qa r16.2.2.fnewest.fMethods) false,.ds true (qc yx r16.2.2.frows) (qa r16.2.2.frows) false,.op 1 0 0,.os true 8 5 (r16.2.2.veffects) 0 (qa r16.2.2.feffects) false],.cells 0 [.int .i64 r16.2.2.fcache.fsize,.os true 2 2 (r16.2.2.fcache.vorder) 0 (qa r16.2.2.fcache.forder) false,.mp 3,.mp 4],.cells (r16.2.2.fcache.vorder) (qc zp r16.2.2.fcache.forder),.map (yN zD zT r16.2.2.fcache.freplies.l) (some (r16.2.2.fcache.freplies.bs,r16.2.2.fcache.freplies.ck)),.map (yN (AV.int .i64) (AV.int .i64) r16.2.2.fcache.flast.l) (some (r16.2.2.fcache.flast.bs,r16.2.2.fcache.flast.ck)),.cells (r16.2.2.veffects) (qc zl r16.2.2.feffects),.cells 0 [.int .i64 3,.int .i64 1,.int .i64 0,.int .i64 1,.int .i64 1,.str [99],.int .i64 0,.str [2,10]],.cells 0 (zv r15.1),.cells 0 (zv r16.1)]:ze)) ?_ ?_
 · refine yB (b:=r15.2.1) 40 rfl (fun hg40=>?_) (fun hg40=>?_)
   · refine O 2 ?_;refine zi ⟨rfl,_,_,⟨rfl,rfl⟩,.b hg40⟩
   refine O 2 ?_;refine zi ⟨rfl,_,_,⟨rfl,rfl⟩,.b hg40⟩
 rintro _ _ ⟨rfl,rfl⟩;refine O 1 ?_;refine zH 4 (fun L τ=>L=[(1,.op 0 0 0),(4,.op 7 0 0),(47,.bool ((r15.2.1&&r16.2.1)&&(decide (r15.1.fKind=r16.1.fKind)&&(decide (r15.1.fFrom=r16.1.fFrom)&&(decide (r15.1.fTo=r16.1.fTo)&&(decide (r15.1.fID=r16.1.fID)&&(decide (r15.1.fVersion=r16.1.fVersion)&&(decide (r15.1.fMethod=r16.1.fMethod)&&(decide (r15.1.fErr=r16.1.fErr)&&decide (r15.1.fBody=r16.1.fBody))))))))))]∧τ=([.cells 0 [.int .i64 r16.2.2.fself,.ds true (qc wN r16.2.2.fnumbers) (qa r16.2.2.fnumbers) false,.ds true (qc zb r16.2.2.fschemas) (qa r16.2.2.fschemas) false,.str r16.2.2.fnewest.fName,.ds true (qc zf r16.2.2.fnewest.fMessages) (qa r16.2.2.fnewest.fMessages) false,.ds true (qc zh r16.2.2.fnewest.fEnums) (qa r16.2.2.fnewest.fEnums) false,.ds true (qc zq r16.2.2.fnewest.fMethods) (qa r16.2.2.fnewest.fMethods) false,.ds true (qc yx r16.2.2.frows) (qa r16.2.2.frows) false,.op 1 0 0,.os true 8 5 (r16.2.2.veffects) 0 (qa r16.2.2.feffects) false],.cells 0 [.int .i64 r16.2.2.fcache.fsize,.os true 2 2 (r16.2.2.fcache.vorder) 0 (qa r16.2.2.fcache.forder) false,.mp 3,.mp 4],.cells (r16.2.2.fcache.vorder) (qc zp r16.2.2.fcache.forder),.map (yN zD zT r16.2.2.fcache.freplies.l) (some (r16.2.2.fcache.freplies.bs,r16.2.2.fcache.freplies.ck)),.map (yN (AV.int .i64) (AV.int .i64) r16.2.2.fcache.flast.l) (some (r16.2.2.fcache.flast.bs,r16.2.2.fcache.flast.ck)),.cells (r16.2.2.veffects) (qc zl r16.2.2.feffects),.cells 0 [.int .i64 3,.int .i64 1,.int .i64 0,.int .i64 1,.int .i64 1,.str [99],.int .i64 0,.str [2,10]],.cells 0 (zv r15.1),.cells 0 (zv r16.1)]:ze)) ?_ ?_
 · refine yB (b:=(r15.2.1&&r16.2.1)) 43 rfl (fun hg43=>?_) (fun hg43=>?_)
   · refine zB U 4 ?_;simp only[go_sem,qd,qf,qb,qe,evEqA,vat,ceq];refine zi ⟨rfl,_,_,⟨rfl,rfl⟩,.b hg43⟩
   refine O 4 ?_;refine zi ⟨rfl,_,_,⟨rfl,rfl⟩,.b hg43⟩
 rintro _ _ ⟨rfl,rfl⟩;refine O 1 ?_;refine zH 4 (fun L τ=>L=[(1,.op 0 0 0),(52,.bool (((r15.2.1&&r16.2.1)&&(decide (r15.1.fKind=r16.1.fKind)&&(decide (r15.1.fFrom=r16.1.fFrom)&&(decide (r15.1.fTo=r16.1.fTo)&&(decide (r15.1.fID=r16.1.fID)&&(decide (r15.1.fVersion=r16.1.fVersion)&&(decide (r15.1.fMethod=r16.1.fMethod)&&(decide (r15.1.fErr=r16.1.fErr)&&decide (r15.1.fBody=r16.1.fBody)))))))))&&(decide (r15.1.fBody=[2,14]))))]∧τ=([.cells 0 [.int .i64 r16.2.2.fself,.ds true (qc wN r16.2.2.fnumbers) (qa r16.2.2.fnumbers) false,.ds true (qc zb r16.2.2.fschemas) (qa r16.2.2.fschemas) false,.str r16.2.2.fnewest.fName,.ds true (qc zf r16.2.2.fnewest.fMessages) (qa r16.2.2.fnewest.fMessages) false,.ds true (qc zh r16.2.2.fnewest.fEnums) (qa r16.2.2.fnewest.fEnums) false,.ds true (qc zq r16.2.2.fnewest.fMethods) (qa r16.2.2.fnewest.fMethods) false,.ds true (qc yx r16.2.2.frows) (qa r16.2.2.frows) false,.op 1 0 0,.os true 8 5 (r16.2.2.veffects) 0 (qa r16.2.2.feffects) false],.cells 0 [.int .i64 r16.2.2.fcache.fsize,.os true 2 2 (r16.2.2.fcache.vorder) 0 (qa r16.2.2.fcache.forder) false,.mp 3,.mp 4],.cells (r16.2.2.fcache.vorder) (qc zp r16.2.2.fcache.forder),.map (yN zD zT r16.2.2.fcache.freplies.l) (some (r16.2.2.fcache.freplies.bs,r16.2.2.fcache.freplies.ck)),.map (yN (AV.int .i64) (AV.int .i64) r16.2.2.fcache.flast.l) (some (r16.2.2.fcache.flast.bs,r16.2.2.fcache.flast.ck)),.cells (r16.2.2.veffects) (qc zl r16.2.2.feffects),.cells 0 [.int .i64 3,.int .i64 1,.int .i64 0,.int .i64 1,.int .i64 1,.str [99],.int .i64 0,.str [2,10]],.cells 0 (zv r15.1),.cells 0 (zv r16.1)]:ze)) ?_ ?_
 · refine yB (b:=((r15.2.1&&r16.2.1)&&(decide (r15.1.fKind=r16.1.fKind)&&(decide (r15.1.fFrom=r16.1.fFrom)&&(decide (r15.1.fTo=r16.1.fTo)&&(decide (r15.1.fID=r16.1.fID)&&(decide (r15.1.fVersion=r16.1.fVersion)&&(decide (r15.1.fMethod=r16.1.fMethod)&&(decide (r15.1.fErr=r16.1.fErr)&&decide (r15.1.fBody=r16.1.fBody)))))))))) 48 rfl (fun hg48=>?_) (fun hg48=>?_)
   · refine O 4 ?_;refine zi ⟨rfl,_,_,⟨rfl,rfl⟩,.b hg48⟩
   refine O 4 ?_;refine zi ⟨rfl,_,_,⟨rfl,rfl⟩,.b hg48⟩
 rintro _ _ ⟨rfl,rfl⟩;refine O 1 ?_;obtain⟨c17,hc17,h⟩:=bind_some h;refine zH 5 (fun L τ=>L=[(58,.bool c17)]∧τ=([.cells 0 [.int .i64 r16.2.2.fself,.ds true (qc wN r16.2.2.fnumbers) (qa r16.2.2.fnumbers) false,.ds true (qc zb r16.2.2.fschemas) (qa r16.2.2.fschemas) false,.str r16.2.2.fnewest.fName,.ds true (qc zf r16.2.2.fnewest.fMessages) (qa r16.2.2.fnewest.fMessages) false,.ds true (qc zh r16.2.2.fnewest.fEnums) (qa r16.2.2.fnewest.fEnums) false,.ds true (qc zq r16.2.2.fnewest.fMethods) (qa r16.2.2.fnewest.fMethods) false,.ds true (qc yx r16.2.2.frows) (qa r16.2.2.frows) false,.op 1 0 0,.os true 8 5 (r16.2.2.veffects) 0 (qa r16.2.2.feffects) false],.cells 0 [.int .i64 r16.2.2.fcache.fsize,.os true 2 2 (r16.2.2.fcache.vorder) 0 (qa r16.2.2.fcache.forder) false,.mp 3,.mp 4],.cells (r16.2.2.fcache.vorder) (qc zp r16.2.2.fcache.forder),.map (yN zD zT r16.2.2.fcache.freplies.l) (some (r16.2.2.fcache.freplies.bs,r16.2.2.fcache.freplies.ck)),.map (yN (AV.int .i64) (AV.int .i64) r16.2.2.fcache.flast.l) (some (r16.2.2.fcache.flast.bs,r16.2.2.fcache.flast.ck)),.cells (r16.2.2.veffects) (qc zl r16.2.2.feffects),.cells 0 [.int .i64 3,.int .i64 1,.int .i64 0,.int .i64 1,.int .i64 1,.str [99],.int .i64 0,.str [2,10]],.cells 0 (zv r15.1),.cells 0 (zv r16.1)]:ze)) ?_ ?_
 · refine yB (b:=(((r15.2.1&&r16.2.1)&&(decide (r15.1.fKind=r16.1.fKind)&&(decide (r15.1.fFrom=r16.1.fFrom)&&(decide (r15.1.fTo=r16.1.fTo)&&(decide (r15.1.fID=r16.1.fID)&&(decide (r15.1.fVersion=r16.1.fVersion)&&(decide (r15.1.fMethod=r16.1.fMethod)&&(decide (r15.1.fErr=r16.1.fErr)&&decide (r15.1.fBody=r16.1.fBody)))))))))&&(decide (r15.1.fBody=[2,14])))) 53 rfl (fun hg53=>?_) (fun hg53=>?_)
   · rw[if_pos hg53] at hc17;obtain⟨r18,hr18,hc17⟩:=bind_some hc17;refine O 1 ?_;refine clN rfl rfl rfl (@id (ACalls qg 48 [.op 0 0 0] [.cells 0 [.int .i64 r16.2.2.fself,.ds true (qc wN r16.2.2.fnumbers) (qa r16.2.2.fnumbers) false,.ds true (qc zb r16.2.2.fschemas) (qa r16.2.2.fschemas) false,.str r16.2.2.fnewest.fName,.ds true (qc zf r16.2.2.fnewest.fMessages) (qa r16.2.2.fnewest.fMessages) false,.ds true (qc zh r16.2.2.fnewest.fEnums) (qa r16.2.2.fnewest.fEnums) false,.ds true (qc zq r16.2.2.fnewest.fMethods) (qa r16.2.2.fnewest.fMethods) false,.ds true (qc yx r16.2.2.frows) (qa r16.2.2.frows) false,.op 1 0 0,.os true 8 5 (r16.2.2.veffects) 0 (qa r16.2.2.feffects) false],.cells 0 [.int .i64 r16.2.2.fcache.fsize,.os true 2 2 (r16.2.2.fcache.vorder) 0 (qa r16.2.2.fcache.forder) false,.mp 3,.mp 4],.cells (r16.2.2.fcache.vorder) (qc zp r16.2.2.fcache.forder),.map (yN zD zT r16.2.2.fcache.freplies.l) (some (r16.2.2.fcache.freplies.bs,r16.2.2.fcache.freplies.ck)),.map (yN (AV.int .i64) (AV.int .i64) r16.2.2.fcache.flast.l) (some (r16.2.2.fcache.flast.bs,r16.2.2.fcache.flast.ck)),.cells (r16.2.2.veffects) (qc zl r16.2.2.feffects),.cells 0 [.int .i64 3,.int .i64 1,.int .i64 0,.int .i64 1,.int .i64 1,.str [99],.int .i64 0,.str [2,10]],.cells 0 (zv r15.1),.cells 0 (zv r16.1)] (fun r' σ'=>r'=.ds true (qc zl r18) (qa r18) false∧σ'=[.cells 0 [.int .i64 r16.2.2.fself,.ds true (qc wN r16.2.2.fnumbers) (qa r16.2.2.fnumbers) false,.ds true (qc zb r16.2.2.fschemas) (qa r16.2.2.fschemas) false,.str r16.2.2.fnewest.fName,.ds true (qc zf r16.2.2.fnewest.fMessages) (qa r16.2.2.fnewest.fMessages) false,.ds true (qc zh r16.2.2.fnewest.fEnums) (qa r16.2.2.fnewest.fEnums) false,.ds true (qc zq r16.2.2.fnewest.fMethods) (qa r16.2.2.fnewest.fMethods) false,.ds true (qc yx r16.2.2.frows) (qa r16.2.2.frows) false,.op 1 0 0,.os true 8 5 (r16.2.2.veffects) 0 (qa r16.2.2.feffects) false],.cells 0 [.int .i64 r16.2.2.fcache.fsize,.os true 2 2 (r16.2.2.fcache.vorder) 0 (qa r16.2.2.fcache.forder) false,.mp 3,.mp 4],.cells (r16.2.2.fcache.vorder) (qc zp r16.2.2.fcache.forder),.map (yN zD zT r16.2.2.fcache.freplies.l) (some (r16.2.2.fcache.freplies.bs,r16.2.2.fcache.freplies.ck)),.map (yN (AV.int .i64) (AV.int .i64) r16.2.2.fcache.flast.l) (some (r16.2.2.fcache.flast.bs,r16.2.2.fcache.flast.ck)),.cells (r16.2.2.veffects) (qc zl r16.2.2.feffects),.cells 0 [.int .i64 3,.int .i64 1,.int .i64 0,.int .i64 1,.int .i64 1,.str [99],.int .i64 0,.str [2,10]],.cells 0 (zv r15.1),.cells 0 (zv r16.1)])) ((Zr.ok hr18).ix [0,1,2,3,4,5])) ?_;refine O 3 ?_;cases hc17;refine zi ⟨rfl,_,_,⟨rfl,rfl⟩,.b hg53⟩
   rw[Zf hg53] at hc17;refine O 5 ?_;cases hc17;refine zi ⟨rfl,_,_,⟨rfl,rfl⟩,.b hg53⟩
 rintro _ _ ⟨rfl,rfl⟩;refine O 1 ?_;refine nkN J ?_;cases h;exact rtA
end
section
set_option maxRecDepth 4000
set_option maxHeartbeats 1000000
open AM
def law24_ServerRows.j15 (a3:Int)(x13:Int)(x14:Int):Option Bool:=
 bnd (xS x13) fun r16=>(wD r16).bind fun r17=>bnd (xS x14) fun r18=>(wD r18).bind fun r19=>(wY a3 2147483648).bind fun r20=>none
def law24_ServerRows.j30 (a3:Int)(y8:xI)(x28:Int)(x29:Int):Option Bool:=
 bnd (xS x28) fun r31=>(wD r31).bind fun r32=>bnd (xS x29) fun r33=>(wD r33).bind fun r34=>(wY a3 2147483648).bind fun r35=>(xi y8 (⟨3,2,0,r35,3,[99],0,r32.1⟩:xF)).bind fun r37=>(xi r37.2.2 (⟨1,2,0,r35,0,[],0,[1,3,5]⟩:xF)).bind fun r38=>(if (((((r37.2.1&&(decide (r37.1.fKind=4)&&(decide (r37.1.fFrom=0)&&(decide (r37.1.fTo=2)&&(decide (r37.1.fID=r35)&&(decide (r37.1.fVersion=3)&&(decide (r37.1.fMethod=[99])&&(decide (r37.1.fErr=0)&&decide (r37.1.fBody=r34.1)))))))))&&r38.2.1)&&(decide (r38.1.fVersion=3)))&&(decide (r38.1.fKind=2)))&&(decide (r38.1.fTo=2)))=true then (Xr).bind fun r40=>some r40 else some false).bind fun c40=>some c40
def law24_ServerRows.j3 (a0:Int)(a1:Int)(a2:Bool)(a3:Int)(m0_2:zE):Option Bool:=
 bnd (Za 2) fun r4=>bnd (xS a0) fun r5=>bnd (xS a1) fun r6=>(Zy 0 [3] [m0_2] r4 [(⟨[99],r5,r6⟩:GRow)] 4).bind fun r7=>(match r7.1 with|.none=>(if r7.2=0 then (if a2=true then bnd (Zl a0) fun r22=>bnd (Zl a1) fun r23=>(law24_ServerRows.j15 a3 r22 r23) else (law24_ServerRows.j15 a3 a0 a1)) else some false)|.some y8=>(if r7.2=0 then (if a2=true then bnd (Zl a0) fun r43=>bnd (Zl a1) fun r44=>(law24_ServerRows.j30 a3 y8 r43 r44) else (law24_ServerRows.j30 a3 y8 a0 a1)) else some false))
def law24_ServerRows (a0:Int)(a1:Int)(a2:Bool)(a3:Int):Option Bool:=
 bnd (Za 2) fun r1=>(if a2=true then bnd (Za 1) fun r46=>(law24_ServerRows.j3 a0 a1 a2 a3 r46) else (law24_ServerRows.j3 a0 a1 a2 a3 r1))
theorem law24_ServerRows.ok {a0 a1 a2 a3 r}(h:law24_ServerRows a0 a1 a2 a3=some r):ACalls qg 10 [.int .i64 a0,.int .i64 a1,.bool a2,.int .i64 a3] [] (fun r' _=>r'=.bool r):=by
 refine zt (rs:=[.tmp 8]) U Tryz.func10 rfl Tryz.ntmps10 rfl Tryz.call10 (by simp) ?_;refine zA [(0,.int .i64 a0),(1,.int .i64 a1),(2,.bool a2),(3,.int .i64 a3)] ⟨rfl,rfl,rfl,rfl,trivial⟩ ?_;unfold law24_ServerRows at h;refine D [0,1,2,3] ?_
 refine rc [0,1,2,3,9] fun K J=>?_
 obtain⟨r1,hr1,h⟩:=ye h;refine clN rfl rfl rfl ((Za.ok hr1).c _) ?_;refine zB U 2 ?_;simp only[go_sem,qd,qf,qb,qe,reduceCtorEq,zb];refine nkN J ?_;refine xL (fun L τ=>∃ (m0_2:zE),L=[(0,.int .i64 a0),(1,.int .i64 a1),(2,.bool a2),(3,.int .i64 a3),(9,.op 0 0 0)]∧τ=([.cells 0 (zb m0_2)]:ze)∧law24_ServerRows.j3 a0 a1 a2 a3 m0_2=some r) ?_ ?_
 · refine D [0,1,2,3,9,24] ?_;refine zU (b:=a2) rfl (fun hc45=>?_) (fun hc45=>?_)
   · rw[if_pos hc45] at h
     refine rcE [0,1,2,3,9] fun K J=>?_
     obtain⟨r46,hr46,h⟩:=ye h;refine clN rfl rfl rfl ((Za.ok hr46).c _) ?_;refine zB U 1 ?_;simp only[go_sem,qf,qb,qe,reduceCtorEq,zb];refine nkN J ?_;exact⟨_,_,⟨r46,rfl,rfl,h⟩,.s⟩
   rw[Zf hc45] at h;apply zj;exact⟨_,_,⟨r1,rfl,rfl,h⟩,.s⟩
 rintro _ _ ⟨m0_2,rfl,rfl,h⟩;unfold law24_ServerRows.j3 at h;obtain⟨r4,hr4,h⟩:=ye h;obtain⟨r5,hr5,h⟩:=ye h;obtain⟨r6,hr6,h⟩:=ye h;obtain⟨r7,hr7,h⟩:=bind_some h
 refine rd [0,1,2,3,10,11] fun K J=>?_
 refine DW.startP (T:=tab) [1,3,4,5,6,7,8,9,2,0,10,11,12,13,14,15] (by decide +kernel) [.own 4 [],.eff,.any,.eff,.any,.eff,.any,.eff,.flt,.flt,.eff,.any,.any,.any,.any,.any] [(4,[])] ?_;simp only[vck,qq,qn,List.getD_cons_zero,List.getD_cons_succ,vbB];refine DW.runN U 1 ?_;simp only[go_sem,qd,qf,qb,qe,reduceCtorEq];refine DW.call rfl rfl rfl ((Za.ok hr4).c _) ?_;refine DW.runN U 1 ?_;simp only[go_sem,qd,reduceCtorEq,zb];refine DW.call rfl rfl rfl ((xS.ok hr5).c _) ?_;refine DW.runN U 1 ?_;simp only[go_sem,qd,qb,reduceCtorEq,zd];refine DW.call rfl rfl rfl ((xS.ok hr6).c _) ?_;refine DW.runN U 4 ?_;simp only[go_sem,qd,qf,qb,qe,qj,reduceCtorEq,zS,yE,qZ,qQ,true_and,ue,zd];refine DW.callS rfl rfl rfl (ACalls.usR (σ:=[.cells 0 (zb m0_2),.cells 0 [.str [99],.int .i64 r5.fKind,.int .i64 r5.fN,.str r5.fS,.ds true (qc zx r5.fEntries) (qa r5.fEntries) false,.ds true (qc zs r5.fRest) (qa r5.fRest) false,.int .i64 r6.fKind,.int .i64 r6.fN,.str r6.fS,.ds true (qc zx r6.fEntries) (qa r6.fEntries) false,.ds true (qc zs r6.fRest) (qa r6.fRest) false],.cells 0 (zb m0_2),.cells 0 [.int .i64 3]]) (τ:=[.cells 0 (zb m0_2),.cells 0 [.str [99],.int .i64 r5.fKind,.int .i64 r5.fN,.str r5.fS,.ds true (qc zx r5.fEntries) (qa r5.fEntries) false,.ds true (qc zs r5.fRest) (qa r5.fRest) false,.int .i64 r6.fKind,.int .i64 r6.fN,.str r6.fS,.ds true (qc zx r6.fEntries) (qa r6.fEntries) false,.ds true (qc zs r6.fRest) (qa r6.fRest) false],.cells 0 (zb m0_2),.dead]) (args':=[.int .i64 0,.os true 1 3 0 0 1 true,.os true 4 2 0 0 1 true,.agg (zb r4),.os true 11 1 0 0 1 true,.int .i64 4]) (args:=[.int .i64 0,.ds true (qc wN [3]) (qa [3]) false,.os true 4 2 0 0 1 true,.agg (zb r4),.os true 11 1 0 0 1 true,.int .i64 4]) 3 [0,1,2,4] (ACalls.usR (σ:=[.cells 0 (zb m0_2),.cells 0 [.str [99],.int .i64 r5.fKind,.int .i64 r5.fN,.str r5.fS,.ds true (qc zx r5.fEntries) (qa r5.fEntries) false,.ds true (qc zs r5.fRest) (qa r5.fRest) false,.int .i64 r6.fKind,.int .i64 r6.fN,.str r6.fS,.ds true (qc zx r6.fEntries) (qa r6.fEntries) false,.ds true (qc zs r6.fRest) (qa r6.fRest) false],.cells 0 (zb m0_2),.dead]) (τ:=[.cells 0 (zb m0_2),.cells 0 [.str [99],.int .i64 r5.fKind,.int .i64 r5.fN,.str r5.fS,.ds true (qc zx r5.fEntries) (qa r5.fEntries) false,.ds true (qc zs r5.fRest) (qa r5.fRest) false,.int .i64 r6.fKind,.int .i64 r6.fN,.str r6.fS,.ds true (qc zx r6.fEntries) (qa r6.fEntries) false,.ds true (qc zs r6.fRest) (qa r6.fRest) false],.dead,.dead]) (args':=[.int .i64 0,.ds true (qc wN [3]) (qa [3]) false,.os true 4 2 0 0 1 true,.agg (zb r4),.os true 11 1 0 0 1 true,.int .i64 4]) (args:=[.int .i64 0,.ds true (qc wN [3]) (qa [3]) false,.ds true (qc zb [m0_2]) (qa [m0_2]) false,.agg (zb r4),.os true 11 1 0 0 1 true,.int .i64 4]) 2 [0,1,4,3] (ACalls.usR (σ:=[.cells 0 (zb m0_2),.cells 0 [.str [99],.int .i64 r5.fKind,.int .i64 r5.fN,.str r5.fS,.ds true (qc zx r5.fEntries) (qa r5.fEntries) false,.ds true (qc zs r5.fRest) (qa r5.fRest) false,.int .i64 r6.fKind,.int .i64 r6.fN,.str r6.fS,.ds true (qc zx r6.fEntries) (qa r6.fEntries) false,.ds true (qc zs r6.fRest) (qa r6.fRest) false],.dead,.dead]) (τ:=[.cells 0 (zb m0_2),.dead,.dead,.dead]) (args':=[.int .i64 0,.ds true (qc wN [3]) (qa [3]) false,.ds true (qc zb [m0_2]) (qa [m0_2]) false,.agg (zb r4),.os true 11 1 0 0 1 true,.int .i64 4]) (args:=[.int .i64 0,.ds true (qc wN [3]) (qa [3]) false,.ds true (qc zb [m0_2]) (qa [m0_2]) false,.agg (zb r4),.ds true (qc yx [(⟨[99],r5,r6⟩:GRow)]) (qa [(⟨[99],r5,r6⟩:GRow)]) false,.int .i64 4]) 1 [0,4,2,3] (Zy.at hr7 ([.cells 0 (zb m0_2),.dead,.dead,.dead]:ze))))) (XL (by simp only[go_sem,qf,qe])) ?_;refine DW.runN U 5 ?_;simp only[go_sem,qd,qb,qe,reduceCtorEq];refine DW.fin U (by decide +kernel) rfl ?_;simp only[zC,upd,qb,reduceIte,yX,xK];apply J
 generalize hz8:r7.1=z8 at h ⊢
 rcases z8 with _|y8
 · try dsimp only at h
   simp only[vcD,wQ];refine awp_eqS (τ:=[.cells 0 (zb m0_2),.dead,.dead,.dead]) (by first|rfl|(simp only[qq,qn,qE,qD,qH,renO_mapE,renO_cells,vb7,AV.ren,vd3,XV,qe]<;>first|rfl|(and_intros<;>rfl))) ?_
   refine za fun Z9 hZ9=>?_
   refine D [0,1,2,3,10,41] ?_;refine yn rfl (fun hc10=>?_) (fun hc10=>?_)
   · rw[if_neg hc10] at h;have t11:=eq_false hc10
     refine rg U [8] fun K J=>?_
     simp only[go_sem,qd,qb,reduceCtorEq,t11];apply J
     cases h;exact rtA
   rw[if_pos hc10] at h;have t12:=eq_true hc10;apply zj;apply hZ9
   refine rg U [0,1,2,3,10,12,13] fun K J=>?_
   simp only[go_sem,qd,qb,reduceCtorEq,t12];apply J
   refine xL (fun L τ=>∃ (x13:Int) (x14:Int),L=[(3,.int .i64 a3),(10,.nilp),(12,.int .i64 x13),(13,.int .i64 x14)]∧τ=([]:ze)∧law24_ServerRows.j15 a3 x13 x14=some r) ?_ ?_
   · refine D [0,1,3,10,12,13,44] ?_;refine zU (b:=a2) rfl (fun hc21=>?_) (fun hc21=>?_)
     · rw[if_pos hc21] at h
       refine rcE [3,10,12,13] fun K J=>?_
       obtain⟨r22,hr22,h⟩:=ye h;refine O 1 ?_;refine clN rfl rfl rfl ((Zl.ok hr22).c _) ?_;obtain⟨r23,hr23,h⟩:=ye h;refine O 1 ?_;refine clN rfl rfl rfl ((Zl.ok hr23).c _) ?_;refine O 2 ?_;refine nkN J ?_;exact⟨_,_,⟨r22,r23,rfl,rfl,h⟩,(.t [] false)⟩
     rw[Zf hc21] at h;apply zj;exact⟨_,_,⟨a0,a1,rfl,rfl,h⟩,(.t [] false)⟩
   rintro _ _ ⟨x13,x14,rfl,rfl,h⟩;unfold law24_ServerRows.j15 at h
   refine rc [3,10,13,14] fun K J=>?_
   obtain⟨r16,hr16,h⟩:=ye h;refine O 1 ?_;refine clN rfl rfl rfl ((xS.ok hr16).c _) ?_;obtain⟨r17,hr17,h⟩:=bind_some h;refine clN rfl rfl rfl ((wD.ok hr17).c _) ?_;refine O 5 ?_;refine nkN J ?_
   refine rc [3,10,14,16] fun K J=>?_
   obtain⟨r18,hr18,h⟩:=ye h;refine O 1 ?_;refine clN rfl rfl rfl ((xS.ok hr18).c _) ?_;obtain⟨r19,hr19,h⟩:=bind_some h;refine clN rfl rfl rfl ((wD.ok hr19).c _) ?_;refine O 5 ?_;refine nkN J ?_
   refine rc [10,14,16,18] fun K J=>?_
   obtain⟨r20,hr20,h⟩:=bind_some h;refine O 1 ?_;refine clN rfl rfl rfl ((wY.ok hr20).c _) ?_;refine O 1 ?_;refine nkN J ?_;cases h
 try dsimp only at h
 simp only[vcC,wQ];refine awp_eqS (τ:=[.cells 0 (zb m0_2),.dead,.dead,.dead,.cells 0 [.int .i64 y8.fself,.ds true (qc wN y8.fnumbers) (qa y8.fnumbers) false,.ds true (qc zb y8.fschemas) (qa y8.fschemas) false,.str y8.fnewest.fName,.ds true (qc zf y8.fnewest.fMessages) (qa y8.fnewest.fMessages) false,.ds true (qc zh y8.fnewest.fEnums) (qa y8.fnewest.fEnums) false,.ds true (qc zq y8.fnewest.fMethods) (qa y8.fnewest.fMethods) false,.ds true (qc yx y8.frows) (qa y8.frows) false,.op 5 0 0,.os true 8 9 (y8.veffects) 0 (qa y8.feffects) false],.cells 0 [.int .i64 y8.fcache.fsize,.os true 2 6 (y8.fcache.vorder) 0 (qa y8.fcache.forder) false,.mp 7,.mp 8],.cells (y8.fcache.vorder) (qc zp y8.fcache.forder),.map (yN zD zT y8.fcache.freplies.l) (some (y8.fcache.freplies.bs,y8.fcache.freplies.ck)),.map (yN (AV.int .i64) (AV.int .i64) y8.fcache.flast.l) (some (y8.fcache.flast.bs,y8.fcache.flast.ck)),.cells (y8.veffects) (qc zl y8.feffects)]) (by first|rfl|(simp only[qq,qn,renO_mapE,renO_cells,vb7,AV.ren,XV,qe]<;>first|rfl|(and_intros<;>rfl))) ?_
 refine za fun Z24 hZ24=>?_
 refine D [0,1,2,3,10,41] ?_;refine yn rfl (fun hc25=>?_) (fun hc25=>?_)
 · rw[if_neg hc25] at h;have t26:=eq_false hc25
   refine rg U [8] fun K J=>?_
   simp only[go_sem,qd,qb,reduceCtorEq,t26];apply J
   cases h;exact rtA
 rw[if_pos hc25] at h;have t27:=eq_true hc25;apply zj;apply hZ24
 refine rg U [0,1,2,3,10,12,13] fun K J=>?_
 simp only[go_sem,qd,qb,reduceCtorEq,t27];apply J
 refine xL (fun L τ=>∃ (x28:Int) (x29:Int),L=[(3,.int .i64 a3),(10,.op 0 0 0),(12,.int .i64 x28),(13,.int .i64 x29)]∧τ=([.cells 0 [.int .i64 y8.fself,.ds true (qc wN y8.fnumbers) (qa y8.fnumbers) false,.ds true (qc zb y8.fschemas) (qa y8.fschemas) false,.str y8.fnewest.fName,.ds true (qc zf y8.fnewest.fMessages) (qa y8.fnewest.fMessages) false,.ds true (qc zh y8.fnewest.fEnums) (qa y8.fnewest.fEnums) false,.ds true (qc zq y8.fnewest.fMethods) (qa y8.fnewest.fMethods) false,.ds true (qc yx y8.frows) (qa y8.frows) false,.op 1 0 0,.os true 8 5 (y8.veffects) 0 (qa y8.feffects) false],.cells 0 [.int .i64 y8.fcache.fsize,.os true 2 2 (y8.fcache.vorder) 0 (qa y8.fcache.forder) false,.mp 3,.mp 4],.cells (y8.fcache.vorder) (qc zp y8.fcache.forder),.map (yN zD zT y8.fcache.freplies.l) (some (y8.fcache.freplies.bs,y8.fcache.freplies.ck)),.map (yN (AV.int .i64) (AV.int .i64) y8.fcache.flast.l) (some (y8.fcache.flast.bs,y8.fcache.flast.ck)),.cells (y8.veffects) (qc zl y8.feffects)]:ze)∧law24_ServerRows.j30 a3 y8 x28 x29=some r) ?_ ?_
 · refine D [0,1,3,10,12,13,44] ?_;refine zU (b:=a2) rfl (fun hc42=>?_) (fun hc42=>?_)
   · rw[if_pos hc42] at h
     refine rcE [3,10,12,13] fun K J=>?_
     obtain⟨r43,hr43,h⟩:=ye h;refine O 1 ?_;refine clN rfl rfl rfl ((Zl.ok hr43).c _) ?_;obtain⟨r44,hr44,h⟩:=ye h;refine O 1 ?_;refine clN rfl rfl rfl ((Zl.ok hr44).c _) ?_;refine O 2 ?_;refine nkN J ?_;exact⟨_,_,⟨r43,r44,rfl,rfl,h⟩,(.t [4,5,6,7,8,9] false)⟩
   rw[Zf hc42] at h;apply zj;exact⟨_,_,⟨a0,a1,rfl,rfl,h⟩,(.t [4,5,6,7,8,9] false)⟩
 rintro _ _ ⟨x28,x29,rfl,rfl,h⟩;unfold law24_ServerRows.j30 at h
 refine rc [3,10,13,14] fun K J=>?_
 obtain⟨r31,hr31,h⟩:=ye h;refine O 1 ?_;refine clN rfl rfl rfl ((xS.ok hr31).c _) ?_;obtain⟨r32,hr32,h⟩:=bind_some h;refine clN rfl rfl rfl ((wD.ok hr32).c _) ?_;refine O 5 ?_;refine nkN J ?_
 refine rc [3,10,14,16] fun K J=>?_
 obtain⟨r33,hr33,h⟩:=ye h;refine O 1 ?_;refine clN rfl rfl rfl ((xS.ok hr33).c _) ?_;obtain⟨r34,hr34,h⟩:=bind_some h;refine clN rfl rfl rfl ((wD.ok hr34).c _) ?_;refine O 5 ?_;refine nkN J ?_
 refine rc [10,14,16,18] fun K J=>?_
 obtain⟨r35,hr35,h⟩:=bind_some h;refine O 1 ?_;refine clN rfl rfl rfl ((wY.ok hr35).c _) ?_;refine O 1 ?_;refine nkN J ?_
 refine rc [10,16,18,19,20] fun K J=>?_
 have f36:=vb0 (T:=tab) (src:=48) (dst:=9) rfl rfl rfl rfl rfl rfl r32.1;obtain⟨r37,hr37,h⟩:=bind_some h;refine zB U 5 ?_;simp only[go_sem,qd,qf,qb,qe,f36];refine clN rfl rfl rfl (@id (ACalls qg 47 [.op 0 0 0,.agg [.int .i64 3,.int .i64 2,.int .i64 0,.int .i64 r35,.int .i64 3,.str [99],.int .i64 0,.str r32.1]] [.cells 0 [.int .i64 y8.fself,.ds true (qc wN y8.fnumbers) (qa y8.fnumbers) false,.ds true (qc zb y8.fschemas) (qa y8.fschemas) false,.str y8.fnewest.fName,.ds true (qc zf y8.fnewest.fMessages) (qa y8.fnewest.fMessages) false,.ds true (qc zh y8.fnewest.fEnums) (qa y8.fnewest.fEnums) false,.ds true (qc zq y8.fnewest.fMethods) (qa y8.fnewest.fMethods) false,.ds true (qc yx y8.frows) (qa y8.frows) false,.op 1 0 0,.os true 8 5 (y8.veffects) 0 (qa y8.feffects) false],.cells 0 [.int .i64 y8.fcache.fsize,.os true 2 2 (y8.fcache.vorder) 0 (qa y8.fcache.forder) false,.mp 3,.mp 4],.cells (y8.fcache.vorder) (qc zp y8.fcache.forder),.map (yN zD zT y8.fcache.freplies.l) (some (y8.fcache.freplies.bs,y8.fcache.freplies.ck)),.map (yN (AV.int .i64) (AV.int .i64) y8.fcache.flast.l) (some (y8.fcache.flast.bs,y8.fcache.flast.ck)),.cells (y8.veffects) (qc zl y8.feffects)] (fun r' σ'=>r'=.tup [.agg (zv r37.1),.bool r37.2.1]∧σ'=[.cells 0 [.int .i64 r37.2.2.fself,.ds true (qc wN r37.2.2.fnumbers) (qa r37.2.2.fnumbers) false,.ds true (qc zb r37.2.2.fschemas) (qa r37.2.2.fschemas) false,.str r37.2.2.fnewest.fName,.ds true (qc zf r37.2.2.fnewest.fMessages) (qa r37.2.2.fnewest.fMessages) false,.ds true (qc zh r37.2.2.fnewest.fEnums) (qa r37.2.2.fnewest.fEnums) false,.ds true (qc zq r37.2.2.fnewest.fMethods) (qa r37.2.2.fnewest.fMethods) false,.ds true (qc yx r37.2.2.frows) (qa r37.2.2.frows) false,.op 1 0 0,.os true 8 5 (r37.2.2.veffects) 0 (qa r37.2.2.feffects) false],.cells 0 [.int .i64 r37.2.2.fcache.fsize,.os true 2 2 (r37.2.2.fcache.vorder) 0 (qa r37.2.2.fcache.forder) false,.mp 3,.mp 4],.cells (r37.2.2.fcache.vorder) (qc zp r37.2.2.fcache.forder),.map (yN zD zT r37.2.2.fcache.freplies.l) (some (r37.2.2.fcache.freplies.bs,r37.2.2.fcache.freplies.ck)),.map (yN (AV.int .i64) (AV.int .i64) r37.2.2.fcache.flast.l) (some (r37.2.2.fcache.flast.bs,r37.2.2.fcache.flast.ck)),.cells (r37.2.2.veffects) (qc zl r37.2.2.feffects)])) ((xi.ok hr37).ix [0,1,2,3,4,5])) ?_;refine zB U 6 ?_;simp only[go_sem,qd,qf,qb,qe,zv];refine nkN J ?_
 refine rc [16,18,19,20,21,22] fun K J=>?_
 obtain⟨r38,hr38,h⟩:=bind_some h;refine O 3 ?_;refine clN rfl rfl rfl (@id (ACalls qg 47 [.op 0 0 0,.agg [.int .i64 1,.int .i64 2,.int .i64 0,.int .i64 r35,.int .i64 0,.str [],.int .i64 0,.str [1,3,5]]] [.cells 0 [.int .i64 r37.2.2.fself,.ds true (qc wN r37.2.2.fnumbers) (qa r37.2.2.fnumbers) false,.ds true (qc zb r37.2.2.fschemas) (qa r37.2.2.fschemas) false,.str r37.2.2.fnewest.fName,.ds true (qc zf r37.2.2.fnewest.fMessages) (qa r37.2.2.fnewest.fMessages) false,.ds true (qc zh r37.2.2.fnewest.fEnums) (qa r37.2.2.fnewest.fEnums) false,.ds true (qc zq r37.2.2.fnewest.fMethods) (qa r37.2.2.fnewest.fMethods) false,.ds true (qc yx r37.2.2.frows) (qa r37.2.2.frows) false,.op 1 0 0,.os true 8 5 (r37.2.2.veffects) 0 (qa r37.2.2.feffects) false],.cells 0 [.int .i64 r37.2.2.fcache.fsize,.os true 2 2 (r37.2.2.fcache.vorder) 0 (qa r37.2.2.fcache.forder) false,.mp 3,.mp 4],.cells (r37.2.2.fcache.vorder) (qc zp r37.2.2.fcache.forder),.map (yN zD zT r37.2.2.fcache.freplies.l) (some (r37.2.2.fcache.freplies.bs,r37.2.2.fcache.freplies.ck)),.map (yN (AV.int .i64) (AV.int .i64) r37.2.2.fcache.flast.l) (some (r37.2.2.fcache.flast.bs,r37.2.2.fcache.flast.ck)),.cells (r37.2.2.veffects) (qc zl r37.2.2.feffects),.cells 0 (zv r37.1)] (fun r' σ'=>r'=.tup [.agg (zv r38.1),.bool r38.2.1]∧σ'=[.cells 0 [.int .i64 r38.2.2.fself,.ds true (qc wN r38.2.2.fnumbers) (qa r38.2.2.fnumbers) false,.ds true (qc zb r38.2.2.fschemas) (qa r38.2.2.fschemas) false,.str r38.2.2.fnewest.fName,.ds true (qc zf r38.2.2.fnewest.fMessages) (qa r38.2.2.fnewest.fMessages) false,.ds true (qc zh r38.2.2.fnewest.fEnums) (qa r38.2.2.fnewest.fEnums) false,.ds true (qc zq r38.2.2.fnewest.fMethods) (qa r38.2.2.fnewest.fMethods) false,.ds true (qc yx r38.2.2.frows) (qa r38.2.2.frows) false,.op 1 0 0,.os true 8 5 (r38.2.2.veffects) 0 (qa r38.2.2.feffects) false],.cells 0 [.int .i64 r38.2.2.fcache.fsize,.os true 2 2 (r38.2.2.fcache.vorder) 0 (qa r38.2.2.fcache.forder) false,.mp 3,.mp 4],.cells (r38.2.2.fcache.vorder) (qc zp r38.2.2.fcache.forder),.map (yN zD zT r38.2.2.fcache.freplies.l) (some (r38.2.2.fcache.freplies.bs,r38.2.2.fcache.freplies.ck)),.map (yN (AV.int .i64) (AV.int .i64) r38.2.2.fcache.flast.l) (some (r38.2.2.fcache.flast.bs,r38.2.2.fcache.flast.ck)),.cells (r38.2.2.veffects) (qc zl r38.2.2.feffects),.cells 0 (zv r37.1)])) ((xi.ok hr38).ix [0,1,2,3,4,5])) ?_;refine zB U 6 ?_;simp only[go_sem,qd,qf,qb,qe,zv];refine nkN J ?_
 refine rc [8] fun K J=>?_
 refine O 2 ?_;refine zH 7 (fun L τ=>L=[(21,.op 7 0 0),(22,.bool r38.2.1),(87,.bool (r37.2.1&&(decide (r37.1.fKind=4)&&(decide (r37.1.fFrom=0)&&(decide (r37.1.fTo=2)&&(decide (r37.1.fID=r35)&&(decide (r37.1.fVersion=3)&&(decide (r37.1.fMethod=[99])&&(decide (r37.1.fErr=0)&&decide (r37.1.fBody=r34.1))))))))))]∧τ=([.cells 0 [.int .i64 r38.2.2.fself,.ds true (qc wN r38.2.2.fnumbers) (qa r38.2.2.fnumbers) false,.ds true (qc zb r38.2.2.fschemas) (qa r38.2.2.fschemas) false,.str r38.2.2.fnewest.fName,.ds true (qc zf r38.2.2.fnewest.fMessages) (qa r38.2.2.fnewest.fMessages) false,.ds true (qc zh r38.2.2.fnewest.fEnums) (qa r38.2.2.fnewest.fEnums) false,.ds true (qc zq r38.2.2.fnewest.fMethods) (qa r38.2.2.fnewest.fMethods) false,.ds true (qc yx r38.2.2.frows) (qa r38.2.2.frows) false,.op 1 0 0,.os true 8 5 (r38.2.2.veffects) 0 (qa r38.2.2.feffects) false],.cells 0 [.int .i64 r38.2.2.fcache.fsize,.os true 2 2 (r38.2.2.fcache.vorder) 0 (qa r38.2.2.fcache.forder) false,.mp 3,.mp 4],.cells (r38.2.2.fcache.vorder) (qc zp r38.2.2.fcache.forder),.map (yN zD zT r38.2.2.fcache.freplies.l) (some (r38.2.2.fcache.freplies.bs,r38.2.2.fcache.freplies.ck)),.map (yN (AV.int .i64) (AV.int .i64) r38.2.2.fcache.flast.l) (some (r38.2.2.fcache.flast.bs,r38.2.2.fcache.flast.ck)),.cells (r38.2.2.veffects) (qc zl r38.2.2.feffects),.cells 0 (zv r37.1),.cells 0 (zv r38.1)]:ze)) ?_ ?_
 · refine yB (b:=r37.2.1) 80 rfl (fun hg80=>?_) (fun hg80=>?_)
   · have f39:=vb0 (T:=tab) (src:=48) (dst:=9) rfl rfl rfl rfl rfl rfl r34.1;refine zB U 7 ?_;simp only[go_sem,qd,qf,qb,qe,f39,evEqA,vat,ceq];refine zi ⟨rfl,_,_,⟨rfl,rfl⟩,.b hg80⟩
   refine O 7 ?_;refine zi ⟨rfl,_,_,⟨rfl,rfl⟩,.b hg80⟩
 rintro _ _ ⟨rfl,rfl⟩;refine O 1 ?_;refine zH 2 (fun L τ=>L=[(21,.op 7 0 0),(90,.bool ((r37.2.1&&(decide (r37.1.fKind=4)&&(decide (r37.1.fFrom=0)&&(decide (r37.1.fTo=2)&&(decide (r37.1.fID=r35)&&(decide (r37.1.fVersion=3)&&(decide (r37.1.fMethod=[99])&&(decide (r37.1.fErr=0)&&decide (r37.1.fBody=r34.1)))))))))&&r38.2.1))]∧τ=([.cells 0 [.int .i64 r38.2.2.fself,.ds true (qc wN r38.2.2.fnumbers) (qa r38.2.2.fnumbers) false,.ds true (qc zb r38.2.2.fschemas) (qa r38.2.2.fschemas) false,.str r38.2.2.fnewest.fName,.ds true (qc zf r38.2.2.fnewest.fMessages) (qa r38.2.2.fnewest.fMessages) false,.ds true (qc zh r38.2.2.fnewest.fEnums) (qa r38.2.2.fnewest.fEnums) false,.ds true (qc zq r38.2.2.fnewest.fMethods) (qa r38.2.2.fnewest.fMethods) false,.ds true (qc yx r38.2.2.frows) (qa r38.2.2.frows) false,.op 1 0 0,.os true 8 5 (r38.2.2.veffects) 0 (qa r38.2.2.feffects) false],.cells 0 [.int .i64 r38.2.2.fcache.fsize,.os true 2 2 (r38.2.2.fcache.vorder) 0 (qa r38.2.2.fcache.forder) false,.mp 3,.mp 4],.cells (r38.2.2.fcache.vorder) (qc zp r38.2.2.fcache.forder),.map (yN zD zT r38.2.2.fcache.freplies.l) (some (r38.2.2.fcache.freplies.bs,r38.2.2.fcache.freplies.ck)),.map (yN (AV.int .i64) (AV.int .i64) r38.2.2.fcache.flast.l) (some (r38.2.2.fcache.flast.bs,r38.2.2.fcache.flast.ck)),.cells (r38.2.2.veffects) (qc zl r38.2.2.feffects),.cells 0 (zv r37.1),.cells 0 (zv r38.1)]:ze)) ?_ ?_
 · refine yB (b:=(r37.2.1&&(decide (r37.1.fKind=4)&&(decide (r37.1.fFrom=0)&&(decide (r37.1.fTo=2)&&(decide (r37.1.fID=r35)&&(decide (r37.1.fVersion=3)&&(decide (r37.1.fMethod=[99])&&(decide (r37.1.fErr=0)&&decide (r37.1.fBody=r34.1)))))))))) 88 rfl (fun hg88=>?_) (fun hg88=>?_)
   · refine O 2 ?_;refine zi ⟨rfl,_,_,⟨rfl,rfl⟩,.b hg88⟩
   refine O 2 ?_;refine zi ⟨rfl,_,_,⟨rfl,rfl⟩,.b hg88⟩
 rintro _ _ ⟨rfl,rfl⟩;refine O 1 ?_;refine zH 4 (fun L τ=>L=[(21,.op 7 0 0),(95,.bool (((r37.2.1&&(decide (r37.1.fKind=4)&&(decide (r37.1.fFrom=0)&&(decide (r37.1.fTo=2)&&(decide (r37.1.fID=r35)&&(decide (r37.1.fVersion=3)&&(decide (r37.1.fMethod=[99])&&(decide (r37.1.fErr=0)&&decide (r37.1.fBody=r34.1)))))))))&&r38.2.1)&&(decide (r38.1.fVersion=3))))]∧τ=([.cells 0 [.int .i64 r38.2.2.fself,.ds true (qc wN r38.2.2.fnumbers) (qa r38.2.2.fnumbers) false,.ds true (qc zb r38.2.2.fschemas) (qa r38.2.2.fschemas) false,.str r38.2.2.fnewest.fName,.ds true (qc zf r38.2.2.fnewest.fMessages) (qa r38.2.2.fnewest.fMessages) false,.ds true (qc zh r38.2.2.fnewest.fEnums) (qa r38.2.2.fnewest.fEnums) false,.ds true (qc zq r38.2.2.fnewest.fMethods) (qa r38.2.2.fnewest.fMethods) false,.ds true (qc yx r38.2.2.frows) (qa r38.2.2.frows) false,.op 1 0 0,.os true 8 5 (r38.2.2.veffects) 0 (qa r38.2.2.feffects) false],.cells 0 [.int .i64 r38.2.2.fcache.fsize,.os true 2 2 (r38.2.2.fcache.vorder) 0 (qa r38.2.2.fcache.forder) false,.mp 3,.mp 4],.cells (r38.2.2.fcache.vorder) (qc zp r38.2.2.fcache.forder),.map (yN zD zT r38.2.2.fcache.freplies.l) (some (r38.2.2.fcache.freplies.bs,r38.2.2.fcache.freplies.ck)),.map (yN (AV.int .i64) (AV.int .i64) r38.2.2.fcache.flast.l) (some (r38.2.2.fcache.flast.bs,r38.2.2.fcache.flast.ck)),.cells (r38.2.2.veffects) (qc zl r38.2.2.feffects),.cells 0 (zv r37.1),.cells 0 (zv r38.1)]:ze)) ?_ ?_
 · refine yB (b:=((r37.2.1&&(decide (r37.1.fKind=4)&&(decide (r37.1.fFrom=0)&&(decide (r37.1.fTo=2)&&(decide (r37.1.fID=r35)&&(decide (r37.1.fVersion=3)&&(decide (r37.1.fMethod=[99])&&(decide (r37.1.fErr=0)&&decide (r37.1.fBody=r34.1)))))))))&&r38.2.1)) 91 rfl (fun hg91=>?_) (fun hg91=>?_)
   · refine O 4 ?_;refine zi ⟨rfl,_,_,⟨rfl,rfl⟩,.b hg91⟩
   refine O 4 ?_;refine zi ⟨rfl,_,_,⟨rfl,rfl⟩,.b hg91⟩
 rintro _ _ ⟨rfl,rfl⟩;refine O 1 ?_;refine zH 4 (fun L τ=>L=[(21,.op 7 0 0),(100,.bool ((((r37.2.1&&(decide (r37.1.fKind=4)&&(decide (r37.1.fFrom=0)&&(decide (r37.1.fTo=2)&&(decide (r37.1.fID=r35)&&(decide (r37.1.fVersion=3)&&(decide (r37.1.fMethod=[99])&&(decide (r37.1.fErr=0)&&decide (r37.1.fBody=r34.1)))))))))&&r38.2.1)&&(decide (r38.1.fVersion=3)))&&(decide (r38.1.fKind=2))))]∧τ=([.cells 0 [.int .i64 r38.2.2.fself,.ds true (qc wN r38.2.2.fnumbers) (qa r38.2.2.fnumbers) false,.ds true (qc zb r38.2.2.fschemas) (qa r38.2.2.fschemas) false,.str r38.2.2.fnewest.fName,.ds true (qc zf r38.2.2.fnewest.fMessages) (qa r38.2.2.fnewest.fMessages) false,.ds true (qc zh r38.2.2.fnewest.fEnums) (qa r38.2.2.fnewest.fEnums) false,.ds true (qc zq r38.2.2.fnewest.fMethods) (qa r38.2.2.fnewest.fMethods) false,.ds true (qc yx r38.2.2.frows) (qa r38.2.2.frows) false,.op 1 0 0,.os true 8 5 (r38.2.2.veffects) 0 (qa r38.2.2.feffects) false],.cells 0 [.int .i64 r38.2.2.fcache.fsize,.os true 2 2 (r38.2.2.fcache.vorder) 0 (qa r38.2.2.fcache.forder) false,.mp 3,.mp 4],.cells (r38.2.2.fcache.vorder) (qc zp r38.2.2.fcache.forder),.map (yN zD zT r38.2.2.fcache.freplies.l) (some (r38.2.2.fcache.freplies.bs,r38.2.2.fcache.freplies.ck)),.map (yN (AV.int .i64) (AV.int .i64) r38.2.2.fcache.flast.l) (some (r38.2.2.fcache.flast.bs,r38.2.2.fcache.flast.ck)),.cells (r38.2.2.veffects) (qc zl r38.2.2.feffects),.cells 0 (zv r37.1),.cells 0 (zv r38.1)]:ze)) ?_ ?_
 · refine yB (b:=(((r37.2.1&&(decide (r37.1.fKind=4)&&(decide (r37.1.fFrom=0)&&(decide (r37.1.fTo=2)&&(decide (r37.1.fID=r35)&&(decide (r37.1.fVersion=3)&&(decide (r37.1.fMethod=[99])&&(decide (r37.1.fErr=0)&&decide (r37.1.fBody=r34.1)))))))))&&r38.2.1)&&(decide (r38.1.fVersion=3)))) 96 rfl (fun hg96=>?_) (fun hg96=>?_)
   · refine O 4 ?_;refine zi ⟨rfl,_,_,⟨rfl,rfl⟩,.b hg96⟩
   refine O 4 ?_;refine zi ⟨rfl,_,_,⟨rfl,rfl⟩,.b hg96⟩
 rintro _ _ ⟨rfl,rfl⟩;refine O 1 ?_;refine zH 4 (fun L τ=>L=[(105,.bool (((((r37.2.1&&(decide (r37.1.fKind=4)&&(decide (r37.1.fFrom=0)&&(decide (r37.1.fTo=2)&&(decide (r37.1.fID=r35)&&(decide (r37.1.fVersion=3)&&(decide (r37.1.fMethod=[99])&&(decide (r37.1.fErr=0)&&decide (r37.1.fBody=r34.1)))))))))&&r38.2.1)&&(decide (r38.1.fVersion=3)))&&(decide (r38.1.fKind=2)))&&(decide (r38.1.fTo=2))))]∧τ=([.cells 0 [.int .i64 r38.2.2.fself,.ds true (qc wN r38.2.2.fnumbers) (qa r38.2.2.fnumbers) false,.ds true (qc zb r38.2.2.fschemas) (qa r38.2.2.fschemas) false,.str r38.2.2.fnewest.fName,.ds true (qc zf r38.2.2.fnewest.fMessages) (qa r38.2.2.fnewest.fMessages) false,.ds true (qc zh r38.2.2.fnewest.fEnums) (qa r38.2.2.fnewest.fEnums) false,.ds true (qc zq r38.2.2.fnewest.fMethods) (qa r38.2.2.fnewest.fMethods) false,.ds true (qc yx r38.2.2.frows) (qa r38.2.2.frows) false,.op 1 0 0,.os true 8 5 (r38.2.2.veffects) 0 (qa r38.2.2.feffects) false],.cells 0 [.int .i64 r38.2.2.fcache.fsize,.os true 2 2 (r38.2.2.fcache.vorder) 0 (qa r38.2.2.fcache.forder) false,.mp 3,.mp 4],.cells (r38.2.2.fcache.vorder) (qc zp r38.2.2.fcache.forder),.map (yN zD zT r38.2.2.fcache.freplies.l) (some (r38.2.2.fcache.freplies.bs,r38.2.2.fcache.freplies.ck)),.map (yN (AV.int .i64) (AV.int .i64) r38.2.2.fcache.flast.l) (some (r38.2.2.fcache.flast.bs,r38.2.2.fcache.flast.ck)),.cells (r38.2.2.veffects) (qc zl r38.2.2.feffects),.cells 0 (zv r37.1),.cells 0 (zv r38.1)]:ze)) ?_ ?_
 · refine yB (b:=((((r37.2.1&&(decide (r37.1.fKind=4)&&(decide (r37.1.fFrom=0)&&(decide (r37.1.fTo=2)&&(decide (r37.1.fID=r35)&&(decide (r37.1.fVersion=3)&&(decide (r37.1.fMethod=[99])&&(decide (r37.1.fErr=0)&&decide (r37.1.fBody=r34.1)))))))))&&r38.2.1)&&(decide (r38.1.fVersion=3)))&&(decide (r38.1.fKind=2)))) 101 rfl (fun hg101=>?_) (fun hg101=>?_)
   · refine O 4 ?_;refine zi ⟨rfl,_,_,⟨rfl,rfl⟩,.b hg101⟩
   refine O 4 ?_;refine zi ⟨rfl,_,_,⟨rfl,rfl⟩,.b hg101⟩
 rintro _ _ ⟨rfl,rfl⟩;refine O 1 ?_;obtain⟨c40,hc40,h⟩:=bind_some h;refine zH 2 (fun L τ=>L=[(108,.bool c40)]∧τ=([.cells 0 [.int .i64 r38.2.2.fself,.ds true (qc wN r38.2.2.fnumbers) (qa r38.2.2.fnumbers) false,.ds true (qc zb r38.2.2.fschemas) (qa r38.2.2.fschemas) false,.str r38.2.2.fnewest.fName,.ds true (qc zf r38.2.2.fnewest.fMessages) (qa r38.2.2.fnewest.fMessages) false,.ds true (qc zh r38.2.2.fnewest.fEnums) (qa r38.2.2.fnewest.fEnums) false,.ds true (qc zq r38.2.2.fnewest.fMethods) (qa r38.2.2.fnewest.fMethods) false,.ds true (qc yx r38.2.2.frows) (qa r38.2.2.frows) false,.op 1 0 0,.os true 8 5 (r38.2.2.veffects) 0 (qa r38.2.2.feffects) false],.cells 0 [.int .i64 r38.2.2.fcache.fsize,.os true 2 2 (r38.2.2.fcache.vorder) 0 (qa r38.2.2.fcache.forder) false,.mp 3,.mp 4],.cells (r38.2.2.fcache.vorder) (qc zp r38.2.2.fcache.forder),.map (yN zD zT r38.2.2.fcache.freplies.l) (some (r38.2.2.fcache.freplies.bs,r38.2.2.fcache.freplies.ck)),.map (yN (AV.int .i64) (AV.int .i64) r38.2.2.fcache.flast.l) (some (r38.2.2.fcache.flast.bs,r38.2.2.fcache.flast.ck)),.cells (r38.2.2.veffects) (qc zl r38.2.2.feffects),.cells 0 (zv r37.1),.cells 0 (zv r38.1)]:ze)) ?_ ?_
 · refine yB (b:=(((((r37.2.1&&(decide (r37.1.fKind=4)&&(decide (r37.1.fFrom=0)&&(decide (r37.1.fTo=2)&&(decide (r37.1.fID=r35)&&(decide (r37.1.fVersion=3)&&(decide (r37.1.fMethod=[99])&&(decide (r37.1.fErr=0)&&decide (r37.1.fBody=r34.1)))))))))&&r38.2.1)&&(decide (r38.1.fVersion=3)))&&(decide (r38.1.fKind=2)))&&(decide (r38.1.fTo=2)))) 106 rfl (fun hg106=>?_) (fun hg106=>?_)
   · rw[if_pos hg106] at hc40;obtain⟨r41,hr41,hc40⟩:=bind_some hc40;refine clN rfl rfl rfl ((Xr.ok r41 hr41).c _) ?_;refine O 1 ?_;cases hc40;refine zi ⟨rfl,_,_,⟨rfl,rfl⟩,.b hg106⟩
   rw[Zf hg106] at hc40;refine O 2 ?_;cases hc40;refine zi ⟨rfl,_,_,⟨rfl,rfl⟩,.b hg106⟩
 rintro _ _ ⟨rfl,rfl⟩;refine O 1 ?_;refine nkN J ?_;cases h;exact rtA
end
end Go.Proofs.YtaahlckibpiphaaGreatDoor
