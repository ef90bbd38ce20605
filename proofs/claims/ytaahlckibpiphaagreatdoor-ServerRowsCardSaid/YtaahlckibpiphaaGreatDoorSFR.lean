/- Parts of the proof, cut down to what it needs. -/
import Derived.Test.YtaahlckibpiphaaGreatDoorSU
import Derived.Shelf.Spec.SlicesInsert
import Derived.Lib.AppendZerosOnto
import Derived.RangeFuncRecord
set_option linter.constructorNameAsVariable false
set_option linter.unusedSimpArgs false
set_option linter.unusedVariables false
namespace Go.Proofs.YtaahlckibpiphaaGreatDoor
open _root_.List renaming length → qa, flatMap → qc, length_append → qk, length_cons → ql, map_nil → qn, map_cons → qq, length_nil → qr, append_assoc → qx, drop_zero → qz, mem_cons_self → qA, mem_cons_of_mem → qB, nil_append → qD, append_nil → qE, map_append → qF, getD_eq_getElem?_getD → qG, cons_append → qH, getElem?_eq_some_iff → qN, length_eq_zero_iff → qP, range_zero → qQ, replicate → qR, length_singleton → qS, getElem?_eq_getElem → qT, flatMap_cons → qU, getElem?_append_left → qV, mem_cons → qW, flatMap_append → qX, range_succ → qZ, all_cons → q9, all_nil → uc, flatMap_nil → uf, getElem?_set_ne → ug, all_eq_true → uh, take_length → uj, length_map → uk, eq_nil_of_length_eq_zero → ul, getElem?_eq_none → uq, getElem?_append_right → ut, getElem?_set_self → uv, take_append_drop → uz, set_cons_zero → uB, range → uD, mem_map → uF, filter_cons → uH, getElem?_cons_zero → uL, length_take → uR, set_cons_succ → uU, mem_append_right → uV, mem_append_left → uZ, mem_append → u5, mem_of_getElem? → u9, toList_toArray → ve, drop_drop → vn, getElem?_map → vp
open _root_.Option renaming bind_some → qh, map_some → uG
open _root_.Nat renaming reduceEqDiff → qb, reduceLT → qd, reduceAdd → qe, reduceLeDiff → qf, reduceMul → qj, reduceSub → qm, zero_add → qo, le_refl → qw, lt_succ_self → qy, mul_le_mul_right → ua, reduceMod → ue, lt_of_lt_of_le → uo, zero_le → uu, zero_mul → uw, sub_self → uI, le_trans → uJ, add_zero → uP, sub_zero → uX, add_mul → u0, le_of_not_lt → u6, add_assoc → vj
open _root_.Bool renaming or_true → qs, not_false → qt, not_true → qu, and_false → qv, and_eq_true → qC, and_true → qI, or_false → qK, and_self → qM, false_eq_true → ud, true_and → um, true_or → uA, false_or → uC, false_and → uY
open _root_.Int renaming toNat → qO, toNat_natCast → qY
open _root_.BitVec renaming ofInt → qJ, toNat → ux
open _root_.Array renaming getElem?_setIfInBounds_ne → uO, replicate → uS, toList_map → vo
open _root_.UInt8 renaming ofNat → ub
open Result renaming andThen_ok → qi
open Sem renaming run_bind → qp, run_pure → qL
open _root_.Go.Proofs.Tryz renaming prog → qg
section
set_option maxRecDepth 4000
set_option maxHeartbeats 1000000
open AM
def Xo (a0:List UInt8)(a1:Int):Option (Int×Int×Bool):=
 (if ((decide (a1<0))||(decide ((qa a0:Int)≤a1)))=true then some (0,0,false) else (grd ((0:Int)≤a1∧a1≤(qa a0:Int)∧(qa a0:Int)≤(qa a0:Int))).bind fun _u5=>bnd (va5 (vct a0 a1 (qa a0:Int))) fun r7=>(if ((decide (r7.1=65533))&&(decide (r7.2<2)))=true then some (0,0,false) else some (r7.1,r7.2,true)))
theorem Xo.ok {a0 a1 r}(h:Xo a0 a1=some r):ACalls qg 224 [.str a0,.int .i64 a1] [] (fun r' _=>r'=.tup [.int .i32 r.1,.int .i64 r.2.1,.bool r.2.2]):=by
 refine zt (rs:=[.tmp 4,.tmp 5,.tmp 6]) U Tryz.func224 rfl Tryz.ntmps224 rfl Tryz.call224 (by simp) ?_;refine zA [(0,.str a0),(1,.int .i64 a1)] ⟨rfl,rfl,trivial⟩ ?_;unfold Xo at h;refine D [0,1] ?_
 refine za fun Z1 hZ1=>?_
 refine rc [0,1,16] fun K J=>?_
 refine O 3 ?_;refine zH 5 (fun L τ=>L=[(0,.str a0),(1,.int .i64 a1),(16,.bool ((decide (a1<0))||(decide ((qa a0:Int)≤a1))))]∧τ=([]:ze)) ?_ ?_
 · refine wh 11 rfl (fun hg11=>?_) (fun hg11=>?_)
   · have t2:=eq_true hg11;refine O 5 ?_;refine zi ⟨rfl,_,_,⟨rfl,rfl⟩,.p t2⟩
   have t3:=eq_false hg11;refine O 5 ?_;refine zi ⟨rfl,_,_,⟨rfl,rfl⟩,.p t3⟩
 rintro _ _ ⟨rfl,rfl⟩;refine nkN J ?_;refine zU (b:=((decide (a1<0))||(decide ((qa a0:Int)≤a1)))) rfl (fun hc4=>?_) (fun hc4=>?_)
 · rw[if_pos hc4] at h;refine D [4,5,6] ?_;cases h;exact rtA
 rw[Zf hc4] at h;apply zj;apply hZ1
 refine rc [7,8] fun K J=>?_
 obtain⟨_u5,hu5,h⟩:=bind_some h;have gu5:=Ya hu5;have f6:=str_lo (T:=tab) (t:=9) rfl rfl gu5;obtain⟨r7,hr7,h⟩:=ye h;refine zB U 3 ?_;simp only[go_sem,qd,qb,reduceCtorEq,f6];refine clN rfl rfl rfl (va5.ev (vct a0 a1 (qa a0:Int)) r7 hr7 _) ?_;refine O 5 ?_;refine nkN J ?_
 refine za fun Z8 hZ8=>?_
 refine rc [7,8,29] fun K J=>?_
 refine O 3 ?_;refine zH 3 (fun L τ=>L=[(7,.int .i32 r7.1),(8,.int .i64 r7.2),(29,.bool ((decide (r7.1=65533))&&(decide (r7.2<2))))]∧τ=([]:ze)) ?_ ?_
 · refine wh 26 rfl (fun hg26=>?_) (fun hg26=>?_)
   · have t9:=eq_true hg26;refine O 3 ?_;refine zi ⟨rfl,_,_,⟨rfl,rfl⟩,.p t9⟩
   have t10:=eq_false hg26;refine O 3 ?_;refine zi ⟨rfl,_,_,⟨rfl,rfl⟩,.p t10⟩
 rintro _ _ ⟨rfl,rfl⟩;refine nkN J ?_;refine zU (b:=((decide (r7.1=65533))&&(decide (r7.2<2)))) rfl (fun hc11=>?_) (fun hc11=>?_)
 · rw[if_pos hc11] at h;refine D [4,5,6] ?_;cases h;exact rtA
 rw[Zf hc11] at h;apply zj;apply hZ8;refine D [4,5,6] ?_;cases h;exact rtA
def wt.l4 (a0:List UInt8):Nat→Nat→Option Bool
 |0,_=>none
 |k4+1,p2=>(if p2<qa a0 then (if ((vem a0 p2).1:Int)=65533 then (Xo a0 ((p2:Nat):Int)).bind fun r12=>(if (!r12.2.2)=true then some false else ((wt.l4 a0 k4) (p2+(vem a0 p2).2))) else ((wt.l4 a0 k4) (p2+(vem a0 p2).2))) else some true)
def wt (a0:List UInt8):Option Bool:=
 (wt.l4 a0 xo 0)
theorem wt.ok {a0 r}(h:wt a0=some r):ACalls qg 184 [.str a0] [] (fun r' _=>r'=.bool r):=by
 refine zt (rs:=[.tmp 2]) U Tryz.func184 rfl Tryz.ntmps184 rfl Tryz.call184 (by simp) ?_;refine zA [(0,.str a0)] ⟨rfl,trivial⟩ ?_;unfold wt at h;refine D [0] ?_
 refine za fun Z1 hZ1=>?_
 refine D [0,9] ?_;apply zn;refine yh (fun m L τ=>∃ (k4:Nat) (p2:Nat),m=0+k4∧L=[(0,.str a0),(9,.it 0)]∧τ=([.iter a0 p2]:ze)∧wt.l4 a0 k4 p2=some r) _ ⟨xo,0,rfl,rfl,rfl,h⟩ .s ?_;rintro m L τ ⟨k4,p2,rfl,rfl,rfl,h⟩
 rcases k4 with _|k4
 · cases h
 simp only[wt.l4] at h
 by_cases hn5:p2<qa a0
 · rw[if_pos hn5] at h;have t6:=eq_true hn5
   refine rg U [0,9,10,11] fun K J=>?_
   simp only[go_sem,qd,qb,qe,reduceCtorEq,vcH,if_true,if_false,t6];apply J
   refine za fun Z7 hZ7=>?_
   refine zK rfl ?_;apply zj;apply hZ7;apply zn;refine D [0,3,4,9] ?_
   refine za fun Z8 hZ8=>?_
   refine D [0,3,9,15] ?_;refine yn rfl (fun hc9=>?_) (fun hc9=>?_)
   · rw[if_neg hc9] at h;have t10:=eq_false hc9;apply yf;exact⟨_,_,_,qy (0+k4),⟨k4,p2+(vem a0 p2).2,rfl,rfl,rfl,h⟩,.s⟩
   rw[if_pos hc9] at h;have t11:=eq_true hc9;apply zj;apply hZ8
   refine rc [0,7,9] fun K J=>?_
   obtain⟨r12,hr12,h⟩:=bind_some h;refine zB U 2 ?_;simp only[go_sem,qd,qb,reduceCtorEq,t11];refine clN rfl rfl rfl ((Xo.ok hr12).c _) ?_;refine O 7 ?_;refine nkN J ?_;refine D [0,9,24] ?_;refine zU (b:=(!r12.2.2)) rfl (fun hc13=>?_) (fun hc13=>?_)
   · rw[if_pos hc13] at h;refine D [2] ?_;cases h;exact rtA
   rw[Zf hc13] at h;apply zj;exact⟨_,_,_,qy (0+k4),⟨k4,p2+(vem a0 p2).2,rfl,rfl,rfl,h⟩,.s⟩
 rw[if_neg hn5] at h;have t14:=eq_false hn5
 refine rg U [0,9,10,11] fun K J=>?_
 simp only[go_sem,qd,qb,reduceCtorEq,vcH,if_true,if_false,t14];apply J
 refine za fun Z15 hZ15=>?_
 refine zG rfl ?_;apply yf;apply hZ1;refine D [2] ?_;cases h;exact rtA
def yq.l4 (a1:List UInt8):List ya→Int→ya×Bool
 |[],x2=>((⟨[],([]:List ZS),([]:List Int)⟩:ya),false)
 |y4::q4,x2=>(if y4.fName=a1 then (y4,true) else ((yq.l4 a1 q4) (x2+1)))
def yq (a0:zE)(a1:List UInt8):ya×Bool:=
 (yq.l4 a1 a0.fMessages 0)
theorem yq.ok {a0 a1 r}(h:yq a0 a1=r):ACalls qg 92 [.agg (zb a0),.str a1] [] (fun r' _=>r'=.tup [.agg (zf r.1),.bool r.2]):=by
 refine zt (rs:=[.cell 4 129,.tmp 5]) U Tryz.func92 rfl Tryz.ntmps92 rfl Tryz.call92 (by simp) ?_;refine zA [(0,.agg (zb a0)),(1,.str a1)] ⟨rfl,rfl,trivial⟩ ?_;unfold yq at h
 refine rg U [1,2,4] fun K J=>?_
 simp only[go_sem,qd,qb,qe,reduceCtorEq,zb];apply J
 refine za fun Z1 hZ1=>?_
 refine D [1,4,9,10,11] ?_;apply zn
 refine xn 9 fun hb4=>?_
 replace hb4:qa a0.fMessages≤9223372036854775807:=hb4.1;refine yh (fun m L τ=>∃ (p4 q4:List ya) (x2:Int),m=qa q4∧L=[(1,.str a1),(4,.op 0 0 0),(9,.ds true (qc zf a0.fMessages) (qa a0.fMessages) false),(10,.int .i64 (qa a0.fMessages:Int)),(11,.int .i64 x2)]∧τ=([.cells 0 [.str [],.ds true [] 0 true,.ds true [] 0 true]]:ze)∧a0.fMessages=p4++q4∧x2=(qa p4:Int)∧yq.l4 a1 q4 x2=r) _ ⟨[],a0.fMessages,0,rfl,rfl,rfl,rfl,rfl,h⟩ (.t [1] false) ?_;rintro m L τ ⟨p4,q4,x2,rfl,rfl,rfl,hE4,hi4,h⟩
 rcases q4 with _|⟨y4,q4⟩
 · have hz4:=xC hE4 hi4;simp only[yq.l4] at h
   refine rg U [1,4,9,10,11,12] fun K J=>?_
   simp only[go_sem,qd,qb,hz4];apply J
   refine za fun Z5 hZ5=>?_
   refine zG rfl ?_;apply yf;apply hZ1;refine D [4,5] ?_;cases h;exact rtA
 obtain⟨hz4,hw4,hx4,hE'4,hi'4⟩:=yU hE4 hi4 hb4;simp only[yq.l4] at h
 refine rg U [1,4,9,10,11,12] fun K J=>?_
 simp only[go_sem,qd,qb,hz4];apply J
 refine za fun Z6 hZ6=>?_
 refine zK rfl ?_;apply zj;apply hZ6
 refine za fun Z7 hZ7=>?_
 apply zn;have f8:=E27.idxS hx4;have f9:=E27.loadS rfl rfl hx4
 refine rg U [1,4,7,9,10,11] fun K J=>?_
 simp only[go_sem,qd,qf,qb,qe,zf,f8,f9];apply J
 refine D [1,4,7,9,10,11,18] ?_;refine yn rfl (fun hc10=>?_) (fun hc10=>?_)
 · rw[if_pos hc10] at h;have t11:=eq_true hc10
   refine rg U [4,5] fun K J=>?_
   simp only[go_sem,qd,qf,qb,qe,t11];apply J
   cases h;exact rtA
 rw[if_neg hc10] at h;have t12:=eq_false hc10;apply zj;apply hZ7
 refine rgE U [1,4,9,10,11] fun K J=>?_
 simp only[go_sem,qd,qb,hw4,t12];apply J
 exact⟨_,_,_,qy q4.length,⟨p4++[y4],q4,x2+1,rfl,rfl,rfl,hE'4,hi'4,h⟩,(.t [0] false)⟩
def zI.l4 (a1:Int):List ZS→Int→ZS×Bool
 |[],x2=>((⟨[],0,0,(⟨0,[]⟩:Yi)⟩:ZS),false)
 |y4::q4,x2=>(if y4.fTag=a1 then (y4,true) else ((zI.l4 a1 q4) (x2+1)))
def zI (a0:ya)(a1:Int):ZS×Bool:=
 (zI.l4 a1 a0.fFields 0)
theorem zI.ok {a0 a1 r}(h:zI a0 a1=r):ACalls qg 141 [.agg (zf a0),.int .i64 a1] [] (fun r' _=>r'=.tup [.agg (yr r.1),.bool r.2]):=by
 refine zt (rs:=[.cell 4 126,.tmp 5]) U Tryz.func141 rfl Tryz.ntmps141 rfl Tryz.call141 (by simp) ?_;refine zA [(0,.agg (zf a0)),(1,.int .i64 a1)] ⟨rfl,rfl,trivial⟩ ?_;unfold zI at h
 refine rg U [1,2,4] fun K J=>?_
 simp only[go_sem,qd,qb,qe,reduceCtorEq,zf];apply J
 refine za fun Z1 hZ1=>?_
 refine D [1,4,9,10,11] ?_;apply zn
 refine xn 9 fun hb4=>?_
 replace hb4:qa a0.fFields≤9223372036854775807:=hb4.1;refine yh (fun m L τ=>∃ (p4 q4:List ZS) (x2:Int),m=qa q4∧L=[(1,.int .i64 a1),(4,.op 0 0 0),(9,.ds true (qc yr a0.fFields) (qa a0.fFields) false),(10,.int .i64 (qa a0.fFields:Int)),(11,.int .i64 x2)]∧τ=([.cells 0 [.str [],.int .i64 0,.int .i64 0,.int .i64 0,.str []]]:ze)∧a0.fFields=p4++q4∧x2=(qa p4:Int)∧zI.l4 a1 q4 x2=r) _ ⟨[],a0.fFields,0,rfl,rfl,rfl,rfl,rfl,h⟩ (.t [1] false) ?_;rintro m L τ ⟨p4,q4,x2,rfl,rfl,rfl,hE4,hi4,h⟩
 rcases q4 with _|⟨y4,q4⟩
 · have hz4:=xC hE4 hi4;simp only[zI.l4] at h
   refine rg U [1,4,9,10,11,12] fun K J=>?_
   simp only[go_sem,qd,qb,hz4];apply J
   refine za fun Z5 hZ5=>?_
   refine zG rfl ?_;apply yf;apply hZ1;refine D [4,5] ?_;cases h;exact rtA
 obtain⟨hz4,hw4,hx4,hE'4,hi'4⟩:=yU hE4 hi4 hb4;simp only[zI.l4] at h
 refine rg U [1,4,9,10,11,12] fun K J=>?_
 simp only[go_sem,qd,qb,hz4];apply J
 refine za fun Z6 hZ6=>?_
 refine zK rfl ?_;apply zj;apply hZ6
 refine za fun Z7 hZ7=>?_
 apply zn;have f8:=E127.idxS hx4;have f9:=E127.loadS rfl rfl hx4
 refine rg U [1,4,7,9,10,11] fun K J=>?_
 simp only[go_sem,qd,qf,qb,qe,yr,f8,f9];apply J
 refine D [1,4,7,9,10,11,18] ?_;refine yn rfl (fun hc10=>?_) (fun hc10=>?_)
 · rw[if_pos hc10] at h;have t11:=eq_true hc10
   refine rg U [4,5] fun K J=>?_
   simp only[go_sem,qd,qf,qb,qe,t11];apply J
   cases h;exact rtA
 rw[if_neg hc10] at h;have t12:=eq_false hc10;apply zj;apply hZ7
 refine rgE U [1,4,9,10,11] fun K J=>?_
 simp only[go_sem,qd,qb,hw4,t12];apply J
 exact⟨_,_,_,qy q4.length,⟨p4++[y4],q4,x2+1,rfl,rfl,rfl,hE'4,hi'4,h⟩,(.t [0] false)⟩
def Zq (a0:Yi)(a1:Int):Bool:=
 (if a0.fKind=1 then ((decide ((-2147483648)≤a1))&&(decide (a1≤2147483647))) else (if a0.fKind=3 then ((decide (a1=0))||(decide (a1=1))) else (if a0.fKind=6 then ((decide (0≤a1))&&(decide (a1≤2147483647))) else decide (a0.fKind=2))))
theorem Zq.ok {a0 a1 r}(h:Zq a0 a1=r):ACalls qg 183 [.agg (Zh a0),.int .i64 a1] [] (fun r' _=>r'=.bool r):=by
 refine zt (rs:=[.tmp 4]) U Tryz.func183 rfl Tryz.ntmps183 rfl Tryz.call183 (by simp) ?_;refine zA [(0,.agg (Zh a0)),(1,.int .i64 a1)] ⟨rfl,rfl,trivial⟩ ?_;unfold Zq at h
 refine rg U [1,2] fun K J=>?_
 simp only[go_sem,qd,qb,qe,reduceCtorEq,Zh];apply J
 refine za fun Z1 hZ1=>?_
 refine D [1,2,6] ?_;apply zn;refine D [1,2,6,7] ?_;refine yn rfl (fun hc2=>?_) (fun hc2=>?_)
 · rw[if_pos hc2] at h;have t3:=eq_true hc2
   refine rc [4] fun K J=>?_
   refine zB U 3 ?_;simp only[go_sem,qd,qb,t3];refine zH 3 (fun L τ=>L=[(14,.bool ((decide ((-2147483648)≤a1))&&(decide (a1≤2147483647))))]∧τ=([.cells 0 [.int .i64 a0.fKind,.str a0.fName]]:ze)) ?_ ?_
   · refine wh 11 rfl (fun hg11=>?_) (fun hg11=>?_)
     · have t4:=eq_true hg11;refine O 3 ?_;refine zi ⟨rfl,_,_,⟨rfl,rfl⟩,.p t4⟩
     have t5:=eq_false hg11;refine O 3 ?_;refine zi ⟨rfl,_,_,⟨rfl,rfl⟩,.p t5⟩
   rintro _ _ ⟨rfl,rfl⟩;refine O 1 ?_;refine nkN J ?_;cases h;exact rtA
 rw[if_neg hc2] at h;have t6:=eq_false hc2
 refine rg U [1,2,6,15] fun K J=>?_
 simp only[go_sem,qd,qb,t6];apply J
 refine yn rfl (fun hc7=>?_) (fun hc7=>?_)
 · rw[if_pos hc7] at h;have t8:=eq_true hc7
   refine rc [4] fun K J=>?_
   refine zB U 3 ?_;simp only[go_sem,qd,qb,t8];refine zH 3 (fun L τ=>L=[(22,.bool ((decide (a1=0))||(decide (a1=1))))]∧τ=([.cells 0 [.int .i64 a0.fKind,.str a0.fName]]:ze)) ?_ ?_
   · refine wh 19 rfl (fun hg19=>?_) (fun hg19=>?_)
     · have t9:=eq_true hg19;refine O 3 ?_;refine zi ⟨rfl,_,_,⟨rfl,rfl⟩,.p t9⟩
     have t10:=eq_false hg19;refine O 3 ?_;refine zi ⟨rfl,_,_,⟨rfl,rfl⟩,.p t10⟩
   rintro _ _ ⟨rfl,rfl⟩;refine O 1 ?_;refine nkN J ?_;cases h;exact rtA
 rw[if_neg hc7] at h;have t11:=eq_false hc7
 refine rg U [1,2,23] fun K J=>?_
 simp only[go_sem,qd,qb,t11];apply J
 refine yn rfl (fun hc12=>?_) (fun hc12=>?_)
 · rw[if_pos hc12] at h;have t13:=eq_true hc12
   refine rc [4] fun K J=>?_
   refine zB U 3 ?_;simp only[go_sem,qd,qb,t13];refine zH 3 (fun L τ=>L=[(30,.bool ((decide (0≤a1))&&(decide (a1≤2147483647))))]∧τ=([.cells 0 [.int .i64 a0.fKind,.str a0.fName]]:ze)) ?_ ?_
   · refine wh 27 rfl (fun hg27=>?_) (fun hg27=>?_)
     · have t14:=eq_true hg27;refine O 3 ?_;refine zi ⟨rfl,_,_,⟨rfl,rfl⟩,.p t14⟩
     have t15:=eq_false hg27;refine O 3 ?_;refine zi ⟨rfl,_,_,⟨rfl,rfl⟩,.p t15⟩
   rintro _ _ ⟨rfl,rfl⟩;refine O 1 ?_;refine nkN J ?_;cases h;exact rtA
 rw[if_neg hc12] at h;have t16:=eq_false hc12;apply zj;apply hZ1
 refine rg U [4] fun K J=>?_
 simp only[go_sem,qd,qb,qe,t16];apply J
 cases h;exact rtA
def Zx (a0:zk):Bool:=
 ((((((decide (1≤a0.fKind))&&(decide (a0.fKind≤3)))&&(decide (a0.fN=0)))&&(decide (a0.fS=[])))&&(decide ((qa a0.fEntries:Int)=0)))&&(decide ((qa a0.fRest:Int)=0)))
theorem Zx.ok {a0 r}(h:Zx a0=r):ACalls qg 143 [.agg (zd a0)] [] (fun r' _=>r'=.bool r):=by
 refine zt (rs:=[.tmp 2]) U Tryz.func143 rfl Tryz.ntmps143 rfl Tryz.call143 (by simp) ?_;refine zA [(0,.agg (zd a0))] ⟨rfl,trivial⟩ ?_;unfold Zx at h
 refine rg U [1] fun K J=>?_
 simp only[go_sem,qd,qb,qe,reduceCtorEq,zd];apply J
 refine rc [2] fun K J=>?_
 refine O 4 ?_;refine zH 4 (fun L τ=>L=[(1,.op 0 0 0),(10,.bool ((decide (1≤a0.fKind))&&(decide (a0.fKind≤3))))]∧τ=([.cells 0 (zd a0)]:ze)) ?_ ?_
 · refine wh 6 rfl (fun hg6=>?_) (fun hg6=>?_)
   · have t1:=eq_true hg6;refine O 4 ?_;refine zi ⟨rfl,_,_,⟨rfl,rfl⟩,.p t1⟩
   have t2:=eq_false hg6;refine O 4 ?_;refine zi ⟨rfl,_,_,⟨rfl,rfl⟩,.p t2⟩
 rintro _ _ ⟨rfl,rfl⟩;refine O 1 ?_;refine zH 4 (fun L τ=>L=[(1,.op 0 0 0),(15,.bool (((decide (1≤a0.fKind))&&(decide (a0.fKind≤3)))&&(decide (a0.fN=0))))]∧τ=([.cells 0 (zd a0)]:ze)) ?_ ?_
 · refine yB (b:=((decide (1≤a0.fKind))&&(decide (a0.fKind≤3)))) 11 rfl (fun hg11=>?_) (fun hg11=>?_)
   · refine O 4 ?_;refine zi ⟨rfl,_,_,⟨rfl,rfl⟩,.b hg11⟩
   refine O 4 ?_;refine zi ⟨rfl,_,_,⟨rfl,rfl⟩,.b hg11⟩
 rintro _ _ ⟨rfl,rfl⟩;refine O 1 ?_;refine zH 4 (fun L τ=>L=[(1,.op 0 0 0),(20,.bool ((((decide (1≤a0.fKind))&&(decide (a0.fKind≤3)))&&(decide (a0.fN=0)))&&(decide (a0.fS=[]))))]∧τ=([.cells 0 (zd a0)]:ze)) ?_ ?_
 · refine yB (b:=(((decide (1≤a0.fKind))&&(decide (a0.fKind≤3)))&&(decide (a0.fN=0)))) 16 rfl (fun hg16=>?_) (fun hg16=>?_)
   · refine O 4 ?_;refine zi ⟨rfl,_,_,⟨rfl,rfl⟩,.b hg16⟩
   refine O 4 ?_;refine zi ⟨rfl,_,_,⟨rfl,rfl⟩,.b hg16⟩
 rintro _ _ ⟨rfl,rfl⟩;refine O 1 ?_;refine zH 5 (fun L τ=>L=[(1,.op 0 0 0),(26,.bool (((((decide (1≤a0.fKind))&&(decide (a0.fKind≤3)))&&(decide (a0.fN=0)))&&(decide (a0.fS=[])))&&(decide ((qa a0.fEntries:Int)=0))))]∧τ=([.cells 0 (zd a0)]:ze)) ?_ ?_
 · refine yB (b:=((((decide (1≤a0.fKind))&&(decide (a0.fKind≤3)))&&(decide (a0.fN=0)))&&(decide (a0.fS=[])))) 21 rfl (fun hg21=>?_) (fun hg21=>?_)
   · refine O 5 ?_;refine zi ⟨rfl,_,_,⟨rfl,rfl⟩,.b hg21⟩
   refine O 5 ?_;refine zi ⟨rfl,_,_,⟨rfl,rfl⟩,.b hg21⟩
 rintro _ _ ⟨rfl,rfl⟩;refine O 1 ?_;refine zH 5 (fun L τ=>L=[(32,.bool ((((((decide (1≤a0.fKind))&&(decide (a0.fKind≤3)))&&(decide (a0.fN=0)))&&(decide (a0.fS=[])))&&(decide ((qa a0.fEntries:Int)=0)))&&(decide ((qa a0.fRest:Int)=0))))]∧τ=([.cells 0 (zd a0)]:ze)) ?_ ?_
 · refine yB (b:=(((((decide (1≤a0.fKind))&&(decide (a0.fKind≤3)))&&(decide (a0.fN=0)))&&(decide (a0.fS=[])))&&(decide ((qa a0.fEntries:Int)=0)))) 27 rfl (fun hg27=>?_) (fun hg27=>?_)
   · refine O 5 ?_;refine zi ⟨rfl,_,_,⟨rfl,rfl⟩,.b hg27⟩
   refine O 5 ?_;refine zi ⟨rfl,_,_,⟨rfl,rfl⟩,.b hg27⟩
 rintro _ _ ⟨rfl,rfl⟩;refine O 1 ?_;refine nkN J ?_;cases h;exact rtA
def yC.j20 (x5:Int)(l4:List yc)(rec8:Int→List yc→Option (List yc))(y8:yc)(x15:Int)(rec17:Int→Option (List yc))(x19:Bool):Option (List yc):=
 (if x19=true then (rec17 (IntKind.i64.wrap (x15-1))) else (grd ((0:Int)≤IntKind.i64.wrap (x15+1)∧IntKind.i64.wrap (x15+1)≤x5+1∧x5+1≤(qa l4:Int))).bind fun _u22=>(grd ((0:Int)≤x15∧x15≤x5∧x5≤(qa l4:Int))).bind fun _u24=>(Yz (vb3 l4 (qO (IntKind.i64.wrap (x15+1))) (qO x15) (min (qO x5-qO x15) (qO (x5+1)-qO (IntKind.i64.wrap (x15+1))))) x15).bind fun y28=>(rec8 (x5+1) (setI (vb3 l4 (qO (IntKind.i64.wrap (x15+1))) (qO x15) (min (qO x5-qO x15) (qO (x5+1)-qO (IntKind.i64.wrap (x15+1))))) x15 y8)))
def yC.l17 (x5:Int)(l4:List yc)(rec8:Int→List yc→Option (List yc))(y8:yc):Nat→Int→Option (List yc)
 |0,_=>none
 |k17+1,x15=>(if 0<x15 then (Yz l4 (IntKind.i64.wrap (x15-1))).bind fun y33=>(yC.j20 x5 l4 rec8 y8 x15 (yC.l17 x5 l4 rec8 y8 k17) (decide (y8.fTag<y33.fTag))) else (yC.j20 x5 l4 rec8 y8 x15 (yC.l17 x5 l4 rec8 y8 k17) false))
def yC.l8 : List yc→Int→List yc→Option (List yc)
 |[],x5,l4=>some l4
 |y8::q8,x5,l4=>(yC.l17 x5 l4 (yC.l8 q8) y8 xo x5)
def yC (a0:List yc):Option (List yc):=
 (grd ((0:Int)≤(qa a0:Int)∧(40:Int)*(qa a0:Int)≤281474976710656∧(qa a0:Int)<9223372036854775807)).bind fun _u1=>(yC.l8 a0 0 (qR (qO (qa a0:Int)) ((⟨0,0,0,[]⟩:yc):yc)))
theorem yC.ok {a0 r}(h:yC a0=some r):ACalls qg 190 [.ds true (qc zs a0) (qa a0) false] [] (fun r' _=>r'=.ds true (qc zs r) (qa r) false):=by
 refine zt (rs:=[.tmp 2]) U Tryz.func190 rfl Tryz.ntmps190 rfl Tryz.call190 (by simp) ?_;refine zA [(0,.ds true (qc zs a0) (qa a0) false)] ⟨rfl,trivial⟩ ?_;unfold yC at h;refine D [0] ?_;obtain⟨_u1,hu1,h⟩:=bind_some h;have gu1:=Ya hu1;have f2:=E35.mk0 rfl (z:=((⟨0,0,0,[]⟩:yc):yc)) rfl rfl gu1 .i64 .i64
 refine rg U [0,3] fun K J=>?_
 simp only[go_sem,qd,qb,reduceCtorEq,f2];apply J
 refine yT (L:=[(0,.ds true (qc zs a0) (qa a0) false),(3,.os true 4 0 0 0 (qa (qR (qO (qa a0:Int)) ((⟨0,0,0,[]⟩:yc):yc))) true)]) (τ:=[.cells 0 (qc zs (qR (qO (qa a0:Int)) ((⟨0,0,0,[]⟩:yc):yc)))]) .s ?_
 refine za fun Z3 hZ3=>?_
 refine D [3,10,11,12] ?_;apply zn
 refine xn 10 fun hb8=>?_
 replace hb8:qa a0≤9223372036854775807:=hb8.1;refine yh (fun m L τ=>∃ (p8 q8:List yc) (x5:Int) (l4:List yc),m=qa q8∧L=[(3,.os true 4 0 0 0 (qa l4) true),(10,.ds true (qc zs a0) (qa a0) false),(11,.int .i64 (qa a0:Int)),(12,.int .i64 x5)]∧τ=([.cells 0 (qc zs l4)]:ze)∧a0=p8++q8∧x5=(qa p8:Int)∧yC.l8 q8 x5 l4=some r) _ ⟨[],a0,0,qR (qO (qa a0:Int)) ((⟨0,0,0,[]⟩:yc):yc),rfl,rfl,rfl,rfl,rfl,h⟩ .s ?_;rintro m L τ ⟨p8,q8,x5,l4,rfl,rfl,rfl,hE8,hi8,h⟩
 rcases q8 with _|⟨y8,q8⟩
 · have hz8:=xC hE8 hi8;simp only[yC.l8] at h
   refine rg U [3,10,11,12,13] fun K J=>?_
   simp only[go_sem,qd,qb,hz8];apply J
   refine za fun Z9 hZ9=>?_
   refine zG rfl ?_;apply yf;apply hZ3;refine D [2] ?_;cases h;exact rtA
 obtain⟨hz8,hw8,hx8,hE'8,hi'8⟩:=yU hE8 hi8 hb8;simp only[yC.l8] at h
 refine rg U [3,10,11,12,13] fun K J=>?_
 simp only[go_sem,qd,qb,hz8];apply J
 refine za fun Z10 hZ10=>?_
 refine zK rfl ?_;apply zj;apply hZ10
 refine za fun Z11 hZ11=>?_
 apply zn;have f12:=E35.idxS hx8;have f13:=E35.loadS rfl rfl hx8
 refine rg U [3,4,5,10,11,12] fun K J=>?_
 simp only[go_sem,qd,qf,qb,qe,zs,f12,f13];apply J
 refine D [3,4,5,6,10,11,12] ?_
 refine za fun Z14 hZ14=>?_
 apply zn;refine yh (fun m L τ=>∃ (k17:Nat) (x15:Int),m=0+k17∧L=[(3,.os true 4 0 0 0 (qa l4) true),(4,.int .i64 x5),(5,.op 1 0 0),(6,.int .i64 x15),(10,.ds true (qc zs a0) (qa a0) false),(11,.int .i64 (qa a0:Int)),(12,.int .i64 x5)]∧τ=([.cells 0 (qc zs l4),.cells 0 [.int .i64 y8.fTag,.int .i64 y8.fWire,.int .i64 y8.fN,.str y8.fB]]:ze)∧yC.l17 x5 l4 (yC.l8 q8) y8 k17 x15=some r) _ ⟨xo,x5,rfl,rfl,rfl,h⟩ .s ?_;rintro m L τ ⟨k17,x15,rfl,rfl,rfl,h⟩
 rcases k17 with _|k17
 · cases h
 simp only[yC.l17] at h
 refine za fun Z18 hZ18=>?_
 refine xL (fun L τ=>∃ (x19:Bool),L=[(3,.os true 4 0 0 0 (qa l4) true),(4,.int .i64 x5),(5,.op 1 0 0),(6,.int .i64 x15),(10,.ds true (qc zs a0) (qa a0) false),(11,.int .i64 (qa a0:Int)),(12,.int .i64 x5),(30,.bool x19)]∧τ=([.cells 0 (qc zs l4),.cells 0 [.int .i64 y8.fTag,.int .i64 y8.fWire,.int .i64 y8.fN,.str y8.fB]]:ze)∧yC.j20 x5 l4 (yC.l8 q8) y8 x15 (yC.l17 x5 l4 (yC.l8 q8) y8 k17) x19=some r) ?_ ?_
 · refine rdE [3,4,5,6,10,11,12,30] fun K J=>?_
   refine DW.start (T:=tab) [.any,.any,.any,.any,.any,.any,.any,.any,.at [],.any,.at [],.any,.any] [] ?_;refine DW.runN U 3 ?_;simp only[go_sem,qd,qb]
   refine DW.if 20 rfl (fun hg20=>?_) (fun hg20=>?_)
   · rw[if_pos hg20] at h;have t32:=eq_true hg20;obtain⟨y33,hy33,h⟩:=bind_some h;have f34:=E35.idxO hy33;have f35:=E35.rdfO0 hy33;refine DW.runN U 8 ?_;simp only[go_sem,qd,qb,qe,zs,t32,f34,f35];refine DW.runN U 2 ?_;simp only[go_sem,qd,qb];refine DW.fin U (by decide +kernel) rfl ?_;simp only[zC,upd,qb,reduceIte,yX,xK];apply J
     exact⟨_,_,⟨decide (y8.fTag<y33.fTag),rfl,rfl,h⟩,.s⟩
   rw[if_neg hg20] at h;have t36:=eq_false hg20;refine DW.runN U 8 ?_;simp only[go_sem,qd,qb,t36];refine DW.runN U 2 ?_;simp only[go_sem,qd,qb];refine DW.fin U (by decide +kernel) rfl ?_;simp only[zC,upd,qb,reduceIte,yX,xK];apply J
   exact⟨_,_,⟨false,rfl,rfl,h⟩,.s⟩
 rintro _ _ ⟨x19,rfl,rfl,h⟩;unfold yC.j20 at h;refine zU (b:=x19) rfl (fun hc21=>?_) (fun hc21=>?_)
 · rw[if_pos hc21] at h;apply zj;apply hZ18;apply zn
   refine rgE U [3,4,5,6,10,11,12] fun K J=>?_
   simp only[go_sem,qd,qb];apply J
   exact⟨_,_,_,qy (0+k17),⟨k17,IntKind.i64.wrap (x15-1),rfl,rfl,rfl,h⟩,.s⟩
 rw[Zf hc21] at h;apply yf;apply hZ14;obtain⟨_u22,hu22,h⟩:=bind_some h;have gu22:=Ya hu22
 have f23:=fun id ver=>E35.slO gu22 .i64 .i64 id ver true
 obtain⟨_u24,hu24,h⟩:=bind_some h;have gu24:=Ya hu24
 have f25:=fun id ver=>E35.slO gu24 .i64 .i64 id ver true
 have f26:=fun (τ:ze) (t1 t2:Bool)=>E35.cpO vaD.h gu22 gu24 t1 t2 (.cells 0 (qc zs l4)::τ) 0 0 (by simp only[ze.at_hd,if_true]) rfl
 have f27:qa (vb3 l4 (qO (IntKind.i64.wrap (x15+1))) (qO x15) (min (qO x5-qO x15) (qO (x5+1)-qO (IntKind.i64.wrap (x15+1)))))=qa l4:=copyI_length (by omega) (by omega)
 refine rd [3,5,6,10,11,12] fun K J=>?_
 refine DW.start (T:=tab) [.any,.any,.any,.any,.any,.any,.any,.any,.any,.any,.eff] [] ?_;refine DW.runN U 8 ?_;simp only[go_sem,qd,qb,hw8,f23];refine DW.runN U 3 ?_;simp only[go_sem,qd,qb,f25,f26];refine DW.fin U (by decide +kernel) rfl ?_;simp only[zC,upd,qb,reduceIte,yX,xK];apply J
 refine yT (L:=[(3,.os true 4 0 0 0 (qa (vb3 l4 (qO (IntKind.i64.wrap (x15+1))) (qO x15) (min (qO x5-qO x15) (qO (x5+1)-qO (IntKind.i64.wrap (x15+1)))))) true),(5,.op 1 0 0),(6,.int .i64 x15),(10,.ds true (qc zs a0) (qa a0) false),(11,.int .i64 (qa a0:Int)),(12,.int .i64 x5)]) (τ:=[.cells 0 (qc zs (vb3 l4 (qO (IntKind.i64.wrap (x15+1))) (qO x15) (min (qO x5-qO x15) (qO (x5+1)-qO (IntKind.i64.wrap (x15+1)))))),.cells 0 [.int .i64 y8.fTag,.int .i64 y8.fWire,.int .i64 y8.fN,.str y8.fB]]) (.same (by first|exact⟨rfl,rfl,rfl,rfl,rfl,rfl,trivial⟩|rfl|(simp only[go_sem,qb,vcf,f27,and_self]<;>rfl)) (by first|exact⟨rfl,rfl,rfl,rfl,rfl,rfl,trivial⟩|rfl|(simp only[go_sem,qd,qf,qb,qe,qj,qm,reduceIte,reduceCtorEq,vcf,ZR,wN,encS,encK,YE,qX,qU,uf,qE,qD,qk,ql,qr,qo,qx,qH,vj,zs,f27,and_self]<;>rfl))) ?_;obtain⟨y28,hy28,h⟩:=bind_some h;have f29:=E35.idxO hy28;have f30:=E35.stOc hy28;have f31:=E35.stOr hy28 (y:=y8) (cs:=[.int .i64 y8.fTag,.int .i64 y8.fWire,.int .i64 y8.fN,.str y8.fB]) rfl;simp only[wq] at f31
 refine rgE U [3,10,11,12] fun K J=>?_
 simp only[go_sem,qd,qf,qb,qe,f29,f30,f31];apply J
 apply hZ11
 refine rgE U [3,10,11,12] fun K J=>?_
 simp only[go_sem,qd,qb,hw8];apply J
 exact⟨_,_,_,qy q8.length,⟨p8++[y8],q8,x5+1,setI (vb3 l4 (qO (IntKind.i64.wrap (x15+1))) (qO x15) (min (qO x5-qO x15) (qO (x5+1)-qO (IntKind.i64.wrap (x15+1))))) x15 y8,rfl,rfl,rfl,hE'8,hi'8,h⟩,(.t [0] false)⟩
def w7.l12 (a1:Int):List UInt8→Int→Int→Option (Int×Int×Int)
 |[],x9,x8=>some (0,0,2)
 |y12::q12,x9,x8=>(if ((decide (x9=9))&&(decide (1<(y12.toNat:Int))))=true then some (0,0,3) else (grd (0≤IntKind.i64.wrap (7*x9))).bind fun _u23=>(if 128≤(y12.toNat:Int) then ((w7.l12 a1 q12) (x9+1) (IntKind.u64.wrap ((ux (qJ 64 x8 ||| qJ 64 (IntKind.u64.wrap ((IntKind.u64.wrap (IntKind.u8.wrap ((ux (qJ 8 (y12.toNat:Int) &&& ~~~(qJ 8 128)):Nat):Int)))*2^(min (qO (IntKind.i64.wrap (7*x9))) 64)))):Nat):Int))) else (if ((decide ((y12.toNat:Int)=0))&&(decide (0<x9)))=true then some (0,0,3) else some (IntKind.u64.wrap ((ux (qJ 64 x8 ||| qJ 64 (IntKind.u64.wrap ((IntKind.u64.wrap (IntKind.u8.wrap ((ux (qJ 8 (y12.toNat:Int) &&& ~~~(qJ 8 128)):Nat):Int)))*2^(min (qO (IntKind.i64.wrap (7*x9))) 64)))):Nat):Int),IntKind.i64.wrap ((IntKind.i64.wrap (a1+x9))+1),0))))
def w7 (a0:List UInt8)(a1:Int):Option (Int×Int×Int):=
 (if ((decide (a1<0))||(decide ((qa a0:Int)<a1)))=true then some (0,0,1) else (grd ((0:Int)≤a1∧a1≤IntKind.i64.wrap (a1+(if 10<IntKind.i64.wrap ((qa a0:Int)-a1) then 10 else IntKind.i64.wrap ((qa a0:Int)-a1)))∧IntKind.i64.wrap (a1+(if 10<IntKind.i64.wrap ((qa a0:Int)-a1) then 10 else IntKind.i64.wrap ((qa a0:Int)-a1)))≤(qa a0:Int))).bind fun _u6=>(w7.l12 a1 (vct a0 a1 (IntKind.i64.wrap (a1+(if 10<IntKind.i64.wrap ((qa a0:Int)-a1) then 10 else IntKind.i64.wrap ((qa a0:Int)-a1))))) 0 0))
theorem w7.ok {a0 a1 r}(h:w7 a0 a1=some r):ACalls qg 245 [.ds true (qc ZR a0) (qa a0) false,.int .i64 a1] [] (fun r' _=>r'=.tup [.int .u64 r.1,.int .i64 r.2.1,.int .i64 r.2.2]):=by
 refine zt (rs:=[.tmp 4,.tmp 5,.tmp 6]) U Tryz.func245 rfl Tryz.ntmps245 rfl Tryz.call245 (by simp) ?_;refine zA [(0,.ds true (qc ZR a0) (qa a0) false),(1,.int .i64 a1)] ⟨rfl,rfl,trivial⟩ ?_;unfold w7 at h;refine D [0,1] ?_
 refine za fun Z1 hZ1=>?_
 refine rc [0,1,17] fun K J=>?_
 refine O 3 ?_;refine zH 5 (fun L τ=>L=[(0,.ds true (qc ZR a0) (qa a0) false),(1,.int .i64 a1),(17,.bool ((decide (a1<0))||(decide ((qa a0:Int)<a1))))]∧τ=([]:ze)) ?_ ?_
 · refine wh 12 rfl (fun hg12=>?_) (fun hg12=>?_)
   · have t2:=eq_true hg12;refine O 5 ?_;refine zi ⟨rfl,_,_,⟨rfl,rfl⟩,.p t2⟩
   have t3:=eq_false hg12;refine O 5 ?_;refine zi ⟨rfl,_,_,⟨rfl,rfl⟩,.p t3⟩
 rintro _ _ ⟨rfl,rfl⟩;refine nkN J ?_;refine zU (b:=((decide (a1<0))||(decide ((qa a0:Int)<a1)))) rfl (fun hc4=>?_) (fun hc4=>?_)
 · rw[if_pos hc4] at h;refine D [4,5,6] ?_;cases h;exact rtA
 rw[Zf hc4] at h;apply zj;apply hZ1;refine D [0,1,7] ?_
 refine za fun Z5 hZ5=>?_
 obtain⟨_u6,hu6,h⟩:=bind_some h;have gu6:=Ya hu6;have f7:=E48.sl_lh gu6
 refine rg U [1,7,27,28,29] fun K J=>?_
 simp only[go_sem,qd,qb,reduceCtorEq,vbm,vdx,vcb,f7];apply J
 apply zn
 refine xn 27 fun hb12=>?_
 replace hb12:qa (vct a0 a1 (IntKind.i64.wrap (a1+(if 10<IntKind.i64.wrap ((qa a0:Int)-a1) then 10 else IntKind.i64.wrap ((qa a0:Int)-a1)))))≤9223372036854775807:=hb12.1;refine yh (fun m L τ=>∃ (p12 q12:List UInt8) (x9:Int) (x8:Int),m=qa q12∧L=[(1,.int .i64 a1),(7,.int .u64 x8),(27,.ds true (qc ZR (vct a0 a1 (IntKind.i64.wrap (a1+(if 10<IntKind.i64.wrap ((qa a0:Int)-a1) then 10 else IntKind.i64.wrap ((qa a0:Int)-a1)))))) (qa (vct a0 a1 (IntKind.i64.wrap (a1+(if 10<IntKind.i64.wrap ((qa a0:Int)-a1) then 10 else IntKind.i64.wrap ((qa a0:Int)-a1)))))) false),(28,.int .i64 (qa (vct a0 a1 (IntKind.i64.wrap (a1+(if 10<IntKind.i64.wrap ((qa a0:Int)-a1) then 10 else IntKind.i64.wrap ((qa a0:Int)-a1))))):Int)),(29,.int .i64 x9)]∧τ=([]:ze)∧vct a0 a1 (IntKind.i64.wrap (a1+(if 10<IntKind.i64.wrap ((qa a0:Int)-a1) then 10 else IntKind.i64.wrap ((qa a0:Int)-a1))))=p12++q12∧x9=(qa p12:Int)∧w7.l12 a1 q12 x9 x8=some r) _ ⟨[],vct a0 a1 (IntKind.i64.wrap (a1+(if 10<IntKind.i64.wrap ((qa a0:Int)-a1) then 10 else IntKind.i64.wrap ((qa a0:Int)-a1)))),0,0,rfl,rfl,rfl,rfl,rfl,h⟩ .s ?_;rintro m L τ ⟨p12,q12,x9,x8,rfl,rfl,rfl,hE12,hi12,h⟩
 rcases q12 with _|⟨y12,q12⟩
 · have hz12:=xC hE12 hi12;simp only[w7.l12] at h
   refine rg U [1,7,27,28,29,30] fun K J=>?_
   simp only[go_sem,qd,qb,hz12];apply J
   refine za fun Z13 hZ13=>?_
   refine zG rfl ?_;apply yf;apply hZ5;refine D [4,5,6] ?_;cases h;exact rtA
 obtain⟨hz12,hw12,hx12,hE'12,hi'12⟩:=yU hE12 hi12 hb12;simp only[w7.l12] at h
 refine rg U [1,7,27,28,29,30] fun K J=>?_
 simp only[go_sem,qd,qb,hz12];apply J
 refine za fun Z14 hZ14=>?_
 refine zK rfl ?_;apply zj;apply hZ14
 refine za fun Z15 hZ15=>?_
 apply zn;have f16:=E48.idxS hx12;have f17:=E48.fldS0 (f:=5) rfl rfl hx12
 refine rg U [1,7,8,9,27,28,29] fun K J=>?_
 simp only[go_sem,qd,qb,ZR,f16,f17];apply J
 refine za fun Z18 hZ18=>?_
 refine rc [1,7,8,9,27,28,29,39] fun K J=>?_
 refine O 3 ?_;refine zH 3 (fun L τ=>L=[(1,.int .i64 a1),(7,.int .u64 x8),(8,.int .i64 x9),(9,.int .u8 (y12.toNat:Int)),(27,.ds true (qc ZR (vct a0 a1 (IntKind.i64.wrap (a1+(if 10<IntKind.i64.wrap ((qa a0:Int)-a1) then 10 else IntKind.i64.wrap ((qa a0:Int)-a1)))))) (qa (vct a0 a1 (IntKind.i64.wrap (a1+(if 10<IntKind.i64.wrap ((qa a0:Int)-a1) then 10 else IntKind.i64.wrap ((qa a0:Int)-a1)))))) false),(28,.int .i64 (qa (vct a0 a1 (IntKind.i64.wrap (a1+(if 10<IntKind.i64.wrap ((qa a0:Int)-a1) then 10 else IntKind.i64.wrap ((qa a0:Int)-a1))))):Int)),(29,.int .i64 x9),(39,.bool ((decide (x9=9))&&(decide (1<(y12.toNat:Int)))))]∧τ=([]:ze)) ?_ ?_
 · refine wh 36 rfl (fun hg36=>?_) (fun hg36=>?_)
   · have t19:=eq_true hg36;refine O 3 ?_;refine zi ⟨rfl,_,_,⟨rfl,rfl⟩,.p t19⟩
   have t20:=eq_false hg36;refine O 3 ?_;refine zi ⟨rfl,_,_,⟨rfl,rfl⟩,.p t20⟩
 rintro _ _ ⟨rfl,rfl⟩;refine nkN J ?_;refine zU (b:=((decide (x9=9))&&(decide (1<(y12.toNat:Int))))) rfl (fun hc21=>?_) (fun hc21=>?_)
 · rw[if_pos hc21] at h;refine D [4,5,6] ?_;cases h;exact rtA
 rw[Zf hc21] at h;apply zj;apply hZ18;have f22:=w6 (T:=tab) (src:=5) (dst:=287) rfl rfl rfl;obtain⟨_u23,hu23,h⟩:=bind_some h;have gu23:=Ya hu23;have gu23n:(IntKind.i64.wrap (7*x9)<0)=False:=eq_false (by omega)
 refine rg U [1,7,8,9,27,28,29] fun K J=>?_
 simp only[go_sem,qd,qb,f22,gu23n,vaB];apply J
 refine za fun Z24 hZ24=>?_
 refine D [1,7,8,9,27,28,29,49] ?_;refine yn rfl (fun hc25=>?_) (fun hc25=>?_)
 · rw[if_pos hc25] at h;have t26:=eq_true hc25;apply yf;apply hZ15
   refine rgE U [1,7,27,28,29] fun K J=>?_
   simp only[go_sem,qd,qb,hw12,t26];apply J
   exact⟨_,_,_,qy q12.length,⟨p12++[y12],q12,x9+1,IntKind.u64.wrap ((ux (qJ 64 x8 ||| qJ 64 (IntKind.u64.wrap ((IntKind.u64.wrap (IntKind.u8.wrap ((ux (qJ 8 (y12.toNat:Int) &&& ~~~(qJ 8 128)):Nat):Int)))*2^(min (qO (IntKind.i64.wrap (7*x9))) 64)))):Nat):Int),rfl,rfl,rfl,hE'12,hi'12,h⟩,.s⟩
 rw[if_neg hc25] at h;have t27:=eq_false hc25;apply zj;apply hZ24
 refine za fun Z28 hZ28=>?_
 refine rc [1,7,8,55] fun K J=>?_
 refine zB U 3 ?_;simp only[go_sem,qd,qb,t27];refine zH 3 (fun L τ=>L=[(1,.int .i64 a1),(7,.int .u64 (IntKind.u64.wrap ((ux (qJ 64 x8 ||| qJ 64 (IntKind.u64.wrap ((IntKind.u64.wrap (IntKind.u8.wrap ((ux (qJ 8 (y12.toNat:Int) &&& ~~~(qJ 8 128)):Nat):Int)))*2^(min (qO (IntKind.i64.wrap (7*x9))) 64)))):Nat):Int))),(8,.int .i64 x9),(55,.bool ((decide ((y12.toNat:Int)=0))&&(decide (0<x9))))]∧τ=([]:ze)) ?_ ?_
 · refine wh 52 rfl (fun hg52=>?_) (fun hg52=>?_)
   · have t29:=eq_true hg52;refine O 3 ?_;refine zi ⟨rfl,_,_,⟨rfl,rfl⟩,.p t29⟩
   have t30:=eq_false hg52;refine O 3 ?_;refine zi ⟨rfl,_,_,⟨rfl,rfl⟩,.p t30⟩
 rintro _ _ ⟨rfl,rfl⟩;refine nkN J ?_;refine zU (b:=((decide ((y12.toNat:Int)=0))&&(decide (0<x9)))) rfl (fun hc31=>?_) (fun hc31=>?_)
 · rw[if_pos hc31] at h;refine D [4,5,6] ?_;cases h;exact rtA
 rw[Zf hc31] at h;apply zj;apply hZ28;refine D [4,5,6] ?_;cases h;exact rtA
def va4 (a0:Int):Int:=
 IntKind.i64.wrap ((ux (qJ 64 (IntKind.i64.wrap (Int.fdiv a0 (2^(min (qO 1) 64)))) ^^^ qJ 64 (IntKind.i64.wrap (0-(IntKind.i64.wrap (IntKind.u64.wrap ((ux (qJ 64 a0 &&& qJ 64 1):Nat):Int)))))):Nat):Int)
theorem va4.ok {a0 r}(h:va4 a0=r):ACalls qg 246 [.int .u64 a0] [] (fun r' _=>r'=.int .i64 r):=by
 refine zt (rs:=[.tmp 2]) U Tryz.func246 rfl Tryz.ntmps246 rfl Tryz.call246 (by simp) ?_;refine zA [(0,.int .u64 a0)] ⟨rfl,trivial⟩ ?_;unfold va4 at h;refine D [0] ?_;have f1:=w6 (T:=tab) (src:=287) (dst:=3) rfl rfl rfl;have f2:=w6 (T:=tab) (src:=287) (dst:=3) rfl rfl rfl
 refine rg U [2] fun K J=>?_
 simp only[go_sem,qd,qb,reduceCtorEq,f1,vaB,Int.reduceLT];apply J
 cases h;exact rtA
def YW (a0:List UInt8)(a1:Int):Option (yc×Int×Int):=
 (w7 a0 a1).bind fun r1=>(if r1.2.2=0 then (if ((decide (r1.1<2))||(decide (500<IntKind.u64.wrap ((r1.1).tdiv 2))))=true then some ((⟨0,0,0,[]⟩:yc),0,7) else (w7 a0 r1.2.1).bind fun r11=>(if r11.2.2=0 then (if IntKind.i64.wrap ((r1.1).tmod 2)=0 then bnd (va4 r11.1) fun r18=>some ((⟨IntKind.i64.wrap (IntKind.u64.wrap ((r1.1).tdiv 2)),IntKind.i64.wrap ((r1.1).tmod 2),r18,[]⟩:yc),r11.2.1,0) else (if IntKind.u64.wrap (IntKind.i64.wrap ((qa a0:Int)-r11.2.1))<r11.1 then some ((⟨0,0,0,[]⟩:yc),0,2) else (grd ((0:Int)≤r11.2.1∧r11.2.1≤IntKind.i64.wrap (r11.2.1+(IntKind.i64.wrap r11.1))∧IntKind.i64.wrap (r11.2.1+(IntKind.i64.wrap r11.1))≤(qa a0:Int))).bind fun _u25=>some ((⟨IntKind.i64.wrap (IntKind.u64.wrap ((r1.1).tdiv 2)),IntKind.i64.wrap ((r1.1).tmod 2),0,vct a0 r11.2.1 (IntKind.i64.wrap (r11.2.1+(IntKind.i64.wrap r11.1)))⟩:yc),IntKind.i64.wrap (r11.2.1+(IntKind.i64.wrap r11.1)),0))) else some ((⟨0,0,0,[]⟩:yc),0,r11.2.2))) else some ((⟨0,0,0,[]⟩:yc),0,r1.2.2))
theorem YW.ok {a0 a1 r}(h:YW a0 a1=some r):ACalls qg 231 [.ds true (qc ZR a0) (qa a0) false,.int .i64 a1] [] (fun r' _=>r'=.tup [.agg (zs r.1),.int .i64 r.2.1,.int .i64 r.2.2]):=by
 refine zt (rs:=[.cell 4 139,.tmp 5,.tmp 6]) U Tryz.func231 rfl Tryz.ntmps231 rfl Tryz.call231 (by simp) ?_;refine zA [(0,.ds true (qc ZR a0) (qa a0) false),(1,.int .i64 a1)] ⟨rfl,rfl,trivial⟩ ?_;unfold YW at h;refine D [0,1,4] ?_
 refine rc [0,1,4,7,8] fun K J=>?_
 obtain⟨r1,hr1,h⟩:=bind_some h;refine O 2 ?_;refine clN rfl rfl rfl ((w7.ok hr1).c _) ?_;refine O 7 ?_;refine nkN J ?_
 refine za fun Z2 hZ2=>?_
 apply zn;refine D [0,1,4,7,8,19] ?_;refine yn rfl (fun hc3=>?_) (fun hc3=>?_)
 · rw[if_neg hc3] at h;have t4:=eq_false hc3
   refine rg U [4,5,6] fun K J=>?_
   simp only[go_sem,qd,qf,qb,qe,reduceCtorEq,t4];apply J
   cases h;exact rtA
 rw[if_pos hc3] at h;have t5:=eq_true hc3
 refine rc [0,1,4,7,24] fun K J=>?_
 refine zB U 3 ?_;simp only[go_sem,qd,qb,reduceCtorEq,t5];refine zH 4 (fun L τ=>L=[(0,.ds true (qc ZR a0) (qa a0) false),(1,.int .i64 r1.2.1),(4,.op 0 0 0),(7,.int .u64 r1.1),(31,.bool ((decide (r1.1<2))||(decide (500<IntKind.u64.wrap ((r1.1).tdiv 2)))))]∧τ=([.cells 0 [.int .i64 0,.int .i64 0,.int .i64 0,.str []]]:ze)) ?_ ?_
 · refine wh 27 rfl (fun hg27=>?_) (fun hg27=>?_)
   · have t6:=eq_true hg27;refine O 4 ?_;refine zi ⟨rfl,_,_,⟨rfl,rfl⟩,.p t6⟩
   have t7:=eq_false hg27;refine zB U 4 ?_;simp only[go_sem,qd,qb,reduceCtorEq,Int.reduceEq];refine zi ⟨rfl,_,_,⟨rfl,rfl⟩,.p t7⟩
 rintro _ _ ⟨rfl,rfl⟩;refine O 1 ?_;refine nkN J ?_;refine zU (b:=((decide (r1.1<2))||(decide (500<IntKind.u64.wrap ((r1.1).tdiv 2))))) rfl (fun hc8=>?_) (fun hc8=>?_)
 · rw[if_pos hc8] at h;refine D [4,5,6] ?_;cases h;exact rtA
 rw[Zf hc8] at h;apply zj;apply hZ2;have f9:=w6 (T:=tab) (src:=287) (dst:=3) rfl rfl rfl;have f10:=w6 (T:=tab) (src:=287) (dst:=3) rfl rfl rfl
 refine rg U [0,1,4,9] fun K J=>?_
 simp only[go_sem,qd,qf,qb,qe,reduceCtorEq,f9,Int.reduceEq];apply J
 refine rc [0,1,4,8,9,10] fun K J=>?_
 obtain⟨r11,hr11,h⟩:=bind_some h;refine O 2 ?_;refine clN rfl rfl rfl ((w7.ok hr11).c _) ?_;refine O 7 ?_;refine nkN J ?_
 refine za fun Z12 hZ12=>?_
 apply zn;refine D [0,1,4,8,9,10,47] ?_;refine yn rfl (fun hc13=>?_) (fun hc13=>?_)
 · rw[if_neg hc13] at h;have t14:=eq_false hc13
   refine rg U [4,5,6] fun K J=>?_
   simp only[go_sem,qd,qf,qb,qe,reduceCtorEq,t14];apply J
   cases h;exact rtA
 rw[if_pos hc13] at h;have t15:=eq_true hc13
 refine rg U [0,1,4,9,10,52] fun K J=>?_
 simp only[go_sem,qd,qb,qe,reduceCtorEq,t15];apply J
 refine yn rfl (fun hc16=>?_) (fun hc16=>?_)
 · rw[if_pos hc16] at h;have t17:=eq_true hc16
   refine rc [1,4,9] fun K J=>?_
   obtain⟨r18,hr18,h⟩:=ye h;refine zB U 1 ?_;simp only[go_sem,qd,qb,reduceCtorEq,t17];refine clN rfl rfl rfl ((va4.ok hr18).c _) ?_;refine zB U 2 ?_;simp only[go_sem,qd,qf,qb,qe,reduceCtorEq,zs];refine nkN J ?_;refine D [4,5,6] ?_;cases h;exact rtA
 rw[if_neg hc16] at h;have t19:=eq_false hc16;have f20:=w6 (T:=tab) (src:=3) (dst:=287) rfl rfl rfl
 refine rg U [0,1,4,9,10,61] fun K J=>?_
 simp only[go_sem,qd,qb,reduceCtorEq,t19,f20];apply J
 refine yn rfl (fun hc21=>?_) (fun hc21=>?_)
 · rw[if_pos hc21] at h;have t22:=eq_true hc21
   refine rg U [4,5,6] fun K J=>?_
   simp only[go_sem,qd,qf,qb,qe,reduceCtorEq,t22];apply J
   cases h;exact rtA
 rw[if_neg hc21] at h;have t23:=eq_false hc21;apply zj;apply hZ12;have f24:=w6 (T:=tab) (src:=287) (dst:=3) rfl rfl rfl
 refine rg U [0,1,4,9,11] fun K J=>?_
 simp only[go_sem,qd,qb,reduceCtorEq,t23,f24];apply J
 obtain⟨_u25,hu25,h⟩:=bind_some h;have gu25:=Ya hu25;have f26:=E48.sl_lh gu25;have f27:=vb0 (T:=tab) (src:=48) (dst:=9) rfl rfl rfl rfl rfl rfl (vct a0 r11.2.1 (IntKind.i64.wrap (r11.2.1+(IntKind.i64.wrap r11.1))))
 refine rg U [4,9,11] fun K J=>?_
 simp only[go_sem,qd,qf,qb,qe,reduceCtorEq,f26,f27];apply J
 refine D [4,5,6] ?_;cases h;exact rtA
def w5.l12 (a0:List UInt8):Nat→List yc→Int→Option (List yc×Int)
 |0,_,_=>none
 |k12+1,l6,x8=>(if x8<(qa a0:Int) then (YW a0 x8).bind fun r16=>(if r16.2.2=0 then (X7 (qa l6+1) 40).bind fun _u21=>((w5.l12 a0 k12) (l6++[r16.1]) r16.2.1) else some (([]:List yc),r16.2.2)) else some (l6,0))
def w5 (a0:List UInt8):Option (List yc×Int):=
 (if 4096<(qa a0:Int) then some (([]:List yc),4) else (w5.l12 a0 xo ([]:List yc) 0))
theorem w5.ok {a0 r}(h:w5 a0=some r):ACalls qg 193 [.ds true (qc ZR a0) (qa a0) false] [] (fun r' _=>r'=.tup [.ds true (qc zs r.1) (qa r.1) false,.int .i64 r.2]):=by
 refine zt (rs:=[.tmp 2,.tmp 3]) U Tryz.func193 rfl Tryz.ntmps193 rfl Tryz.call193 (by simp) ?_;refine zA [(0,.ds true (qc ZR a0) (qa a0) false)] ⟨rfl,trivial⟩ ?_;unfold w5 at h;refine D [0] ?_
 refine za fun Z1 hZ1=>?_
 refine D [0,11] ?_;refine yn rfl (fun hc2=>?_) (fun hc2=>?_)
 · rw[if_pos hc2] at h;have t3:=eq_true hc2
   refine rg U [2,3] fun K J=>?_
   simp only[go_sem,qd,qb,reduceCtorEq,t3];apply J
   cases h;exact rtA
 rw[if_neg hc2] at h;have t4:=eq_false hc2;apply zj;apply hZ1
 refine rg U [0,4] fun K J=>?_
 simp only[go_sem,qd,qb,reduceCtorEq,t4];apply J
 refine YV 4 4 rfl ?_;refine yT (L:=[(0,.ds true (qc ZR a0) (qa a0) false),(4,.os true 4 0 0 0 (qa ([]:List yc)) false)]) (τ:=[.cells 0 (qc zs ([]:List yc))]) .s ?_
 refine za fun Z5 hZ5=>?_
 refine D [0,4,5] ?_;apply zn;refine yh (fun m L τ=>∃ (k12:Nat) (l6:List yc) (x8:Int) (v7:Nat),m=0+k12∧L=[(0,.ds true (qc ZR a0) (qa a0) false),(4,.os true 4 0 v7 0 (qa l6) false),(5,.int .i64 x8)]∧τ=([.cells v7 (qc zs l6)]:ze)∧w5.l12 a0 k12 l6 x8=some r) _ ⟨xo,([]:List yc),0,0,rfl,rfl,rfl,h⟩ .s ?_;rintro m L τ ⟨k12,l6,x8,v7,rfl,rfl,rfl,h⟩
 rcases k12 with _|k12
 · cases h
 simp only[w5.l12] at h
 refine za fun Z13 hZ13=>?_
 refine D [0,4,5,15] ?_;refine yn rfl (fun hc14=>?_) (fun hc14=>?_)
 · rw[if_pos hc14] at h;have t15:=eq_true hc14;apply zj;apply hZ13;apply zn
   refine rc [0,4,6,7,8] fun K J=>?_
   obtain⟨r16,hr16,h⟩:=bind_some h;refine zB U 2 ?_;simp only[go_sem,qd,qb,reduceCtorEq,t15];refine clN rfl rfl rfl ((YW.ok hr16).c _) ?_;refine zB U 8 ?_;simp only[go_sem,qd,qf,qb,qe,reduceCtorEq,zs];refine nkN J ?_
   refine za fun Z17 hZ17=>?_
   refine D [0,4,6,7,8,24] ?_;refine yn rfl (fun hc18=>?_) (fun hc18=>?_)
   · rw[if_neg hc18] at h;have t19:=eq_false hc18
     refine rg U [2,3] fun K J=>?_
     simp only[go_sem,qd,qb,reduceCtorEq,t19];apply J
     cases h;exact rtA
   rw[if_pos hc18] at h;have t20:=eq_true hc18;apply zj;apply hZ17;obtain⟨_u21,hu21,h⟩:=bind_some h;have gu21:=xf hu21;have f22:=(zV E35.len l6)
   refine rg U [0,4,7] fun K J=>?_
   simp only[go_sem,qd,qf,qb,qe,qj,reduceCtorEq,zS,yE,qZ,qQ,true_and,ue,yM,yw,yR,t20,gu21,f22,xw,uc,q9,AV.one,qM,qD,ql,qr,qo,qH];apply J
   refine yT (L:=[(0,.ds true (qc ZR a0) (qa a0) false),(4,.os true 4 0 (v7+1) 0 (qa (l6++[r16.1])) false),(7,.int .i64 r16.2.1)]) (τ:=[.cells (v7+1) (qc zs (l6++[r16.1])),.cells 0 [.int .i64 r16.1.fTag,.int .i64 r16.1.fWire,.int .i64 r16.1.fN,.str r16.1.fB],.cells 0 [.int .i64 r16.1.fTag,.int .i64 r16.1.fWire,.int .i64 r16.1.fN,.str r16.1.fB]]) .s ?_
   refine rgE U [0,4,5] fun K J=>?_
   simp only[go_sem,qd,qb,reduceCtorEq];apply J
   exact⟨_,_,_,qy (0+k12),⟨k12,l6++[r16.1],r16.2.1,v7+1,rfl,rfl,rfl,h⟩,(.t [0] false)⟩
 rw[if_neg hc14] at h;have t23:=eq_false hc14;apply yf;apply hZ5
 refine rg U [2,3] fun K J=>?_
 simp only[go_sem,qd,qb,reduceCtorEq,t23];apply J
 cases h;exact rtA
def ZX (a0:zr)(a1:Int):Int:=
 IntKind.i64.wrap (a0.fTag-a1)
theorem ZX.ok {a0 a1 r}(h:ZX a0 a1=r):ACalls qg 233 [.agg (zQ a0),.int .i64 a1] [] (fun r' _=>r'=.int .i64 r):=by
 refine zt (rs:=[.tmp 4]) U Tryz.func233 rfl Tryz.ntmps233 rfl Tryz.call233 (by simp) ?_;refine zA [(0,.agg (zQ a0)),(1,.int .i64 a1)] ⟨rfl,rfl,trivial⟩ ?_;unfold ZX at h
 refine rg U [1,2] fun K J=>?_
 simp only[go_sem,qd,qb,qe,reduceCtorEq,zQ];apply J
 refine D [4] ?_;cases h;exact rtA
def zL.l6 (a0:List zr)(a1:Int):Nat→Int→Int→Option (Int×Bool)
 |0,_,_=>none
 |k6+1,x2,x3=>(if x2<x3 then (Yz a0 (IntKind.i64.wrap (Int.fdiv (IntKind.u64.wrap (IntKind.i64.wrap (x2+x3))) (2^(min (qO 1) 64))))).bind fun y12=>bnd (ZX y12 a1) fun r15=>(if r15<0 then ((zL.l6 a0 a1 k6) (IntKind.i64.wrap ((IntKind.i64.wrap (Int.fdiv (IntKind.u64.wrap (IntKind.i64.wrap (x2+x3))) (2^(min (qO 1) 64))))+1)) x3) else ((zL.l6 a0 a1 k6) x2 (IntKind.i64.wrap (Int.fdiv (IntKind.u64.wrap (IntKind.i64.wrap (x2+x3))) (2^(min (qO 1) 64)))))) else (if x2<(qa a0:Int) then (Yz a0 x2).bind fun y20=>bnd (ZX y20 a1) fun r23=>some (decide (r23=0)) else some false).bind fun c20=>some (x2,c20))
def zL (a0:List zr)(a1:Int):Option (Int×Bool):=
 (zL.l6 a0 a1 xo 0 (qa a0:Int))
theorem zL.ok {a0 a1 r}(h:zL a0 a1=some r):ACalls qg 232 [.ds true (qc zx a0) (qa a0) false,.int .i64 a1,.fn (.func 233) [] []] [] (fun r' _=>r'=.tup [.int .i64 r.1,.bool r.2]):=by
 refine zt (rs:=[.tmp 6,.tmp 7]) U Tryz.func232 rfl Tryz.ntmps232 rfl Tryz.call232 (by simp) ?_;refine zA [(0,.ds true (qc zx a0) (qa a0) false),(1,.int .i64 a1),(2,.fn (.func 233) [] [])] ⟨rfl,rfl,rfl,trivial⟩ ?_;unfold zL at h;refine D [0,1,2] ?_;refine D [0,1,2,8] ?_;refine D [0,1,2,8,9,10] ?_
 refine za fun Z1 hZ1=>?_
 apply zn;refine yh (fun m L τ=>∃ (k6:Nat) (x2:Int) (x3:Int),m=0+k6∧L=[(0,.ds true (qc zx a0) (qa a0) false),(1,.int .i64 a1),(2,.fn (.func 233) [] []),(8,.int .i64 (qa a0:Int)),(9,.int .i64 x2),(10,.int .i64 x3)]∧τ=([]:ze)∧zL.l6 a0 a1 k6 x2 x3=some r) _ ⟨xo,0,(qa a0:Int),rfl,rfl,rfl,h⟩ .s ?_;rintro m L τ ⟨k6,x2,x3,rfl,rfl,rfl,h⟩
 rcases k6 with _|k6
 · cases h
 simp only[zL.l6] at h
 refine za fun Z7 hZ7=>?_
 refine D [0,1,2,8,9,10,17] ?_;refine yn rfl (fun hc8=>?_) (fun hc8=>?_)
 · rw[if_pos hc8] at h;have t9:=eq_true hc8;apply zj;apply hZ7;apply zn;have f10:=w6 (T:=tab) (src:=3) (dst:=100) rfl rfl rfl;have f11:=w6 (T:=tab) (src:=100) (dst:=3) rfl rfl rfl
   refine rg U [0,1,2,8,9,10,11] fun K J=>?_
   simp only[go_sem,qd,qb,reduceCtorEq,t9,f10,f11,vaB,Int.reduceLT];apply J
   refine rc [0,1,2,8,9,10,11,31] fun K J=>?_
   obtain⟨y12,hy12,h⟩:=bind_some h;have f13:=E34.idxS hy12;have f14:=E34.loadS rfl rfl hy12;obtain⟨r15,hr15,h⟩:=ye h;refine zB U 6 ?_;simp only[go_sem,qd,qb,reduceCtorEq,zQ,yK,f13,f14];refine clN rfl rfl rfl ((ZX.ok hr15).c _) ?_;refine O 1 ?_;refine nkN J ?_;refine yn rfl (fun hc16=>?_) (fun hc16=>?_)
   · rw[if_pos hc16] at h;have t17:=eq_true hc16
     refine rgE U [0,1,2,8,9,10] fun K J=>?_
     simp only[go_sem,qd,qb,reduceCtorEq,t17];apply J
     exact⟨_,_,_,qy (0+k6),⟨k6,IntKind.i64.wrap ((IntKind.i64.wrap (Int.fdiv (IntKind.u64.wrap (IntKind.i64.wrap (x2+x3))) (2^(min (qO 1) 64))))+1),x3,rfl,rfl,rfl,h⟩,.s⟩
   rw[if_neg hc16] at h;have t18:=eq_false hc16
   refine rgE U [0,1,2,8,9,10] fun K J=>?_
   simp only[go_sem,qd,qb,reduceCtorEq,t18];apply J
   exact⟨_,_,_,qy (0+k6),⟨k6,x2,IntKind.i64.wrap (Int.fdiv (IntKind.u64.wrap (IntKind.i64.wrap (x2+x3))) (2^(min (qO 1) 64))),rfl,rfl,rfl,h⟩,.s⟩
 rw[if_neg hc8] at h;have t19:=eq_false hc8;apply yf;apply hZ1
 refine rc [6,7] fun K J=>?_
 refine zB U 5 ?_;simp only[go_sem,qd,qb,reduceCtorEq,t19];obtain⟨c20,hc20,h⟩:=bind_some h;refine zH 9 (fun L τ=>L=[(35,.int .i64 x2),(48,.bool c20)]∧τ=([]:ze)) ?_ ?_
 · refine wh 39 rfl (fun hg39=>?_) (fun hg39=>?_)
   · have t21:=eq_true hg39;rw[if_pos hg39] at hc20;obtain⟨y22,hy22,hc20⟩:=bind_some hc20;have f23:=E34.idxS hy22;have f24:=E34.loadS rfl rfl hy22;obtain⟨r25,hr25,hc20⟩:=ye hc20;refine zB U 6 ?_;simp only[go_sem,qd,qb,reduceCtorEq,zQ,yK,f23,f24];refine clN rfl rfl rfl ((ZX.ok hr25).c _) ?_;refine O 2 ?_;cases hc20;refine zi ⟨rfl,_,_,⟨rfl,rfl⟩,.p t21⟩
   have t26:=eq_false hg39;rw[if_neg hg39] at hc20;refine O 9 ?_;cases hc20;refine zi ⟨rfl,_,_,⟨rfl,rfl⟩,.p t26⟩
 rintro _ _ ⟨rfl,rfl⟩;refine O 2 ?_;refine nkN J ?_;cases h;exact rtA
def Ze (a0:zr)(a1:ya):Option Bool:=
 bnd (zI a1 a0.fTag) fun r1=>(if r1.1.fLabel=1 then (Yz a0.fTrees 0).bind fun y2=>bnd (Zx y2) fun r5=>some r5 else some false).bind fun c2=>some c2
theorem Ze.ok {a0 a1 r}(h:Ze a0 a1=some r):ACalls qg 197 [.agg (zQ a0),.dp (zf a1) 0] [] (fun r' _=>r'=.bool r):=by
 refine zt (rs:=[.tmp 3]) U Tryz.func197 rfl Tryz.ntmps197 rfl Tryz.call197 (by simp) ?_;refine zA [(0,.agg (zQ a0)),(1,.dp (zf a1) 0)] ⟨rfl,rfl,trivial⟩ ?_;unfold Ze at h
 refine rg U [1,2] fun K J=>?_
 simp only[go_sem,qd,qb,qe,reduceCtorEq,zQ];apply J
 refine rc [2,4] fun K J=>?_
 obtain⟨r1,hr1,h⟩:=ye h;refine zB U 3 ?_;simp only[go_sem,qd,qf,qb,qe,zf,vbJ];refine clN rfl rfl rfl ((zI.ok hr1).c _) ?_;refine zB U 6 ?_;simp only[go_sem,qd,qf,qb,qe,yr];refine nkN J ?_
 refine rc [3] fun K J=>?_
 refine O 4 ?_;obtain⟨c2,hc2,h⟩:=bind_some h;refine zH 6 (fun L τ=>L=[(22,.bool c2)]∧τ=([.cells 0 (zQ a0),.cells 0 (yr r1.1)]:ze)) ?_ ?_
 · refine wh 16 rfl (fun hg16=>?_) (fun hg16=>?_)
   · have t3:=eq_true hg16;rw[if_pos hg16] at hc2;obtain⟨y4,hy4,hc2⟩:=bind_some hc2;have f5:=E38.idxS hy4;have f6:=E38.loadS rfl rfl hy4;obtain⟨r7,hr7,hc2⟩:=ye hc2;refine zB U 4 ?_;simp only[go_sem,qd,qb,qe,zd,yu,f5,f6];refine clN rfl rfl rfl ((Zx.ok hr7).c _) ?_;refine O 1 ?_;cases hc2;refine zi ⟨rfl,_,_,⟨rfl,rfl⟩,.p t3⟩
   have t8:=eq_false hg16;rw[if_neg hg16] at hc2;refine O 6 ?_;cases hc2;refine zi ⟨rfl,_,_,⟨rfl,rfl⟩,.p t8⟩
 rintro _ _ ⟨rfl,rfl⟩;refine O 1 ?_;refine nkN J ?_;cases h;exact rtA
def z7.l4 (a1_0:ya):List zr→Int→Option Int
 |[],x2=>some (-1)
 |y4::q4,x2=>(Ze y4 a1_0).bind fun r10=>(if r10=true then some x2 else ((z7.l4 a1_0 q4) (x2+1)))
def z7 (a0:List zr)(a1_0:ya):Option Int:=
 (z7.l4 a1_0 a0 0)
theorem z7.ok {a0 a1_0 r}(h:z7 a0 a1_0=some r):ACalls qg 235 [.ds true (qc zx a0) (qa a0) false,.fn (.func 197) [] [.dp (zf a1_0) 0]] [] (fun r' _=>r'=.int .i64 r):=by
 refine zt (rs:=[.tmp 4]) U Tryz.func235 rfl Tryz.ntmps235 rfl Tryz.call235 (by simp) ?_;refine zA [(0,.ds true (qc zx a0) (qa a0) false),(1,.fn (.func 197) [] [.dp (zf a1_0) 0])] ⟨rfl,rfl,trivial⟩ ?_;unfold z7 at h;refine D [0,1] ?_
 refine za fun Z1 hZ1=>?_
 refine D [0,1,7,8] ?_;apply zn
 refine xn 0 fun hb4=>?_
 replace hb4:qa a0≤9223372036854775807:=hb4.1;refine yh (fun m L τ=>∃ (p4 q4:List zr) (x2:Int),m=qa q4∧L=[(0,.ds true (qc zx a0) (qa a0) false),(1,.fn (.func 197) [] [.dp (zf a1_0) 0]),(7,.int .i64 (qa a0:Int)),(8,.int .i64 x2)]∧τ=([]:ze)∧a0=p4++q4∧x2=(qa p4:Int)∧z7.l4 a1_0 q4 x2=some r) _ ⟨[],a0,0,rfl,rfl,rfl,rfl,rfl,h⟩ .s ?_;rintro m L τ ⟨p4,q4,x2,rfl,rfl,rfl,hE4,hi4,h⟩
 rcases q4 with _|⟨y4,q4⟩
 · have hz4:=xC hE4 hi4;simp only[z7.l4] at h
   refine rg U [0,1,7,8,9] fun K J=>?_
   simp only[go_sem,qd,qb,reduceCtorEq,hz4];apply J
   refine za fun Z5 hZ5=>?_
   refine zG rfl ?_;apply yf;apply hZ1;refine D [4] ?_;cases h;exact rtA
 obtain⟨hz4,hw4,hx4,hE'4,hi'4⟩:=yU hE4 hi4 hb4;simp only[z7.l4] at h
 refine rg U [0,1,7,8,9] fun K J=>?_
 simp only[go_sem,qd,qb,reduceCtorEq,hz4];apply J
 refine za fun Z6 hZ6=>?_
 refine zK rfl ?_;apply zj;apply hZ6
 refine za fun Z7 hZ7=>?_
 apply zn;refine D [0,1,5,7,8] ?_
 refine rc [0,1,5,7,8,16] fun K J=>?_
 have f8:=E34.idxS hx4;have f9:=E34.loadS rfl rfl hx4;obtain⟨r10,hr10,h⟩:=bind_some h;refine zB U 5 ?_;simp only[go_sem,qd,qb,reduceCtorEq,zQ,yK,f8,f9];refine clN rfl rfl rfl ((Ze.ok hr10).c _) ?_;refine nkN J ?_;refine zU (b:=r10) rfl (fun hc11=>?_) (fun hc11=>?_)
 · rw[if_pos hc11] at h;refine D [4] ?_;cases h;exact rtA
 rw[Zf hc11] at h;apply zj;apply hZ7
 refine rgE U [0,1,7,8] fun K J=>?_
 simp only[go_sem,qd,qb,reduceCtorEq,hw4];apply J
 exact⟨_,_,_,qy q4.length,⟨p4++[y4],q4,x2+1,rfl,rfl,rfl,hE'4,hi'4,h⟩,.s⟩
def yA.j4 (m4_1:zk):Option (zk×Int):=
 some (m4_1,0)
def yA.j6 (yo:zE→ya→(List UInt8)→Int→Option (zk×Int))(a0:zE)(a1:Yi)(a2:yc)(a3:Int)(m4_1:zk)(x5:Bool):Option (zk×Int):=
 (if x5=true then bnd (Zq a1 a2.fN) fun r8=>(if (!r8)=true then some ((⟨0,0,[],([]:List zr),([]:List yc)⟩:zk),11) else (yA.j4 m4_1)) else (if a1.fKind=4 then (wt a2.fB).bind fun r12=>(if (!r12)=true then some ((⟨0,0,[],([]:List zr),([]:List yc)⟩:zk),9) else (yA.j4 m4_1)) else (if a1.fKind=7 then bnd (yq a0 a1.fName) fun r17=>(grd (qa a2.fB≤9223372036854775807)).bind fun _u18=>(yo a0 r17.1 a2.fB (IntKind.i64.wrap (a3+1))).bind fun r20=>some (r20.1,r20.2) else (yA.j4 m4_1))))
def yA.j3 (yo:zE→ya→(List UInt8)→Int→Option (zk×Int))(a0:zE)(a1:Yi)(a2:yc)(a3:Int)(m4_1:zk):Option (zk×Int):=
 (if a1.fKind=3 then (yA.j6 yo a0 a1 a2 a3 m4_1 (decide (a1.fKind=3))) else (yA.j6 yo a0 a1 a2 a3 m4_1 (decide (a1.fKind=6))))
def yA.j26 (yo:zE→ya→(List UInt8)→Int→Option (zk×Int))(a0:zE)(a1:Yi)(a2:yc)(a3:Int)(m4_1:zk)(x25:Bool):Option (zk×Int):=
 (if x25=true then (if a2.fWire=1 then (yA.j3 yo a0 a1 a2 a3 m4_1) else some ((⟨0,0,[],([]:List zr),([]:List yc)⟩:zk),8)) else (if a2.fWire=0 then (yA.j3 yo a0 a1 a2 a3 m4_1) else some ((⟨0,0,[],([]:List zr),([]:List yc)⟩:zk),8)))
def yA.j2 (yo:zE→ya→(List UInt8)→Int→Option (zk×Int))(a0:zE)(a1:Yi)(a2:yc)(a3:Int)(m4_1:zk):Option (zk×Int):=
 (if a1.fKind=4 then (yA.j26 yo a0 a1 a2 a3 m4_1 (decide (a1.fKind=4))) else (if a1.fKind=5 then (yA.j26 yo a0 a1 a2 a3 m4_1 (decide (a1.fKind=5))) else (yA.j26 yo a0 a1 a2 a3 m4_1 (decide (a1.fKind=7)))))
def yA.body (yo:zE→ya→(List UInt8)→Int→Option (zk×Int))(wb:zE→Yi→yc→Int→Option (zk×Int))(a0:zE)(a1:Yi)(a2:yc)(a3:Int):Option (zk×Int):=
 (if a2.fWire=1 then (yA.j2 yo a0 a1 a2 a3 (⟨2,0,a2.fB,([]:List zr),([]:List yc)⟩:zk)) else (yA.j2 yo a0 a1 a2 a3 (⟨1,a2.fN,[],([]:List zr),([]:List yc)⟩:zk)))
theorem yA.step (yo:zE→ya→(List UInt8)→Int→Option (zk×Int))(wb:zE→Yi→yc→Int→Option (zk×Int))(vc7:∀ (a0:zE) (a1:ya) (a2:List UInt8) (a3:Int) (r:zk×Int),yo a0 a1 a2 a3=some r→ACalls qg 149 [.agg (zb a0),.agg (zf a1),.ds true (qc ZR a2) (qa a2) false,.int .i64 a3] [] (fun r' _=>r'=.tup [.agg (zd r.1),.int .i64 r.2]))(vbb:∀ (a0:zE) (a1:Yi) (a2:yc) (a3:Int) (r:zk×Int),wb a0 a1 a2 a3=some r→ACalls qg 194 [.agg (zb a0),.agg (Zh a1),.agg (zs a2),.int .i64 a3] [] (fun r' _=>r'=.tup [.agg (zd r.1),.int .i64 r.2]))(a0:zE)(a1:Yi)(a2:yc)(a3:Int)(r:zk×Int)(h:yA.body yo wb a0 a1 a2 a3=some r):ACalls qg 194 [.agg (zb a0),.agg (Zh a1),.agg (zs a2),.int .i64 a3] [] (fun r' _=>r'=.tup [.agg (zd r.1),.int .i64 r.2]):=by
 have ev_decode_message:=fun a0 a1 a2 a3 r h σ=>(vc7 a0 a1 a2 a3 r h).c σ
 have ev_decode_one:=fun a0 a1 a2 a3 r h σ=>(vbb a0 a1 a2 a3 r h).c σ
 refine zt (rs:=[.cell 8 37,.tmp 9]) U Tryz.func194 rfl Tryz.ntmps194 rfl Tryz.call194 (by simp) ?_;refine zA [(0,.agg (zb a0)),(1,.agg (Zh a1)),(2,.agg (zs a2)),(3,.int .i64 a3)] ⟨rfl,rfl,rfl,rfl,trivial⟩ ?_;unfold yA.body at h
 refine rg U [3,4,5,6,8] fun K J=>?_
 simp only[go_sem,qd,qb,qe,reduceCtorEq,zs,zb,Zh];apply J
 refine D [3,4,5,6,8,10] ?_;refine xL (fun L τ=>∃ (m4_1:zk),L=[(3,.int .i64 a3),(4,.op 0 0 0),(5,.op 1 0 0),(6,.op 2 0 0),(8,.op 3 0 0),(10,.op 4 0 0)]∧τ=([.cells 0 (zb a0),.cells 0 [.int .i64 a1.fKind,.str a1.fName],.cells 0 [.int .i64 a2.fTag,.int .i64 a2.fWire,.int .i64 a2.fN,.str a2.fB],.cells 0 [.int .i64 0,.int .i64 0,.str [],.ds true (qc zx ([]:List zr)) (qa ([]:List zr)) false,.ds true (qc zs ([]:List yc)) (qa ([]:List yc)) false],.cells 0 (zd m4_1)]:ze)∧yA.j2 yo a0 a1 a2 a3 m4_1=some r) ?_ ?_
 · refine D [3,4,5,6,8,10,18] ?_;refine yn rfl (fun hc40=>?_) (fun hc40=>?_)
   · rw[if_pos hc40] at h;have t41:=eq_true hc40
     refine rgE U [3,4,5,6,8,10] fun K J=>?_
     simp only[go_sem,qd,qf,qb,qe,t41];apply J
     exact⟨_,_,⟨(⟨2,0,a2.fB,([]:List zr),([]:List yc)⟩:zk),rfl,rfl,h⟩,(.t [0,1,2,3,4] true)⟩
   rw[if_neg hc40] at h;have t42:=eq_false hc40;apply zj;exact⟨_,_,⟨(⟨1,a2.fN,[],([]:List zr),([]:List yc)⟩:zk),rfl,rfl,h⟩,(.t [0,1,2,3,4] true)⟩
 rintro _ _ ⟨m4_1,rfl,rfl,h⟩;unfold yA.j2 at h;refine xL (fun L τ=>L=[(3,.int .i64 a3),(4,.op 0 0 0),(5,.op 1 0 0),(6,.op 2 0 0),(8,.op 3 0 0),(10,.op 4 0 0)]∧τ=([.cells 0 (zb a0),.cells 0 [.int .i64 a1.fKind,.str a1.fName],.cells 0 [.int .i64 a2.fTag,.int .i64 a2.fWire,.int .i64 a2.fN,.str a2.fB],.cells 0 [.int .i64 0,.int .i64 0,.str [],.ds true (qc zx ([]:List zr)) (qa ([]:List zr)) false,.ds true (qc zs ([]:List yc)) (qa ([]:List yc)) false],.cells 0 (zd m4_1)]:ze)∧yA.j3 yo a0 a1 a2 a3 m4_1=some r) ?_ ?_
 · refine D [3,4,5,6,8,10,23] ?_;apply zn;refine xL (fun L τ=>∃ (x25:Bool),L=[(3,.int .i64 a3),(4,.op 0 0 0),(5,.op 1 0 0),(6,.op 2 0 0),(8,.op 3 0 0),(10,.op 4 0 0),(28,.bool x25)]∧τ=([.cells 0 (zb a0),.cells 0 [.int .i64 a1.fKind,.str a1.fName],.cells 0 [.int .i64 a2.fTag,.int .i64 a2.fWire,.int .i64 a2.fN,.str a2.fB],.cells 0 [.int .i64 0,.int .i64 0,.str [],.ds true (qc zx ([]:List zr)) (qa ([]:List zr)) false,.ds true (qc zs ([]:List yc)) (qa ([]:List yc)) false],.cells 0 (zd m4_1)]:ze)∧yA.j26 yo a0 a1 a2 a3 m4_1 x25=some r) ?_ ?_
   · refine D [3,4,5,6,8,10,23,28] ?_;refine yn rfl (fun hc34=>?_) (fun hc34=>?_)
     · rw[if_pos hc34] at h;have t35:=eq_true hc34;apply zj;exact⟨_,_,⟨decide (a1.fKind=4),rfl,rfl,h⟩,.s⟩
     rw[if_neg hc34] at h;have t36:=eq_false hc34
     refine rg U [3,4,5,6,8,10,23,28] fun K J=>?_
     simp only[go_sem,qd,qb,t36];apply J
     refine yn rfl (fun hc37=>?_) (fun hc37=>?_)
     · rw[if_pos hc37] at h;have t38:=eq_true hc37;apply zj;exact⟨_,_,⟨decide (a1.fKind=5),rfl,rfl,h⟩,.s⟩
     rw[if_neg hc37] at h;have t39:=eq_false hc37
     refine rgE U [3,4,5,6,8,10,28] fun K J=>?_
     simp only[go_sem,qd,qb,t39];apply J
     exact⟨_,_,⟨decide (a1.fKind=7),rfl,rfl,h⟩,.s⟩
   rintro _ _ ⟨x25,rfl,rfl,h⟩;unfold yA.j26 at h;refine zU (b:=x25) rfl (fun hc27=>?_) (fun hc27=>?_)
   · rw[if_pos hc27] at h;refine D [3,4,5,6,8,10,34] ?_;refine yn rfl (fun hc28=>?_) (fun hc28=>?_)
     · rw[if_neg hc28] at h;have t29:=eq_false hc28
       refine rg U [8,9] fun K J=>?_
       simp only[go_sem,qd,qf,qb,qe,t29];apply J
       cases h;exact rtA
     rw[if_pos hc28] at h;have t30:=eq_true hc28;apply zj;exact⟨_,_,⟨rfl,rfl,h⟩,.s⟩
   rw[Zf hc27] at h;refine D [3,4,5,6,8,10,26] ?_;refine yn rfl (fun hc31=>?_) (fun hc31=>?_)
   · rw[if_neg hc31] at h;have t32:=eq_false hc31
     refine rg U [8,9] fun K J=>?_
     simp only[go_sem,qd,qf,qb,qe,t32];apply J
     cases h;exact rtA
   rw[if_pos hc31] at h;have t33:=eq_true hc31;apply zj;exact⟨_,_,⟨rfl,rfl,h⟩,.s⟩
 rintro _ _ ⟨rfl,rfl,h⟩;unfold yA.j3 at h;refine xL (fun L τ=>L=[(8,.op 0 0 0),(10,.op 1 0 0)]∧τ=([.cells 0 [.int .i64 0,.int .i64 0,.str [],.ds true (qc zx ([]:List zr)) (qa ([]:List zr)) false,.ds true (qc zs ([]:List yc)) (qa ([]:List yc)) false],.cells 0 (zd m4_1)]:ze)∧yA.j4 m4_1=some r) ?_ ?_
 · refine D [3,4,5,6,8,10,37] ?_;apply zn;refine xL (fun L τ=>∃ (x5:Bool),L=[(3,.int .i64 a3),(4,.op 0 0 0),(5,.op 1 0 0),(6,.op 2 0 0),(8,.op 3 0 0),(10,.op 4 0 0),(37,.int .i64 a1.fKind),(38,.bool x5)]∧τ=([.cells 0 (zb a0),.cells 0 [.int .i64 a1.fKind,.str a1.fName],.cells 0 [.int .i64 a2.fTag,.int .i64 a2.fWire,.int .i64 a2.fN,.str a2.fB],.cells 0 [.int .i64 0,.int .i64 0,.str [],.ds true (qc zx ([]:List zr)) (qa ([]:List zr)) false,.ds true (qc zs ([]:List yc)) (qa ([]:List yc)) false],.cells 0 (zd m4_1)]:ze)∧yA.j6 yo a0 a1 a2 a3 m4_1 x5=some r) ?_ ?_
   · refine D [3,4,5,6,8,10,37,38] ?_;refine yn rfl (fun hc22=>?_) (fun hc22=>?_)
     · rw[if_pos hc22] at h;have t23:=eq_true hc22;apply zj;exact⟨_,_,⟨decide (a1.fKind=3),rfl,rfl,h⟩,.s⟩
     rw[if_neg hc22] at h;have t24:=eq_false hc22
     refine rgE U [3,4,5,6,8,10,37,38] fun K J=>?_
     simp only[go_sem,qd,qb,t24];apply J
     exact⟨_,_,⟨decide (a1.fKind=6),rfl,rfl,h⟩,.s⟩
   rintro _ _ ⟨x5,rfl,rfl,h⟩;unfold yA.j6 at h;refine zU (b:=x5) rfl (fun hc7=>?_) (fun hc7=>?_)
   · rw[if_pos hc7] at h
     refine rc [8,10,45] fun K J=>?_
     obtain⟨r8,hr8,h⟩:=ye h;refine O 3 ?_;refine clN rfl rfl rfl ((Zq.ok hr8).c _) ?_;refine O 1 ?_;refine nkN J ?_;refine zU (b:=(!r8)) rfl (fun hc9=>?_) (fun hc9=>?_)
     · rw[if_pos hc9] at h;refine D [8,9] ?_;cases h;exact rtA
     rw[Zf hc9] at h;apply zj;exact⟨_,_,⟨rfl,rfl,h⟩,(.t [3,4] false)⟩
   rw[Zf hc7] at h;refine D [3,4,5,6,8,10,37,47] ?_;refine yn rfl (fun hc10=>?_) (fun hc10=>?_)
   · rw[if_pos hc10] at h;have t11:=eq_true hc10
     refine rc [8,10,52] fun K J=>?_
     obtain⟨r12,hr12,h⟩:=bind_some h;refine zB U 2 ?_;simp only[go_sem,qd,qb,qe,t11];refine clN rfl rfl rfl ((wt.ok hr12).c _) ?_;refine O 1 ?_;refine nkN J ?_;refine zU (b:=(!r12)) rfl (fun hc13=>?_) (fun hc13=>?_)
     · rw[if_pos hc13] at h;refine D [8,9] ?_;cases h;exact rtA
     rw[Zf hc13] at h;apply zj;exact⟨_,_,⟨rfl,rfl,h⟩,(.t [3,4] false)⟩
   rw[if_neg hc10] at h;have t14:=eq_false hc10
   refine rg U [3,4,5,6,8,10,54] fun K J=>?_
   simp only[go_sem,qd,qb,t14];apply J
   refine yn rfl (fun hc15=>?_) (fun hc15=>?_)
   · rw[if_pos hc15] at h;have t16:=eq_true hc15
     refine rc [3,4,6,8,11] fun K J=>?_
     obtain⟨r17,hr17,h⟩:=ye h;refine zB U 3 ?_;simp only[go_sem,qd,qf,qb,qe,t16];refine clN rfl rfl rfl ((yq.ok hr17).c _) ?_;refine zB U 6 ?_;simp only[go_sem,qd,qf,qb,qe,zf];refine nkN J ?_
     refine rc [8,9] fun K J=>?_
     obtain⟨_u18,hu18,h⟩:=bind_some h;have gu18:=Ya hu18;have gu18t:=eq_true gu18;have f19:=conv_s2b (T:=tab) (src:=9) (dst:=48) rfl rfl rfl rfl rfl rfl (Ya hu18);obtain⟨r20,hr20,h⟩:=bind_some h;refine zB U 7 ?_;simp only[go_sem,qd,qf,qb,qe,f19];refine vbF (L:=[(8,.op 0 0 0),(63,.agg (zb a0)),(64,.agg (zf r17.1)),(67,.ds true (qc ZR a2.fB) (qa a2.fB) false),(69,.int .i64 (IntKind.i64.wrap (a3+1)))]) (τ:=[.cells 0 [.int .i64 0,.int .i64 0,.str [],.ds true (qc zx ([]:List zr)) (qa ([]:List zr)) false,.ds true (qc zs ([]:List yc)) (qa ([]:List yc)) false]]) (.t [3] false) ?_;refine clN rfl rfl rfl (ev_decode_message a0 r17.1 a2.fB (IntKind.i64.wrap (a3+1)) r20 hr20 _) ?_;refine zB U 4 ?_;simp only[go_sem,qd,qf,qb,qe,zd,zf,zb];refine nkN J ?_;cases h;exact rtA
   rw[if_neg hc15] at h;have t21:=eq_false hc15;apply zj;exact⟨_,_,⟨rfl,rfl,h⟩,(.t [3,4] false)⟩
 rintro _ _ ⟨rfl,rfl,h⟩;unfold yA.j4 at h;refine D [8,9] ?_;cases h;exact rtA
end
section
open Go.RowKit AM
theorem setRun_ins (cs new:List AV)(k:Nat)(hk:k≤cs.length)(hn:new.length=2):
 wq (wq (cs++[.u,.u]) (k+2) (cs.drop k)) k new=cs.take k++(new++cs.drop k):=by
 have e0:cs++[AV.u,.u]=(cs.take k++((cs.drop k++[AV.u,.u]).take 2))++(((cs.drop k++[AV.u,.u]).drop 2)++[]):=by
  rw[qE,qx,uz,← qx,uz]
 have l1:((cs.drop k++[AV.u,.u]).take 2).length=2:=by simp
 have l2:(cs.take k++((cs.drop k++[AV.u,.u]).take 2)).length=k+2:=by rw[qk,l1,uR,Nat.min_eq_left hk]
 have e1:wq (cs++[.u,.u]) (k+2) (cs.drop k)=(cs.take k++((cs.drop k++[AV.u,.u]).take 2))++(cs.drop k++[]):=by
  rw[e0,← l2];exact Xn (cs.drop k) _ _ [] (by simp)
 rw[e1,qE,qx]
 have l3:(cs.take k).length=k:=by rw[uR,Nat.min_eq_left hk]
 have:=Xn new (cs.take k) ((cs.drop k++[AV.u,.u]).take 2) (cs.drop k) (by rw[l1,hn]);rw[l3] at this;exact this
theorem all_drop {l:List AV}{k:Nat}(h:l.all AV.one=true):(l.drop k).all AV.one=true:=by
 rw[uh] at *
 exact fun x hx=>h x (List.mem_of_mem_drop hx)
theorem frozen_end {E:Env}{b:Nat}{cs:List AV}(h:Blk E b cs){t:TypeId}{m:Nat}(hs:E.w.shape? b=some (t,m))(ht:tsize t=2)(o:Nat):E.w.frozen? ⟨b,o,none⟩=false:=by
 obtain⟨conc,t',fr,a1,a2,a3,a4⟩:=h.blk
 have:t'=t:=by simp only[World.shape?,a1,Option.some.injEq,Prod.mk.injEq] at hs; exact hs.1
 subst this
 have he:fr.1=fr.2:=by
  rcases a2 with h|⟨_,h⟩
  · exact h
  omega
 obtain⟨lo,hi⟩:=fr;simp only[World.frozen?,a1];simp only at he;simp only[Bool.and_eq_false_iff,decide_eq_false_iff_not]
 omega
set_option maxHeartbeats 4000000 in
set_option maxRecDepth 100000 in
theorem ins_shift {E:Env}{σ:ze}(hS:SR E σ){id ver n i b cap vid vver vb:Nat}{cells new:List AV}(hcs:ze.at σ id ver=some cells)(hlen:cells.length=n*2)(hone:cells.all AV.one=true)(hi:i<n)
 (hloc:E.loc id=some (ver,some b)) (hok:E.ok id ver) {t m:Nat} (hsh:E.w.shape? b=some (t,m)) (hts:tsize t=2) (hm:cap*2≤m) (hroom:n+1≤cap) (hn:(n+1)*32≤140737488355328)
 (hv:ze.at σ vid vver=some new) (hnew:new.length=2) (honev:new.all AV.one=true) (hvid:vid≠id) (hvloc:E.loc vid=some (vver,some vb)) (hvok:E.ok vid vver) {tv mv:Nat} (hvsh:E.w.shape? vb=some (tv,mv)) (hvts:tsize tv=2) (hvc:2≤mv):
 Calls qg 234 #[.slice (some ⟨b,0,none⟩) n cap,.int .i64 i,.slice (some ⟨vb,0,none⟩) 1 1] E.w fun e w'=>
  ∃ E',e=.returned (.slice (some ⟨b,0,none⟩) (n+1) cap)∧w'=E'.w∧VR E' (.os true 2 id ver 0 (n+1) false) (.slice (some ⟨b,0,none⟩) (n+1) cap)∧SR E' (σ.set id (.cells ver (cells.take (i*2)++(new++cells.drop (i*2)))))∧Ext E E':=by
 have hvb:vb≠b:=fun e=>hvid (hS.inj _ _ _ _ b (e▸hvloc) hloc)
 have hB1:Blk E b cells:=by
  rcases hS.at hcs with ⟨b',h1,h2⟩|⟨_,h1⟩
  · rw[hloc] at h1; cases h1; exact h2
  rw[hloc] at h1; cases h1
 have hB2:Blk E vb new:=by
  rcases hS.at hv with ⟨b',h1,h2⟩|⟨_,h1⟩
  · rw[hvloc] at h1; cases h1; exact h2
  rw[hvloc] at h1; cases h1
 have hSw:=hS.widen hcs hloc hsh 2 (by omega);obtain⟨hS1,hx1⟩:=hSw.grew (XM.drew E.w);have hcsw:ze.at (σ.set id (.cells ver (cells++qR 2 AV.u))) id ver=some (cells++qR 2 AV.u):=ze.at_set hcs;have hlt:=ze.at_lt hcs
 have hvw:ze.at (σ.set id (.cells ver (cells++qR 2 AV.u))) vid vver=some new:=by
  unfold ze.at at hv ⊢; rw[ug (fun e=>hvid e.symm)]; exact hv
 have os1:∀ {E':Env} (hx:Ext E E') (k:Nat),k≤n→VR E' (.os true 2 id ver (k*2) (n+1-k) false) (.slice (some ⟨b,k*2,none⟩) (n+1-k) (cap-k)):=by
  intro E' hx k hk
  refine VR.ext hx (.os _ _ _ _ _ _ _ _ _ hok (by omega) (fun h=>by cases h) (by omega) fun ob hob=>?_)
  rw[hloc] at hob; cases hob
  exact⟨b,rfl,.inr rfl,t,m,hsh,hts,by omega⟩
 have osv:∀ {E':Env} (hx:Ext E E'),VR E' (.os true 2 vid vver 0 1 true) (.slice (some ⟨vb,0,none⟩) 1 1):=by
  intro E' hx
  refine VR.ext hx (.os _ _ _ _ _ _ _ _ _ hvok (by omega) (fun _=>rfl) (by omega) fun ob hob=>?_)
  rw[hvloc] at hob; cases hob
  exact⟨vb,rfl,.inr rfl,tv,mv,hvsh,hvts,by omega⟩
 have hov:∀ lb cb,(callFunc 247 #[.slice (some ⟨vb,0,none⟩) 1 1,.slice (some ⟨b,(i+1)*2,none⟩) lb cb]).run qg E.w=.ok (.value (.bool false)) E.w:=fun lb cb=>by
  rw[run_callFunc_extern Tryz.func247 (by kernel_rfl) (by kernel_rfl) (by kernel_rfl) (e:=Extern.SlicesOverlaps.overlaps #[34,34] #[4]) (by kernel_rfl),
   Lib.run_overlaps_apart E.w 34 4 40 (U _ _ vbk).desc 2 (fun w=>wS w (U _ _ vbj)) ⟨vb,0,none⟩ ⟨b,(i+1)*2,none⟩ 1 1 lb cb hvb tv t mv m hvsh hsh (by omega) (frozen_end hB2 hvsh hvts _) (frozen_end hB2 hvsh hvts _)]
  rfl
 have hdl:(cells.drop (i*2)).length=(n-i)*2:=by rw[List.length_drop,hlen,Nat.sub_mul]
 have hlw:(cells++qR 2 AV.u).length=(n+1)*2:=by rw[qk,hlen,List.length_replicate,u0]
 have hW:∀ ty,∃ v E2,(Builtin.copy_ #[34,34] ty #[.slice (some ⟨b,(i+1)*2,none⟩) (n+1-(i+1)) (cap-(i+1)),.slice (some ⟨b,i*2,none⟩) (n+1-i) (cap-i)]).run qg E.w.drew=.ok v E2.w∧
  SR E2 (σ.set id (.cells ver (wq (cells++[.u,.u]) (i*2+2) (cells.drop (i*2)))))∧Ext E E2:=by
  intro ty
  have hx0:Ext E { E with w:=E.w.drew }:=hx1;have hd:=os1 hx0 (i+1) (by omega);have hs:=os1 hx0 i (by omega)
  have hev:vaP tab 34 (.os true 2 id ver ((i+1)*2) (n+1-(i+1)) false) (.os true 2 id ver (i*2) (n+1-i) false) (σ.set id (.cells ver (cells++qR 2 AV.u)))=
   some (.int .i64 ((min (n+1-i) (n+1-(i+1)):Nat):Int),(σ.set id (.cells ver (cells++qR 2 AV.u))).set id (.cells ver (wq (cells++qR 2 AV.u) ((i+1)*2) (cells.drop (i*2))))):=by
   have e1:xb (σ.set id (.cells ver (cells++qR 2 AV.u))) 2 (.os true 2 id ver (i*2) (n+1-i) false)=some (n+1-i,((cells++qR 2 AV.u).drop (i*2)).take ((n+1-i)*2)):=by
    simp only[xb,hcsw];rw[if_pos (by rw[hlw,← u0]; exact ua _ (by omega))]
   have e2:min (n+1-i) (n+1-(i+1))=n-i:=by omega
   have e3:(((cells++qR 2 AV.u).drop (i*2)).take ((n+1-i)*2)).take ((n-i)*2)=cells.drop (i*2):=by
    rw[List.take_take,Nat.min_eq_left (ua _ (by omega)),List.drop_append_of_le_length (by rw[hlen]; exact ua _ (by omega)),List.take_append_of_le_length (by rw[hdl]; exact qw _),← hdl,uj]
   have hp:YH (σ.set id (.cells ver (cells++qR 2 AV.u))) (.os true 2 id ver ((i+1)*2) (n+1-(i+1)) false) (n-i) 2 (cells.drop (i*2))=some ((σ.set id (.cells ver (cells++qR 2 AV.u))).set id (.cells ver (wq (cells++qR 2 AV.u) ((i+1)*2) (cells.drop (i*2))))):=by
    unfold YH;rw[if_neg (by omega)];simp only[hcsw];rw[if_pos ⟨trivial,by rw[hlw,hdl,← u0]; exact ua _ (by omega),all_drop hone⟩]
   simp only[vaP,vbk,vbj,ti34,ti40,e1,e2,e3,hp]
  obtain⟨v,E2,h1,h2,h3,h4⟩:=vaG (P:=qg) (st:=34) (ty:=ty) U hS1 hd hs hev;refine⟨v,E2,h1,?_,hx0.trans h4⟩;rw[List.set_set] at h3
  have e:(i+1)*2=i*2+2:=by omega
  rw[e] at h3;exact h3
 obtain⟨v1,E2,hc1,hS2,hx2⟩:=hW 3;rw[show n+1-(i+1)=n-i by omega] at hc1;have hcs2:ze.at (σ.set id (.cells ver (wq (cells++[.u,.u]) (i*2+2) (cells.drop (i*2))))) id ver=some (wq (cells++[.u,.u]) (i*2+2) (cells.drop (i*2))):=ze.at_set hcs
 have hv2:ze.at (σ.set id (.cells ver (wq (cells++[.u,.u]) (i*2+2) (cells.drop (i*2))))) vid vver=some new:=by
  unfold ze.at at hv ⊢; rw[ug (fun e=>hvid e.symm)]; exact hv
 have hW2:∃ v E3,(Builtin.copy_ #[34,34] 3 #[.slice (some ⟨b,i*2,none⟩) (n+1-i) (cap-i),.slice (some ⟨vb,0,none⟩) 1 1]).run qg E2.w=.ok v E3.w∧
  SR E3 (σ.set id (.cells ver (cells.take (i*2)++(new++cells.drop (i*2)))))∧Ext E E3:=by
  have hd:=os1 hx2 i (by omega);have hs:=osv hx2
  have hev:vaP tab 34 (.os true 2 id ver (i*2) (n+1-i) false) (.os true 2 vid vver 0 1 true) (σ.set id (.cells ver (wq (cells++[.u,.u]) (i*2+2) (cells.drop (i*2)))))=
   some (.int .i64 ((min 1 (n+1-i):Nat):Int),(σ.set id (.cells ver (wq (cells++[.u,.u]) (i*2+2) (cells.drop (i*2))))).set id (.cells ver (wq (wq (cells++[.u,.u]) (i*2+2) (cells.drop (i*2))) (i*2) new))):=by
   have e1:xb (σ.set id (.cells ver (wq (cells++[.u,.u]) (i*2+2) (cells.drop (i*2))))) 2 (.os true 2 vid vver 0 1 true)=some (1,new):=by
    simp only[xb,hv2];rw[if_pos (by omega),qz,← hnew,Nat.one_mul] ;rw[show new.length=new.length from rfl,uj]
   have e2:min 1 (n+1-i)=1:=by omega
   have e3:new.take (1*2)=new:=by rw[Nat.one_mul,← hnew,uj]
   have hp:YH (σ.set id (.cells ver (wq (cells++[.u,.u]) (i*2+2) (cells.drop (i*2))))) (.os true 2 id ver (i*2) (n+1-i) false) 1 2 new=some ((σ.set id (.cells ver (wq (cells++[.u,.u]) (i*2+2) (cells.drop (i*2))))).set id (.cells ver (wq (wq (cells++[.u,.u]) (i*2+2) (cells.drop (i*2))) (i*2) new))):=by
    unfold YH;rw[if_neg (by omega)];simp only[hcs2];rw[if_pos ⟨trivial,by rw[XY,hnew]; simp only[qk,ql,qr,hlen]; omega,honev⟩]
   simp only[vaP,vbk,vbj,ti34,ti40,e1,e2,e3,hp]
  obtain⟨v,E3,h1,h2,h3,h4⟩:=vaG (P:=qg) (st:=34) (ty:=3) U hS2 hd hs hev;refine⟨v,E3,h1,?_,hx2.trans h4⟩;rw[List.set_set,setRun_ins _ _ _ (by omega) hnew] at h3;exact h3
 obtain⟨v2,E3,hc2,hS3,hx3⟩:=hW2;have hfin:=os1 hx3 0 (uu _);rw[uw,uX,uX] at hfin
 have hz1:¬ ((i:Int)=(n:Int)):=by omega
 have hw1:IntKind.i64.wrap ((i:Int)+1)=(i:Int)+1:=by rw[IntKind.wrap_i64]; omega
 have hw2:IntKind.i64.wrap ((n:Int)+1)=(n:Int)+1:=by rw[IntKind.wrap_i64]; omega
 have hb1:(0:Int)≤(i:Int)+1:=by omega
 have hin:i≤n:=by omega
 have htn:((i:Int)+1).toNat=i+1:=by omega
 have hb2:¬ (cap=i+1):=by omega
 have hb3:(i:Int)≤(n:Int)+1:=by omega
 have hb4:¬ (cap=i):=by omega
 have mixed:Tryz.prog.follows .mixedOrders=true:=by kernel_rfl
 clear hS hcs hcsw hvw hcs2 hv2 hS1 hSw os1 osv hB1 hB2 hW
 go_enter Tryz.func234,Tryz.ntmps234
 go_wp2_with (simp only[hov])
 go_region_law_o (refine step_copy_runI rfl _ _ 34 34 rfl _ _ (by simp[Act.eval,Act.put]) (by simp[Act.eval,Act.put]) hc1 ?_)
 go_wp2_with (at_builtin; refine wpList_copy_runI _ rfl _ _ 34 34 rfl _ _ rfl rfl hc2 ?_)
 go_ret
 exact⟨E3,rfl,rfl,hfin,hS3,hx3⟩
theorem setRun_ins2 (cs new:List AV)(k:Nat)(hk:k≤cs.length)(hn:new.length=2)(q:Nat)(hq:q=cs.length-k+2):
 wq (wq (cs.take k++qR q AV.u) k new) (k+2) (cs.drop k)=cs.take k++(new++cs.drop k):=by
 have l3:(cs.take k).length=k:=by rw[uR,Nat.min_eq_left hk]
 have e0:cs.take k++qR q AV.u=cs.take k++(qR 2 AV.u++qR (cs.length-k) AV.u):=by
  rw[List.replicate_append_replicate,hq,Nat.add_comm]
 have e1:wq (cs.take k++qR q AV.u) k new=cs.take k++(new++qR (cs.length-k) AV.u):=by
  rw[e0];have:=Xn new (cs.take k) (qR 2 AV.u) (qR (cs.length-k) AV.u) (by simp[hn])
  rw[l3] at this; exact this
 have l4:(cs.take k++new).length=k+2:=by rw[qk,l3,hn]
 rw[e1,← qx,← l4];have:=Xn (cs.drop k) (cs.take k++new) (qR (cs.length-k) AV.u) [] (by simp);rw[qE,qE] at this;rw[this,qx]
set_option maxHeartbeats 4000000 in
set_option maxRecDepth 100000 in
theorem ins_grow {E:Env}{σ:ze}(hS:SR E σ){id ver n i b vid vver vb:Nat}{cells new:List AV}(hcs:ze.at σ id ver=some cells)(hlen:cells.length=n*2)(hone:cells.all AV.one=true)(hi:i<n)
 (hloc:E.loc id=some (ver,some b)) (hok:E.ok id ver) {t m:Nat} (hsh:E.w.shape? b=some (t,m)) (hts:tsize t=2) (hm:n*2≤m) (hn:(n+1)*32≤140737488355328)
 (hv:ze.at σ vid vver=some new) (hnew:new.length=2) (honev:new.all AV.one=true) (hvid:vid≠id) (hvloc:E.loc vid=some (vver,some vb)) (hvok:E.ok vid vver) {tv mv:Nat} (hvsh:E.w.shape? vb=some (tv,mv)) (hvts:tsize tv=2) (hvc:2≤mv):
 Calls qg 234 #[.slice (some ⟨b,0,none⟩) n n,.int .i64 i,.slice (some ⟨vb,0,none⟩) 1 1] E.w fun e w'=>
  ∃ E' v,e=.returned v∧w'=E'.w∧VR E' (.os true 2 σ.length 0 0 (n+1) false) v∧SR E' (σ++[.cells 0 (cells.take (i*2)++(new++cells.drop (i*2)))])∧Ext E E'∧∀ i2 v2 nb,E.loc i2=some (v2,some nb)→E'.loc σ.length=some (0,some nb)→False:=by
 have hvb:vb≠b:=fun e=>hvid (hS.inj _ _ _ _ b (e▸hvloc) hloc)
 have hlt:=ze.at_lt hcs;have hltv:=ze.at_lt hv;obtain⟨hS1,hx1⟩:=hS.grew (XM.drew E.w)
 have os1:∀ {E':Env} (hx:Ext E E') (k q:Nat),k+q≤n→VR E' (.os true 2 id ver (k*2) q false) (.slice (some ⟨b,k*2,none⟩) q (n-k)):=by
  intro E' hx k q hk
  refine VR.ext hx (.os _ _ _ _ _ _ _ _ _ hok (by omega) (fun h=>by cases h) (by omega) fun ob hob=>?_)
  rw[hloc] at hob; cases hob
  exact⟨b,rfl,.inr rfl,t,m,hsh,hts,by omega⟩
 have osv:∀ {E':Env} (hx:Ext E E'),VR E' (.os true 2 vid vver 0 1 true) (.slice (some ⟨vb,0,none⟩) 1 1):=by
  intro E' hx
  refine VR.ext hx (.os _ _ _ _ _ _ _ _ _ hvok (by omega) (fun h=>rfl) (by omega) fun ob hob=>?_)
  rw[hvloc] at hob; cases hob
  exact⟨vb,rfl,.inr rfl,tv,mv,hvsh,hvts,by omega⟩
 have htl:(cells.take (i*2)).length=i*2:=by rw[uR,hlen]; omega
 have hdl:(cells.drop (i*2)).length=(n-i)*2:=by rw[List.length_drop,hlen,Nat.sub_mul]
 -- what is copied by append
 have hold0:=os1 hx1 0 i (by omega);rw[uw] at hold0
 obtain⟨_,_,hrd⟩:=vbw (P:=qg) hS1 hold0 (size:=2) (n:=i) (cs:=cells.take (i*2)) (by
  simp only[xb,hcs]
  rw[if_pos (by omega),qz])
 obtain⟨os,hos,hto⟩:=hrd i (qw _);rw[show (cells.take (i*2)).take (i*2)=cells.take (i*2) by rw[List.take_take,Nat.min_self]] at hto
 obtain⟨G,hG⟩:∃ G,G=grownCap E.w (n+1) n 40:=⟨_,rfl⟩
 have hGn:n+1≤G:=by rw[hG]; unfold grownCap; simp only[Question.cut]; omega
 obtain⟨conc,hconc⟩:∃ conc:Array Value,conc=os++Builtin.zeroCells (Value.agg #[Value.int IntKind.i64 0,Value.slice none 0 0]).cells (n+1-i)++Builtin.zeroCells (Value.agg #[Value.int IntKind.i64 0,Value.slice none 0 0]).cells (G-(n+1)):=⟨_,rfl⟩
 have hrz:∀ ty,(Builtin.append_ #[34,3] ty #[.slice (some ⟨b,0,none⟩) i n,.int .i64 ((n:Int)+1-(i:Int))]).run qg E.w=
  .ok (.slice (some ⟨E.w.heap.size,0,none⟩) (n+1) G) (E.w.drew.alloc (.cells conc 40)):=fun ty=>by
  have h:=Lib.run_append_grow_zeros (P:=qg) E.w 34 3 ty 40 Tryz.t40 _ .i64 .i64 Tryz.underlying34 Tryz.underlying3 Tryz.type40 rfl (some ⟨b,0,none⟩) i n os.toList (by rw[Array.toArray_toList]; exact hos) (n+1-i) (by omega) (by decide) (by omega) (by omega) (by show (n+1-i)*32≤_; omega) (by
   rw[show i+(n+1-i)=n+1 by omega]
   exact growslice_fits (by omega) (by show (n+1)*32≤_; omega))
  rw[show i+(n+1-i)=n+1 by omega,← hG,Array.toArray_toList,← hconc] at h;rw[show (n:Int)+1-(i:Int)=((n+1-i:Nat):Int) by omega];exact h
 have hsz1:os.size=i*2:=by rw[hto.1,htl]
 have hcsz:G*2≤conc.size:=by
  rw[hconc];simp only[Array.size_append,hsz1,Builtin.zeroCells,Value.cells]
  simp
  omega
 have hnr:=hS1.newRow conc 40 (cells.take (i*2)++qR ((n+1-i)*2) AV.u) (by rw[qk,htl,List.length_replicate]; omega) (by
  intro k hk
  by_cases hki:k<i*2
  · rw[vaA _ _ _ (by rw[htl]; exact hki)];have:=hto.2 k (by rw[htl]; exact hki)
    have e:conc.getD k undef=os.getD k undef:=by
     rw[hconc,Array.append_assoc]
     simp[Array.getElem?_append_left (show k<os.size by omega)]
    rw[e]; exact this
  rw[Xg _ _ _ (by rw[htl]; omega)]
  have:gc (qR ((n+1-i)*2) AV.u) (k-(cells.take (i*2)).length)=.u:=by
   unfold gc;rw[qG,List.getElem?_replicate]
   split<;>rfl
  rw[this]; exact .u _)
 obtain⟨hS2,hx2⟩:=hnr
 obtain⟨E2,hE2⟩:∃ E2,E2=Env.new { E with w:=E.w.drew } (E.w.drew.alloc (.cells conc 40)) (some E.w.drew.heap.size):=⟨_,rfl⟩
 have hloc2:E2.loc σ.length=some (0,some E.w.heap.size):=by rw[hE2]; exact Env.loc_new hS1 _ _
 have hok2:E2.ok σ.length 0:=by rw[hE2]; exact Env.ok_new hS1 _ _
 have hE2w:E2.w=E.w.drew.alloc (.cells conc 40):=by rw[hE2]; rfl
 rw[← hE2] at hS2 hx2;have hx02:Ext E E2:=Ext.trans hx1 hx2
 have hsh2:E2.w.shape? E.w.heap.size=some (40,conc.size):=by
  rw[hE2w];have:=xR E.w.drew (.cells conc 40);simp only[World.shape?];rw[show E.w.heap.size=E.w.drew.heap.size from rfl,this]
 have osn:∀ {E':Env} (hx:Ext E2 E') (k q:Nat),k+q≤n+1→VR E' (.os true 2 σ.length 0 (k*2) q false) (.slice (some ⟨E.w.heap.size,k*2,none⟩) q (G-k)):=by
  intro E' hx k q hk
  refine VR.ext hx (.os _ _ _ _ _ _ _ _ _ hok2 (by omega) (fun h=>by cases h) (by omega) fun ob hob=>?_)
  rw[hloc2] at hob; cases hob
  exact⟨_,rfl,.inr rfl,_,_,hsh2,rfl,by omega⟩
 have hat2:∀ cs,ze.at (σ++[.cells 0 cs]) σ.length 0=some cs:=fun cs=>ze.at_new σ 0 cs
 have hset2:∀ cs cs',(σ++[Yy.cells 0 cs]).set σ.length (.cells 0 cs')=σ++[.cells 0 cs']:=fun cs cs'=>by
  rw[List.set_append_right _ _ (qw _),uI]; rfl
 have hold2:∀ {id ver:Nat} {c cs:List AV},ze.at σ id ver=some c→ze.at (σ++[Yy.cells 0 cs]) id ver=some c:=by
  intro id ver c cs h
  have:=ze.at_lt h
  unfold ze.at at h ⊢; rw[qV this]; exact h
 -- the first copy
 have hW2:∃ v E3,(Builtin.copy_ #[34,34] 3 #[.slice (some ⟨E.w.heap.size,i*2,none⟩) (n+1-i) (G-i),.slice (some ⟨vb,0,none⟩) 1 1]).run qg E2.w=.ok v E3.w∧
  SR E3 (σ++[.cells 0 (wq (cells.take (i*2)++qR ((n+1-i)*2) AV.u) (i*2) new)])∧Ext E2 E3:=by
  have hd:=osn (Ext.refl E2) i (n+1-i) (by omega);have hs:=osv hx02
  have hev:vaP tab 34 (.os true 2 σ.length 0 (i*2) (n+1-i) false) (.os true 2 vid vver 0 1 true) (σ++[.cells 0 (cells.take (i*2)++qR ((n+1-i)*2) AV.u)])=
   some (.int .i64 ((min 1 (n+1-i):Nat):Int),σ++[.cells 0 (wq (cells.take (i*2)++qR ((n+1-i)*2) AV.u) (i*2) new)]):=by
   have e1:xb (σ++[.cells 0 (cells.take (i*2)++qR ((n+1-i)*2) AV.u)]) 2 (.os true 2 vid vver 0 1 true)=some (1,new):=by
    simp only[xb,hold2 hv];rw[if_pos (by omega),qz,Nat.one_mul,← hnew,uj]
   have e2:min 1 (n+1-i)=1:=by omega
   have e3:new.take (1*2)=new:=by rw[Nat.one_mul,← hnew,uj]
   have hp:YH (σ++[.cells 0 (cells.take (i*2)++qR ((n+1-i)*2) AV.u)]) (.os true 2 σ.length 0 (i*2) (n+1-i) false) 1 2 new=some (σ++[.cells 0 (wq (cells.take (i*2)++qR ((n+1-i)*2) AV.u) (i*2) new)]):=by
    unfold YH;rw[if_neg (by omega)];simp only[hat2,hset2];rw[if_pos ⟨trivial,by rw[hnew,qk,htl,List.length_replicate]; omega,honev⟩]
   simp only[vaP,vbk,vbj,ti34,ti40,e1,e2,e3,hp]
  obtain⟨v,E3,h1,h2,h3,h4⟩:=vaG (P:=qg) (st:=34) (ty:=3) U hS2 hd hs hev;exact⟨v,E3,h1,h3,h4⟩
 obtain⟨v1,E3,hc1,hS3,hx3⟩:=hW2;obtain⟨hS4,hx4⟩:=hS3.grew (XM.drew E3.w)
 -- the second copy
 have hW3:∀ ty,∃ v E4,(Builtin.copy_ #[34,34] ty #[.slice (some ⟨E.w.heap.size,(i+1)*2,none⟩) (n-i) (G-(i+1)),.slice (some ⟨b,i*2,none⟩) (n-i) (n-i)]).run qg E3.w.drew=.ok v E4.w∧
  SR E4 (σ++[.cells 0 (cells.take (i*2)++(new++cells.drop (i*2)))])∧Ext E2 E4:=by
  intro ty
  have hx24:Ext E2 { E3 with w:=E3.w.drew }:=Ext.trans hx3 hx4;have hd:=osn hx24 (i+1) (n-i) (by omega);have hs:=os1 (hx02.trans hx24) i (n-i) (by omega)
  have hev:vaP tab 34 (.os true 2 σ.length 0 ((i+1)*2) (n-i) false) (.os true 2 id ver (i*2) (n-i) false) (σ++[.cells 0 (wq (cells.take (i*2)++qR ((n+1-i)*2) AV.u) (i*2) new)])=
   some (.int .i64 ((min (n-i) (n-i):Nat):Int),σ++[.cells 0 (cells.take (i*2)++(new++cells.drop (i*2)))]):=by
   have e1:xb (σ++[.cells 0 (wq (cells.take (i*2)++qR ((n+1-i)*2) AV.u) (i*2) new)]) 2 (.os true 2 id ver (i*2) (n-i) false)=some (n-i,cells.drop (i*2)):=by
    simp only[xb,hold2 hcs];rw[if_pos (by rw[hlen,← u0]; exact ua _ (by omega)),← hdl,uj]
   have e2:min (n-i) (n-i)=n-i:=by omega
   have e3:(cells.drop (i*2)).take ((n-i)*2)=cells.drop (i*2):=by rw[← hdl,uj]
   have hp:YH (σ++[.cells 0 (wq (cells.take (i*2)++qR ((n+1-i)*2) AV.u) (i*2) new)]) (.os true 2 σ.length 0 ((i+1)*2) (n-i) false) (n-i) 2 (cells.drop (i*2))=some (σ++[.cells 0 (cells.take (i*2)++(new++cells.drop (i*2)))]):=by
    unfold YH;rw[if_neg (by omega)];simp only[hat2,hset2];rw[if_pos ⟨trivial,by rw[hdl,XY,qk,htl,List.length_replicate]; omega,all_drop hone⟩];rw[show (i+1)*2=i*2+2 by omega,setRun_ins2 _ _ _ (by omega) hnew _ (by rw[hlen]; omega)]
   simp only[vaP,vbk,vbj,ti34,ti40,e1,e2,e3,hp]
  obtain⟨v,E4,h1,h2,h3,h4⟩:=vaG (P:=qg) (st:=34) (ty:=ty) U hS4 hd hs hev;exact⟨v,E4,h1,h3,hx24.trans h4⟩
 obtain⟨v2,E4,hc2,hS5,hx5⟩:=hW3 3
 have hfin:VR E4 (.os true 2 σ.length 0 0 (n+1) false) (.slice (some ⟨E.w.heap.size,0,none⟩) (n+1) G):=by
  have:=osn hx5 0 (n+1) (by omega)
  rwa [uw,uX] at this
 have hxf:Ext E E4:=hx02.trans hx5
 have hnew':∀ i2 v2 nb,E.loc i2=some (v2,some nb)→E4.loc σ.length=some (0,some nb)→False:=by
  intro i2 v2 nb h1 h2
  have h3:=hx5.back hok2 h2
  rw[hloc2] at h3; cases h3
  have:=(hS.blk _ _ _ h1).1
  omega
 have hz1:¬ ((i:Int)=(n:Int)):=by omega
 have hw1:IntKind.i64.wrap ((i:Int)+1)=(i:Int)+1:=by rw[IntKind.wrap_i64]; omega
 have hw2:IntKind.i64.wrap ((n:Int)+1)=(n:Int)+1:=by rw[IntKind.wrap_i64]; omega
 have hw3:IntKind.i64.wrap ((n:Int)+1-(i:Int))=(n:Int)+1-(i:Int):=by rw[IntKind.wrap_i64]; omega
 have hb1:(0:Int)≤(i:Int)+1:=by omega
 have hin:i≤n:=by omega
 have htn:((i:Int)+1).toNat=i+1:=by omega
 have hb2:¬ (G=i+1):=by omega
 have hb3:(i:Int)≤(n:Int)+1:=by omega
 have hb4:¬ (G=i):=by omega
 have hb5:¬ (n=i):=by omega
 have hz3:(n:Int)<(n:Int)+1:=by omega
 have mixed:Tryz.prog.follows .mixedOrders=true:=by kernel_rfl
 have hrz1:=hrz 34;rw[← hE2w] at hrz1
 clear hS hcs hS1 os1 osv hrz hrd hos hto hS2 hx2 osn hold2 hset2 hat2 hW3 hE2 hE2w hloc2 hok2 hsh2 hx02 hold0 hG hconc hcsz
 go_enter Tryz.func234,Tryz.ntmps234
 go_wp2_with (first
  |(at_builtin; refine Lib.wpList_append_run _ rfl _ _ _ _ rfl _ _ rfl rfl _ _ hrz1 ?_)
  |(at_builtin; refine wpList_copy_runI _ rfl _ _ 34 34 rfl _ _ rfl rfl hc1 ?_))
 go_region_law_o (refine step_copy_runI rfl _ _ 34 34 rfl _ _ (by simp[Act.eval,Act.put]) (by simp[Act.eval,Act.put]) hc2 ?_)
 go_wp2
 go_ret
 exact⟨E4,_,rfl,rfl,hfin,hS5,hxf,hnew'⟩
end
section
set_option maxRecDepth 20000
open Go.RowKit AM
theorem SR.die {E:Env}{σ:ze}(hS:SR E σ):SR { E with n:=E.n+1 } (σ++[.dead])∧Ext E { E with n:=E.n+1 }:=by
 have hx:Ext E { E with n:=E.n+1 } := {
  os:=rfl,tape:=rfl,output:=rfl,size:=qw _,shape:=fun _ _ h=>h,st:=fun _ h=>⟨h,rfl⟩,n:=Nat.le_succ _,
  loc:=fun _ _ v o h=>⟨v,o,h,qw _,fun _=>rfl⟩,old:=fun _ _ _=>rfl,own:=fun id v _ h _=>⟨id,v,h⟩,stn:=fun _ h=>.inl h }
 have hn:E.loc σ.length=none:=by
  have:=hS.obj σ.length;rw[uq (qw _)] at this;exact this
 refine⟨⟨by simp[hS.len],fun id=>?_,hS.inj,hS.blk,hS.stb,hS.glb⟩,hx⟩
 by_cases h1:id<σ.length
 · rw[qV h1]
   exact (hS.obj id).ext hx rfl fun _ _ _=>rfl
 by_cases h2:id=σ.length
 · subst h2;rw[ut (qw _),uI];exact hn
 rw[uq (by simp; omega)];have:=hS.obj id;rw[uq (by omega)] at this;exact this
theorem SR.swap {E:Env}{σ:ze}{cs:List AV}(hS:SR E (σ++[.cells 0 cs])){id ver b nb:Nat}(hlt:id<σ.length)(hl:E.loc id=some (ver,some b))(hn:E.loc σ.length=some (0,some nb)):
 let E':Env := { E with loc:=fun i=>if i=id then some (ver+1,some nb) else if i=σ.length then none else E.loc i }
 SR E' (σ.set id (.cells (ver+1) cs)++[.dead])∧ExtV E E'∧∀ sz len v,VR E (.os true sz σ.length 0 0 len false) v→VR E' (.os true sz id (ver+1) 0 len false) v:=by
 intro E'
 have hid:E'.loc id=some (ver+1,some nb):=by simp[E']
 have hlast:E'.loc σ.length=none:=by simp[E']; omega
 have hother:∀ i,i≠id→i≠σ.length→E'.loc i=E.loc i:=fun i h1 h2=>by simp[E',h1,h2]
 have hx:ExtV E E' := {
  shape:=fun _ _ h=>h
  st:=fun _ h=>⟨h,rfl⟩
  n:=qw _
  loc:=fun i _ v o h=>by
   by_cases h1:i=id
   · subst h1; rw[hid] at h; cases h; exact⟨ver,some b,hl,by omega,fun e=>by omega⟩
   by_cases h2:i=σ.length
   · subst h2; rw[hlast] at h; cases h
   rw[hother i h1 h2] at h; exact⟨v,o,h,qw _,fun _=>rfl⟩ }
 have hnE:E.n=σ.length+1:=by have:=hS.len; simp at this; omega
 have hold:∀ i v c,E'.loc i=some (v,some c)→(i=id∧c=nb)∨(i≠id∧i≠σ.length∧E.loc i=some (v,some c)):=by
  intro i v c h
  by_cases h1:i=id
  · subst h1; rw[hid] at h; cases h; exact .inl ⟨rfl,rfl⟩
  by_cases h2:i=σ.length
  · subst h2; rw[hlast] at h; cases h
  rw[hother i h1 h2] at h; exact .inr ⟨h1,h2,h⟩
 refine⟨⟨by simp[hnE,E'],fun i=>?_,fun i i' v v' c h1 h2=>?_,fun i v c h=>?_,hS.stb,hS.glb⟩,hx,fun sz len v h=>?_⟩
 · by_cases h1:i=id
   · subst h1;rw[qV (by simpa using hlt),uv hlt];have:=hS.obj σ.length;rw[ut (qw _),uI] at this
     rcases this with ⟨c,e1,e2⟩|⟨_,e1⟩
     · rw[hn] at e1; cases e1
       refine .inl ⟨nb,hid,?_⟩;obtain⟨conc,t,fr,a1,a2,a3,a4⟩:=e2.blk;exact⟨conc,t,fr,a1,a2,a3,fun k hk=>(a4 k hk).extV hx⟩
     rw[hn] at e1; cases e1
   by_cases h2:i=σ.length
   · subst h2;rw[ut (by simp)];simp only[List.length_set,uI,uL];exact hlast
   have ho:=hS.obj i
   by_cases h3:i<σ.length
   · rw[qV (by simpa using h3),ug (fun e=>h1 e.symm)];rw[qV h3] at ho
     exact ho.extV hx (hother i h1 h2) fun _ _ _=>rfl
   rw[uq (by simp; omega)] at ho ⊢;exact (hother i h1 h2).trans ho
 · rcases hold _ _ _ h1 with ⟨e1,e2⟩|⟨e1,e2,e3⟩
   · subst e1; subst e2
     rcases hold _ _ _ h2 with ⟨f1,f2⟩|⟨f1,f2,f3⟩
     · exact f1.symm
     exact absurd (hS.inj _ _ _ _ _ f3 hn) f2
   rcases hold _ _ _ h2 with ⟨f1,f2⟩|⟨f1,f2,f3⟩
   · subst f2; exact absurd (hS.inj _ _ _ _ _ e3 hn) e2
   exact hS.inj _ _ _ _ _ e3 f3
 · rcases hold _ _ _ h with ⟨e1,e2⟩|⟨e1,e2,e3⟩
   · subst e2; exact hS.blk _ _ _ hn
   exact hS.blk _ _ _ e3
 have hok:E'.ok id (ver+1):=⟨by show id<E.n; omega,fun v o h=>by rw[hid] at h; cases h; exact qw _⟩
 cases h with
 |osn _ _ _ _ _ a hk h=>
  have:=h _ hn; cases this
 |os _ _ _ _ _ _ _ a cap hk hc ht hB h=>
  refine .os _ _ _ _ _ _ _ a cap hok hc ht hB fun ob hob=>?_
  rw[hid] at hob; cases hob
  exact h _ hn
theorem Ext.swap {E0 E:Env}(hx:Ext E0 E){σ0:ze}(h0:SR E0 σ0){id ver b nb:Nat}(hl:E.loc id=some (ver,some b))(hn:E.loc σ0.length=some (0,some nb))(hnb:E0.w.heap.size≤nb)(hlt:id<σ0.length):
 Ext E0 { E with loc:=fun i=>if i=id then some (ver+1,some nb) else if i=σ0.length then none else E.loc i }:=by
 refine { hx with loc:=fun i hi v o h=>?_,own:=fun i v c h hc=>?_,n:=hx.n,st:=hx.st }
 · by_cases h1:i=id
   · subst h1;simp only[if_true,Option.some.injEq,Prod.mk.injEq] at h;obtain⟨v0,o0,e1,e2,e3⟩:=hx.loc _ hi _ _ hl;exact⟨v0,o0,e1,by omega,fun e=>by omega⟩
   simp only[if_neg h1] at h
   split at h
   · cases h
   exact hx.loc i hi v o h
 by_cases h1:i=id
 · subst h1;simp only[if_true,Option.some.injEq,Prod.mk.injEq] at h
   omega
 simp only[if_neg h1] at h
 split at h
 · cases h
 exact hx.own i v c h hc
theorem ACalls.dies {P:Program}{f:FuncId}{args:List AV}{σ:ze}{x:AV}{τ:ze}(h:ACalls P f args σ fun r σ'=>r=x∧σ'=τ):ACalls P f args σ fun r σ'=>r=x∧σ'=τ++[.dead]:=by
 refine⟨h.1,fun E vs hS hl=>(h.2 E vs hS hl).mono ?_⟩;rintro e w ⟨v,r,σ',E',rfl,rfl,h3,h4,h5,rfl,rfl⟩;obtain⟨g1,g2⟩:=SR.die h4;exact⟨_,_,_,{ E' with n:=E'.n+1 },rfl,rfl,h3.ext g2,g1,h5.trans g2,rfl,rfl⟩
theorem bump {E E':Env}{σ:ze}(hS:SR E σ){id ver b:Nat}{cs cs':List AV}(hcs:ze.at σ id ver=some cs)(hk:E.ok id ver)(hloc:E.loc id=some (ver,some b))(hne:cs.length≠0)(hlen:cs'.length≠0)(h4:SR E' (σ.set id (.cells ver cs')))(h5:Ext E E'){sz len:Nat}{v:Value}
 (h3:VR E' (.os true sz id ver 0 len false) v):
 ∃ E2:Env,E2.w=E'.w∧SR E2 (σ.set id (.cells (ver+1) cs'))∧VR E2 (.os true sz id (ver+1) 0 len false) v∧Ext E E2:=by
 have hat:=ze.at_set (ver':=ver) (cs':=cs') hcs
 have hl':E'.loc id=some (ver,some b):=by
  rcases h4.at hat with ⟨b',e1,_⟩|⟨e1,_⟩
  · have:=h5.back hk e1; rw[hloc] at this; cases this; exact e1
  rw[e1] at hlen; exact absurd rfl hlen
 obtain⟨hS3,hx3⟩:=h4.move (XM.refl E'.w) hat hl' (ob:=some b) (fun b hb=>by cases hb; exact⟨.inr rfl,(h4.blk _ _ _ hl').1⟩) (cs:=cs') (.inl ⟨b,by simp[Env.move],by
  rcases h4.at hat with ⟨b1,h1,hblk1⟩|⟨_,h1⟩
  · rw[hl'] at h1; cases h1
    obtain⟨conc,t,fr,a1,a2,a3,a4⟩:=hblk1.blk;exact⟨conc,t,fr,a1,a2,a3,fun k hk=>(a4 k hk).ext (Ext.move h4.stb (XM.refl _) hl' _ fun b hb=>by cases hb; exact .inr rfl)⟩
  rw[hl'] at h1; cases h1⟩)
 rw[List.set_set] at hS3;refine⟨E'.move E'.w id (ver+1) (some b),rfl,hS3,?_,h5.trans hx3⟩;have hok:(E'.move E'.w id (ver+1) (some b)).ok id (ver+1):=⟨uo hk.1 h5.n,fun v o hvo=>by simp[Env.move] at hvo; omega⟩
 cases h3 with
 |osn _ _ _ _ _ a hk h=>have:=h _ hl'; cases this
 |os _ _ _ _ _ _ _ a cap hk hc ht hB h=>
  refine .os _ _ _ _ _ _ _ a cap hok hc ht hB fun ob hob=>?_
  simp only[Env.move,if_true,Option.some.injEq,Prod.mk.injEq,true_and] at hob;subst hob;exact h _ hl'
theorem Insert_at {σ:ze}{id ver n i vid vver:Nat}{nl:Bool}{cells new:List AV}(hcs:ze.at σ id ver=some cells)(hlen:cells.length=n*2)(hone:cells.all AV.one=true)(hi:i≤n)(hn:(n+1)*32≤140737488355328)
 (hv:ze.at σ vid vver=some new) (hnew:new.length=2) (honev:new.all AV.one=true) (hvid:vid≠id):
 ACalls qg 234 [.os nl 2 id ver 0 n false,.int .i64 (i:Int),.os true 2 vid vver 0 1 true] σ (fun r σ'=>r=.os true 2 id (ver+1) 0 (n+1) false∧
  σ'=σ.set id (.cells (ver+1) (cells.take (i*2)++(new++cells.drop (i*2))))++[.dead]):=by
 have hlt:=ze.at_lt hcs
 by_cases hin:i=n
 · subst hin;refine ACalls.dies ?_;refine Z0 (rs:=[.tmp 6]) U Tryz.func234 rfl Tryz.ntmps234 rfl Tryz.call234 (by simp) ?_
   have hap:yM tab 34 34 (.os nl 2 id ver 0 i false) (.os true 2 vid vver 0 1 true) σ=some (.os true 2 id (ver+1) 0 (i+1) false,σ.set id (.cells (ver+1) (cells++new))):=by
    have e1:xb σ 2 (.os true 2 vid vver 0 1 true)=some (1,new):=by
     simp only[xb,hv];rw[if_pos (by omega),qz,Nat.one_mul,← hnew,uj]
    have hg:((i+1)*32≤140737488355328)=True:=eq_true (by omega);simp only[yM,vbk,vbj,e1,yR,hg,honev,qd,and_self,if_true,yw,hcs,hlen]
   have hsl:Yr tab 34 (.os nl 2 id ver 0 i false) (some (.int .i64 (i:Int))) none none=some (.os nl 2 id ver (i*2) (i-i) false):=by
    simp only[Yr,vbk,vbj,vdu]
    simp
   refine zA [(0,.os nl 2 id ver 0 i false),(1,.int .i64 (i:Int)),(2,.os true 2 vid vver 0 1 true)] ⟨rfl,rfl,rfl,trivial⟩ ?_
   refine rg U [0,1,2,6] fun K J=>?_
   simp only[go_sem,qd,qb,reduceCtorEq];apply J
   clear J K
   refine rg U [0,1,2,6] fun K J=>?_
   simp only[go_sem,qd,qb,reduceCtorEq,hsl];apply J
   clear J K
   refine rg U [0,1,2,6,7] fun K J=>?_
   simp only[go_sem,qd,qb,reduceCtorEq];apply J
   clear J K
   refine za fun Z hZ=>?_
   refine rg U [0,1,2,6,7,16] fun K J=>?_
   simp only[go_sem,qd,qb,reduceCtorEq];apply J
   clear J K
   refine yn rfl (fun h=>absurd h (by decide)) (fun _=>?_);refine zj ?_;refine hZ _ _ ?_
   clear hZ Z
   refine rg U [0,1,2,6,7,8] fun K J=>?_
   simp only[go_sem,qd,qb,reduceCtorEq];apply J
   clear J K
   refine za fun Z hZ=>?_
   refine rg U [0,1,2,6,7,8,22] fun K J=>?_
   simp only[go_sem,qd,qb,reduceCtorEq,decide_true];apply J
   clear J K
   refine zK rfl ?_
   refine rg U [6] fun K J=>?_
   simp only[go_sem,qd,qb,reduceCtorEq,hap];apply J
   clear J K
   refine yk ?_;simp only[ZJ,yQ,yZ,xQ,exists_eq_left',go_sem];rw[← hlen,uj,List.drop_length,qE]
 have hi':i<n:=by omega
 refine⟨Tryz.call234,fun E vs hS hl=>?_⟩;obtain⟨l1,l2⟩:=hl.arr
 rcases vs with ⟨_|⟨v0,_|⟨v1,_|⟨v2,_|⟨v3,l⟩⟩⟩⟩⟩<;>simp only[List.size_toArray,ql,qr,qe,reduceCtorEq,qb] at l1
 have h0:VR E (.os nl 2 id ver 0 n false) v0:=l2 0 (by simp);have h1:VR E (.int .i64 (i:Int)) v1:=l2 1 (by simp);have h2:VR E (.os true 2 vid vver 0 1 true) v2:=l2 2 (by simp)
 clear l2 hl
 cases h1
 cases h0 with
 |osn=>omega
 |os _ _ _ _ _ _ _ a cap hk hc ht hB hp=>
 cases h2 with
 |os _ _ _ _ _ _ _ av capv hkv hcv htv hBv hpv=>
 have:=htv rfl; subst this
 obtain⟨b,hloc,_⟩:=hS.block_of hcs (show 0<cells.length by omega);obtain⟨vb,hvloc,_⟩:=hS.block_of hv (show 0<new.length by omega);obtain⟨b',e1,e2,t,m,hsh,hts,hm⟩:=hp _ hloc;cases e1
 have:=e2.resolve_left (by omega); subst this
 obtain⟨b',e1,e2,tv,mv,hvsh,hvts,hmv⟩:=hpv _ hvloc;cases e1
 have:=e2.resolve_left (by omega); subst this
 by_cases hroom:n+1≤cap
 · refine (ins_shift hS hcs hlen hone hi' hloc hk hsh hts (by omega) hroom hn hv hnew honev hvid hvloc hkv hvsh hvts (by omega)).mono ?_;rintro e w ⟨E',rfl,rfl,h3,h4,h5⟩;obtain⟨E2,g1,g2,g3,g4⟩:=bump hS hcs hk hloc (by omega) (by simp only[qk,hnew]; omega) h4 h5 h3;obtain⟨hS3,hx3⟩:=SR.die g2;exact⟨_,_,_,{ E2 with n:=E2.n+1 },rfl,g1,g3.ext hx3,hS3,g4.trans hx3,rfl,rfl⟩
 have hcn:cap=n:=by omega
 subst hcn;refine (ins_grow hS hcs hlen hone hi' hloc hk hsh hts (by omega) hn hv hnew honev hvid hvloc hkv hvsh hvts (by omega)).mono ?_;rintro e w ⟨E',v,rfl,rfl,h3,h4,h5,hnew'⟩
 have hl':E'.loc id=some (ver,some b):=by
  have:=(h4.at (id:=id) (ver:=ver) (cs:=cells) (by
   have:=ze.at_lt hcs
   unfold ze.at at hcs ⊢; rw[qV this]; exact hcs))
  rcases this with ⟨b',e1,_⟩|⟨e1,_⟩
  · have:=h5.back hk e1; rw[hloc] at this; cases this; exact e1
  rw[e1] at hlen; simp at hlen; omega
 have hn':∃ nb,E'.loc σ.length=some (0,some nb)∧E.w.heap.size≤nb:=by
  rcases h4.at (ze.at_new σ 0 _) with ⟨nb,e1,_⟩|⟨e1,_⟩
  · refine⟨nb,e1,u6 fun hlt'=>?_⟩;obtain⟨i2,v2,e2⟩:=h5.own _ _ _ e1 hlt';exact hnew' i2 v2 nb e2 e1
  have:(cells.take (i*2)++(new++cells.drop (i*2))).length=0:=by rw[e1]; rfl
  simp only[qk,hnew] at this; omega
 obtain⟨nb,hn1,hn2⟩:=hn';obtain⟨g1,g2,g3⟩:=SR.swap h4 hlt hl' hn1;exact⟨_,_,_,{ E' with loc:=fun i=>if i=id then some (ver+1,some nb) else if i=σ.length then none else E'.loc i },rfl,rfl,g3 _ _ _ h3,g1,Ext.swap h5 hS hl' hn1 hn2 hlt,rfl,rfl⟩
end
section
set_option maxRecDepth 8000
set_option maxHeartbeats 1000000
open Go.RowKit AM
structure Ent where
 tag:Int
 id:Nat
 ver:Nat
 trees:List zk
def Ent.cells (e:Ent):List AV:=[.int .i64 e.tag,.os true 5 e.id e.ver 0 e.trees.length false]
def Ent.val (e:Ent):zr:=⟨e.tag,e.trees⟩
structure Rep (σ:ze)(tid eid ever:Nat)(L:List Ent):Prop where
 t:ze.at σ tid 0=some [.int .i64 3,.int .i64 0,.str [],.os true 2 eid ever 0 L.length false,.ds true [] 0 true]
 e:ze.at σ eid ever=some (L.flatMap Ent.cells)
 tr:∀ x∈L,ze.at σ x.id x.ver=some (x.trees.flatMap yp)
 nd:(tid::eid::L.map Ent.id).Nodup
def vaT (es:List zr)(f:ZS)(x:zk):Option (List zr×Bool):=
 (zL es f.fTag).bind fun p=>
 (if p.2=true then some es else (grd (0≤p.1∧p.1≤(es.length:Int))).bind fun _=>(X7 (es.length+1) 32).bind fun _=>some (es.take p.1.toNat++⟨f.fTag,[]⟩::es.drop p.1.toNat)).bind fun es1=>
 (Yz es1 p.1).bind fun e=>
 (X7 ((if f.fLabel=3 then e.fTrees.length else 0)+1) 80).bind fun _=>
 some (es1.set p.1.toNat ⟨e.fTag,(if f.fLabel=3 then e.fTrees else [])++[x]⟩,decide ((((if f.fLabel=3 then e.fTrees else [])++[x]).length:Int)≤64))
theorem Yu {σ:ze}{id ver:Nat}{cs:List AV}(h:ze.at σ id ver=some cs)(l:ze):ze.at (σ++l) id ver=some cs:=by
 have:=ze.at_lt h
 unfold ze.at at h ⊢; rw[qV this]; exact h
theorem Zj {σ:ze}{id id' ver:Nat}{cs:List AV}(h:ze.at σ id ver=some cs)(hne:id≠id')(o:Yy):ze.at (σ.set id' o) id ver=some cs:=by
 unfold ze.at at h ⊢; rw[ug (fun e=>hne e.symm)]; exact h
theorem vcR (σ:ze)(cs:List AV)(l:ze):ze.at (σ++.cells 0 cs::l) σ.length 0=some cs:=by
 unfold ze.at; rw[ut (qw _),uI]; rfl
theorem at_end1 (σ:ze)(o:Yy)(cs:List AV)(l:ze):ze.at (σ++o::.cells 0 cs::l) (σ.length+1) 0=some cs:=by
 unfold ze.at; rw[ut (by omega)]; simp
theorem Rep.app {σ:ze}{tid eid ever:Nat}{L:List Ent}(h:Rep σ tid eid ever L)(l:ze):Rep (σ++l) tid eid ever L:=
 ⟨Yu h.t l,Yu h.e l,fun x hx=>Yu (h.tr x hx) l,h.nd⟩
theorem Rep.toldC {σ:ze}{tid eid ever:Nat}{L:List Ent}(h:Rep σ tid eid ever L)(keep:List Nat)(ls:Bool)(f:Nat)(hk:∀ y∈L,idxOf keep y.id 0=none):(L.flatMap Ent.cells).map (tell σ keep ls (f+2))=(L.map Ent.val).flatMap zx:=by
 have key:∀ l:List Ent,(∀ x∈l,x∈L)→(l.flatMap Ent.cells).map (tell σ keep ls (f+2))=(l.map Ent.val).flatMap zx:=by
  intro l
  induction l with
  |nil=>intro _; rfl
  |cons a l ih=>
   intro hl
   have h1:=h.tr a (hl a (qA ..));have h2:=hk a (hl a (qA ..));simp only[qU,qF,qq,ih fun x hx=>hl x (qB _ hx)]
   congr 1
   simp only[Ent.cells,Ent.val,qq,qn,vbS,ZT,h2,h1,yK,zQ,zr.fTag,zr.fTrees];have hl:(a.trees.flatMap yp).length=a.trees.length*5:=zV E38.len a.trees;rw[if_pos (by rw[hl]; omega),qz,← hl,uj,zz]
 exact key L (fun _ h=>h)
theorem Rep.told {σ:ze}{tid eid ever:Nat}{L:List Ent}(h:Rep σ tid eid ever L)(nl:Bool):tell σ [] true 12 (.os nl 2 eid ever 0 L.length false)=.ds true ((L.map Ent.val).flatMap zx) (L.map Ent.val).length false:=by
 have hl:(L.flatMap Ent.cells).length=L.length*2:=by
  clear h
  induction L with
  |nil=>rfl
  |cons a l ih=>rw[qU,qk,ih]; simp[Ent.cells]; omega
 simp only[ZT,Zi,h.e];rw[if_pos (by rw[hl]; omega),qz,← hl,uj,h.toldC [] true 9 (fun _ _=>rfl),uk]
theorem Rep.set_ne {σ:ze}{tid eid ever:Nat}{L:List Ent}(h:Rep σ tid eid ever L){j:Nat}(hj:j∉tid::eid::L.map Ent.id)(o:Yy):Rep (σ.set j o) tid eid ever L:=by
 refine⟨Zj h.t (fun e=>hj (by rw[← e]; simp)) o,Zj h.e (fun e=>hj (by rw[← e]; simp)) o,fun x hx=>Zj (h.tr x hx) (fun e=>hj ?_) o,h.nd⟩;rw[← e];exact qB _ (qB _ (uF.2 ⟨x,hx,rfl⟩))
structure Mid (σ τ:ze)(tid eid ever:Nat)(ids:List Nat)(pre post:List Ent)(tag:Int)(av:AV)(trees:List zk):Prop where
 t:ze.at τ tid 0=some [.int .i64 3,.int .i64 0,.str [],.os true 2 eid ever 0 (pre.length+(1+post.length)) false,.ds true [] 0 true]
 e:ze.at τ eid ever=some (pre.flatMap Ent.cells++([.int .i64 tag,av]++post.flatMap Ent.cells))
 tr:∀ y∈pre++post,ze.at τ y.id y.ver=some (y.trees.flatMap yp)
 nd:(tid::eid::(pre++post).map Ent.id).Nodup
 c:(av=.ds true [] 0 true∧trees=[])∨∃ id ver,av=.os true 5 id ver 0 trees.length false∧ze.at τ id ver=some (trees.flatMap yp)∧id∉tid::eid::(pre++post).map Ent.id∧id∈ids
 sub:∀ y∈pre++post,y.id∈ids
 len:σ.length+2≤τ.length
 fr:∀ j,j<σ.length→j∉tid::eid::ids→τ[j]?=σ[j]?
 lt:∀ j∈tid::eid::ids,j<σ.length
theorem agr_app {x:List Nat}:∀ {s:ze} {i:Nat} (l:ze),agr x i s s (s++l)=True:=by
 intro s
 induction s with
 |nil=>intro i l; rfl
 |cons a s ih=>intro i l; simp only[qH,agr,ih]; simp
theorem vcP (l:List Ent):(l.flatMap Ent.cells).length=l.length*2:=by
 induction l with
 |nil=>rfl
 |cons a l ih=>rw[qU,qk,ih]; simp[Ent.cells]; omega
theorem cells_one (l:List Ent):(l.flatMap Ent.cells).all AV.one=true:=by
 induction l with
 |nil=>rfl
 |cons a l ih=>rw[qU,List.all_append,ih]; rfl
theorem split_at {α:Type}{l:List α}{k:Nat}(h:k≤l.length):∃ a b,l=a++b∧a.length=k:=⟨l.take k,l.drop k,(uz k l).symm,by simp[h]⟩
theorem split_el {α:Type}{l:List α}{k:Nat}(h:k<l.length):∃ a x b,l=a++x::b∧a.length=k:=by
 refine⟨l.take k,l[k],l.drop (k+1),?_,by simp; omega⟩;rw[← List.drop_eq_getElem_cons h,uz]
theorem set_mid {α:Type}(a:List α)(x y:α)(b:List α):(a++x::b).set a.length y=a++y::b:=by
 rw[List.set_append_right _ _ (qw _),uI]; rfl
theorem gc_mid (a b:List AV)(x y:AV):gc (a++([x,y]++b)) (a.length+1)=y:=by
 rw[Xg _ _ _ (by omega),Nat.add_sub_cancel_left]; rfl
theorem set_mid1 (a b:List AV)(x y z:AV):(a++([x,y]++b)).set (a.length+1) z=a++([x,z]++b):=by
 rw[List.set_append_right _ _ (by omega),Nat.add_sub_cancel_left]; rfl
theorem put_at {σ:ze}{tid eid ever:Nat}{L:List Ent}(hR:Rep σ tid eid ever L)(f:ZS)(x:zk){es':List zr}{b:Bool}(h:vaT (L.map Ent.val) f x=some (es',b)):
 ACalls qg 195 [.op tid 0 0,.agg (yr f),.agg (zd x)] σ (fun r σ'=>∃ ever' L',r=.bool b∧Rep σ' tid eid ever' L'∧L'.map Ent.val=es'∧
  (∀ y∈L',y.id∈L.map Ent.id∨σ.length≤y.id)∧σ.length≤σ'.length∧∀ j,j<σ.length→j∉tid::eid::L.map Ent.id→σ'[j]?=σ[j]?):=by
 refine Z0 (rs:=[.tmp 6]) U Tryz.func195 rfl Tryz.ntmps195 rfl Tryz.call195 (by simp) ?_;refine zA [(0,.op tid 0 0),(1,.agg (yr f)),(2,.agg (zd x))] ⟨rfl,rfl,rfl,trivial⟩ ?_
 refine rg U [0,4,5,6] fun K J=>?_
 simp only[go_sem,qd,qb,qe,reduceCtorEq,yr,zd];apply J
 clear J K
 simp only[qx,qH,qD,qk,ql,qr,qo]
 obtain⟨σ1,hσ1⟩:∃ s,s=σ++[.cells 0 [.str f.fName,.int .i64 f.fTag,.int .i64 f.fLabel,.int .i64 f.fType.fKind,.str f.fType.fName],
  .cells 0 [.int .i64 x.fKind,.int .i64 x.fN,.str x.fS,.ds true (qc zx x.fEntries) x.fEntries.length false,.ds true (qc zs x.fRest) x.fRest.length false]]:=⟨_,rfl⟩
 rw[← hσ1];have hR1:Rep σ1 tid eid ever L:=hσ1▸hR.app _;have h4:ze.at σ1 σ.length 0=some [.str f.fName,.int .i64 f.fTag,.int .i64 f.fLabel,.int .i64 f.fType.fKind,.str f.fType.fName]:=hσ1▸vcR _ _ _;have h5:ze.at σ1 (σ.length+1) 0=some [.int .i64 x.fKind,.int .i64 x.fN,.str x.fS,.ds true (qc zx x.fEntries) x.fEntries.length false,.ds true (qc zs x.fRest) x.fRest.length false]:=hσ1▸at_end1 _ _ _ _
 have hn1:σ1.length=σ.length+2:=by rw[hσ1]; simp
 have hfr:∀ j,j<σ.length→σ1[j]?=σ[j]?:=fun j hj=>by rw[hσ1,qV hj]
 have hlt:∀ j∈tid::eid::L.map Ent.id,j<σ.length:=by
  intro j hj
  rcases qW.1 hj with rfl|hj
  · exact ze.at_lt hR.t
  rcases qW.1 hj with rfl|hj
  · exact ze.at_lt hR.e
  obtain⟨y,hy,rfl⟩:=uF.1 hj;exact ze.at_lt (hR.tr y hy)
 clear hσ1
 unfold vaT at h;obtain⟨p,hp,h⟩:=bind_some h;have ht1:=hR1.t
 refine rd [0,4,5,6,7,8] fun K J=>?_
 refine DW.start (T:=tab) [.any,.any,.any,.at [],.any,.at [],.eff,.any,.any,.any,.any,.any] [] ?_;refine DW.runN U 6 ?_;simp only[go_sem,qd,qb,qe,reduceCtorEq,ht1,h4];refine DW.call rfl rfl rfl ((zL.ok hp).lend rfl true 12 (by simp only[qq,qn,go_sem,qb,reduceCtorEq,hR1.told true,vbS]; rfl)) ?_;refine DW.runN U 5 ?_;simp only[go_sem,qd,qb,qe,reduceCtorEq];refine DW.fin U (by decide +kernel) rfl ?_;simp only[zC,upd,qb,reduceIte,yX,xK];apply J
 clear J K
 obtain⟨es1,hes1,h⟩:=bind_some h;obtain⟨e,he,h⟩:=bind_some h;obtain⟨u,hu,h⟩:=bind_some h;have hg:=xf hu
 have hidL:∀ l:List Ent,(l.map Ent.val).length=l.length:=fun l=>uk _
 refine xL (fun F τ=>F=[(0,AV.op tid 0 0),(4,.op σ.length 0 0),(5,.op (σ.length+1) 0 0),(6,.bool false),(7,.int .i64 p.1)]∧∃ ever' pre post av,p.1=(pre.length:Int)∧es1=pre.map Ent.val++e::post.map Ent.val∧Mid σ τ tid eid ever' (L.map Ent.id) pre post e.fTag av e.fTrees∧
  ze.at τ σ.length 0=some [.str f.fName,.int .i64 f.fTag,.int .i64 f.fLabel,.int .i64 f.fType.fKind,.str f.fType.fName]∧
  ze.at τ (σ.length+1) 0=some [.int .i64 x.fKind,.int .i64 x.fN,.str x.fS,.ds true (qc zx x.fEntries) x.fEntries.length false,.ds true (qc zs x.fRest) x.fRest.length false]) ?_ ?_
 · refine rg U [0,4,5,6,7,21] fun K J=>?_
   simp only[go_sem,qd,qb,reduceCtorEq];apply J
   clear J K
   refine zU (b := !p.2) rfl (fun hc=>?_) (fun hc=>?_)
   · have hc':p.2=false:=by simpa using hc
     rw[Zf hc'] at hes1;obtain⟨_,h1,hes1⟩:=bind_some hes1;obtain⟨_,h2,hes1⟩:=bind_some hes1;have h1:=Ya h1;have h2:=xf h2;obtain rfl:=Option.some.inj hes1
     obtain⟨k,hk⟩:∃ k:Nat,p.1=k:=⟨p.1.toNat,by omega⟩
     rw[hk] at he h1 ⊢;simp only[qY,hidL] at he h1 h2
     have hkl:k≤L.length:=by omega
     obtain⟨pre,post,rfl,rfl⟩:=split_at hkl;have hl2:(pre++post).length=pre.length+post.length:=qk
     have e1:List.take pre.length ((pre++post).map Ent.val)=pre.map Ent.val:=by rw[qF,← uk (f:=Ent.val),List.take_left]
     have e2:List.drop pre.length ((pre++post).map Ent.val)=post.map Ent.val:=by rw[qF,← uk (f:=Ent.val),List.drop_left]
     rw[e1,e2] at he
     have hee:e=⟨f.fTag,[]⟩:=by
      obtain⟨_,_,_,g3⟩:=ZL he
      rw[← g3]; simp
     subst hee;rw[qY,e1,e2]
     have hc1:((pre++post).flatMap Ent.cells).take (pre.length*2)=pre.flatMap Ent.cells:=by rw[qX,← vcP,List.take_left]
     have hc2:((pre++post).flatMap Ent.cells).drop (pre.length*2)=post.flatMap Ent.cells:=by rw[qX,← vcP,List.drop_left]
     have htl:(tid<σ1.length)=True:=eq_true (by have:=hlt tid (by simp); omega);have htl2:(tid<σ.length)=True:=eq_true (hlt tid (by simp));have hel:=hlt eid (by simp)
     have hte:tid≠eid:=by have:=hR1.nd; simp at this; exact this.1.1
     have hins:=Insert_at (σ:=σ1++[Yy.cells 0 [AV.int .i64 f.fTag,AV.ds true [] 0 true]]) (nl:=true) (i:=pre.length) (Yu hR1.e _) (vcP _) (cells_one _) (by omega) (by have:=of_eq_true h2; omega) (vcR σ1 _ []) (new:=[AV.int .i64 f.fTag,AV.ds true [] 0 true]) rfl rfl (by omega);rw[hc1,hc2] at hins
     obtain⟨σ2,hσ2⟩:∃ s,s=List.set (σ1++[Yy.cells 0 [AV.int .i64 f.fTag,AV.ds true [] 0 true]]) eid (Yy.cells (ever+1) (pre.flatMap Ent.cells++([AV.int .i64 f.fTag,AV.ds true [] 0 true]++post.flatMap Ent.cells)))++[Yy.dead]:=⟨_,rfl⟩
     rw[← hσ2] at hins
     have ht2:ze.at σ2 tid 0=some [.int .i64 3,.int .i64 0,.str [],.os true 2 eid ever 0 (pre++post).length false,.ds true [] 0 true]:=by
      rw[hσ2]; exact Yu (Zj (Yu hR1.t _) hte _) _
     refine rdE [0,4,5,6,7] fun K J=>?_
     refine DW.start (T:=tab) [.any,.any,.any,.any,.own 1 [],.any,.any,.at [],.any,.eff,.eff,.any,.any,.eff] [(1,[])] ?_;refine DW.runN U 6 ?_;simp only[go_sem,qd,qb,qe,reduceCtorEq,ht1,htl];refine DW.runN U 4 ?_;simp only[go_sem,qd,qf,qb,qe,qj,reduceCtorEq,h4,zS,yE,qZ,qQ,true_and,ue,agr_app];refine DW.callS rfl rfl rfl hins (fun m x hm hle=>by simp at hm hle; omega) ?_;refine DW.runN U 3 ?_;simp only[go_sem,qd,qf,qb,qe,reduceCtorEq,ht2];refine DW.fin U (by decide +kernel) rfl ?_;simp only[zC,upd,qb,reduceIte,yX,xK];apply J
     clear J K
     have hnd:=hR1.nd
     have keep:∀ {j v:Nat} {cs:List AV},ze.at σ1 j v=some cs→j≠eid→j≠tid→ze.at (σ2.set tid (.cells 0 [.int .i64 3,.int .i64 0,.str [],.os true 2 eid (ever+1) 0 ((pre++post).length+1) false,.ds true [] 0 true])) j v=some cs:=by
      intro j v cs hj h1 h2
      refine Zj ?_ h2 _
      rw[hσ2]; exact Yu (Zj (Yu hj _) h1 _) _
     have hnid:∀ y∈pre++post,y.id≠eid∧y.id≠tid:=by
      intro y hy
      have hm:y.id∈(pre++post).map Ent.id:=uF.2 ⟨y,hy,rfl⟩;rw[List.nodup_cons,List.nodup_cons] at hnd;exact⟨fun e=>hnd.2.1 (e▸hm),fun e=>hnd.1 (qB _ (e▸hm))⟩
     simp only[zC];refine⟨_,_,⟨rfl,ever+1,pre,post,.ds true [] 0 true,rfl,rfl,⟨?_,?_,?_,hnd,.inl ⟨rfl,rfl⟩,?_,?_,?_,hlt⟩,keep h4 (by omega) (by have:=of_eq_true htl2; omega),keep h5 (by omega) (by have:=of_eq_true htl2; omega)⟩,.same ⟨rfl,rfl,rfl,rfl,rfl,trivial⟩ rfl⟩
     · have:=ze.at_set (ver':=0) (cs':=[.int .i64 3,.int .i64 0,.str [],.os true 2 eid (ever+1) 0 ((pre++post).length+1) false,.ds true [] 0 true]) ht2;rw[this,hl2];simp only[Option.some.injEq,List.cons.injEq,AV.os.injEq,true_and,and_true]
       omega
     · refine Zj ?_ hte.symm _
       rw[hσ2]; exact Yu (ze.at_set (Yu hR1.e _)) _
     · intro y hy; exact keep (hR1.tr y hy) (hnid y hy).1 (hnid y hy).2
     · intro y hy; exact uF.2 ⟨y,hy,rfl⟩
     · rw[hσ2]; simp; omega
     intro j hj hjn
     simp only[qW,not_or] at hjn;rw[ug (fun e=>hjn.1 e.symm),hσ2,qV (by simp; omega),ug (fun e=>hjn.2.1 e.symm),qV (by omega)];exact hfr j hj
   have hc':p.2=true:=by simpa using hc
   rw[if_pos hc'] at hes1;obtain rfl:=Option.some.inj hes1
   obtain⟨k,hk⟩:∃ k:Nat,p.1=k:=⟨p.1.toNat,by have:=(ZL he).1; omega⟩
   have he':=he;rw[hk] at he';obtain⟨g0,g1,g2,g3⟩:=ZL he';simp only[qY,hidL] at g1 g2 g3;obtain⟨pre,a,post,rfl,rfl⟩:=split_el (show k<L.length by omega)
   have hea:e=a.val:=by
    rw[← g3]; simp
   subst hea;refine zj ?_;simp only[zC];refine⟨_,σ1,⟨rfl,ever,pre,post,.os true 5 a.id a.ver 0 a.trees.length false,hk,by simp,⟨?_,?_,?_,?_,?_,?_,?_,?_,?_⟩,h4,h5⟩,.same ⟨rfl,rfl,rfl,rfl,rfl,trivial⟩ rfl⟩
   · have:=hR1.t
     rw[qk,ql,Nat.add_comm post.length 1] at this; exact this
   · have:=hR1.e
     rw[qX,qU] at this; exact this
   · intro y hy
     refine hR1.tr y ?_
     rcases u5.1 hy with h|h
     · exact uZ _ h
     exact uV _ (qB _ h)
   · have:=hR1.nd;refine List.Nodup.sublist ?_ this;refine List.Sublist.cons_cons _ (List.Sublist.cons_cons _ ?_);exact (List.Sublist.append_left (List.sublist_cons_self _ _) _).map _
   · refine .inr ⟨a.id,a.ver,rfl,hR1.tr a (by simp),?_,by simp⟩;have:=hR1.nd;simp only[qF,qq,List.nodup_cons,qW,u5,List.nodup_append,not_or] at this ⊢;obtain⟨⟨h1,h2,h3,h4⟩,⟨h5,h6,h7⟩,h8,⟨h9,h10⟩,h11⟩:=this;exact⟨fun e=>h3 e.symm,fun e=>h6 e.symm,fun hm=>h11 _ hm _ (.inl rfl) rfl,h9⟩
   · intro y hy
     rcases u5.1 hy with h|h
     · exact uF.2 ⟨y,uZ _ h,rfl⟩
     exact uF.2 ⟨y,uV _ (qB _ h),rfl⟩
   · omega
   · intro j hj _; exact hfr j hj
   exact hlt
 clear hes1 hp ht1 hR1 h4 h5 hn1 hfr σ1
 rintro _ τ ⟨rfl,ever1,pre,post,av,hp1,rfl,hM,h4,h5⟩;rw[hp1] at he h;simp only[qY] at h
 have hix:ZM tab 34 (.os true 2 eid ever1 0 (pre.length+(1+post.length)) false) (.int .i64 p.1)=some (.op eid ever1 (pre.length*2)):=by
  rw[hp1];simp only[ZM,vbk,vbj]
  simp
  omega
 have ht:=hM.t
 refine rg U [4,5,6,9] fun K J=>?_
 simp only[go_sem,qd,qb,qe,reduceCtorEq,ht,hix];apply J
 clear J K
 have hcl:(pre.flatMap Ent.cells).length=pre.length*2:=vcP pre
 refine xL (fun F τ'=>F=[(5,AV.op (σ.length+1) 0 0),(6,.bool false),(9,.op eid ever1 (pre.length*2))]∧∃ av',Mid σ τ' tid eid ever1 (L.map Ent.id) pre post e.fTag av' (if f.fLabel=3 then e.fTrees else [])∧
  ze.at τ' (σ.length+1) 0=some [.int .i64 x.fKind,.int .i64 x.fN,.str x.fS,.ds true (qc zx x.fEntries) x.fEntries.length false,.ds true (qc zs x.fRest) x.fRest.length false]) ?_ ?_
 · refine rg U [5,6,9,43] fun K J=>?_
   simp only[go_sem,qd,qb,qe,h4];apply J
   clear J K
   refine yn rfl (fun hc=>?_) (fun hc=>?_)
   · obtain⟨cs,hcs⟩:∃ cs,cs=pre.flatMap Ent.cells++([.int .i64 e.fTag,av]++post.flatMap Ent.cells):=⟨_,rfl⟩
     have hMe:=hM.e;rw[← hcs] at hMe;have hle:(pre.length*2+1<cs.length)=True:=eq_true (by rw[hcs]; simp only[qk,hcl,ql,qr]; omega);have hle':(pre.length*2+1+1≤cs.length)=True:=eq_true (by have:=of_eq_true hle; omega)
     refine rgE U [5,6,9] fun K J=>?_
     simp only[go_sem,qd,qb,hMe,hle'];apply J
     clear J K
     have hset:cs.set (pre.length*2+1) (.ds true [] 0 true)=pre.flatMap Ent.cells++([.int .i64 e.fTag,.ds true [] 0 true]++post.flatMap Ent.cells):=by
      rw[hcs,← hcl,set_mid1]
     rw[hset];simp only[zC];rw[if_neg hc];have hnd:=hM.nd;have hlt:=hM.lt;rw[List.nodup_cons,List.nodup_cons] at hnd
     have hte:tid≠eid:=fun e=>hnd.1 (e▸qA ..)
     refine⟨_,_,⟨rfl,.ds true [] 0 true,⟨Zj hM.t hte _,ze.at_set hM.e,?_,hM.nd,.inl ⟨rfl,rfl⟩,hM.sub,?_,?_,hM.lt⟩,Zj h5 ?_ _⟩,.same ⟨rfl,rfl,rfl,trivial⟩ rfl⟩
     · intro y hy
       refine Zj (hM.tr y hy) ?_ _
       intro e; exact hnd.2.1 (e▸uF.2 ⟨y,hy,rfl⟩)
     · have:=hM.len; simpa using this
     · intro j hj hjn
       rw[ug]
       · exact hM.fr j hj hjn
       intro e; exact hjn (e▸by simp)
     have:=hlt eid (by simp); omega
   refine zj ?_;simp only[zC];rw[if_pos hc];exact⟨_,τ,⟨rfl,av,hM,h5⟩,.same ⟨rfl,rfl,rfl,trivial⟩ rfl⟩
 clear hM h4 h5 hix ht τ av
 rintro _ τ ⟨rfl,av,hM,h5⟩
 obtain⟨cs,hcs⟩:∃ cs,cs=pre.flatMap Ent.cells++([.int .i64 e.fTag,av]++post.flatMap Ent.cells):=⟨_,rfl⟩
 have hMe:=hM.e;rw[← hcs] at hMe;have hle:(pre.length*2+1<cs.length)=True:=eq_true (by rw[hcs]; simp only[qk,hcl,ql,qr]; omega);have hle':(pre.length*2+1+1≤cs.length)=True:=eq_true (by have:=of_eq_true hle; omega)
 have hgc:gc cs (pre.length*2+1)=av:=by rw[hcs,← hcl,gc_mid]
 have heid:(eid<τ.length)=True:=eq_true (ze.at_lt hMe)
 refine rd [6,9] fun K J=>?_
 refine DW.start (T:=tab) [.any,.any,.any,.any,.own 1 [],.at [],.eff,.eff,.any,.any,.eff] [(1,[])] ?_;refine DW.runN U 6 ?_;simp only[go_sem,qd,qf,qb,qe,hMe,hle,hgc,heid,h5]
 obtain⟨xc,hxc⟩:∃ xc,xc=[AV.int .i64 x.fKind,.int .i64 x.fN,.str x.fS,.ds true (qc zx x.fEntries) x.fEntries.length false,.ds true (qc zs x.fRest) x.fRest.length false]:=⟨_,rfl⟩
 have hx5:xc.length=5:=by rw[hxc]; rfl
 have hx1:xc.all AV.one=true:=by rw[hxc]; rfl
 have hxe:xc=yp x:=by rw[hxc,yu]<;>rfl
 generalize htr:(if f.fLabel=3 then e.fTrees else [])=trees at *
 have key:∃ nid nver τ3,yM tab 38 38 av (.os true 5 τ.length 0 0 1 true) (τ++[.cells 0 xc])=some (.os true 5 nid nver 0 (trees.length+1) false,τ3)∧ze.at τ3 nid nver=some (trees.flatMap yp++xc)∧
  (∀ j v cs,ze.at τ j v=some cs→j≠nid→ze.at τ3 j v=some cs)∧nid∉tid::eid::(pre++post).map Ent.id∧(nid∈L.map Ent.id∨σ.length≤nid)∧τ.length≤τ3.length∧∀ j,j<σ.length→j∉tid::eid::L.map Ent.id→τ3[j]?=τ[j]?:=by
  have e1:xb (τ++[.cells 0 xc]) 5 (.os true 5 τ.length 0 0 1 true)=some (1,xc):=by
   simp only[xb,vcR τ xc []];rw[if_pos (by omega),qz,Nat.one_mul,← hx5,uj]
  rcases hM.c with ⟨rfl,h0⟩|⟨id,ver,rfl,h1,h2,h3⟩
  · refine⟨τ.length+1,0,τ++[.cells 0 xc]++[.cells 0 xc],?_,?_,fun j v cs hj _=>Yu (Yu hj _) _,fun hj=>?_,.inr (by have:=hM.len; omega),by simp,fun j hj _=>?_⟩
    · subst h0;simp only[yM,tab_38,tab_37,e1,yR,hx1,yw,if_true,qk,ql,qr]
      simp
    · subst h0;simp only[qx,qH,qD];exact at_end1 _ _ _ _
    · have:τ.length+1<σ.length:=hM.lt _ (by
       rcases qW.1 hj with h|h
       · rw[h]; simp
       rcases qW.1 h with h|h
       · rw[h]; simp
       obtain⟨y,hy,h'⟩:=uF.1 h
       rw[← h']; exact qB _ (qB _ (hM.sub y hy)))
      have:=hM.len; omega
    have:=hM.len;rw[qx,qV (by omega)]
  refine⟨id,ver+1,List.set (τ++[Yy.cells 0 xc]) id (Yy.cells (ver+1) (trees.flatMap yp++xc)),?_,ze.at_set (Yu h1 _),fun j v cs hj hne=>Zj (Yu hj _) hne _,h2,.inl h3,by simp,fun j hj hjn=>?_⟩
  · have hl:(trees.flatMap yp).length=trees.length*5:=zV E38.len trees
    have hg':((trees.length+1)*80≤140737488355328)=True:=by
     rw[← htr]
     by_cases hl3:f.fLabel=3
     · rw[if_pos hl3]; rw[if_pos hl3] at hg; exact hg
     rw[if_neg hl3]; simp
    simp only[yM,tab_38,tab_37,e1,yR,hx1,yw,Yu h1,hl,hg',and_self,qd,if_true]
  have:=hM.len;rw[ug,qV (by omega)]
  intro e; exact hjn (e▸qB _ (qB _ h3))
 obtain⟨nid,nver,τ3,k1,k2,k3,k4,k5,k6,k7⟩:=key
 have hne:eid≠nid:=fun e=>k4 (e▸by simp)
 have hMe3:=k3 _ _ _ hMe hne;refine DW.runN U 1 ?_;simp only[go_sem,qd,qf,qb,qe,qj,zS,yE,qZ,qQ,true_and,ue,agr_app];rw[← hxc];refine DW.runN U 1 ?_;simp only[go_sem,qd,qf,qb,qe,k1];refine DW.runN U 3 ?_;simp only[go_sem,qd,qf,qb,qe,hMe3,hle'];refine DW.fin U (by decide +kernel) rfl ?_;simp only[zC,upd,qb,reduceIte,yX,xK];apply J
 clear J K
 have hset:cs.set (pre.length*2+1) (.os true 5 nid nver 0 (trees.length+1) false)=pre.flatMap Ent.cells++([.int .i64 e.fTag,.os true 5 nid nver 0 (trees.length+1) false]++post.flatMap Ent.cells):=by
  rw[hcs,← hcl,set_mid1]
 have hat4:=ze.at_set (ver':=ever1) (cs':=cs.set (pre.length*2+1) (.os true 5 nid nver 0 (trees.length+1) false)) hMe3
 generalize cs.set (pre.length*2+1) (.os true 5 nid nver 0 (trees.length+1) false)=cs4 at *
 have hgc4:gc cs4 (pre.length*2+1)=.os true 5 nid nver 0 (trees.length+1) false:=by rw[hset,← hcl,gc_mid]
 have hle4:(pre.length*2+1<cs4.length)=True:=eq_true (by rw[hset]; simp only[qk,hcl,ql,qr]; omega)
 refine rg U [6] fun K J=>?_
 simp only[go_sem,qd,qb,hat4,hgc4,hle4];apply J
 clear J K
 refine yk ?_;simp only[ZJ,yQ,yZ,xQ,exists_eq_left',go_sem];have h':=Option.some.inj h;obtain⟨h1,h2⟩:=Prod.mk.inj h';have hnd:=hM.nd;have hlt:=hM.lt;rw[List.nodup_cons,List.nodup_cons] at hnd
 have hte:tid≠eid:=fun e=>hnd.1 (e▸qA ..)
 have htn:tid≠nid:=fun e=>k4 (e▸by simp)
 have hll:(trees++[x]).length=trees.length+1:=by simp
 refine⟨ever1,pre++⟨e.fTag,nid,nver,trees++[x]⟩::post,?_,⟨?_,?_,?_,?_⟩,?_,?_,?_,?_⟩
 · rw[← h2,hll]
 · refine Zj ?_ hte _;have:=k3 _ _ _ hM.t htn;rw[this];simp only[Option.some.injEq,List.cons.injEq,AV.os.injEq,true_and,and_true,qk,ql]
   omega
 · rw[hat4,hset]
   simp[Ent.cells]
 · intro y hy
   rcases u5.1 hy with hy|hy
   · refine Zj (k3 _ _ _ (hM.tr y (uZ _ hy)) ?_) ?_ _
     · intro e'; exact k4 (e'▸qB _ (qB _ (uF.2 ⟨y,uZ _ hy,rfl⟩)))
     intro e'; exact hnd.2.1 (e'▸uF.2 ⟨y,uZ _ hy,rfl⟩)
   rcases qW.1 hy with rfl|hy
   · refine Zj ?_ hne.symm _
     show ze.at τ3 nid nver=some ((trees++[x]).flatMap yp)
     rw[k2,qX,hxe]; simp
   refine Zj (k3 _ _ _ (hM.tr y (uV _ hy)) ?_) ?_ _
   · intro e'; exact k4 (e'▸qB _ (qB _ (uF.2 ⟨y,uV _ hy,rfl⟩)))
   intro e'; exact hnd.2.1 (e'▸uF.2 ⟨y,uV _ hy,rfl⟩)
 · have hp:(nid::tid::eid::(pre++post).map Ent.id).Nodup:=List.nodup_cons.2 ⟨k4,hM.nd⟩;refine (List.Perm.nodup_iff ?_).1 hp;refine (List.Perm.swap _ _ _).trans (List.Perm.cons _ ((List.Perm.swap _ _ _).trans (List.Perm.cons _ ?_)));rw[qF,qF,qq];exact (List.perm_middle).symm
 · rw[← h1,← hidL pre,set_mid]
   simp[Ent.val]
 · intro y hy
   rcases u5.1 hy with hy|hy
   · exact .inl (hM.sub y (uZ _ hy))
   rcases qW.1 hy with rfl|hy
   · exact k5
   exact .inl (hM.sub y (uV _ hy))
 · have:=hM.len; simp; omega
 intro j hj hjn
 rw[ug (fun e=>hjn (by rw[← e]; simp)),k7 j hj hjn];exact hM.fr j hj hjn
open Go.RowKit AM
def Yg (m:ya):List zr→Option (List zr)
 |[]=>some []
 |e::l=>(Ze e m).bind fun b=>(Yg m l).bind fun l'=>some (if b=true then l' else e::l')
theorem idx_del (m:ya):∀ (es:List zr) (x:Int) (es':List zr),Yg m es=some es'→
 ∃ r,z7.l4 m es x=some r∧((r = -1∧es'=es)∨∃ pre e post post',es=pre++e::post∧r=x+pre.length∧Yg m post=some post'∧es'=pre++post'):=by
 intro es
 induction es with
 |nil=>intro x es' h; cases h; exact⟨-1,rfl,.inl ⟨rfl,rfl⟩⟩
 |cons e l ih=>
  intro x es' h
  simp only[Yg] at h;obtain⟨b,hb,h⟩:=bind_some h;obtain⟨l',hl,h⟩:=bind_some h;obtain rfl:=Option.some.inj h;simp only[z7.l4,hb,qh]
  cases b with
  |true=>exact⟨x,rfl,.inr ⟨[],e,l,l',rfl,by simp,hl,rfl⟩⟩
  |false=>
   obtain⟨r,h1,h2⟩:=ih (x+1) l' hl;refine⟨r,h1,?_⟩
   rcases h2 with ⟨rfl,rfl⟩|⟨pre,e2,post,post',rfl,rfl,h3,rfl⟩
   · exact .inl ⟨rfl,rfl⟩
   exact .inr ⟨e::pre,e2,post,post',rfl,by simp; omega,h3,rfl⟩
theorem tell_fn {σ:ze}{keep:List Nat}{ls:Bool}{f:Nat}{g:Fn}{a b:List AV}:tell σ keep ls (f+1) (.fn g a b)=.fn g (a.map (tell σ keep ls f)) (b.map (tell σ keep ls f)):=rfl
theorem tell_msg {σ:ze}{keep:List Nat}{f:Nat}{g:Fn}{m:ya}:tell σ keep true (f+1+1+1) (.fn g [] [.dp (zf m) 0])=.fn g [] [.dp (zf m) 0]:=by
 simp only[tell_fn,qn,qq,tell_dp,zf,vbR,Xl,zz,qs,qu,qv]
theorem vdM (n:Nat):(yE [AV.int .i64 0,.ds true [] 0 true] n).all AV.one=true:=by
 rw[uh]
 intro x hx
 obtain⟨k,_,rfl⟩:=uF.1 hx
 have:k % 2=0∨k % 2=1:=by omega
 rcases this with h|h<;>simp[h,AV.one,gc]
theorem DeleteFunc_at {σ:ze}{id ver:Nat}{nl:Bool}{es es':List zr}(m:ya)(hcs:ze.at σ id ver=some (es.flatMap zx))(h:Yg m es=some es')(hB:es.length≤1000000000000000):
 ACalls qg 196 [.os nl 2 id ver 0 es.length false,.fn (.func 197) [] [.dp (zf m) 0]] σ (fun r σ'=>∃ cs g,r=.os nl 2 id ver 0 es'.length false∧σ'=List.set σ id (.cells ver (es'.flatMap zx++cs))++g):=by
 obtain⟨r,hr,hcase⟩:=idx_del m es 0 es' h;refine Z0 (rs:=[.tmp 4]) U Tryz.func196 rfl Tryz.ntmps196 rfl Tryz.call196 (by simp) ?_;refine zA [(0,.os nl 2 id ver 0 es.length false),(1,.fn (.func 197) [] [.dp (zf m) 0])] ⟨rfl,rfl,trivial⟩ ?_
 refine rg U [0,1] fun K J=>?_
 simp only[go_sem,qd,qb,reduceCtorEq];apply J
 clear J K
 have htold:tell σ [] true 12 (.os nl 2 id ver 0 es.length false)=.ds true (es.flatMap zx) es.length false:=by
  have hl:(es.flatMap zx).length=es.length*2:=zV E34.len es;simp only[ZT,Zi,hcs];rw[if_pos (by rw[hl]; omega),qz,← hl,uj,zz]
 refine rc [0,1,5] fun K J=>?_
 refine zB U 2 ?_;simp only[go_sem,qd,qb,reduceCtorEq];refine ZZ rfl rfl rfl ((z7.ok hr).lend rfl true 12 (by simp only[qq,qn,go_sem,qb,reduceCtorEq,htold,tell_msg])) ?_;rintro _ _ ⟨rfl,hσ⟩
 rw[hσ]; clear hσ
 refine zB U 1 ?_;simp only[go_sem,qd,qb,reduceCtorEq];refine zi ?_;simp only[zC,upd,qb,reduceIte,yX,xK];apply J
 clear J K
 refine za fun Z hZ=>?_
 refine rg U [0,1,5,12] fun K J=>?_
 simp only[go_sem,qd,qb,reduceCtorEq];apply J
 clear J K
 refine yn rfl (fun hc=>?_) (fun hc=>?_)
 · have he:es'=es:=by
    rcases hcase with ⟨_,h⟩|⟨pre,e,post,post',_,h2,_⟩
    · exact h
    omega
   subst he
   refine rg U [4] fun K J=>?_
   simp only[go_sem,qd,qb,reduceCtorEq];apply J
   clear J K
   refine yk ?_;simp only[ZJ,yQ,yZ,xQ,exists_eq_left',go_sem];exact⟨[],[],by rw[qE,qE,ze.set_at hcs]⟩
 obtain⟨pre,e,post,post',he,h2,h3,h4⟩:∃ pre e post post',es=pre++e::post∧r=0+(pre.length:Int)∧Yg m post=some post'∧es'=pre++post':=by
  rcases hcase with ⟨h,_⟩|h
  · exact absurd h hc
  exact h
 rw[Int.zero_add] at h2;subst h2
 have hl0:es.length=pre.length+(post.length+1):=by rw[he]; simp
 refine zj ?_;refine hZ _ _ ?_
 clear hZ Z
 have hw1:IntKind.i64.wrap ((pre.length:Int)+1)=(pre.length:Int)+1:=by rw[IntKind.wrap_i64]; omega
 refine za fun Z hZ=>?_
 refine rg U [0,1,5,6] fun K J=>?_
 simp only[go_sem,qd,qb,reduceCtorEq,hw1];apply J
 clear J K
 refine zn ?_
 refine yh (fun k F τ=>∃ (cur kept rest rest':List zr) (j:Nat) (g:ze),k=rest.length∧F=[(0,AV.os nl 2 id ver 0 es.length false),(1,.fn (.func 197) [] [.dp (zf m) 0]),(5,.int .i64 (kept.length:Int)),(6,.int .i64 (j:Int))]∧
  τ=List.set σ id (.cells ver (cur.flatMap zx))++g∧cur.length=es.length∧cur.take kept.length=kept∧cur.drop j=rest∧j+rest.length=es.length∧kept.length<j∧Yg m rest=some rest'∧es'=kept++rest') post.length
  ⟨es,pre,post,post',pre.length+1,[],rfl,rfl,by rw[ze.set_at hcs,qE],rfl,by rw[he,List.take_left],by rw[he,← vn,List.drop_left]; rfl,by omega,by omega,h3,h4⟩ (.same ⟨rfl,rfl,rfl,rfl,trivial⟩ rfl) ?_
 rintro k _ _ ⟨cur,kept,rest,rest',j,g,rfl,rfl,rfl,c1,c2,c3,c4,c5,c6,c7⟩;have hat:ze.at (List.set σ id (.cells ver (cur.flatMap zx))++g) id ver=some (cur.flatMap zx):=Yu (ze.at_set hcs) _
 obtain⟨τ,hτ⟩:∃ τ,τ=List.set σ id (.cells ver (cur.flatMap zx))++g:=⟨_,rfl⟩
 rw[← hτ] at hat ⊢
 refine za fun Y hY=>?_
 refine rg U [0,1,5,6,19] fun K J=>?_
 simp only[go_sem,qd,qb,reduceCtorEq];apply J
 clear J K
 refine yn rfl (fun hc=>?_) (fun hc=>?_)
 · refine zj ?_;refine hY _ _ ?_
   clear hY Y
   rcases rest with _|⟨e2,rest⟩
   · simp only[qr] at c4; omega
   simp only[Yg] at c6;obtain⟨b,hb,c6⟩:=bind_some c6;obtain⟨l',hl',c6⟩:=bind_some c6;obtain rfl:=Option.some.inj c6;simp only[ql] at c4
   have hx:Yz cur (j:Int)=some e2:=by
    unfold Yz;rw[if_pos (by omega),qY]
    have:(cur.drop j)[0]?=some e2:=by rw[c3]; rfl
    rwa [List.getElem?_drop,uP] at this
   have hcd:cur.drop (j+1)=rest:=by rw[← vn,c3]; rfl
   have hw6:IntKind.i64.wrap ((j:Int)+1)=((j+1:Nat):Int):=by rw[IntKind.wrap_i64]; omega
   have hix:=E34.idxO hx nl false .i64 2 id ver;rw[c1] at hix;have hrd:=E34.rdO hx
   refine za fun X hX=>?_
   have fin:∀ (cur' kept':List zr) (F:Fr) (τ':ze),vcf F [(0,AV.os nl 2 id ver 0 es.length false),(1,.fn (.func 197) [] [.dp (zf m) 0]),(5,.int .i64 (kept'.length:Int)),(6,.int .i64 (j:Int))]→(∃ g',τ'=List.set σ id (.cells ver (cur'.flatMap zx))++g')→cur'.length=es.length→cur'.take kept'.length=kept'→cur'.drop (j+1)=rest→kept'.length<j+1→es'=kept'++l'→
    X F τ':=by
    rintro cur' kept' F _ hF ⟨g',rfl⟩ d1 d2 d3 d4 d5;refine hX _ _ (yT (.same hF rfl) ?_)
    refine rgE U [0,1,5,6] fun K J=>?_
    simp only[go_sem,qd,qb,reduceCtorEq,hw6];apply J
    clear J K
    simp only[zC];exact⟨rest.length,_,_,by simp,⟨cur',kept',rest,l',j+1,g',rfl,rfl,rfl,d1,d2,d3,by omega,by omega,hl',d5⟩,.same ⟨rfl,rfl,rfl,rfl,trivial⟩ rfl⟩
   clear hX
   have hae:∀ cs,ze.at (τ++[.cells 0 cs]) τ.length 0=some cs:=fun cs=>vcR τ cs []
   have hse:∀ cs cs',(τ++[Yy.cells 0 cs]).set τ.length (.cells 0 cs')=τ++[.cells 0 cs']:=fun cs cs'=>set_mid τ _ _ []
   have hw5:IntKind.i64.wrap ((kept.length:Int)+1)=((kept.length+1:Nat):Int):=by rw[IntKind.wrap_i64]; omega
   refine zn ?_
   refine rg U [0,1,5,6,7] fun K J=>?_
   simp only[go_sem,qd,qf,qb,qe,reduceCtorEq,hat,hix,hrd,yK,zQ,hae,hse,ql,qr,uB,uU];apply J
   clear J K
   refine rc [0,5,6,7,1,29] fun K J=>?_
   refine zB U 2 ?_;simp only[go_sem,qd,qf,qb,qe,reduceCtorEq,hae,ql,qr];refine ZZ rfl rfl rfl ((Ze.ok hb).c _) ?_;rintro _ _ ⟨rfl,hσ⟩
   rw[hσ]; clear hσ
   refine zB U 1 ?_;simp only[go_sem,qd,qb,reduceCtorEq];refine zi ?_;simp only[zC,upd,qb,reduceIte,yX,xK];apply J
   clear J K
   cases b with
   |true=>
    refine zG rfl ?_;refine zj ?_;simp only[X4,zC];exact fin cur kept _ _ ⟨rfl,rfl,rfl,rfl,trivial⟩ ⟨g++[.cells 0 [.int .i64 e2.fTag,.ds true (qc yp e2.fTrees) e2.fTrees.length false]],by rw[hτ,qx]⟩ c1 c2 hcd (by omega) c7
   |false=>
    refine zK rfl ?_
    have hkl:kept.length<cur.length:=by omega
    have hx2:Yz cur (kept.length:Int)=some cur[kept.length]:=by
     unfold Yz;rw[if_pos (by omega),qY,qT hkl]
    have hix2:=E34.idxO hx2 nl false .i64 2 id ver;rw[c1] at hix2;have hsc:=E34.stOc hx2;have hsr:=E34.stOr hx2 (y:=e2) (cs:=[.int .i64 e2.fTag,.ds true (qc yp e2.fTrees) e2.fTrees.length false]) (by rw[yK]<;>rfl);simp only[wq] at hsr;have hat1:ze.at (τ++[.cells 0 [.int .i64 e2.fTag,.ds true (qc yp e2.fTrees) e2.fTrees.length false]]) id ver=some (cur.flatMap zx):=Yu hat _
    refine rg U [0,1,5,6] fun K J=>?_
    simp only[go_sem,qd,qf,qb,qe,reduceCtorEq,hae,hix2,hsc,hsr,hat1,ql,qr];apply J
    clear J K
    refine rgE U [0,1,5,6] fun K J=>?_
    simp only[go_sem,qd,qb,reduceCtorEq,hw5];apply J
    clear J K
    simp only[X4,zC]
    have hlen:(kept++[e2]).length=kept.length+1:=by simp
    refine fin (setI cur (kept.length:Int) e2) (kept++[e2]) _ _ ⟨rfl,rfl,by rw[hlen]; rfl,rfl,trivial⟩ ⟨g++[.cells 0 [.int .i64 e2.fTag,.ds true (qc yp e2.fTrees) e2.fTrees.length false]],?_⟩ ?_ ?_ ?_ (by rw[hlen]; omega) (by rw[c7]; simp)
    · rw[hτ,qx,List.set_append_left _ _ (by simpa using ze.at_lt hcs),List.set_set]
    · rw[YE]; exact c1
    · rw[hlen];unfold setI;rw[qY,List.take_set,List.take_add_one,c2,qT hkl]
      simp
    unfold setI;rw[qY,List.drop_set_of_lt (by omega)];exact hcd
 refine yf ?_;simp only[go_sem];have hr0:rest=[]:=qP.1 (by omega);subst hr0;cases c6;rw[qE] at c7;subst c7;simp only[qr,uP] at c4
 have hkn:es'.length<es.length:=by omega
 have hsl1:Yr tab 34 (.os nl 2 id ver 0 es.length false) (some (.int .i64 (es'.length:Int))) none none=some (.os nl 2 id ver (es'.length*2) (es.length-es'.length) false):=by
  simp only[Yr,vbk,vbj,vdu]
  simp
  omega
 have hsl2:Yr tab 34 (.os nl 2 id ver 0 es.length false) none (some (.int .i64 (es'.length:Int))) none=some (.os nl 2 id ver 0 es'.length false):=by
  simp only[Yr,vbk,vbj,vdu]
  simp
  omega
 have hcl:(cur.flatMap zx).length=es.length*2:=by rw[← c1]; exact zV E34.len cur
 have hzl:∀ n,(yE [AV.int .i64 0,.ds true [] 0 true] n).length=n:=fun n=>by simp[yE]
 have hsr:wq (cur.flatMap zx) (es'.length*2) (yE [AV.int .i64 0,.ds true [] 0 true] ((es.length-es'.length)*2))=es'.flatMap zx++yE [AV.int .i64 0,.ds true [] 0 true] ((es.length-es'.length)*2):=by
  have e0:cur.flatMap zx=es'.flatMap zx++((cur.drop es'.length).flatMap zx++[]):=by
   rw[qE,← qX]
   congr 1
   conv=>lhs; rw[← uz es'.length cur,c2]
  have l1:(es'.flatMap zx).length=es'.length*2:=zV E34.len _;rw[e0,← l1,Xn _ _ _ _ (by rw[hzl,zV E34.len,List.length_drop,c1]),qE]
 have hclr:vej tab 34 (.os nl 2 id ver (es'.length*2) (es.length-es'.length) false) τ=some (.tup [],τ.set id (.cells ver (es'.flatMap zx++yE [AV.int .i64 0,.ds true [] 0 true] ((es.length-es'.length)*2)))):=by
  have hp:YH τ (.os nl 2 id ver (es'.length*2) (es.length-es'.length) false) (es.length-es'.length) 2 (yE [AV.int .i64 0,.ds true [] 0 true] ((es.length-es'.length)*2))=some (τ.set id (.cells ver (es'.flatMap zx++yE [AV.int .i64 0,.ds true [] 0 true] ((es.length-es'.length)*2)))):=by
   unfold YH;rw[if_neg (by omega)];simp only[hat];rw[if_pos ⟨trivial,by rw[hzl,hcl,← u0]; exact ua _ (by omega),vdM _⟩,hsr]
  simp only[vej,vbk,vbj,AV.cells,hp]
  simp[AV.okc,AV.one]
 refine hZ _ _ ?_
 refine rg U [0,5] fun K J=>?_
 simp only[go_sem,qd,qb,reduceCtorEq,hsl1,hclr];apply J
 clear J K
 refine rg U [4] fun K J=>?_
 simp only[go_sem,qd,qb,reduceCtorEq,hsl2];apply J
 clear J K
 refine yk ?_;simp only[ZJ,yQ,yZ,xQ,exists_eq_left',go_sem];refine⟨yE [AV.int .i64 0,.ds true [] 0 true] ((es.length-es'.length)*2),g,?_⟩;rw[hτ,List.set_append_left _ _ (by simpa using ze.at_lt hcs),List.set_set]
open Go.RowKit AM
def yg.l (wb:zE→Yi→yc→Int→Option (zk×Int))(a0:zE)(a1:ya)(a3:Int):List yc→List zr→List yc→Option (zk×Int)
 |[],es,rest=>(X7 es.length 32).bind fun _=>(Yg a1 es).bind fun es'=>(yC rest).bind fun r=>some ((⟨3,0,[],es',r⟩:zk),0)
 |r::q,es,rest=>bnd (zI a1 r.fTag) fun f=>(if f.2=true then (wb a0 f.1.fType r a3).bind fun x=>(if x.2=0 then (vaT es f.1 x.1).bind fun p=>(if p.2=true then yg.l wb a0 a1 a3 q p.1 rest else some ((⟨0,0,[],[],[]⟩:zk),4)) else some ((⟨0,0,[],[],[]⟩:zk),x.2))
  else (X7 (rest.length+1) 40).bind fun _=>yg.l wb a0 a1 a3 q es (rest++[r]))
def yg.body (yo:zE→ya→List UInt8→Int→Option (zk×Int))(wb:zE→Yi→yc→Int→Option (zk×Int))(a0:zE)(a1:ya)(a2:List UInt8)(a3:Int):Option (zk×Int):=
 if 10<a3 then some ((⟨0,0,[],[],[]⟩:zk),10) else (w5 a2).bind fun g=>if g.2=0 then yg.l wb a0 a1 a3 g.1 [] [] else some ((⟨0,0,[],[],[]⟩:zk),g.2)
structure Loop (τ:ze)(a0:zE)(a1:ya)(ever rver:Nat)(L:List Ent)(rest:List yc):Prop where
 h0:ze.at τ 0 0=some (zb a0)
 h1:ze.at τ 1 0=some (zf a1)
 h2:ze.at τ 2 0=some [.int .i64 0,.int .i64 0,.str [],.ds true [] 0 true,.ds true [] 0 true]
 rep:Rep τ 3 4 ever L
 h5:ze.at τ 5 rver=some (rest.flatMap zs)
 ids:∀ y∈L,6≤y.id
theorem Loop.app {τ:ze}{a0:zE}{a1:ya}{ever rver:Nat}{L:List Ent}{rest:List yc}(h:Loop τ a0 a1 ever rver L rest)(l:ze):Loop (τ++l) a0 a1 ever rver L rest:=
 ⟨Yu h.h0 l,Yu h.h1 l,Yu h.h2 l,h.rep.app l,Yu h.h5 l,h.ids⟩
theorem vcy {σ:ze}{keep:List Nat}{e:Int}:tell σ keep true 12 (.tup [.agg [.int .i64 0,.int .i64 0,.str [],.ds true [] 0 true,.ds true [] 0 true],.int .i64 e])=.tup [.agg (zd ⟨0,0,[],[],[]⟩),.int .i64 e]:=by
 simp only[tell_tup,qq,qn,tell_agg,vbS,vbR,Xl]
 rfl
theorem yg.step (yo:zE→ya→List UInt8→Int→Option (zk×Int))(wb:zE→Yi→yc→Int→Option (zk×Int))
 (vbb:∀ (a0:zE) (a1:Yi) (a2:yc) (a3:Int) (r:zk×Int),wb a0 a1 a2 a3=some r→ACalls qg 194 [.agg (zb a0),.agg (Zh a1),.agg (zs a2),.int .i64 a3] [] (fun r' _=>r'=.tup [.agg (zd r.1),.int .i64 r.2]))
 (a0:zE) (a1:ya) (a2:List UInt8) (a3:Int) (r:zk×Int) (h:yg.body yo wb a0 a1 a2 a3=some r):
 ACalls qg 149 [.agg (zb a0),.agg (zf a1),.ds true (qc ZR a2) (qa a2) false,.int .i64 a3] [] (fun r' _=>r'=.tup [.agg (zd r.1),.int .i64 r.2]):=by
 have ev_one:=fun a0 a1 a2 a3 r h σ=>(vbb a0 a1 a2 a3 r h).pureAt (by simp only[AV.canon,xx,xA,qM,qt,qs,zs,zb,Zh]) (by simp only[AV.canon,xx,xA,qM,qt,qs,zd]) σ
 refine zt (rs:=[.cell 8 37,.tmp 9]) U Tryz.func149 rfl Tryz.ntmps149 rfl Tryz.call149 (by simp) ?_;refine zA [(0,.agg (zb a0)),(1,.agg (zf a1)),(2,.ds true (qc ZR a2) (qa a2) false),(3,.int .i64 a3)] ⟨rfl,rfl,rfl,rfl,trivial⟩ ?_;unfold yg.body at h
 refine rg U [2,3,4,5,8,9] fun K J=>?_
 simp only[go_sem,qd,qb,qe,reduceCtorEq,zb,zf];apply J
 clear J K
 refine za fun Z hZ=>?_
 refine rg U [2,3,4,5,8,9,21] fun K J=>?_
 simp only[go_sem,qd,qb];apply J
 clear J K
 refine yn rfl (fun hc=>?_) (fun hc=>?_)
 · rw[if_pos hc] at h;obtain rfl:=Option.some.inj h
   refine rg U [8,9] fun K J=>?_
   simp only[go_sem,qd,qf,qb,qe];apply J
   clear J K
   refine yk ?_;simp only[ZJ,yQ,yZ,xQ,exists_eq_left',go_sem,qf,qb,qe];exact vcy
 rw[if_neg hc] at h;obtain⟨g,hg,h⟩:=bind_some h;refine zj ?_;refine hZ _ _ ?_
 clear hZ Z
 refine rc [3,4,5,8,9,10,11] fun K J=>?_
 refine zB U 1 ?_;simp only[go_sem,qd,qb];refine ZZ rfl rfl rfl ((w5.ok hg).c _) ?_;rintro _ _ ⟨rfl,hσ⟩
 rw[hσ]; clear hσ
 refine zB U 5 ?_;simp only[go_sem,qd,qb,qe];refine zi ?_;simp only[zC,upd,qb,reduceIte,yX,xK];apply J
 clear J K
 refine za fun Z hZ=>?_
 refine rg U [3,4,5,8,9,10,11,29] fun K J=>?_
 simp only[go_sem,qd,qb];apply J
 clear J K
 refine yn rfl (fun hc2=>?_) (fun hc2=>?_)
 · rw[if_neg hc2] at h;obtain rfl:=Option.some.inj h
   refine rg U [8,9] fun K J=>?_
   simp only[go_sem,qd,qf,qb,qe];apply J
   clear J K
   refine yk ?_;simp only[ZJ,yQ,yZ,xQ,exists_eq_left',go_sem,qf,qb,qe];exact vcy
 rw[if_pos hc2] at h;refine zj ?_;refine hZ _ _ ?_
 clear hZ Z
 refine rg U [3,4,5,8,9,10,12] fun K J=>?_
 simp only[go_sem,qd,qf,qb,qe];apply J
 clear J K
 refine ZN 3 3 2 rfl (by simp) rfl (L:=[(3,.int .i64 a3),(4,.op 0 0 0),(5,.op 1 0 0),(8,.op 2 0 0),(9,.int .i64 0),(10,.ds true (qc zs g.1) (qa g.1) false),(12,.op 3 0 0)]) (.same ⟨rfl,rfl,rfl,rfl,rfl,rfl,rfl,trivial⟩ rfl) ?_
 refine rg U [3,4,5,8,9,10,12,13] fun K J=>?_
 simp only[go_sem,qd,qb,qe];apply J
 clear J K
 refine YV 13 4 rfl ?_;refine yT (L:=[(3,.int .i64 a3),(4,.op 0 0 0),(5,.op 1 0 0),(8,.op 2 0 0),(9,.int .i64 0),(10,.ds true (qc zs g.1) (qa g.1) false),(12,.op 3 0 0),(13,.os true 4 5 0 0 0 false)]) (.same ⟨rfl,rfl,rfl,rfl,rfl,rfl,rfl,rfl,trivial⟩ rfl) ?_
 refine za fun Z hZ=>?_
 refine xn 10 fun hb=>?_
 replace hb:qa g.1≤9223372036854775807:=hb.1
 refine rg U [3,4,5,8,9,12,13,33,34,35] fun K J=>?_
 simp only[go_sem,qd,qb];apply J
 clear J K
 refine zn ?_
 refine yh (fun k F τ=>∃ (p q:List yc) (i:Int) (L:List Ent) (rest:List yc) (ever rver:Nat),k=q.length∧F=[(3,AV.int .i64 a3),(4,.op 0 0 0),(5,.op 1 0 0),(8,.op 2 0 0),(9,.int .i64 0),(12,.op 3 0 0),(13,.os true 4 5 rver 0 rest.length false),(33,.ds true (qc zs g.1) (qa g.1) false),(34,.int .i64 (qa g.1:Int)),(35,.int .i64 i)]∧Loop τ a0 a1 ever rver L rest∧g.1=p++q∧i=(p.length:Int)∧yg.l wb a0 a1 a3 q (L.map Ent.val) rest=some r) g.1.length
  ⟨[],g.1,0,[],[],0,0,rfl,rfl,⟨rfl,rfl,rfl,⟨rfl,rfl,fun _ h=>(by cases h),by simp⟩,rfl,fun _ h=>(by cases h)⟩,rfl,rfl,h⟩ (.same ⟨rfl,rfl,rfl,rfl,rfl,rfl,rfl,rfl,rfl,rfl,trivial⟩ rfl) ?_
 clear h
 rintro k _ τ ⟨p,q,i,L,rest,ever,rver,rfl,rfl,hL,hE,hi,h⟩
 refine rg U [3,4,5,8,9,12,13,33,34,35,36] fun K J=>?_
 simp only[go_sem,qd,qb];apply J
 clear J K
 refine za fun Y hY=>?_
 rcases q with _|⟨y,q⟩
 · have hz:=xC hE hi;refine yn rfl (fun hc=>absurd hc (by rw[hz]; exact id)) (fun _=>?_);refine yf ?_;simp only[zC,go_sem];simp only[yg.l] at h;obtain⟨u,hu,h⟩:=bind_some h;have hrm:=of_eq_true (xf hu);obtain⟨es',hes,h⟩:=bind_some h;obtain⟨rr,hrr,h⟩:=bind_some h;obtain rfl:=Option.some.inj h
   have hid:∀ y∈L,idxOf [2,3,4] y.id 0=none:=by
    intro y hy
    have:=hL.ids y hy;simp only[Yx,Zi];rw[if_neg (by omega),if_neg (by omega),if_neg (by omega)]
   have hget:∀ {j v:Nat} {cs:List AV},ze.at τ j v=some cs→τ.getD j .dead=.cells v cs:=by
    intro j v cs hj
    rw[qG,ze.at_some hj]; rfl
   have hl4:(rest.flatMap zs).length=rest.length*4:=zV E35.len rest;have hcells:=hL.rep.toldC [2,3,4] false 10 hid
   have htS:vbu τ [2,3,4] false 12=[.cells 0 [.int .i64 0,.int .i64 0,.str [],.ds true [] 0 true,.ds true [] 0 true],.cells 0 [.int .i64 3,.int .i64 0,.str [],.os true 2 2 ever 0 (L.map Ent.val).length false,.ds true [] 0 true],.cells ever ((L.map Ent.val).flatMap zx)]:=by
    simp only[vbu,qq,qn,hget hL.h2,hget hL.rep.t,hget hL.rep.e,vbv,vbS,vbR,Xl,ZT,Yx,Zi,qb,if_true,if_false,hcells,uk,qK,qt,qI,qe]
   have hrest:tell τ [2,3,4] false 12 (.os true 4 5 rver 0 rest.length false)=.ds true (rest.flatMap zs) rest.length false:=by
    simp only[ZT,Yx,Zi,qb,if_false,hL.h5];rw[if_pos (by rw[hl4]; omega),qz,← hl4,uj,zz]
   have hmsg:tell τ [2,3,4] false 12 (.op 1 0 0)=.dp (zf a1) 0:=by
    simp only[tell_op,Yx,Zi,qb,if_false,hL.h1,zf,qq,qn,vbR,Xl,zz,qK,qt,qI]
   have hk3:[2,3,4].Nodup:=by decide
   have hlt5:=ze.at_lt hL.h5;refine hZ _ _ ?_;refine yT (L:=[(5,.dp (zf a1) 0),(8,.op 0 0 0),(12,.op 1 0 0),(13,.ds true (rest.flatMap zs) rest.length false)]) (.told [2,3,4] false hk3 (by intro id hid'; simp at hid'; omega) rfl htS ⟨hmsg,rfl,rfl,hrest,trivial⟩) ?_
   refine rc [8,12,13] fun K J=>?_
   refine zB U 3 ?_;simp only[go_sem,qd,qb,qe,uk];have hdel:=DeleteFunc_at (σ:=[.cells 0 [.int .i64 0,.int .i64 0,.str [],.ds true [] 0 true,.ds true [] 0 true],.cells 0 [.int .i64 3,.int .i64 0,.str [],.os true 2 2 ever 0 L.length false,.ds true [] 0 true],.cells ever ((L.map Ent.val).flatMap zx)]) (id:=2) (ver:=ever) (nl:=true) a1 (by simp only[ze.at_hd,ze.at_tl,if_true]) hes (by omega);rw[uk] at hdel;refine ZZ rfl rfl rfl hdel ?_;rintro _ _ ⟨cs,g',rfl,rfl⟩;refine zB U 2 ?_;simp only[go_sem,qd,qf,qb,qe,qH,qD,uU,uB];refine zi ?_;simp only[zC,upd,qb,reduceIte,yX,xK];apply J
   clear J K
   refine rc [8,12] fun K J=>?_
   refine zB U 1 ?_;simp only[go_sem,qd,qb];refine ZZ rfl rfl rfl ((yC.ok hrr).c _) ?_;rintro _ _ ⟨rfl,hσ⟩
   rw[hσ]; clear hσ
   refine zB U 2 ?_;simp only[go_sem,qd,qf,qb,qe,uU,uB];refine zi ?_;simp only[zC,upd,qb,reduceIte,yX,xK];apply J
   clear J K
   refine rg U [8,9] fun K J=>?_
   simp only[go_sem,qd,qf,qb,qe,uU,uB];apply J
   clear J K
   refine yk ?_;simp only[ZJ,yQ,yZ,xQ,exists_eq_left',go_sem,qf,qb,qe];have hle:(es'.flatMap zx).length=es'.length*2:=zV E34.len es';simp only[tell_tup,qq,qn,tell_agg,vbS,vbR,Xl,ZT,Zi,ze.at_hd,ze.at_tl,if_true,zz,zd,zk.fKind,zk.fN,zk.fS,zk.fEntries,zk.fRest];rw[if_pos (by rw[qk,hle]; omega),qz,← hle,List.take_left,zz]
   rfl
 obtain⟨hz,hw,hx,hE',hi'⟩:=yU hE hi hb;refine yn rfl (fun _=>?_) (fun hc=>absurd (of_eq_true hz) hc);refine zj ?_;refine hY _ _ ?_
 clear hY Y
 refine za fun X hX=>?_
 have fin:∀ (F:Fr) (τ':ze) (L':List Ent) (rest':List yc) (ever' rver':Nat),vcf F [(3,AV.int .i64 a3),(4,.op 0 0 0),(5,.op 1 0 0),(8,.op 2 0 0),(9,.int .i64 0),(12,.op 3 0 0),(13,.os true 4 5 rver' 0 rest'.length false),(33,.ds true (qc zs g.1) (qa g.1) false),(34,.int .i64 (qa g.1:Int)),(35,.int .i64 i)]→Loop τ' a0 a1 ever' rver' L' rest'→yg.l wb a0 a1 a3 q (L'.map Ent.val) rest'=some r→X F τ':=by
  intro F τ' L' rest' ever' rver' hF hL' h'
  refine hX _ _ (yT (.same hF rfl) ?_)
  refine rgE U [3,4,5,8,9,12,13,33,34,35] fun K J=>?_
  simp only[go_sem,qd,qb,hw];apply J
  clear J K
  simp only[zC];exact⟨q.length,_,_,by simp,⟨p++[y],q,i+1,L',rest',ever',rver',rfl,rfl,hL',hE',hi',h'⟩,.same ⟨rfl,rfl,rfl,rfl,rfl,rfl,rfl,rfl,rfl,rfl,trivial⟩ rfl⟩
 clear hX
 refine zn ?_;have hix:=E35.idxS hx;have hld:=E35.loadS rfl rfl hx
 have hae:∀ (τ:ze) cs,ze.at (τ++[.cells 0 cs]) τ.length 0=some cs:=fun τ cs=>vcR τ cs []
 have hse:∀ (τ:ze) cs cs',(τ++[Yy.cells 0 cs]).set τ.length (.cells 0 cs')=τ++[.cells 0 cs']:=fun τ cs cs'=>set_mid τ _ _ []
 refine rg U [3,4,5,8,9,12,13,15,33,34,35] fun K J=>?_
 simp only[go_sem,qd,qf,qb,qe,hix,hld,zs,hae,hse,ql,qr,uB,uU];apply J
 clear J K
 simp only[yg.l] at h;obtain⟨f,hf,h⟩:=ye h;have hL1:=hL.app [.cells 0 [.int .i64 y.fTag,.int .i64 y.fWire,.int .i64 y.fN,.str y.fB]];have hr1:=vcR τ [.int .i64 y.fTag,.int .i64 y.fWire,.int .i64 y.fN,.str y.fB] []
 generalize τ.length=k1 at *
 generalize τ++[.cells 0 [.int .i64 y.fTag,.int .i64 y.fWire,.int .i64 y.fN,.str y.fB]]=τ1 at *
 have hm1:=hL1.h1;have hs1:=hL1.h0;simp only[zf] at hm1;simp only[zb] at hs1
 refine rc [3,4,5,8,9,12,13,15,16,17,33,34,35] fun K J=>?_
 refine zB U 3 ?_;simp only[go_sem,qd,qf,qb,qe,hm1,hr1,ql,qr];refine ZZ rfl rfl rfl ((zI.ok hf).c _) ?_;rintro _ _ ⟨rfl,hσ⟩
 rw[hσ]; clear hσ
 refine zB U 6 ?_;simp only[go_sem,qd,qf,qb,qe,yr,hae,hse,ql,qr,uB,uU];refine zi ?_;simp only[zC,upd,qb,reduceIte,yX,xK];apply J
 clear J K
 have hL2:=hL1.app [.cells 0 [.str f.1.fName,.int .i64 f.1.fTag,.int .i64 f.1.fLabel,.int .i64 f.1.fType.fKind,.str f.1.fType.fName]];have hr2:=Yu hr1 [.cells 0 [.str f.1.fName,.int .i64 f.1.fTag,.int .i64 f.1.fLabel,.int .i64 f.1.fType.fKind,.str f.1.fType.fName]];have hm2:=Yu hs1 [.cells 0 [.str f.1.fName,.int .i64 f.1.fTag,.int .i64 f.1.fLabel,.int .i64 f.1.fType.fKind,.str f.1.fType.fName]];have hf2:=vcR τ1 [.str f.1.fName,.int .i64 f.1.fTag,.int .i64 f.1.fLabel,.int .i64 f.1.fType.fKind,.str f.1.fType.fName] []
 clear hm1 hs1 hr1
 generalize τ1.length=k2 at *
 generalize τ1++[.cells 0 [.str f.1.fName,.int .i64 f.1.fTag,.int .i64 f.1.fLabel,.int .i64 f.1.fType.fKind,.str f.1.fType.fName]]=τ2 at *
 refine za fun Y hY=>?_
 refine rg U [3,4,5,8,9,12,13,15,16,17,33,34,35,47] fun K J=>?_
 simp only[go_sem,qd,qb];apply J
 clear J K
 have hb2:∀ (b:Bool),(!b)=true→b=false:=by decide
 refine zU (b := !f.2) rfl (fun hc3=>?_) (fun hc3=>?_)
 · have hc4:f.2=false:=by simpa using hc3
   rw[Zf hc4] at h;obtain⟨u,hu,h⟩:=bind_some h;have hrm:=xf hu;have hL5:=hL2.h5;have hl4:(rest.flatMap zs).length=rest.length*4:=zV E35.len rest
   refine rg U [3,4,5,8,9,12,13,33,34,35] fun K J=>?_
   have hlit:=vcR τ2 [.int .i64 y.fTag,.int .i64 y.fWire,.int .i64 y.fN,.str y.fB] [];have hat5:=Yu hL5 [.cells 0 [.int .i64 y.fTag,.int .i64 y.fWire,.int .i64 y.fN,.str y.fB]]
   have hap:yM tab 35 35 (.os true 4 5 rver 0 rest.length false) (.os true 4 τ2.length 0 0 1 true) (τ2++[.cells 0 [.int .i64 y.fTag,.int .i64 y.fWire,.int .i64 y.fN,.str y.fB]])=
    some (.os true 4 5 (rver+1) 0 (rest.length+1) false,List.set (τ2++[.cells 0 [.int .i64 y.fTag,.int .i64 y.fWire,.int .i64 y.fN,.str y.fB]]) 5 (.cells (rver+1) (rest.flatMap zs++[.int .i64 y.fTag,.int .i64 y.fWire,.int .i64 y.fN,.str y.fB]))):=by
    have e1:xb (τ2++[.cells 0 [.int .i64 y.fTag,.int .i64 y.fWire,.int .i64 y.fN,.str y.fB]]) 4 (.os true 4 τ2.length 0 0 1 true)=some (1,[.int .i64 y.fTag,.int .i64 y.fWire,.int .i64 y.fN,.str y.fB]):=by
     simp only[xb,hlit]; simp
    simp only[yM,tab_35,tab_139,e1,yR,yw,hat5,hl4,hrm]
    simp[AV.one]
   simp only[go_sem,qd,qf,qb,qe,qj,hr2,zS,yE,qZ,qQ,true_and,ue,ql,qr,hap];apply J
   clear J K
   refine yf ?_;simp only[go_sem,reduceCtorEq]
   have hLs:Loop (List.set (τ2++[.cells 0 [.int .i64 y.fTag,.int .i64 y.fWire,.int .i64 y.fN,.str y.fB]]) 5 (.cells (rver+1) (rest.flatMap zs++[.int .i64 y.fTag,.int .i64 y.fWire,.int .i64 y.fN,.str y.fB]))) a0 a1 ever (rver+1) L (rest++[y]):=by
    have hL3:=hL2.app [.cells 0 [.int .i64 y.fTag,.int .i64 y.fWire,.int .i64 y.fN,.str y.fB]];refine⟨Zj hL3.h0 (by decide) _,Zj hL3.h1 (by decide) _,Zj hL3.h2 (by decide) _,hL3.rep.set_ne (fun hm=>?_) _,?_,hL3.ids⟩
    · simp only[qW,uF] at hm
      rcases hm with h|h|⟨z,hz,h⟩
      · cases h
      · cases h
      have:=hL3.ids z hz; omega
    rw[ze.at_set hL3.h5,qX]
    simp[zs]
   exact fin _ _ L (rest++[y]) ever (rver+1) ⟨rfl,rfl,rfl,rfl,rfl,rfl,by rw[qk]; rfl,rfl,rfl,rfl,trivial⟩ hLs h
 have hc4:f.2=true:=by simpa using hc3
 rw[if_pos hc4] at h;refine zj ?_;refine hY _ _ ?_
 clear hY Y
 obtain⟨x,hx1,h⟩:=bind_some h;have hty:AV.agg (Zh f.1.fType)=.agg [.int .i64 f.1.fType.fKind,.str f.1.fType.fName]:=rfl
 refine rc [3,4,5,8,9,12,13,16,18,19,33,34,35] fun K J=>?_
 refine zB U 5 ?_;simp only[go_sem,qd,qf,qb,qe,hm2,hr2,hf2,ql,qr,List.drop_succ_cons,qz,List.take_succ_cons,List.take_zero];refine ZZ rfl rfl rfl (ev_one a0 f.1.fType y a3 x hx1 _) ?_;rintro _ _ ⟨rfl,hσ⟩
 rw[hσ]; clear hσ
 refine zB U 6 ?_;simp only[go_sem,qd,qf,qb,qe,zd,hae,hse,ql,qr,uB,uU];refine zi ?_;simp only[zC,upd,qb,reduceIte,yX,xK];apply J
 clear J K hr2 hm2
 obtain⟨xc,hxc⟩:∃ xc,xc=[AV.int .i64 x.1.fKind,.int .i64 x.1.fN,.str x.1.fS,.ds true (qc zx x.1.fEntries) x.1.fEntries.length false,.ds true (qc zs x.1.fRest) x.1.fRest.length false]:=⟨_,rfl⟩
 rw[← hxc];have hL3:=hL2.app [.cells 0 xc];have hf3:=Yu hf2 [.cells 0 xc];have hx3:=vcR τ2 xc []
 clear hf2 hL2
 generalize τ2.length=k3 at *
 generalize τ2++[.cells 0 xc]=τ3 at *
 subst hxc
 refine za fun Y hY=>?_
 refine rg U [3,4,5,8,9,12,13,16,18,19,33,34,35,62] fun K J=>?_
 simp only[go_sem,qd,qb];apply J
 clear J K
 have h23:=hL3.h2;have h24:=ze.at_set (ver':=0) (cs':=[.int .i64 0,.int .i64 0,.str [],.ds true [] 0 true,.ds true [] 0 true]) h23;refine yn rfl (fun hc5=>?_) (fun hc5=>?_)
 · rw[if_neg hc5] at h;obtain rfl:=Option.some.inj h
   refine rg U [8,9] fun K J=>?_
   simp only[go_sem,qd,qf,qb,qe,h23,ql,qr,uB,uU];apply J
   clear J K
   refine yk ?_;simp only[vbN,ZJ,yQ,yZ,xQ,exists_eq_left',go_sem,qf,qb,qe,h24,ql,qr];exact vcy
 rw[if_pos hc5] at h;obtain⟨pp,hp,h⟩:=bind_some h;refine zj ?_;refine hY _ _ ?_
 clear hY Y
 refine rc [3,4,5,8,9,12,13,33,34,35,68] fun K J=>?_
 refine zB U 2 ?_;simp only[go_sem,qd,qf,qb,qe,hf3,hx3,ql,qr];refine ZZ rfl rfl rfl (put_at hL3.rep f.1 x.1 (es':=pp.1) (b:=pp.2) hp) ?_;rintro _ τ4 ⟨ever',L',rfl,hR4,he4,hid4,hle4,hfr4⟩;refine zB U 1 ?_;simp only[go_sem,qd,qb];refine zi ?_;simp only[zC,upd,qb,reduceIte,yX,xK];apply J
 clear J K
 have hkeep:∀ {j v:Nat} {cs:List AV},ze.at τ3 j v=some cs→j<6→j≠3→j≠4→ze.at τ4 j v=some cs:=by
  intro j v cs hj h6 h3 h4
  have hlt:=ze.at_lt hj;unfold ze.at at hj ⊢;rw[hfr4 j hlt (fun hm=>?_)]
  · exact hj
  simp only[qW,uF] at hm
  rcases hm with h|h|⟨z,hz,h⟩
  · exact h3 h
  · exact h4 h
  have:=hL3.ids z hz; omega
 have h45:6≤τ3.length:=by
  have:=ze.at_lt hL3.h5; omega
 have hL4:Loop τ4 a0 a1 ever' rver L' rest:=by
  refine⟨hkeep hL3.h0 (by decide) (by decide) (by decide),hkeep hL3.h1 (by decide) (by decide) (by decide),hkeep hL3.h2 (by decide) (by decide) (by decide),hR4,hkeep hL3.h5 (by decide) (by decide) (by decide),fun z hz=>?_⟩
  rcases hid4 z hz with h|h
  · obtain⟨w,hw,h'⟩:=uF.1 h
    have:=hL3.ids w hw; omega
  omega
 have h43:=hL4.h2;have h44:=ze.at_set (ver':=0) (cs':=[.int .i64 0,.int .i64 0,.str [],.ds true [] 0 true,.ds true [] 0 true]) h43;refine zU (b := !pp.2) rfl (fun hc6=>?_) (fun hc6=>?_)
 · have hc7:pp.2=false:=by simpa using hc6
   rw[Zf hc7] at h;obtain rfl:=Option.some.inj h
   refine rg U [8,9] fun K J=>?_
   simp only[go_sem,qd,qf,qb,qe,h43,ql,qr,uB,uU];apply J
   clear J K
   refine yk ?_;simp only[vbN,ZJ,yQ,yZ,xQ,exists_eq_left',go_sem,qf,qb,qe,h44,ql,qr];exact vcy
 have hc7:pp.2=true:=by simpa using hc6
 rw[if_pos hc7] at h;refine zj ?_;simp only[X4,zC];exact fin _ _ L' rest ever' rver ⟨rfl,rfl,rfl,rfl,rfl,rfl,rfl,rfl,rfl,rfl,trivial⟩ hL4 (by rw[he4]; exact h)
end
section
set_option maxRecDepth 8000
open Go.RowKit AM
mutual
def yg : Nat→zE→ya→List UInt8→Int→Option (zk×Int)
 |0,_,_,_,_=>none
 |k+1,a0,a1,a2,a3=>yg.body (yg k) (yA k) a0 a1 a2 a3
def yA : Nat→zE→Yi→yc→Int→Option (zk×Int)
 |0,_,_,_,_=>none
 |k+1,a0,a1,a2,a3=>yA.body (yg k) (yA k) a0 a1 a2 a3
end
theorem yg.all (k:Nat):
 (∀ (a0:zE) (a1:ya) (a2:List UInt8) (a3:Int) (r:zk×Int),yg k a0 a1 a2 a3=some r→ACalls qg 149 [.agg (zb a0),.agg (zf a1),.ds true (qc ZR a2) (qa a2) false,.int .i64 a3] [] (fun r' _=>r'=.tup [.agg (zd r.1),.int .i64 r.2]))∧
 (∀ (a0:zE) (a1:Yi) (a2:yc) (a3:Int) (r:zk×Int),yA k a0 a1 a2 a3=some r→ACalls qg 194 [.agg (zb a0),.agg (Zh a1),.agg (zs a2),.int .i64 a3] [] (fun r' _=>r'=.tup [.agg (zd r.1),.int .i64 r.2])):=by
 induction k with
 |zero=>exact⟨fun a0 a1 a2 a3 r h=>(by simp only[yg] at h; cases h),fun a0 a1 a2 a3 r h=>(by simp only[yA] at h; cases h)⟩
 |succ k ih=>
  exact⟨fun a0 a1 a2 a3 r h=>yg.step (yg k) (yA k) ih.2 a0 a1 a2 a3 r (by simpa only [yg] using h),
   fun a0 a1 a2 a3 r h=>yA.step (yg k) (yA k) ih.1 ih.2 a0 a1 a2 a3 r (by simpa only [yA] using h)⟩
theorem yg.ok (k:Nat)(a0:zE)(a1:ya)(a2:List UInt8)(a3:Int)(r:zk×Int)(h:yg k a0 a1 a2 a3=some r):ACalls qg 149 [.agg (zb a0),.agg (zf a1),.ds true (qc ZR a2) (qa a2) false,.int .i64 a3] [] (fun r' _=>r'=.tup [.agg (zd r.1),.int .i64 r.2]):=
 (yg.all k).1 a0 a1 a2 a3 r h
theorem yg.ev (k:Nat)(a0:zE)(a1:ya)(a2:List UInt8)(a3:Int)(r:zk×Int)(h:yg k a0 a1 a2 a3=some r)(σ:ze):ACalls qg 149 [.agg (zb a0),.agg (zf a1),.ds true (qc ZR a2) (qa a2) false,.int .i64 a3] σ (fun r' σ'=>r'=.tup [.agg (zd r.1),.int .i64 r.2]∧σ'=σ):=
 (yg.ok k a0 a1 a2 a3 r h).pureAt (by simp only[AV.canon,xx,xA,qM,qI,um,qt,qu,qs,uC,uA,zd,zf,zb]) (by simp only[AV.canon,xx,xA,qM,qI,um,qt,qu,qs,uC,uA,zd,yu]) σ
end
section
namespace AM
open Go.RowKit
variable {Φ:Ctx}
def vbB (π:Nat→Nat)(o:Oper):Oper := { o with after:=o.after.map fun e => { e with on:=π e.on } }
theorem wp_renumb {P:Program}(π:Nat→Nat)(o:Oper){a:Act}{w:World}{K:Act→World→Prop}{Q:Exit→Act→World→Prop}:(vbB π o).wpIn (fen Φ) 0 P a w K Q=o.wpIn (fen Φ) 0 P a w K Q:=by
 cases o; rfl
structure Permd (ops ops':List Oper)(π:Nat→Nat):Prop where
 len:ops'.length=ops.length
 inj:∀ i j,i<ops.length→j<ops.length→π i=π j→i=j
 lt:∀ i,i<ops.length→π i<ops.length
 onto:∀ k,k<ops.length→∃ i,i<ops.length∧π i=k
 get:∀ (i:Nat) (o:Oper),ops[i]?=some o→ops'[π i]?=some (vbB π o)
 guard:∀ (i:Nat) (o:Oper),ops[i]?=some o→o.guard=none
 edge:∀ (i:Nat) (o:Oper),ops[i]?=some o→∀ e∈o.after,e.on<ops.length
theorem vc1 {ops ops':List Oper}{π:Nat→Nat}(hp:Permd ops ops' π){md:Region.Mode}{l l':Array Bool}(hl:l.size=ops.length)(hl':l'.size=ops.length)(h:∀ i,i<ops.length→l'.getD (π i) false=l.getD i false){i:Nat}(hi:i<ops.length):
 i∈Region.ready md ops.toArray l↔π i∈Region.ready md ops'.toArray l':=by
 obtain⟨o,ho⟩:∃ o,ops[i]?=some o:=⟨_,qT hi⟩
 have ho':=hp.get i o ho
 have hb:∀ e:Edge,Region.binds md { e with on:=π e.on }=Region.binds md e:=fun e=>rfl
 have h1:∀ (l:Array Bool) (i:Nat),i<l.size→l.getD i true=l.getD i false:=by
  intro l i hi
  simp[hi]
 simp only[mem_ready];rw[h1 l i (by omega),h1 l' (π i) (by have:=hp.lt i hi; omega),h i hi]
 constructor
 · rintro ⟨a,o2,b,c⟩
   have:o2=o:=by
    have e:ops[i]?=some o2:=by simpa using b
    rw[ho] at e; exact (Option.some.inj e).symm
   subst this;refine⟨a,vbB π o2,by simpa using ho',fun e he hbd=>?_⟩;simp only[vbB,Array.mem_map] at he;obtain⟨e0,he0,rfl⟩:=he;rw[h e0.on (hp.edge i o2 ho e0 he0)];exact c e0 he0 hbd
 rintro ⟨a,o2,b,c⟩
 have:o2=vbB π o:=by
  have e:ops'[π i]?=some o2:=by simpa using b
  rw[ho'] at e; exact (Option.some.inj e).symm
 subst this;refine⟨a,o,by simpa using ho,fun e he hbd=>?_⟩;have:=c { e with on:=π e.on } (by simp only[vbB,Array.mem_map]; exact⟨e,he,rfl⟩) hbd
 rw[← h e.on (hp.edge i o ho e he)]; exact this
theorem set_perm {N:Nat}{π:Nat→Nat}(inj:∀ i j,i<N→j<N→π i=π j→i=j)(lt:∀ i,i<N→π i<N){l l':Array Bool}(hl:l.size=N)(hl':l'.size=N)(h:∀ i,i<N→l'.getD (π i) false=l.getD i false){j:Nat}(hj:j<N):
 ∀ i,i<N→(l'.setIfInBounds (π j) true).getD (π i) false=(l.setIfInBounds j true).getD i false:=by
 intro i hi
 rw[ZG (by have:=lt j hj; omega),ZG (by omega),h i hi]
 congr 1
 exact decide_eq_decide.2 ⟨fun e=>inj i j hi hj e,fun e=>by rw[e]⟩
theorem wpAny_perm {P:Program}{ops ops':List Oper}{π:Nat→Nat}(hp:Permd ops ops' π){md:Region.Mode}{Q:Exit→Act→World→Prop}:
 ∀ (fuel:Nat) (l l':Array Bool) (a:Act) (w:World),l.size=ops.length→l'.size=ops.length→(∀ i,i<ops.length→l'.getD (π i) false=l.getD i false)→
  wpAnyIn (fen Φ) 0 P md ops'.toArray Q fuel l' a w→wpAnyIn (fen Φ) 0 P md ops.toArray Q fuel l a w:=by
 have lt_of:∀ {l:Array Bool} {i:Nat} {q:List Oper},i∈Region.ready md q.toArray l→i<q.length:=fun h=>by
  obtain⟨_,o,ho,_⟩:=mem_ready.1 h
  simpa using (Array.getElem?_eq_some_iff.1 ho).1
 have nil:∀ {l l':Array Bool},l.size=ops.length→l'.size=ops.length→(∀ i,i<ops.length→l'.getD (π i) false=l.getD i false)→Region.ready md ops.toArray l=[]→Region.ready md ops'.toArray l'=[]:=by
  intro l l' hl hl' h hr
  cases hr':Region.ready md ops'.toArray l' with
  |nil=>rfl
  |cons k q=>
   have hk:k∈Region.ready md ops'.toArray l':=by rw[hr']; exact qA ..
   obtain⟨i,hi,rfl⟩:=hp.onto k (by have:=lt_of hk; rw[hp.len] at this; exact this);have:=(vc1 hp hl hl' h hi).2 hk
   rw[hr] at this; cases this
 have nil':∀ {l l':Array Bool},l.size=ops.length→l'.size=ops.length→(∀ i,i<ops.length→l'.getD (π i) false=l.getD i false)→Region.ready md ops'.toArray l'=[]→Region.ready md ops.toArray l=[]:=by
  intro l l' hl hl' h hr
  cases hr':Region.ready md ops.toArray l with
  |nil=>rfl
  |cons k q=>
   have hk:k∈Region.ready md ops.toArray l:=by rw[hr']; exact qA ..
   have:=(vc1 hp hl hl' h (lt_of hk)).1 hk
   rw[hr] at this; cases this
 intro fuel
 induction fuel with
 |zero=>
  intro l l' a w hl hl' h hw
  exact⟨nil' hl hl' h hw.1,hw.2⟩
 |succ fuel ih=>
  intro l l' a w hl hl' h hw
  refine⟨fun hr=>hw.1 (nil hl hl' h hr),fun i hi=>?_⟩;have hil:=lt_of hi
  obtain⟨o,ho⟩:∃ o,ops[i]?=some o:=⟨_,qT hil⟩
  have ho':=hp.get i o ho;have h1:=hw.2 (π i) ((vc1 hp hl hl' h hil).1 hi)
  have hk:∀ a w,wpAnyIn (fen Φ) 0 P md ops'.toArray Q fuel (l'.setIfInBounds (π i) true) a w→wpAnyIn (fen Φ) 0 P md ops.toArray Q fuel (l.setIfInBounds i true) a w:=
   fun a w hh=>ih _ _ a w (by simpa using hl) (by simpa using hl') (set_perm hp.inj hp.lt hl hl' h hil) hh
  have h2:=wpOpIn_mono hk h1;unfold wpOpIn at h2 ⊢
  have e1:ops.toArray[i]?=some o:=by simpa using ho
  have e2:ops'.toArray[π i]?=some (vbB π o):=by simpa using ho'
  rw[e2] at h2;rw[e1];have g1:=hp.guard i o ho
  have g2:∀ y,Region.wanted o y=true:=fun y=>by simp[Region.wanted,g1]
  have g3:∀ y,Region.wanted (vbB π o) y=true:=fun y=>by simp[Region.wanted,vbB,g1]
  simp only[g2,g3,if_true] at h2 ⊢;rw[wp_renumb] at h2;exact h2
theorem AnyW.perm {P:Program}{n k0:Nat}{ops ops':List Oper}{π:Nat→Nat}{Q:Exit→Fr→ze→Prop}{F:Fr}{σ:ze}(hp:Permd ops ops' π)(h:AnyW Φ P n k0 ops' Q F σ):AnyW Φ P n k0 ops Q F σ:=by
 intro E a hk hS hF md
 have h1:=h E a hk hS hF md
 have e:ops'.toArray.size=ops.toArray.size:=by simp[hp.len]
 rw[e] at h1
 have hf:∀ (N i:Nat),(uS N false).getD i false=false:=by
  intro N i; by_cases h:i<N<;>simp[h]
 exact wpAny_perm hp _ _ _ a _ (by simp) (by simp) (fun i _=>by rw[hf,hf]) h1
def noOp : Oper := { dst:=none,op:=.alloc 0,type:=0,pos := "",after := #[],guard:=none }
def posOf (ord:List Nat)(i:Nat):Nat:=if i<ord.length then ord.idxOf i else i
def vck (ops:List Oper)(ord:List Nat):List Oper:=ord.map fun i=>vbB (posOf ord) (ops.getD i noOp)
def chkPerm (ops:List Oper)(ord:List Nat):Bool:=
 decide (ord.length=ops.length)&&(uD ops.length).all (fun i=>decide (posOf ord i<ops.length)&&decide (ord[posOf ord i]?=some i)&&decide (ord.getD i ops.length<ops.length)&&decide (posOf ord (ord.getD i ops.length)=i)) &&
  ops.all fun o=>o.guard.isNone&&o.after.all fun e=>decide (e.on<ops.length)
theorem permd_of {ops:List Oper}{ord:List Nat}(h:chkPerm ops ord=true):Permd ops (vck ops ord) (posOf ord):=by
 simp only[chkPerm,qC,decide_eq_true_eq,uh,List.mem_range] at h;obtain⟨⟨h1,h2⟩,h3⟩:=h;refine⟨by rw[vck,uk,h1],fun i j hi hj e=>?_,fun i hi=>(h2 i hi).1.1.1,fun k hk=>⟨_,(h2 k hk).1.2,(h2 k hk).2⟩,fun i o ho=>?_,fun i o ho=>?_,fun i o ho e he=>?_⟩
 · have a:=(h2 i hi).1.1.2;have b:=(h2 j hj).1.1.2;rw[e,b] at a;exact (Option.some.inj a).symm
 · have hi:i<ops.length:=(qN.1 ho).1
   rw[vck,vp,(h2 i hi).1.1.2,uG,qG,ho]; rfl
 · have:=(h3 o (u9 ho)).1
   simpa using this
 have:=(h3 o (u9 ho)).2;have:=Array.all_eq_true_iff_forall_mem.1 this e he
 simpa using this
theorem DW.startP {P:Program}{n k0:Nat}{Q:Exit→Fr→ze→Prop}{T:TT}{id:Nat}{ops:List Oper}(ord:List Nat)(hc:chkPerm ops ord=true)(es:List EK)(ex:List (Nat×List Nat)){F0:Fr}{σ0:ze}(h:DW Φ P n k0 T id (vck ops ord) es F0 σ0 ex Q (vck ops ord) es F0 [σ0] []):awp Φ P n k0 (.region id ops.toArray true) Q F0 σ0:=
 awp_of_any (AnyW.perm (permd_of hc) (h ⟨0,rfl,rfl,Past.start T (vck ops ord) es F0 σ0 ex⟩))
end AM
end
section
set_option maxRecDepth 8000
open Go.RowKit AM
section
variable {Φ:Ctx} {P:Program} {n k:Nat} {Q:Exit→Fr→ze→Prop} {F:Fr} {σ:ze}
theorem AM.opsWp_inil {T:TT}(hT:TOK P T){ops:Array Oper}{o:Oper}{l:List Oper}{x:Operand}{t yt:TypeId}{i:TI}{e:Array (String×TypeId)}(hg:YB ops F o=some true)(ho:o.op=.binOp .eql t x (.const .nilIface) yt)(hi:T t=some i)(hd:i.desc=.interface e)
 (hs:ev F x=.nilI) (hdst:van n o.dst=true) (h:ZI Φ P n k ops l Q (XN F o.dst (.bool true)) σ):ZI Φ P n k ops (o::l) Q F σ:=by
 intro E a hk hS hF
 unfold wpListIn;rw[if_pos (Zo hF hg)];have hx:=hF.ev x;rw[hs] at hx
 have hv:a.eval x=.nilIface:=by
  generalize a.eval x=v at hx
  cases hx; rfl
 refine va1 (fun c hc=>by rw[ho] at hc; cases hc) ?_
 have hrun:(execOp a.eval o).run P E.w=.ok (.value (.bool true)) E.w:=by
  obtain⟨dst,op,ty,pos,after,guard⟩:=o;simp only at ho;subst ho
  show (do pure (.value (← (do eqGuard .eql t x (.const .nilIface) (a.eval x) .nilIface; Go.binOp .eql t (a.eval x) .nilIface:Sem Value))):Sem Next).run P E.w=_
  have h3:∀ d,(Op.equalIn (d+1) t .nilIface .nilIface).run P E.w=.ok true E.w:=by
   intro d
   simp only[Op.equalIn,qp,yv _ (hT _ _ hi),qi,hd]; rfl
  have h2:(Op.equal t .nilIface .nilIface).run P E.w=.ok true E.w:=h3 9999
  have h1:(do eqGuard .eql t x (.const .nilIface) .nilIface .nilIface; Go.binOp .eql t .nilIface .nilIface:Sem Value).run P E.w=.ok (.bool true) E.w:=by
   have hgd:(eqGuard .eql t x (.const .nilIface) .nilIface .nilIface).run P E.w=.ok () E.w:=by
    unfold eqGuard
    cases x<;>rfl
   rw[qp,hgd,qi];simp only[Go.binOp,qp,h2,qi,qL]
  rw[hv,qp,h1,qi]; rfl
 rw[hrun];exact h E _ hk hS (hF.put (XE hdst) (.bool true))
end
theorem kind_num (m:Int)(σ:ze):ACalls qg 275 [.int .i64 m] σ (fun r' σ'=>r'=.int .i64 1∧σ'=σ):=by
 refine ACalls.c (x:=.int .i64 1) ?_ σ;refine zt (rs:=[.tmp 2]) U Tryz.func275 rfl Tryz.ntmps275 rfl Tryz.call275 (by simp) ?_;refine zA [(0,.int .i64 m)] ⟨rfl,trivial⟩ ?_
 refine rg U [2] fun K J=>?_
 simp only[go_sem,qd,qf,qb,qe,qj,qm,reduceIte,reduceCtorEq];apply J
 clear J K
 refine rg U [2] fun K J=>?_
 simp only[go_sem,qd,qf,qb,qe,qj,qm,reduceIte,reduceCtorEq];apply J
 clear J K
 refine yk ?_;exact retA
theorem kind_str (m:List UInt8)(σ:ze):ACalls qg 276 [.str m] σ (fun r' σ'=>r'=.int .i64 2∧σ'=σ):=by
 refine ACalls.c (x:=.int .i64 2) ?_ σ;refine zt (rs:=[.tmp 2]) U Tryz.func276 rfl Tryz.ntmps276 rfl Tryz.call276 (by simp) ?_;refine zA [(0,.str m)] ⟨rfl,trivial⟩ ?_
 refine rg U [2] fun K J=>?_
 simp only[go_sem,qd,qf,qb,qe,qj,qm,reduceIte,reduceCtorEq];apply J
 clear J K
 refine rg U [2] fun K J=>?_
 simp only[go_sem,qd,qf,qb,qe,qj,qm,reduceIte,reduceCtorEq];apply J
 clear J K
 refine yk ?_;exact retA
theorem kind_node (m:yl)(σ:ze):ACalls qg 274 [.dp (zO m) 0] σ (fun r' σ'=>r'=.int .i64 3∧σ'=σ):=by
 refine ACalls.c (x:=.int .i64 3) ?_ σ;refine zt (rs:=[.tmp 2]) U Tryz.func274 rfl Tryz.ntmps274 rfl Tryz.call274 (by simp) ?_;refine zA [(0,.dp (zO m) 0)] ⟨rfl,trivial⟩ ?_
 refine rg U [2] fun K J=>?_
 simp only[go_sem,qd,qf,qb,qe,qj,qm,reduceIte,reduceCtorEq];apply J
 clear J K
 refine rg U [2] fun K J=>?_
 simp only[go_sem,qd,qf,qb,qe,qj,qm,reduceIte,reduceCtorEq];apply J
 clear J K
 refine yk ?_;exact retA
theorem has_num : vcT qg 348 "concordat/value.kind" 275:=by intro v w; kernel_rfl
theorem has_str : vcT qg 349 "concordat/value.kind" 276:=by intro v w; kernel_rfl
theorem has_node : vcT qg 232 "concordat/value.kind" 274:=by intro v w; kernel_rfl
def Zc (a0:zm):Int:=
 match a0 with|.nil=>0|.num _=>1|.str _=>2|.node _ _=>3
theorem Zc.ok (a0:zm)(r:Int)(h:Zc a0=r):ACalls qg 253 [.agg (zo a0)] [] (fun r' _=>r'=.int .i64 r):=by
 refine zt (rs:=[.tmp 2]) U Tryz.func253 rfl Tryz.ntmps253 rfl Tryz.call253 (by simp) ?_;refine zA [(0,.agg (zo a0))] ⟨rfl,trivial⟩ ?_;unfold Zc at h;have f1:=Yp a0;unfold AV.one at f1
 refine rg U [1] fun K J=>?_
 simp only[go_sem,qd,qf,qb,qe,qj,qm,reduceIte,reduceCtorEq,zo,f1];apply J
 clear J K
 rcases a0 with _|n2|s2|⟨e2,r2⟩
 · dsimp only at h
   try simp only[vbe]
   refine za fun Z hZ=>?_
   refine rc [1,5] fun K J=>?_
   refine zB U 2 ?_;simp only[go_sem,qd,qf,qb,qe,qj,qm,reduceIte,reduceCtorEq];refine opsWp_inil U rfl rfl rfl rfl rfl rfl ?_;refine zi ?_;simp only[zC,Yw,YS,XN,upd,qb,reduceIte,yX,xK];apply J
   clear J K
   refine zK rfl ?_
   refine rg U [2] fun K J=>?_
   simp only[go_sem,qd,qf,qb,qe,qj,qm,reduceIte,reduceCtorEq];apply J
   clear J K
   refine yk ?_;obtain rfl:=h;exact retA
 · dsimp only at h
   try simp only[vbd]
   refine za fun Z hZ=>?_
   refine rg U [1,5] fun K J=>?_
   simp only[go_sem,qd,qf,qb,qe,qj,qm,reduceIte,reduceCtorEq,evEq];apply J
   clear J K
   refine zG rfl ?_;refine zj ?_;refine hZ _ _ ?_
   clear hZ Z
   refine rc [2] fun K J=>?_
   refine zB U 2 ?_;simp only[go_sem,qd,qf,qb,qe,qj,qm,reduceIte,reduceCtorEq];refine vbG rfl rfl rfl has_num rfl (kind_num n2 _) ?_;rintro _ _ ⟨rfl,rfl⟩;refine zB U 1 ?_;simp only[go_sem,qd,qf,qb,qe,qj,qm,reduceIte,reduceCtorEq];refine zi ?_;simp only[zC,Yw,YS,XN,upd,qb,reduceIte,yX,xK];apply J
   clear J K
   refine yk ?_;obtain rfl:=h;exact retA
 · dsimp only at h
   try simp only[vbc]
   refine za fun Z hZ=>?_
   refine rg U [1,5] fun K J=>?_
   simp only[go_sem,qd,qf,qb,qe,qj,qm,reduceIte,reduceCtorEq,evEq];apply J
   clear J K
   refine zG rfl ?_;refine zj ?_;refine hZ _ _ ?_
   clear hZ Z
   refine rc [2] fun K J=>?_
   refine zB U 2 ?_;simp only[go_sem,qd,qf,qb,qe,qj,qm,reduceIte,reduceCtorEq];refine vbG rfl rfl rfl has_str rfl (kind_str s2 _) ?_;rintro _ _ ⟨rfl,rfl⟩;refine zB U 1 ?_;simp only[go_sem,qd,qf,qb,qe,qj,qm,reduceIte,reduceCtorEq];refine zi ?_;simp only[zC,Yw,YS,XN,upd,qb,reduceIte,yX,xK];apply J
   clear J K
   refine yk ?_;obtain rfl:=h;exact retA
 dsimp only at h
 try simp only[XI]
 refine za fun Z hZ=>?_
 refine rg U [1,5] fun K J=>?_
 simp only[go_sem,qd,qf,qb,qe,qj,qm,reduceIte,reduceCtorEq,evEq];apply J
 clear J K
 refine zG rfl ?_;refine zj ?_;refine hZ _ _ ?_
 clear hZ Z
 refine rc [2] fun K J=>?_
 refine zB U 2 ?_;simp only[go_sem,qd,qf,qb,qe,qj,qm,reduceIte,reduceCtorEq];refine vbG rfl rfl rfl has_node rfl (kind_node ⟨e2,r2⟩ _) ?_;rintro _ _ ⟨rfl,rfl⟩;refine zB U 1 ?_;simp only[go_sem,qd,qf,qb,qe,qj,qm,reduceIte,reduceCtorEq];refine zi ?_;simp only[zC,Yw,YS,XN,upd,qb,reduceIte,yX,xK];apply J
 clear J K
 refine yk ?_;obtain rfl:=h;exact retA
theorem Zc.ev (a0:zm)(r:Int)(h:Zc a0=r)(σ:ze):ACalls qg 253 [.agg (zo a0)] σ (fun r' σ'=>r'=.int .i64 r∧σ'=σ):=
 (Zc.ok a0 r h).c σ
theorem asNode_nil (σ:ze):ACalls qg 254 [.agg ([.nilI])] σ (fun r' σ'=>r'=.tup [.nilp,.bool false]∧σ'=σ):=by
 refine ACalls.c (x:=.tup [.nilp,.bool false]) ?_ σ;refine zt (rs:=[.tmp 2,.tmp 3]) U Tryz.func254 rfl Tryz.ntmps254 rfl Tryz.call254 (by simp) ?_;refine zA [(0,.agg ([.nilI]))] ⟨rfl,trivial⟩ ?_
 refine rg U [1] fun K J=>?_
 simp only[go_sem,qd,qf,qb,qe,qj,qm,reduceIte,reduceCtorEq];apply J
 clear J K
 refine rg U [4,5] fun K J=>?_
 simp only[go_sem,qd,qf,qb,qe,qj,qm,reduceIte,reduceCtorEq,xG,xH,TypeDesc.isIface];apply J
 clear J K
 refine rg U [2,3] fun K J=>?_
 simp only[go_sem,qd,qf,qb,qe,qj,qm,reduceIte,reduceCtorEq];apply J
 clear J K
 refine yk ?_;exact retA
theorem asNode_num (n:Int)(σ:ze):ACalls qg 254 [.agg ([.ifc 348 (.int .i64 n)])] σ (fun r' σ'=>r'=.tup [.nilp,.bool false]∧σ'=σ):=by
 refine ACalls.c (x:=.tup [.nilp,.bool false]) ?_ σ;refine zt (rs:=[.tmp 2,.tmp 3]) U Tryz.func254 rfl Tryz.ntmps254 rfl Tryz.call254 (by simp) ?_;refine zA [(0,.agg ([.ifc 348 (.int .i64 n)]))] ⟨rfl,trivial⟩ ?_
 refine rg U [1] fun K J=>?_
 simp only[go_sem,qd,qf,qb,qe,qj,qm,reduceIte,reduceCtorEq];apply J
 clear J K
 refine rg U [4,5] fun K J=>?_
 simp only[go_sem,qd,qf,qb,qe,qj,qm,reduceIte,reduceCtorEq,xG,xH,TypeDesc.isIface];apply J
 clear J K
 refine rg U [2,3] fun K J=>?_
 simp only[go_sem,qd,qf,qb,qe,qj,qm,reduceIte,reduceCtorEq];apply J
 clear J K
 refine yk ?_;exact retA
theorem asNode_str (s:List UInt8)(σ:ze):ACalls qg 254 [.agg ([.ifc 349 (.str s)])] σ (fun r' σ'=>r'=.tup [.nilp,.bool false]∧σ'=σ):=by
 refine ACalls.c (x:=.tup [.nilp,.bool false]) ?_ σ;refine zt (rs:=[.tmp 2,.tmp 3]) U Tryz.func254 rfl Tryz.ntmps254 rfl Tryz.call254 (by simp) ?_;refine zA [(0,.agg ([.ifc 349 (.str s)]))] ⟨rfl,trivial⟩ ?_
 refine rg U [1] fun K J=>?_
 simp only[go_sem,qd,qf,qb,qe,qj,qm,reduceIte,reduceCtorEq];apply J
 clear J K
 refine rg U [4,5] fun K J=>?_
 simp only[go_sem,qd,qf,qb,qe,qj,qm,reduceIte,reduceCtorEq,xG,xH,TypeDesc.isIface];apply J
 clear J K
 refine rg U [2,3] fun K J=>?_
 simp only[go_sem,qd,qf,qb,qe,qj,qm,reduceIte,reduceCtorEq];apply J
 clear J K
 refine yk ?_;exact retA
theorem asNode_node (e:List yI)(q:List yc)(σ:ze):ACalls qg 254 [.agg ([.ifc 232 (.dp [.ds true (qc y0 e) (qa e) false,.ds true (qc zs q) (qa q) false] 0)])] σ (fun r' σ'=>r'=.tup [.dp (zO ⟨e,q⟩) 0,.bool true]∧σ'=σ):=by
 refine ACalls.c (x:=.tup [.dp (zO ⟨e,q⟩) 0,.bool true]) ?_ σ;refine zt (rs:=[.tmp 2,.tmp 3]) U Tryz.func254 rfl Tryz.ntmps254 rfl Tryz.call254 (by simp) ?_;refine zA [(0,.agg ([.ifc 232 (.dp [.ds true (qc y0 e) (qa e) false,.ds true (qc zs q) (qa q) false] 0)]))] ⟨rfl,trivial⟩ ?_
 refine rg U [1] fun K J=>?_
 simp only[go_sem,qd,qf,qb,qe,qj,qm,reduceIte,reduceCtorEq];apply J
 clear J K
 refine rg U [4,5] fun K J=>?_
 simp only[go_sem,qd,qf,qb,qe,qj,qm,reduceIte,reduceCtorEq,xG,xH,TypeDesc.isIface];apply J
 clear J K
 refine rg U [2,3] fun K J=>?_
 simp only[go_sem,qd,qf,qb,qe,qj,qm,reduceIte,reduceCtorEq];apply J
 clear J K
 refine yk ?_;exact retA
end
section
namespace AM
open Go.RowKit
def AYield (P:Program)(l:Nat)(args:List AV)(σ:ze)(R:AV→ze→Prop):Prop:=
 ∀ E (vs:Array Value),SR E σ→X5 E args vs.toList→∃ fn tmps assign body,(Instr.yield l vs).run P E.w=.ok (.round l fn tmps assign body) E.w∧
  RoundIn (fen own0) 0 P l fn tmps assign body E.w fun e w=>∃ v r σ' E',e=.returned v∧E'.w=w∧VR E' r v∧SR E' σ'∧Ext E E'∧R r σ'
def calleeY (F:Fr)(o:Oper):Option (Nat×List AV):=
 match o.op with
 |.call { callee:=.value f,args:=args,argTypes:=_ }=>match ev F f with
  |.fn (.yield l) [] []=>some (l,args.toList.map (ev F))
  |_=>none
 |_=>none
section
variable {Φ:Ctx} {P:Program} {n k:Nat} {Q:Exit→Fr→ze→Prop} {F:Fr} {σ:ze}
theorem opsWp_yield {ops:Array Oper}{o:Oper}{rest:List Oper}{l:Nat}{args:List AV}{K:AV→ze→Prop}(hg:YB ops F o=some true)(hc:calleeY F o=some (l,args))(hd:van n o.dst=true)
 (h:AYield P l args σ K) (kk:∀ r σ',K r σ'→ZI Φ P n k ops rest Q (XN F o.dst r) σ'):ZI Φ P n k ops (o::rest) Q F σ:=by
 intro E a hk hS hF
 unfold wpListIn;rw[if_pos (Zo hF hg)];obtain⟨dst,op,ty,pos,after,guard⟩:=o;unfold calleeY at hc;simp only at hc
 split at hc
 · rename_i fo ao ats
   split at hc
   · rename_i l' hfo
     cases hc;have hv:=hF.ev fo;rw[hfo] at hv
     generalize hfv:a.eval fo=fv at hv
     cases hv with|fn _ _ _ vf vc h1 h2 h3 h4=>
     have e1:vf = #[]:=Array.eq_empty_of_size_eq_zero h1;have e2:vc = #[]:=Array.eq_empty_of_size_eq_zero h2
     subst e1; subst e2
     obtain⟨fn,tmps,assign,body,hy,hR⟩:=h E (ao.map a.eval) hS (vcl (fun x=>hF.ev x) ao);refine va1 (fun c hc=>by cases hc) ?_
     have hrun:(execOp a.eval { dst:=dst,op:=.call { callee:=.value fo,args:=ao,argTypes:=ats },type:=ty,pos:=pos,after:=after,guard:=guard }).run P E.w=.ok (.round l fn tmps assign body) E.w:=by
      simp only[execOp,resolve,hfv,Deferred.ofValue,qp,qL,qi,invoke]
      have e:(#[]:Array Value)++Array.map a.eval ao=Array.map a.eval ao:=by simp
      rw[e]; exact hy
     rw[hrun];refine⟨(fun hh=>by cases hh),(show RoundIn (fen own0) 0 P l fn tmps assign body E.w _ from hR.mono ?_)⟩;rintro e w' ⟨v,r,σ',E',rfl,rfl,h5,h6,h7,h8⟩;exact Xk (h7.mono hk) rest _ E'.w (kk r σ' h8 E' _ (uJ hk h7.n) h6 ((hF.ext h7).put (XE hd) h5))
   cases hc
 cases hc
end
def vdU (F:Fr):List Tmp→List AV→Fr
 |p::ps,x::xs=>vdU (upd F p x) ps xs
 |_,_=>F
theorem setArgs_R {E:Env}:∀ (ps:List Tmp) (xs:List AV) (vs:List Value) (F:Fr) (tmps:Array Value),xs.length=ps.length→X5 E xs vs→(∀ p∈ps,p<tmps.size)→(∀ t,VR E (F t) (tmps.getD t undef))→
 let T:=(ps.zip vs).foldl (fun (tmps:Array Value) (p:Tmp×Value)=>tmps.setIfInBounds p.1 p.2) tmps
 T.size=tmps.size∧∀ t,VR E (vdU F ps xs t) (T.getD t undef)
 |[],_,_,_,_,_,_,_,h=>by simpa [vdU] using h
 |p::ps,[],_,_,_,hl,_,_,_=>by simp at hl
 |p::ps,x::xs,[],_,_,_,hv,_,_=>by have:=hv.1; simp at this
 |p::ps,x::xs,v::vs,F,tmps,hl,hv,hp,h=>by
  have hx:VR E x v:=by have:=hv.2 0 (by simp); simpa [gc] using this
  have hlt:=hp p (qA ..)
  have:=setArgs_R (E:=E) ps xs vs (upd F p x) (tmps.setIfInBounds p v) (by simpa using hl) ⟨by have:=hv.1; simpa using this,fun i hi=>by have:=hv.2 (i+1) (by simpa using hi); simpa [gc] using this⟩
   (fun q hq=>by simpa using hp q (qB _ hq)) (fun t=>by
    by_cases e:t=p
    · subst e;simp only[upd,if_true]
      have:(tmps.setIfInBounds t v).getD t undef=v:=by simp[hlt]
      rw[this]; exact hx
    simp only[upd,e,if_false]
    have:(tmps.setIfInBounds p v).getD t undef=tmps.getD t undef:=by simp[uO (show p≠t from fun h=>e h.symm)]
    rw[this]; exact h t)
  simp only[List.zip_cons_cons,List.foldl_cons,vdU];refine⟨this.1.trans (by simp),this.2⟩
def roundQ (l i:Nat)(R:AV→ze→Prop):Exit→Fr→ze→Prop
 |.normal,_,σ=>∃ r tm,σ[i]?=some (.loop l r tm)∧R (.bool true) (σ.set i (.loop l { r with state:=.ready,pending:=none } tm))
 |.ret,_,σ=>∃ r tm,σ[i]?=some (.loop l r tm)∧R (.bool false) (σ.set i (.loop l { r with state:=.done,pending:=some .ret } tm))
 |.exit id,_,σ=>∃ r tm,σ[i]?=some (.loop l r tm)∧R (.bool false) (σ.set i (.loop l { r with state:=.done,pending:=some (.exit id) } tm))
 |_,_,_=>False
theorem shape_loop {w:World}{b:Nat}{r:_root_.Go.Loop}(h:w.heap[b]?=some (.loop r)):w.shape? b=none:=by simp only[World.shape?,h]
theorem shape_mark {w:World}{b:Nat}{r:Option (List Deferred)}(h:w.heap[b]?=some (.deferred r)):w.shape? b=none:=by simp only[World.shape?,h]
theorem SR.setLoop {E:Env}{σ:ze}(hS:SR E σ){i l:Nat}{r r':_root_.Go.Loop}{tm:List AV}(hi:σ[i]?=some (.loop l r tm))(ht:r'.tmps=r.tmps):
 SR (E.setB l (.loop r')) (σ.set i (.loop l r' tm))∧Ext E (E.setB l (.loop r'))∧(E.setB l (.loop r')).w=E.w.putObj l (.loop r')∧E.w.heap[l]?=some (.loop r):=by
 have h:=hS.obj i;rw[hi] at h;obtain⟨h1,h2,h3,h4⟩:=h;have hlt:i<σ.length:=(qN.1 hi).1
 obtain⟨a,b⟩:=hS.setB (x:=.loop l r' tm) h1 (shape_loop h2) (o:=.loop r') hlt fun hx=>⟨h1,vaz (hS.blk _ _ _ h1).1,by rw[ht]; exact h3,fun j hj=>by rw[ht]; exact (h4 j hj).ext hx⟩
 exact⟨a,b,rfl,h2⟩
theorem ayield {P:Program}{l i:Nat}{r:_root_.Go.Loop}{tm:List AV}{σ:ze}{ps:List Tmp}{assign body:Code}{args:List AV}{R:AV→ze→Prop}(hi:σ[i]?=some (.loop l r tm))(hst:r.state=.ready)(hps:r.params.toList=ps)
 (hpn:∀ p∈ps,p<tm.length) (ha:r.assign=assign) (hb:r.body=body) (hargs:args.length=ps.length)
 (h:awp ⟨some l,[]⟩ P tm.length σ.length assign (vav (fun F σ1=>∃ r1 tm1,σ1[i]?=some (.loop l r1 tm1)∧r1.state=.ready∧
  awp ⟨some l,[]⟩ P tm.length σ.length body (roundQ l i R) F (σ1.set i (.loop l { r1 with state:=.busy } tm1))) fun _ _ _=>False) (vdU (fr tm) ps args) σ):AYield P l args σ R:=by
 intro E vs hS hl
 have ho:=hS.obj i;rw[hi] at ho;obtain⟨h1,h2,h3,h4⟩:=ho
 have hvl:vs.size=args.length:=by simpa using hl.1
 have hsz:vs.size=r.params.size:=by rw[hvl,hargs,← hps]; simp
 have hT:∀ t,VR E (fr tm t) (r.tmps.getD t undef):=by
  intro t
  by_cases ht:t<tm.length
  · exact h4 t ht
  unfold fr
  rw[qG,uq (u6 ht)]; exact .u _
 obtain⟨g1,g2⟩:=setArgs_R ps args vs.toList (fr tm) r.tmps hargs hl (fun p hp=>by rw[h3]; exact hpn p hp) hT
 have hfold:(r.params.zip vs).foldl (fun tmps (t,a)=>tmps.setIfInBounds t a) r.tmps=(ps.zip vs.toList).foldl (fun (tmps:Array Value) (p:Tmp×Value)=>tmps.setIfInBounds p.1 p.2) r.tmps:=by
  rw[← Array.foldl_toList,Array.toList_zip,hps]
 refine⟨_,_,_,_,run_yield h2 hsz,?_⟩;rw[hfold,ha,hb];refine roundIn_of_wpIn (F:=fen own0) trivial ?_
 show assign.wpIn (fen ⟨some l,[]⟩) 0 P _ _ E.w
 refine wpIn_mono (h E _ (by rw[hS.len]; exact qw _) hS ⟨g1.trans h3,rfl,g2⟩) ?_;rintro e a1 w1 ⟨E1,F1,σ1,rfl,s2,s3,s4,s5⟩
 cases e with
 |normal=>
  obtain⟨r1,tm1,t1,t2,t3⟩:=s5;obtain⟨u1,u2,u3,u4⟩:=s2.setLoop (r' := { r1 with state:=.busy }) t1 rfl;refine⟨_,run_beginRound u4 t2,?_⟩;rw[← u3]
  show body.wpIn (fen ⟨some l,[]⟩) 0 P _ _ _
  refine wpIn_mono (t3 _ a1 (uJ s4.n u2.n) u1 (s3.ext u2)) ?_;rintro e a2 w2 ⟨E2,F2,σ2,rfl,q2,q3,q4,q5⟩
  have fin:∀ (r2:_root_.Go.Loop) (tm2:List AV) (j:Option Code),σ2[i]?=some (.loop l r2 tm2)→R (.bool j.isNone) (σ2.set i (.loop l { r2 with state:=if j.isNone then .ready else .done,pending:=j } tm2))→
   ∃ v w',(Instr.endRound l j).run P E2.w=.ok v w'∧∃ v' r' σ' E',Ending.returned v=.returned v'∧E'.w=w'∧VR E' r' v'∧SR E' σ'∧Ext E E'∧R r' σ':=by
   intro r2 tm2 j v1 v2
   obtain⟨x1,x2,x3,x4⟩:=q2.setLoop (r' := { r2 with state:=if j.isNone then .ready else .done,pending:=j }) v1 rfl;refine⟨_,_,run_endRound j x4,_,.bool j.isNone,_,_,rfl,x3,.bool _,x1,?_,v2⟩
   have e0:XS E.n E E1:=by rw[← hS.len]; exact s4
   have e1:XS E.n E _:=e0.trans (u2.mono e0.n)
   have q4':XS E.n (E1.setB l (.loop { r1 with state:=.busy })) E2:=by rw[← hS.len]; exact q4
   have e2:=e1.trans q4';exact e2.trans (x2.mono e2.n)
  cases e with
  |normal=>obtain⟨r2,tm2,v1,v2⟩:=q5; exact fin r2 tm2 none v1 v2
  |ret=>obtain⟨r2,tm2,v1,v2⟩:=q5; exact fin r2 tm2 (some .ret) v1 v2
  |exit id=>obtain⟨r2,tm2,v1,v2⟩:=q5; exact fin r2 tm2 (some (.exit id)) v1 v2
  |goto t=>exact q5.elim
  |panic c=>exact q5.elim
  |outgrown=>exact q5.elim
 |ret=>exact s5.elim
 |exit i=>exact s5.elim
 |goto l=>exact s5.elim
 |panic c=>exact s5.elim
 |outgrown=>exact s5.elim
def markOf (b:Nat):Deferred := { target:=.collected b,args := #[] }
abbrev mctx (b:Nat):Ctx:=⟨none,[markOf b]⟩
def slots (F:Fr)(n:Nat):List AV:=(uD n).map F
theorem slots_get {F:Fr}{n t:Nat}(h:t<n):gc (slots F n) t=F t:=by
 simp[gc,slots,qG,h]
def afterR (P:Program)(n k i b l:Nat)(Q:Exit→Fr→ze→Prop)(F:Fr)(σ:ze):Prop:=
 ∃ r tm,σ[i]?=some (.loop l r tm)∧r.state≠.busy∧match r.pending with
  |none=>Q .normal F (σ.set i (.loop l { r with state:=.exhausted } tm))
  |some c=>awp (mctx b) P n k c Q F (σ.set i (.loop l { r with state:=.exhausted } tm))
theorem range_wp {P:Program}{n k:Nat}{F:Fr}{σ:ze}{g:Operand}{ps:Array Tmp}{assign body:Code}{gf:FuncId}{cap:List AV}{Q:Nat→Exit→Fr→ze→Prop}(hk:k≤σ.length)(hg:ev F g=.fn (.func gf) [] cap)
 (hcall:∀ b l (r:_root_.Go.Loop),r.state=.ready→r.pending=none→r.params=ps→r.assign=assign→r.body=body→
  ACalls P gf (.fn (.yield l) [] []::cap) (σ++[.mark b]++[.loop l r (slots F n)]) fun _ σ'=>afterR P n k (σ.length+1) b l (Q b) F σ')
 {E:Env} {a:Act} (hS:SR E σ) (hF:FR own0 E n F a):
 (Code.rangeFunc g ps assign body).wpIn (fen own0) 0 P (fun e a' w'=>∃ b,post (mctx b) n k (Q b) E e a' w') a E.w:=by
 refine wpIn_rangeFunc fun fn _=>?_
 obtain⟨hS1,hx1⟩:=hS.new (XM.alloc E.w (.deferred (some []))) (ob:=some E.w.heap.size) (fun b hb=>by cases hb; simp) (o:=.mark E.w.heap.size) ⟨by simp[Env.new],xR _ _⟩;have hF1:=hF.ext hx1
 generalize hE1:E.new (E.w.alloc (.deferred (some []))) (some E.w.heap.size)=E1 at hS1 hx1 hF1
 have hw1:E1.w=E.w.alloc (.deferred (some [])):=by rw[← hE1]; rfl
 have hsz:E1.w.heap.size=E.w.heap.size+1:=by rw[hw1]; simp
 obtain⟨rec,hrec⟩:∃ rec:_root_.Go.Loop,rec = { state:=.ready,pending:=none,fn:=fn,tmps:=a.tmps,params:=ps,assign:=assign,body:=body,defers:=E.w.heap.size }:=⟨_,rfl⟩
 obtain⟨hS2,hx2⟩:=hS1.new (XM.alloc E1.w (.loop rec)) (ob:=some E1.w.heap.size) (fun b hb=>by cases hb; simp) (o:=.loop E1.w.heap.size rec (slots F n)) ⟨by simp[Env.new],xR _ _,by rw[hrec]; simp[slots,hF.size],fun i hi=>by
  have hrt:rec.tmps=a.tmps:=by rw[hrec]
  rw[slots_get (by simpa [slots] using hi),hrt]
  exact (hF1.tmps i).ext (Ext.new hS1.stb (XM.alloc E1.w (.loop rec)) (some E1.w.heap.size) fun b hb=>by cases hb; simp)⟩
 have hF2:=hF1.ext hx2
 generalize hE2:E1.new (E1.w.alloc (.loop rec)) (some E1.w.heap.size)=E2 at hS2 hx2 hF2
 have hw2:E2.w=(E.w.alloc (.deferred (some []))).alloc (.loop rec):=by rw[← hE2]; show E1.w.alloc _=_; rw[hw1]
 have hv:=hF2.ev g;rw[hg] at hv
 generalize hfv:a.eval g=fv at hv
 cases hv with|fn _ _ _ vf vc h1 h2 h3 h4=>
 have e1:vf = #[]:=Array.eq_empty_of_size_eq_zero h1;subst e1;have hc:=hcall E.w.heap.size (E.w.heap.size+1) rec (by rw[hrec]) (by rw[hrec]) (by rw[hrec]) (by rw[hrec]) (by rw[hrec]);rw[hsz] at hS2
 have hargs:X5 E2 (.fn (.yield (E.w.heap.size+1)) [] []::cap) (#[Value.func (.yield (E.w.heap.size+1)) #[] #[]]++vc).toList:=by
  have:=XF (l:=[AV.fn (.yield (E.w.heap.size+1)) [] []]) (vs := #[Value.func (.yield (E.w.heap.size+1)) #[] #[]]) (vbW rfl fun i hi=>by
   have:i=0:=by simp at hi; omega
   subst this
   exact .fn _ _ _ #[] #[] rfl rfl (fun i h=>absurd h (by simp)) (fun i h=>absurd h (by simp))) (vbW (E:=E2) h2 h4)
  exact this
 refine⟨E.w.heap.size+1,[markOf E.w.heap.size],E2.w,{ target:=.fn (.func gf) vc,args := #[Value.func (.yield (E.w.heap.size+1)) #[] #[]] },E2.w,gf,#[Value.func (.yield (E.w.heap.size+1)) #[] #[]]++vc,E2.w,?_,?_,fun _ _=>trivial,?_,(fun hh=>by cases hh),Xx.2 ((hc.2 E2 _ hS2 hargs).mono ?_)⟩
 · rw[hw2,hrec]; exact run_enterLoop_outer fn a.tmps ps assign body
 · simp only[resolve,rangeCall,hfv,Deferred.ofValue,qp,qL,qi]
   simp[Act.eval]
 · exact hc.1 _ _
 rintro e w ⟨v,r,σ',E3,rfl,rfl,h5,h6,h7,r3,tm3,t1,t2,t3⟩;obtain⟨x1,x2,x3,x4⟩:=h6.setLoop (r' := { r3 with state:=.exhausted }) t1 rfl;refine⟨_,_,run_endLoop x4 t2,?_⟩;rw[← x3]
 generalize hr4:({ r3 with state:=.exhausted }:_root_.Go.Loop)=r4 at *
 have hx:XS k E (E3.setB (E.w.heap.size+1) (.loop r4)):=by
  have q1:Ext E _:=((hx1.trans hx2).trans h7).trans x2;exact q1.mono (by rw[← hS.len]; exact hk)
 have hFf:FR (mctx E.w.heap.size) (E3.setB (E.w.heap.size+1) (.loop r4)) n F { a with defers:=[markOf E.w.heap.size]++a.defers }:=by
  have q:=(hF2.ext h7).ext x2;exact⟨q.size,by show _++a.defers=_; rw[hF.defers]; rfl,q.tmps⟩
 split at t3
 · rename_i hp
   rw[hp];exact⟨_,_,_,_,rfl,x1,hFf,hx,t3⟩
 rename_i c hp
 rw[hp]
 show c.wpIn (fen own0) 0 P _ _ _
 exact wpIn_mono (t3 _ { a with defers:=[markOf E.w.heap.size]++a.defers } hx.n x1 hFf) fun e a w hq=>⟨_,Xp hx hq⟩
theorem SR.kill {E:Env}{σ:ze}(hS:SR E σ){i b:Nat}(hi:σ[i]?=some (.mark b))(o:Obj):
 ∃ E',E'.w=E.w.putObj b o∧SR E' (σ.set i .dead)∧Ext E E'∧E.w.heap[b]?=some (.deferred (some [])):=by
 have h:=hS.obj i;rw[hi] at h;obtain⟨h1,h2⟩:=h;have hlt:i<σ.length:=(qN.1 hi).1;have hb:=hS.blk _ _ _ h1;refine⟨{ w:=E.w.putObj b o,st:=E.st,n:=E.n,loc:=fun j=>if j=i then none else E.loc j },rfl,?_⟩
 have hx:Ext E { w:=E.w.putObj b o,st:=E.st,n:=E.n,loc:=fun j=>if j=i then none else E.loc j } := {
  os:=rfl
  tape:=rfl
  output:=rfl
  size:=by simp
  shape:=fun b' m hm=>shape_setB (shape_mark h2) hm
  st:=fun b' h=>⟨h,World.putObj_heap_other (fun e=>hb.2 (e▸h))⟩
  n:=qw _
  loc:=fun j _ v ob h=>by
   by_cases e:j=i
   · have h:(if j=i then none else E.loc j)=_:=h
     rw[if_pos e] at h; cases h
   have h:(if j=i then none else E.loc j)=_:=h
   rw[if_neg e] at h; exact⟨v,ob,h,qw _,fun _=>rfl⟩
  old:=fun b' _ hn=>World.putObj_heap_other (fun e=>by subst e; exact hn _ _ h1)
  own:=fun j v b' h _=>by
   by_cases e:j=i
   · have h:(if j=i then none else E.loc j)=_:=h
     rw[if_pos e] at h; cases h
   have h:(if j=i then none else E.loc j)=_:=h
   rw[if_neg e] at h; exact⟨j,v,h⟩
  stn:=fun _ h=>.inl h }
 have hl:∀ j v b',(if j=i then none else E.loc j)=some (v,some b')→j≠i∧E.loc j=some (v,some b'):=by
  intro j v b' h
  by_cases e:j=i
  · rw[if_pos e] at h; cases h
  rw[if_neg e] at h; exact⟨e,h⟩
 refine⟨⟨by simpa using hS.len,fun j=>?_,fun j j' v v' b' h h'=>hS.inj _ _ _ _ _ (hl _ _ _ h).2 (hl _ _ _ h').2,fun j v b' h=>⟨by simpa using (hS.blk j v b' (hl _ _ _ h).2).1,(hS.blk j v b' (hl _ _ _ h).2).2⟩,fun b' h=>by simpa using hS.stb b' h,hS.glb.mono hx.st⟩,hx,h2⟩
 by_cases e:j=i
 · subst e;rw[uv hlt];exact if_pos rfl
 rw[ug (fun h=>e h.symm)]
 exact (hS.obj j).ext hx (if_neg e) fun v b' h=>World.putObj_heap_other (fun h'=>e (hS.inj j i v 0 b (h'▸h) h1))
def retM (T:TT)(rs:List ResultVar)(R:AV→ze→Prop)(b:Nat):Exit→Fr→ze→Prop
 |.normal,F,σ|.ret,F,σ=>∃ i l,σ[i]?=some (.mark b)∧yQ T F (σ.set i .dead) rs=some l∧R (xQ l) (σ.set i .dead)
 |_,_,_=>False
def seqs : List Code→Code→Code
 |[],c=>c
 |x::l,c=>.seq x (seqs l c)
def awpL (P:Program)(n k:Nat)(K:Fr→ze→Prop):List Code→Fr→ze→Prop
 |[],F,σ=>K F σ
 |c::l,F,σ=>awp own0 P n k c (vav (awpL P n k K l) fun _ _ _=>False) F σ
theorem wpL {P:Program}{n k:Nat}{K:Fr→ze→Prop}{X:Code}{Q:Exit→Act→World→Prop}{E:Env}(hX:∀ E1 F σ a,SR E1 σ→FR own0 E1 n F a→XS k E E1→K F σ→X.wpIn (fen own0) 0 P Q a E1.w):
 ∀ (l:List Code) (E1:Env) (F:Fr) (σ:ze) (a:Act),SR E1 σ→FR own0 E1 n F a→XS k E E1→awpL P n k K l F σ→(seqs l X).wpIn (fen own0) 0 P Q a E1.w
 |[],E1,F,σ,a,h1,h2,h3,h=>hX E1 F σ a h1 h2 h3 h
 |c::l,E1,F,σ,a,h1,h2,h3,h=>by
  refine wpIn_seq (wpIn_mono (h E1 a h3.n h1 h2) ?_);rintro e a w ⟨E2,F2,σ2,rfl,g2,g3,g4,g5⟩
  cases e with
  |normal=>exact wpL hX l E2 F2 σ2 a g2 g3 (h3.trans g4) g5
  |ret=>exact g5.elim
  |exit i=>exact g5.elim
  |goto i=>exact g5.elim
  |panic c=>exact g5.elim
  |outgrown=>exact g5.elim
theorem acalls_range {P:Program}{T:TT}(hT:TOK P T){f:FuncId}{fn:Func}{n bk:Nat}{rs:List ResultVar}{args:List AV}{σ:ze}{R:AV→ze→Prop}{heads:List Code}{hd rest assign body:Code}{g:Operand}{ps:Array Tmp}(hf:P.funcs[f]?=some fn)
 (hb:fn.body=some (seqs heads (.seq (.seq hd (.block bk (.rangeFunc g ps assign body))) rest))) (hn:fn.ntmps=n) (hr:fn.results.toList=rs) (hent:∀ vs w,(callFunc f vs).run P w=.ok (.enter f vs) w) (hl:args.length≤n)
 (h:awpL P n σ.length (fun F σ0=>awp own0 P n σ.length hd (vav (fun F σ1=>σ.length≤σ1.length∧∃ gf cap,ev F g=.fn (.func gf) [] cap∧∀ b l (r:_root_.Go.Loop),r.state=.ready→r.pending=none→r.params=ps→r.assign=assign→r.body=body→
  ACalls P gf (.fn (.yield l) [] []::cap) (σ1++[.mark b]++[.loop l r (slots F n)]) fun _ σ'=>
   afterR P n σ.length (σ1.length+1) b l (vbN bk (vav (fun F τ=>awp (mctx b) P n σ.length rest (retM T rs R b) F τ) (retM T rs R b))) F σ') fun _ _ _=>False) F σ0) heads (fr args) σ):ACalls P f args σ R:=by
 refine⟨hent,fun E vs hS hvs=>?_⟩;obtain⟨v1,v2⟩:=hvs.arr
 have hF:FR own0 E n (fr args) { tmps:=vs++uS (fn.ntmps-vs.size) undef,defers:=[] }:=by
  refine⟨by simp; omega,rfl,fun t=>?_⟩
  by_cases ht:t<args.length
  · have:(vs++uS (fn.ntmps-vs.size) undef).getD t undef=vs.getD t undef:=by simp[Array.getElem?_append_left (show t<vs.size by omega)]
    show VR E (fr args t) ((vs++uS (fn.ntmps-vs.size) undef).getD t undef)
    rw[this]; exact v2 t ht
  unfold fr;rw[qG,uq (u6 ht)];exact .u _
 refine Xx.1 (callsIn_of_wp_marks (F:=fen own0) (n:=0) hf hb trivial (wpL (E:=E) ?_ heads E _ _ _ hS hF (XS.refl E (by rw[hS.len]; exact qw _)) h));rintro E0 F0 σ0 a0 d2 d3 d4 hd;refine wpIn_seq (wpIn_seq (wpIn_mono (hd E0 a0 d4.n d2 d3) ?_));rintro e a w ⟨E1,F1,σ1,rfl,h2,h3,d6,h5⟩;have h4:=d4.trans d6
 cases e with
 |ret=>exact h5.elim
 |exit i=>exact h5.elim
 |goto i=>exact h5.elim
 |panic c=>exact h5.elim
 |outgrown=>exact h5.elim
 |normal=>
  obtain⟨hlen,gf,cap,hg,hcall⟩:=h5
  -- what is behind the function's end
  have fin:∀ b (E2:Env) (F2:Fr) (σ2:ze) (a2:Act) (e:Exit),SR E2 σ2→FR (mctx b) E2 n F2 a2→XS σ.length E1 E2→e=.normal∨e=.ret→retM T rs R b .ret F2 σ2→
   LeavesInM (fen own0) 0 P fn a2.tmps (fun e w=>∃ v r σ' E',e=.returned v∧E'.w=w∧VR E' r v∧SR E' σ'∧Ext E E'∧R r σ') a2.defers .returning E2.w:=by
   intro b E2 F2 σ2 a2 e g1 g2 g3 _ hm
   obtain⟨i,l,m1,m2,m3⟩:=hm;obtain⟨E3,k1,k2,k3,k4⟩:=g1.kill m1 (.deferred none);have hF3:FR (mctx b) E3 n F2 a2:=g2.ext k3;obtain⟨v,r1,r2⟩:=vdV hT k2 hF3 hr m2;rw[g2.defers];refine⟨by simp,.inl ⟨b,E2.w.putObj b (.deferred none),rfl,run_takeDeferred k4,v,by rw[← k1]; exact r1.trans (by rw[k1]),v,_,_,E3,rfl,k1,r2,k2,?_,m3⟩⟩;have q:=h4.trans g3;have q2:=q.trans (k3.mono q.n)
   rw[hS.len] at q2; exact q2
  refine wpIn_block (wpIn_mono (range_wp (Q:=fun b=>vbN bk (vav (fun F σ'=>awp (mctx b) P n σ.length rest (retM T rs R b) F σ') (retM T rs R b))) hlen hg hcall h2 h3) ?_);rintro e a w ⟨b,E2,F2,σ2,rfl,g2,g3,g4,g5⟩
  have norm:awp (mctx b) P n σ.length rest (retM T rs R b) F2 σ2→rest.wpIn (fen own0) 0 P (bodyPostM (fen own0) 0 P fn fun e w=>∃ v r σ' E',e=.returned v∧E'.w=w∧VR E' r v∧SR E' σ'∧Ext E E'∧R r σ') a E2.w:=by
   intro hr
   show rest.wpIn (fen (mctx b)) 0 P _ _ _
   refine wpIn_mono (hr E2 a g4.n g2 g3) ?_;rintro e a3 w ⟨E3,F3,σ3,rfl,q2,q3,q4,q5⟩;have q6:=g4.trans q4
   cases e with
   |normal=>exact fin b E3 F3 σ3 a3 .normal q2 q3 q6 (.inl rfl) q5
   |ret=>exact fin b E3 F3 σ3 a3 .ret q2 q3 q6 (.inr rfl) q5
   |exit i=>exact q5.elim
   |goto i=>exact q5.elim
   |panic c=>exact q5.elim
   |outgrown=>exact q5.elim
  cases e with
  |normal=>exact norm g5
  |exit i=>
   show (if i=bk then _ else _)
   by_cases hi:i=bk
   · rw[if_pos hi];simp only[vbN] at g5;rw[if_pos hi] at g5;exact norm g5
   simp only[vbN] at g5;rw[if_neg hi] at g5;exact g5.elim
  |ret=>exact fin b E2 F2 σ2 a .ret g2 g3 g4 (.inr rfl) g5
  |goto i=>exact g5.elim
  |panic c=>exact g5.elim
  |outgrown=>exact g5.elim
end AM
end
section
set_option maxRecDepth 8000
open Go.RowKit AM
theorem backward (cs:List AV)(n:Nat)(t:Bool)(σ:ze):ACalls qg 131 [.ds true cs n t] σ (fun r σ'=>r=.fn (.func 173) [] [.op σ.length 0 0]∧σ'=σ++[.cells 0 [.ds true cs n t]]):=by
 refine Z0 (rs:=[.tmp 2]) U Tryz.func131 rfl Tryz.ntmps131 rfl Tryz.call131 (by simp) ?_;refine zA [(0,.ds true cs n t)] ⟨rfl,trivial⟩ ?_
 refine rg U [1] fun K J=>?_
 simp only[go_sem,qd,qf,qb,qe,qj,qm,reduceIte,reduceCtorEq];apply J
 clear J K
 refine rg U [2] fun K J=>?_
 simp only[go_sem,qd,qf,qb,qe,qj,qm,reduceIte,reduceCtorEq];apply J
 clear J K
 refine yk ?_;exact⟨_,rfl,rfl,rfl⟩
theorem idx_at {α:Type}{A B:List α}{x:α}{i:Int}(h:i=A.length):Yz (A++x::B) i=some x:=by
 subst h
 rw[Yz,if_pos (by omega),qY,ut (qw _),uI]; rfl
def inB (body:List UInt8)(n:Int):Bool:=body.any fun b=>decide ((b.toNat:Int)=n)
def wj (a0:xI)(a1:List UInt8):Option Int:=(grd (qa a1<9223372036854775807)).bind fun _=>some ((a0.fnumbers.reverse.find? (inB a1)).getD 0)
theorem agrees_any (s:Int)(ns:List Int)(body:List UInt8)(c2 c3 c4 c5 c6 c7 c8 c9:AV)(x1 x2 x3 x4 x5:Yy)(hbl:qa body<9223372036854775807):ACalls qg 86 [.op 0 0 0,.str body]
 [.cells 0 [.int .i64 s,.ds true (qc wN ns) (qa ns) false,c2,c3,c4,c5,c6,c7,c8,c9],x1,x2,x3,x4,x5]
 (fun r σ'=>r=.int .i64 ((ns.reverse.find? (inB body)).getD 0)∧∃ G,σ'=[.cells 0 [.int .i64 s,.ds true (qc wN ns) (qa ns) false,c2,c3,c4,c5,c6,c7,c8,c9],x1,x2,x3,x4,x5]++G):=by
 refine acalls_range (rs:=[.cell 4 3]) (heads:=[_]) U Tryz.func86 rfl Tryz.ntmps86 rfl Tryz.call86 (by simp) ?_
 show awp _ _ _ _ _ _ _ _
 refine zA [(0,.op 0 0 0),(1,.str body)] ⟨rfl,rfl,trivial⟩ ?_
 refine rgE U [0,3,4] fun K J=>?_
 simp only[go_sem,qd,qf,qb,qe,qj,qm,reduceIte,reduceCtorEq];apply J
 clear J K
 show awp _ _ _ _ _ _ _ _
 refine rcE [3,4,12] fun K J=>?_
 refine zB U 4 ?_;simp only[go_sem,qd,qf,qb,qe,qj,qm,reduceIte,reduceCtorEq];refine ZZ rfl rfl rfl (backward (qc wN ns) (qa ns) false _) ?_;rintro _ _ ⟨rfl,rfl⟩;refine zi ?_;simp only[zC,Yw,YS,XN,upd,qb,reduceIte,yX,xK];apply J
 clear J K
 refine⟨by simp,_,_,rfl,fun b l r hst hp hps ha hb=>?_⟩
 have hr0:({ r with state:=.ready,pending:=none }:_root_.Go.Loop)=r:=by
  cases r; simp only at hst hp; subst hst; subst hp; rfl
 generalize htm:slots _ 28=tm
 have ht3:fr tm 3=.op 6 0 0:=by rw[← htm]; rfl
 have ht4:fr tm 4=.op 7 0 0:=by rw[← htm]; rfl
 have htl:tm.length=28:=by rw[← htm]; rfl
 have round:∀ (i n:Int),AYield qg l [.int .i64 i,.int .i64 n] [.cells 0 [.int .i64 s,.ds true (qc wN ns) (qa ns) false,c2,c3,c4,c5,c6,c7,c8,c9],x1,x2,x3,x4,x5,.cells 0 [.str body],.cells 0 [.int .i64 0],.cells 0 [.ds true (qc wN ns) (qa ns) false],.mark b,.loop l r tm]
  (fun v σ'=>(inB body n=false∧v=.bool true∧σ'=[.cells 0 [.int .i64 s,.ds true (qc wN ns) (qa ns) false,c2,c3,c4,c5,c6,c7,c8,c9],x1,x2,x3,x4,x5,.cells 0 [.str body],.cells 0 [.int .i64 0],.cells 0 [.ds true (qc wN ns) (qa ns) false],.mark b,.loop l r tm]) ∨
   (inB body n=true∧v=.bool false∧σ'=[.cells 0 [.int .i64 s,.ds true (qc wN ns) (qa ns) false,c2,c3,c4,c5,c6,c7,c8,c9],x1,x2,x3,x4,x5,.cells 0 [.str body],.cells 0 [.int .i64 n],.cells 0 [.ds true (qc wN ns) (qa ns) false],.mark b,.loop l { r with state:=.done,pending:=some .ret } tm])):=by
  intro i n
  refine ayield (i:=10) (r:=r) (tm:=tm) rfl hst (ps:=[13,14]) (by rw[hps]) (by rw[htl]; decide) ha hb rfl ?_;rw[htl];refine yT (L:=[(3,.op 6 0 0),(4,.op 7 0 0),(14,.int .i64 n)]) (.same ⟨ht3,ht4,rfl,trivial⟩ rfl) ?_
  refine rgE U [3,4,6] fun K J=>?_
  simp only[go_sem,qd,qf,qb,qe,qj,qm,reduceIte,reduceCtorEq];apply J
  clear J K
  refine⟨r,tm,rfl,hst,?_⟩;refine zn ?_
  refine rg U [3,4,6,16,17] fun K J=>?_
  simp only[go_sem,qd,qf,qb,qe,qj,qm,reduceIte,reduceCtorEq];apply J
  clear J K
  refine zn ?_
  refine yh (fun m L τ=>∃ (p q:List UInt8),m=q.length∧L=[(3,.op 6 0 0),(4,.op 7 0 0),(6,.int .i64 n),(16,.int .i64 (body.length:Int)),(17,.int .i64 (p.length:Int))]∧
   τ=[.cells 0 [.int .i64 s,.ds true (qc wN ns) (qa ns) false,c2,c3,c4,c5,c6,c7,c8,c9],x1,x2,x3,x4,x5,.cells 0 [.str body],.cells 0 [.int .i64 0],.cells 0 [.ds true (qc wN ns) (qa ns) false],.mark b,.loop l { r with state:=.busy } tm]∧
   body=p++q∧inB p n=false) _ ⟨[],body,rfl,rfl,rfl,rfl,rfl⟩ .s ?_
  rintro m L τ ⟨p,q,rfl,rfl,rfl,hpq,hnp⟩
  have hlen:body.length=p.length+q.length:=by rw[hpq,qk]
  rcases q with _|⟨y,q⟩
  · have hlt:((p.length:Int)<(body.length:Int))=False:=eq_false (by simp only[qr] at hlen; omega)
    refine rg U [3,4,6,16,17,18] fun K J=>?_
    simp only[go_sem,qd,qf,qb,qe,qj,qm,reduceIte,reduceCtorEq,hlt,decide_false];apply J
    clear J K
    refine za fun Z hZ=>?_
    refine zG rfl ?_;refine yf ?_;refine⟨{ r with state:=.busy },tm,rfl,.inl ⟨?_,rfl,?_⟩⟩
    · rw[hpq,qE]; exact hnp
    rw[← hr0]; rfl
  simp only[ql] at hlen;have hlt:((p.length:Int)<(body.length:Int))=True:=eq_true (by omega)
  have hx:Yz body (p.length:Int)=some y:=by rw[hpq]; exact idx_at rfl
  have hw:IntKind.i64.wrap ((p.length:Int)+1)=((p.length+1:Nat):Int):=by rw[IntKind.wrap_i64]; omega
  have hy:IntKind.i64.wrap (y.toNat:Int)=(y.toNat:Int):=by have:=y.toNat_lt; rw[IntKind.wrap_i64]; omega
  have f1:=idx_str (T:=tab) (t:=9) rfl rfl hx;have f2:=w6 (T:=tab) (src:=5) (dst:=3) rfl rfl rfl
  refine rg U [3,4,6,16,17,18] fun K J=>?_
  simp only[go_sem,qd,qf,qb,qe,qj,qm,reduceIte,reduceCtorEq,hlt,decide_true];apply J
  clear J K
  refine za fun Z hZ=>?_
  refine zK rfl ?_;refine zj ?_;refine hZ _ _ ?_
  clear hZ Z
  refine za fun Z hZ=>?_
  refine zn ?_
  refine rg U [3,4,6,7,16,17] fun K J=>?_
  simp only[go_sem,qd,qf,qb,qe,qj,qm,reduceIte,reduceCtorEq];apply J
  clear J K
  refine rg U [3,4,6,16,17,25] fun K J=>?_
  simp only[go_sem,qd,qf,qb,qe,qj,qm,reduceIte,reduceCtorEq,f1,f2,hy];apply J
  clear J K
  refine yn rfl (fun hc=>?_) (fun hc=>?_)
  · refine rg U [3,4] fun K J=>?_
    simp only[go_sem,qd,qf,qb,qe,qj,qm,reduceIte,reduceCtorEq];apply J
    clear J K
    refine yk ?_;refine⟨{ r with state:=.busy },tm,rfl,.inr ⟨?_,rfl,rfl⟩⟩;rw[hpq,inB,List.any_append,List.any_cons,decide_eq_true hc,uA,qs]
  refine zj ?_;refine hZ _ _ ?_
  clear hZ Z
  refine rgE U [3,4,6,16,17] fun K J=>?_
  simp only[go_sem,qd,qf,qb,qe,qj,qm,reduceIte,reduceCtorEq,hw];apply J
  clear J K
  refine⟨_,_,_,qy q.length,⟨p++[y],q,rfl,rfl,rfl,by rw[hpq,qx]; rfl,?_⟩,.same ⟨rfl,rfl,rfl,rfl,(by show AV.int .i64 _=_; rw[qk]; rfl),trivial⟩ rfl⟩;rw[inB,List.any_append];rw[inB] at hnp
  rw[hnp,List.any_cons,decide_eq_false hc]; rfl
 clear hps ha hb
 show ACalls _ _ _ [.cells 0 [.int .i64 s,.ds true (qc wN ns) (qa ns) false,c2,c3,c4,c5,c6,c7,c8,c9],x1,x2,x3,x4,x5,.cells 0 [.str body],.cells 0 [.int .i64 0],.cells 0 [.ds true (qc wN ns) (qa ns) false],.mark b,.loop l r tm] _
 refine Z0 (rs:=[]) U Tryz.func173 rfl Tryz.ntmps173 rfl Tryz.call173 (by simp) ?_;refine zA [(0,.fn (.yield l) [] []),(1,.op 8 0 0)] ⟨rfl,rfl,trivial⟩ ?_
 refine XK 8 rfl fun hdp=>?_
 have hnb:qa ns≤9223372036854775807:=hdp.1.1
 refine rg U [0,1,3] fun K J=>?_
 have hw0:IntKind.i64.wrap ((ns.length:Int)-1)=(ns.length:Int)-1:=by rw[IntKind.wrap_i64]; omega
 simp only[go_sem,qd,qf,qb,qe,qj,qm,reduceIte,reduceCtorEq,hw0];apply J
 clear J K
 refine zn ?_
 refine yh (fun m L τ=>∃ i:Nat,m=i∧i≤ns.length∧L=[(0,.fn (.yield l) [] []),(1,.op 8 0 0),(3,.int .i64 ((i:Int)-1))]∧
  τ=[.cells 0 [.int .i64 s,.ds true (qc wN ns) (qa ns) false,c2,c3,c4,c5,c6,c7,c8,c9],x1,x2,x3,x4,x5,.cells 0 [.str body],.cells 0 [.int .i64 0],.cells 0 [.ds true (qc wN ns) (qa ns) false],.mark b,.loop l r tm]∧
  (ns.take i).reverse.find? (inB body)=ns.reverse.find? (inB body)) _ ⟨ns.length,rfl,qw _,rfl,rfl,by rw[uj]⟩ .s ?_
 rintro m L τ ⟨i,rfl,hi,rfl,rfl,hf⟩
 rcases m with _|j
 · have hge:((0:Int)≤((0:Nat):Int)-1)=False:=eq_false (by omega)
   refine za fun Z hZ=>?_
   refine rg U [0,1,3,8] fun K J=>?_
   simp only[go_sem,qd,qf,qb,qe,qj,qm,reduceIte,reduceCtorEq,hge,decide_false];apply J
   clear J K
   refine zG rfl ?_;refine yf ?_;refine⟨[],rfl,r,tm,rfl,by rw[hst]; decide,?_⟩;rw[hp]
   show awp (mctx b) _ _ _ _ _ _ _
   refine rg U [4] fun K J=>?_
   simp only[go_sem,qd,qf,qb,qe,qj,qm,reduceIte,reduceCtorEq];apply J
   clear J K
   refine yk ?_;refine⟨9,[.int .i64 0],rfl,rfl,?_,?_⟩
   · rw[← hf]; rfl
   exact⟨_,rfl⟩
 have hge:((0:Int)≤((j+1:Nat):Int)-1)=True:=eq_true (by omega)
 have hj:j<ns.length:=by omega
 have ej:(((j+1:Nat):Int)-1)=(j:Int):=by omega
 have hx:Yz ns (j:Int)=some (ns[j]'hj):=by
  rw[Yz,if_pos (by omega),qY,qT hj]
 have hw1:IntKind.i64.wrap ((j:Int)-1)=(j:Int)-1:=by rw[IntKind.wrap_i64]; omega
 have htk:(ns.take (j+1)).reverse=ns[j]'hj::(ns.take j).reverse:=by
  rw[List.take_add_one,qT hj]; simp
 rw[htk,List.find?_cons] at hf;rw[ej];rw[ej] at hge
 generalize hv:ns[j]'hj=v at hx hf
 have f1:=E26.idxS hx;have f2:=E26.fldS0 (f:=3) rfl rfl hx
 refine za fun Z hZ=>?_
 refine rg U [0,1,3,8] fun K J=>?_
 simp only[go_sem,qd,qf,qb,qe,qj,qm,reduceIte,reduceCtorEq,hge,decide_true];apply J
 clear J K
 refine zK rfl ?_;refine zj ?_;refine hZ _ _ ?_
 clear hZ Z
 refine za fun Z hZ=>?_
 refine zn ?_
 refine rc [0,1,3,18] fun K J=>?_
 refine zB U 6 ?_;simp only[go_sem,qd,qf,qb,qe,qj,qm,reduceIte,reduceCtorEq,f1,f2,wN];refine opsWp_yield rfl rfl rfl (round j v) ?_;rintro _ _ (⟨h1,rfl,rfl⟩|⟨h1,rfl,rfl⟩)
 · refine zB U 1 ?_;simp only[go_sem,qd,qf,qb,qe,qj,qm,reduceIte,reduceCtorEq];refine zi ?_;simp only[zC,Yw,YS,XN,upd,qb,reduceIte,yX,xK];apply J
   clear J K
   refine zG rfl ?_;refine zj ?_;refine hZ _ _ ?_
   clear hZ Z
   refine rgE U [0,1,3] fun K J=>?_
   simp only[go_sem,qd,qf,qb,qe,qj,qm,reduceIte,reduceCtorEq,hw1];apply J
   clear J K
   rw[h1] at hf;exact⟨_,_,_,qy j,⟨j,rfl,by omega,rfl,rfl,hf⟩,.s⟩
 refine zB U 1 ?_;simp only[go_sem,qd,qf,qb,qe,qj,qm,reduceIte,reduceCtorEq];refine zi ?_;simp only[zC,Yw,YS,XN,upd,qb,reduceIte,yX,xK];apply J
 clear J K
 refine zK rfl ?_;refine yk ?_;refine⟨[],rfl,{ r with state:=.done,pending:=some .ret },tm,rfl,by simp,?_⟩
 show awp (mctx b) _ _ _ _ _ _ _
 refine yk ?_;refine⟨9,[.int .i64 v],rfl,rfl,?_,?_⟩
 · rw[h1] at hf; rw[← hf]; rfl
 exact⟨_,rfl⟩
end
section
set_option maxRecDepth 8000
open AM
theorem wj.ok (a0:xI)(a1:List UInt8)(r:Int)(h:wj a0 a1=some r):ACalls qg 86 [.op 0 0 0,.str a1] [.cells 0 [.int .i64 a0.fself,.ds true (qc wN a0.fnumbers) (qa a0.fnumbers) false,.ds true (qc zb a0.fschemas) (qa a0.fschemas) false,.str a0.fnewest.fName,.ds true (qc zf a0.fnewest.fMessages) (qa a0.fnewest.fMessages) false,.ds true (qc zh a0.fnewest.fEnums) (qa a0.fnewest.fEnums) false,.ds true (qc zq a0.fnewest.fMethods) (qa a0.fnewest.fMethods) false,.ds true (qc yx a0.frows) (qa a0.frows) false,.op 1 0 0,.os true 8 5 (a0.veffects) 0 (qa a0.feffects) false],.cells 0 [.int .i64 a0.fcache.fsize,.os true 2 2 (a0.fcache.vorder) 0 (qa a0.fcache.forder) false,.mp 3,.mp 4],.cells (a0.fcache.vorder) (qc zp a0.fcache.forder),.map (yN zD zT a0.fcache.freplies.l) (some (a0.fcache.freplies.bs,a0.fcache.freplies.ck)),.map (yN (AV.int .i64) (AV.int .i64) a0.fcache.flast.l) (some (a0.fcache.flast.bs,a0.fcache.flast.ck)),.cells (a0.veffects) (qc zl a0.feffects)] (fun r' σ'=>r'=.int .i64 r∧σ'=[.cells 0 [.int .i64 a0.fself,.ds true (qc wN a0.fnumbers) (qa a0.fnumbers) false,.ds true (qc zb a0.fschemas) (qa a0.fschemas) false,.str a0.fnewest.fName,.ds true (qc zf a0.fnewest.fMessages) (qa a0.fnewest.fMessages) false,.ds true (qc zh a0.fnewest.fEnums) (qa a0.fnewest.fEnums) false,.ds true (qc zq a0.fnewest.fMethods) (qa a0.fnewest.fMethods) false,.ds true (qc yx a0.frows) (qa a0.frows) false,.op 1 0 0,.os true 8 5 (a0.veffects) 0 (qa a0.feffects) false],.cells 0 [.int .i64 a0.fcache.fsize,.os true 2 2 (a0.fcache.vorder) 0 (qa a0.fcache.forder) false,.mp 3,.mp 4],.cells (a0.fcache.vorder) (qc zp a0.fcache.forder),.map (yN zD zT a0.fcache.freplies.l) (some (a0.fcache.freplies.bs,a0.fcache.freplies.ck)),.map (yN (AV.int .i64) (AV.int .i64) a0.fcache.flast.l) (some (a0.fcache.flast.bs,a0.fcache.flast.ck)),.cells (a0.veffects) (qc zl a0.feffects)]):=by
 unfold wj at h;obtain⟨u,hu,h⟩:=bind_some h;obtain rfl:=Option.some.inj h;refine ACalls.told ((agrees_any _ _ a1 _ _ _ _ _ _ _ _ _ _ _ _ _ (Ya hu)).mono ?_);rintro r σ' ⟨rfl,G,rfl⟩;refine⟨[0,1,2,3,4,5],true,12,by decide,fun id hid=>?_,rfl,rfl,?_⟩
 · simp only[qW,List.not_mem_nil,or_false] at hid
   simp only[qH,ql]; omega
 first|rfl|(simp only[go_sem,qd,qf,qb,qe,qj,qm,reduceIte,reduceCtorEq,push_cast,if_true,qH,qD,qz,qo,qq,qn,qF,qs,qK,qI,qv,qu,qt,zz,zd,zp,zb,zl,yu]<;>rfl)
end
section
set_option maxRecDepth 8000
open Go.RowKit AM
theorem set_range_at {n u i:Nat}(hi:i<n):((uD n).set u n)[i]?=some (if u=i then n else i):=by
 rw[List.getElem?_set]
 split
 · rename_i h; subst h; rw[if_pos (by rw[List.length_range]; exact hi)]
 rw[List.getElem?_range hi]
theorem AM.ACalls.useR {P:Program}{f:FuncId}{args:List AV}{R:AV→ze→Prop}{σ:ze}{args':List AV}(u:Nat)(ls:Bool)(g:Nat){keep:List Nat}(hk:(uD σ.length).set u σ.length=keep)(hu:u<σ.length)(h:ACalls P f args (vbu (σ++[.dead]) keep ls g) R)
 (ha:args'.map (tell (σ++[.dead]) keep ls g)=args):ACalls P f args' σ R:=by
 refine⟨h.1,fun E vs hS hl=>?_⟩
 let E0:Env := { w:=E.w,st:=E.st,loc:=E.loc,n:=E.n+1 }
 have hn:σ.length=E.n:=hS.len;have hx0:XS E.n E E0:=⟨rfl,rfl,rfl,qw _,fun _ _ h=>h,fun _ h=>⟨h,rfl⟩,Nat.le_succ _,fun _ _ v o h=>⟨v,o,h,qw _,fun _=>rfl⟩,fun _ _ _=>rfl,fun id v _ h _=>⟨id,v,h⟩,fun _ h=>.inl h⟩
 have hend:E.loc σ.length=none:=by
  have h0:=hS.obj σ.length;rw[uq (qw _)] at h0;exact h0
 have hS0:SR E0 (σ++[.dead]):=by
  refine⟨by rw[qk,qS,hn],fun id=>?_,hS.inj,hS.blk,hS.stb,hS.glb⟩
  by_cases hid:id<σ.length
  · rw[qV hid]; exact (hS.obj id).ext hx0 rfl fun _ _ _=>rfl
  have h0:=hS.obj id;rw[uq (by omega)] at h0
  by_cases h1:id=σ.length
  · subst h1; rw[ut (qw _),uI]; exact h0
  rw[uq (by rw[qk,qS]; omega)]; exact h0
 have hget:∀ i,i<E.n→keep[i]?=some (if u=i then E.n else i):=by
  intro i hi
  rw[← hk,← hn];exact set_range_at (by omega)
 have hkl:keep.length=E.n:=by rw[← hk,List.length_set,List.length_range,hn]
 have hlt:∀ id∈keep,id<(σ++[Yy.dead]).length:=by
  intro id hid
  obtain⟨i,hi,rfl⟩:=List.getElem_of_mem hid;have h1:=hget i (by omega);rw[qT hi] at h1;have h2:=Option.some.inj h1;rw[h2,qk,qS]
  split<;>omega
 have hnd:keep.Nodup:=by
  refine List.pairwise_iff_getElem.2 fun i j hi hj hij hc=>?_
  have h1:=hget i (by omega);have h2:=hget j (by omega);rw[qT hi] at h1;rw[qT hj] at h2;have h3:=Option.some.inj h1;have h4:=Option.some.inj h2;rw[h3,h4] at hc
  split at hc<;>split at hc<;>omega
 have hS1:=hS0.tell hnd hlt ls g
 have hl1:X5 (E0.ren keep) args vs.toList:=by
  rw[← ha];refine⟨by simpa using hl.1,fun i hi=>?_⟩;rw[uk] at hi
  rw[vc9 hi]; exact VR.tell hS0 g _ ((hl.2 i hi).ext hx0)
 refine (h.2 _ vs hS1 hl1).mono ?_;rintro e w ⟨v,r,σ',E1,h1,h2,h3,h4,h5,h6⟩;refine⟨v,r,σ',E1,h1,h2,h3,h4,?_,h6⟩
 have hx1:XS E.n E0 (E0.ren keep):=by
  refine⟨rfl,rfl,rfl,qw _,fun _ _ h=>h,fun b hb=>⟨.inl hb,rfl⟩,by show E.n≤keep.length; omega,fun id hid ver ob h=>?_,fun _ _ _=>rfl,fun id v b h _=>?_,fun b h=>?_⟩
  · obtain⟨i,k1,k2⟩:=Env.ren_loc h;rw[hget id hid] at k1;have:=Option.some.inj k1
    split at this
    · subst this
      rw[show E0.loc E.n=E.loc σ.length by rw[hn],hend] at k2; cases k2
    subst this;exact⟨ver,ob,k2,qw _,fun _=>rfl⟩
  · obtain⟨i,_,k2⟩:=Env.ren_loc h; exact⟨i,v,k2⟩
  rcases h with h|⟨id,v,_,h⟩
  · exact .inl h
  exact .inr (.inr ⟨id,v,h⟩)
 exact XS.trans (XS.trans hx0 hx1) (h5.mono (by show E.n≤keep.length; omega))
theorem AM.ACalls.usR {P:Program}{f:FuncId}{args:List AV}{R:AV→ze→Prop}{σ τ:ze}{args':List AV}(u:Nat)(keep:List Nat)(h:ACalls P f args τ R)(hk:(uD σ.length).set u σ.length=keep:=by rfl)(hu:u<σ.length:=by simp)
 (ha:args'.map (tell (σ++[.dead]) keep false 12)=args:=by first|(simp only[go_sem,qd,qf,qb,qe,qj,qm,reduceIte,reduceCtorEq,push_cast,qH,qD,qE,vo,ve]; done)|(simp only[← qX,← qk]; simp only[go_sem,qd,qf,qb,qe,qj,qm,reduceIte,reduceCtorEq,push_cast,qH,qD,qE,vo,ve]; done)|(simp only[← qX,← qk,qx]; simp only[go_sem,qd,qf,qb,qe,qj,qm,reduceIte,reduceCtorEq,push_cast,qH,qD,qE,vo,ve,qx]; done)|(simp only[go_sem,qd,qf,qb,qe,qj,qm,reduceIte,reduceCtorEq,push_cast,ZR,wN,encS,encBo,encK,YE,qX,qU,uf,qE,qD,qk,ql,qr,qo,qx,qH,vj,vo,ve]<;>first|rfl|(and_intros<;>rfl)))
 (ht:vbu (σ++[.dead]) keep false 12=τ:=by first|(simp only[go_sem,qd,qf,qb,qe,qj,qm,reduceIte,reduceCtorEq,push_cast,qH,qD,qE,vo,ve]; done)|(simp only[← qX,← qk]; simp only[go_sem,qd,qf,qb,qe,qj,qm,reduceIte,reduceCtorEq,push_cast,qH,qD,qE,vo,ve]; done)|(simp only[← qX,← qk,qx]; simp only[go_sem,qd,qf,qb,qe,qj,qm,reduceIte,reduceCtorEq,push_cast,qH,qD,qE,vo,ve,qx]; done)|(simp only[go_sem,qd,qf,qb,qe,qj,qm,reduceIte,reduceCtorEq,push_cast,ZR,wN,encS,encBo,encK,YE,qX,qU,uf,qE,qD,qk,ql,qr,qo,qx,qH,vj,vo,ve]<;>first|rfl|(and_intros<;>rfl))):ACalls P f args' σ R:=
 ACalls.useR u false 12 hk hu (by rw[ht]; exact h) ha
end
section
set_option maxRecDepth 4000
set_option maxHeartbeats 1000000
open AM
def ZY.l9 (a0:List UInt8):Nat→Nat→Int→Option Int
 |0,_,_=>none
 |k9+1,p5,x6=>(if p5<qa a0 then ((ZY.l9 a0 k9) (p5+(vem a0 p5).2) (IntKind.i64.wrap (x6+1))) else some x6)
def ZY (a0:List UInt8):Option Int:=
 (wt a0).bind fun r2=>(if (!r2)=true then some 0 else (ZY.l9 a0 xo 0 0))
theorem ZY.ok {a0 r}(h:ZY a0=some r):ACalls qg 167 [.str a0] [] (fun r' _=>r'=.int .i64 r):=by
 refine zt (rs:=[.tmp 2]) U Tryz.func167 rfl Tryz.ntmps167 rfl Tryz.call167 (by simp) ?_;refine zA [(0,.str a0)] ⟨rfl,trivial⟩ ?_;unfold ZY at h;refine D [0] ?_
 refine za fun Z1 hZ1=>?_
 refine rc [0,6] fun K J=>?_
 obtain⟨r2,hr2,h⟩:=bind_some h;refine O 1 ?_;refine clN rfl rfl rfl ((wt.ok hr2).c _) ?_;refine O 1 ?_;refine nkN J ?_;refine zU (b:=(!r2)) rfl (fun hc3=>?_) (fun hc3=>?_)
 · rw[if_pos hc3] at h;refine D [2] ?_;cases h;exact rtA
 rw[Zf hc3] at h;apply zj;apply hZ1;refine D [0,3] ?_
 refine za fun Z4 hZ4=>?_
 refine D [3,8] ?_;apply zn;refine yh (fun m L τ=>∃ (k9:Nat) (p5:Nat) (x6:Int),m=0+k9∧L=[(3,.int .i64 x6),(8,.it 0)]∧τ=([.iter a0 p5]:ze)∧ZY.l9 a0 k9 p5 x6=some r) _ ⟨xo,0,0,rfl,rfl,rfl,h⟩ .s ?_;rintro m L τ ⟨k9,p5,x6,rfl,rfl,rfl,h⟩
 rcases k9 with _|k9
 · cases h
 simp only[ZY.l9] at h
 by_cases hn10:p5<qa a0
 · rw[if_pos hn10] at h;have t11:=eq_true hn10
   refine rg U [3,8,10] fun K J=>?_
   simp only[go_sem,qd,qb,qe,vcH,if_true,if_false,t11];apply J
   refine za fun Z12 hZ12=>?_
   refine zK rfl ?_;apply zj;apply hZ12;apply zn
   refine rgE U [3,8] fun K J=>?_
   simp only[go_sem,qd,qb];apply J
   exact⟨_,_,_,qy (0+k9),⟨k9,p5+(vem a0 p5).2,IntKind.i64.wrap (x6+1),rfl,rfl,rfl,h⟩,.s⟩
 rw[if_neg hn10] at h;have t13:=eq_false hn10
 refine rg U [3,8,10] fun K J=>?_
 simp only[go_sem,qd,qb,vcH,if_true,if_false,t13];apply J
 refine za fun Z14 hZ14=>?_
 refine zG rfl ?_;apply yf;apply hZ4;refine D [2] ?_;cases h;exact rtA
def wR.j3 (x2:Bool):Bool:=
 (if x2=true then true else false)
def wR (a0:List UInt8):Bool:=
 (if a0=[115,99,104,101,109,97] then (wR.j3 (decide (a0=[115,99,104,101,109,97]))) else (if a0=[109,101,115,115,97,103,101] then (wR.j3 (decide (a0=[109,101,115,115,97,103,101]))) else (if a0=[101,110,117,109] then (wR.j3 (decide (a0=[101,110,117,109]))) else (if a0=[99,97,108,108] then (wR.j3 (decide (a0=[99,97,108,108]))) else (if a0=[114,101,116,117,114,110,115] then (wR.j3 (decide (a0=[114,101,116,117,114,110,115]))) else (if a0=[114,101,115,101,114,118,101,100] then (wR.j3 (decide (a0=[114,101,115,101,114,118,101,100]))) else (if a0=[111,112,116,105,111,110,97,108] then (wR.j3 (decide (a0=[111,112,116,105,111,110,97,108]))) else (if a0=[114,101,112,101,97,116,101,100] then (wR.j3 (decide (a0=[114,101,112,101,97,116,101,100]))) else (if a0=[105,110,116,51,50] then (wR.j3 (decide (a0=[105,110,116,51,50]))) else (if a0=[105,110,116,54,52] then (wR.j3 (decide (a0=[105,110,116,54,52]))) else (if a0=[98,111,111,108] then (wR.j3 (decide (a0=[98,111,111,108]))) else (if a0=[116,101,120,116] then (wR.j3 (decide (a0=[116,101,120,116]))) else (wR.j3 (decide (a0=[98,121,116,101,115])))))))))))))))
theorem wR.ok {a0 r}(h:wR a0=r):ACalls qg 168 [.str a0] [] (fun r' _=>r'=.bool r):=by
 refine zt (rs:=[.tmp 2]) U Tryz.func168 rfl Tryz.ntmps168 rfl Tryz.call168 (by simp) ?_;refine zA [(0,.str a0)] ⟨rfl,trivial⟩ ?_;unfold wR at h;refine D [0] ?_
 refine za fun Z1 hZ1=>?_
 refine D [3] ?_;apply zn;refine xL (fun L τ=>∃ (x2:Bool),L=[(4,.bool x2)]∧τ=([]:ze)∧wR.j3 x2=r) ?_ ?_
 · refine D [3,4] ?_;refine yn rfl (fun hc5=>?_) (fun hc5=>?_)
   · rw[if_pos hc5] at h;have t6:=eq_true hc5;apply zj;exact⟨_,_,⟨decide (a0=[115,99,104,101,109,97]),rfl,rfl,h⟩,.s⟩
   rw[if_neg hc5] at h;have t7:=eq_false hc5
   refine rg U [3,4] fun K J=>?_
   simp only[go_sem,qd,qb,t7];apply J
   refine yn rfl (fun hc8=>?_) (fun hc8=>?_)
   · rw[if_pos hc8] at h;have t9:=eq_true hc8;apply zj;exact⟨_,_,⟨decide (a0=[109,101,115,115,97,103,101]),rfl,rfl,h⟩,.s⟩
   rw[if_neg hc8] at h;have t10:=eq_false hc8
   refine rg U [3,4] fun K J=>?_
   simp only[go_sem,qd,qb,t10];apply J
   refine yn rfl (fun hc11=>?_) (fun hc11=>?_)
   · rw[if_pos hc11] at h;have t12:=eq_true hc11;apply zj;exact⟨_,_,⟨decide (a0=[101,110,117,109]),rfl,rfl,h⟩,.s⟩
   rw[if_neg hc11] at h;have t13:=eq_false hc11
   refine rg U [3,4] fun K J=>?_
   simp only[go_sem,qd,qb,t13];apply J
   refine yn rfl (fun hc14=>?_) (fun hc14=>?_)
   · rw[if_pos hc14] at h;have t15:=eq_true hc14;apply zj;exact⟨_,_,⟨decide (a0=[99,97,108,108]),rfl,rfl,h⟩,.s⟩
   rw[if_neg hc14] at h;have t16:=eq_false hc14
   refine rg U [3,4] fun K J=>?_
   simp only[go_sem,qd,qb,t16];apply J
   refine yn rfl (fun hc17=>?_) (fun hc17=>?_)
   · rw[if_pos hc17] at h;have t18:=eq_true hc17;apply zj;exact⟨_,_,⟨decide (a0=[114,101,116,117,114,110,115]),rfl,rfl,h⟩,.s⟩
   rw[if_neg hc17] at h;have t19:=eq_false hc17
   refine rg U [3,4] fun K J=>?_
   simp only[go_sem,qd,qb,t19];apply J
   refine yn rfl (fun hc20=>?_) (fun hc20=>?_)
   · rw[if_pos hc20] at h;have t21:=eq_true hc20;apply zj;exact⟨_,_,⟨decide (a0=[114,101,115,101,114,118,101,100]),rfl,rfl,h⟩,.s⟩
   rw[if_neg hc20] at h;have t22:=eq_false hc20
   refine rg U [3,4] fun K J=>?_
   simp only[go_sem,qd,qb,t22];apply J
   refine yn rfl (fun hc23=>?_) (fun hc23=>?_)
   · rw[if_pos hc23] at h;have t24:=eq_true hc23;apply zj;exact⟨_,_,⟨decide (a0=[111,112,116,105,111,110,97,108]),rfl,rfl,h⟩,.s⟩
   rw[if_neg hc23] at h;have t25:=eq_false hc23
   refine rg U [3,4] fun K J=>?_
   simp only[go_sem,qd,qb,t25];apply J
   refine yn rfl (fun hc26=>?_) (fun hc26=>?_)
   · rw[if_pos hc26] at h;have t27:=eq_true hc26;apply zj;exact⟨_,_,⟨decide (a0=[114,101,112,101,97,116,101,100]),rfl,rfl,h⟩,.s⟩
   rw[if_neg hc26] at h;have t28:=eq_false hc26
   refine rg U [3,4] fun K J=>?_
   simp only[go_sem,qd,qb,t28];apply J
   refine yn rfl (fun hc29=>?_) (fun hc29=>?_)
   · rw[if_pos hc29] at h;have t30:=eq_true hc29;apply zj;exact⟨_,_,⟨decide (a0=[105,110,116,51,50]),rfl,rfl,h⟩,.s⟩
   rw[if_neg hc29] at h;have t31:=eq_false hc29
   refine rg U [3,4] fun K J=>?_
   simp only[go_sem,qd,qb,t31];apply J
   refine yn rfl (fun hc32=>?_) (fun hc32=>?_)
   · rw[if_pos hc32] at h;have t33:=eq_true hc32;apply zj;exact⟨_,_,⟨decide (a0=[105,110,116,54,52]),rfl,rfl,h⟩,.s⟩
   rw[if_neg hc32] at h;have t34:=eq_false hc32
   refine rg U [3,4] fun K J=>?_
   simp only[go_sem,qd,qb,t34];apply J
   refine yn rfl (fun hc35=>?_) (fun hc35=>?_)
   · rw[if_pos hc35] at h;have t36:=eq_true hc35;apply zj;exact⟨_,_,⟨decide (a0=[98,111,111,108]),rfl,rfl,h⟩,.s⟩
   rw[if_neg hc35] at h;have t37:=eq_false hc35
   refine rg U [3,4] fun K J=>?_
   simp only[go_sem,qd,qb,t37];apply J
   refine yn rfl (fun hc38=>?_) (fun hc38=>?_)
   · rw[if_pos hc38] at h;have t39:=eq_true hc38;apply zj;exact⟨_,_,⟨decide (a0=[116,101,120,116]),rfl,rfl,h⟩,.s⟩
   rw[if_neg hc38] at h;have t40:=eq_false hc38
   refine rgE U [4] fun K J=>?_
   simp only[go_sem,qd,qb,t40];apply J
   exact⟨_,_,⟨decide (a0=[98,121,116,101,115]),rfl,rfl,h⟩,.s⟩
 rintro _ _ ⟨x2,rfl,rfl,h⟩;unfold wR.j3 at h;refine zU (b:=x2) rfl (fun hc4=>?_) (fun hc4=>?_)
 · rw[if_pos hc4] at h;refine D [2] ?_;cases h;exact rtA
 rw[Zf hc4] at h;apply zj;apply hZ1;refine D [2] ?_;cases h;exact rtA
def YM (a0:Int)(a1:Int)(a2:Int):Bool:=
 ((decide (a1≤a0))&&(decide (a0≤a2)))
theorem YM.ok {a0 a1 a2 r}(h:YM a0 a1 a2=r):ACalls qg 212 [.int .i32 a0,.int .i32 a1,.int .i32 a2] [] (fun r' _=>r'=.bool r):=by
 refine zt (rs:=[.tmp 6]) U Tryz.func212 rfl Tryz.ntmps212 rfl Tryz.call212 (by simp) ?_;refine zA [(0,.int .i32 a0),(1,.int .i32 a1),(2,.int .i32 a2)] ⟨rfl,rfl,rfl,trivial⟩ ?_;unfold YM at h;refine D [0,1,2] ?_
 refine rc [6] fun K J=>?_
 refine O 4 ?_;refine zH 4 (fun L τ=>L=[(14,.bool ((decide (a1≤a0))&&(decide (a0≤a2))))]∧τ=([]:ze)) ?_ ?_
 · refine wh 10 rfl (fun hg10=>?_) (fun hg10=>?_)
   · have t1:=eq_true hg10;refine O 4 ?_;refine zi ⟨rfl,_,_,⟨rfl,rfl⟩,.p t1⟩
   have t2:=eq_false hg10;refine O 4 ?_;refine zi ⟨rfl,_,_,⟨rfl,rfl⟩,.p t2⟩
 rintro _ _ ⟨rfl,rfl⟩;refine O 1 ?_;refine nkN J ?_;cases h;exact rtA
def Zt.j6 (a0:Int)(x5:Bool):Bool:=
 (if x5=true then false else bnd (YM a0 97 122) fun r8=>bnd (if r8=true then true else bnd (YM a0 65 90) fun r9=>r9) fun c9=>bnd (if c9=true then true else bnd (YM a0 192 591) fun r11=>r11) fun c11=>bnd (if c11=true then true else bnd (YM a0 913 969) fun r13=>r13) fun c13=>c13)
def Zt (a0:Int):Bool:=
 (if a0=95 then true else (if a0=215 then (Zt.j6 a0 (decide (a0=215))) else (if a0=247 then (Zt.j6 a0 (decide (a0=247))) else (Zt.j6 a0 (decide (a0=930))))))
theorem Zt.ok {a0 r}(h:Zt a0=r):ACalls qg 169 [.int .i32 a0] [] (fun r' _=>r'=.bool r):=by
 refine zt (rs:=[.tmp 2]) U Tryz.func169 rfl Tryz.ntmps169 rfl Tryz.call169 (by simp) ?_;refine zA [(0,.int .i32 a0)] ⟨rfl,trivial⟩ ?_;unfold Zt at h;refine D [0] ?_
 refine za fun Z1 hZ1=>?_
 refine D [0,3] ?_;apply zn;refine D [0,3,4] ?_;refine yn rfl (fun hc2=>?_) (fun hc2=>?_)
 · rw[if_pos hc2] at h;have t3:=eq_true hc2
   refine rg U [2] fun K J=>?_
   simp only[go_sem,qd,qb,reduceCtorEq,t3];apply J
   cases h;exact rtA
 rw[if_neg hc2] at h;have t4:=eq_false hc2;refine xL (fun L τ=>∃ (x5:Bool),L=[(0,.int .i32 a0),(6,.bool x5)]∧τ=([]:ze)∧Zt.j6 a0 x5=r) ?_ ?_
 · refine rg U [0,3,6] fun K J=>?_
   simp only[go_sem,qd,qb,reduceCtorEq,t4];apply J
   refine yn rfl (fun hc15=>?_) (fun hc15=>?_)
   · rw[if_pos hc15] at h;have t16:=eq_true hc15;apply zj;exact⟨_,_,⟨decide (a0=215),rfl,rfl,h⟩,.s⟩
   rw[if_neg hc15] at h;have t17:=eq_false hc15
   refine rg U [0,3,6] fun K J=>?_
   simp only[go_sem,qd,qb,reduceCtorEq,t17];apply J
   refine yn rfl (fun hc18=>?_) (fun hc18=>?_)
   · rw[if_pos hc18] at h;have t19:=eq_true hc18;apply zj;exact⟨_,_,⟨decide (a0=247),rfl,rfl,h⟩,.s⟩
   rw[if_neg hc18] at h;have t20:=eq_false hc18
   refine rgE U [0,6] fun K J=>?_
   simp only[go_sem,qd,qb,reduceCtorEq,t20];apply J
   exact⟨_,_,⟨decide (a0=930),rfl,rfl,h⟩,.s⟩
 rintro _ _ ⟨x5,rfl,rfl,h⟩;unfold Zt.j6 at h;refine zU (b:=x5) rfl (fun hc7=>?_) (fun hc7=>?_)
 · rw[if_pos hc7] at h;refine D [2] ?_;cases h;exact rtA
 rw[Zf hc7] at h;apply zj;apply hZ1
 refine rc [2] fun K J=>?_
 obtain⟨r8,hr8,h⟩:=ye h;refine O 1 ?_;refine clN rfl rfl rfl ((YM.ok hr8).c _) ?_;refine O 1 ?_;obtain⟨c9,hc9,h⟩:=ye h;refine zH 3 (fun L τ=>L=[(0,.int .i32 a0),(15,.bool c9)]∧τ=([]:ze)) ?_ ?_
 · refine yB (b:=r8) 12 rfl (fun hg12=>?_) (fun hg12=>?_)
   · rw[if_pos hg12] at hc9;refine O 3 ?_;subst hc9;refine zi ⟨rfl,_,_,⟨rfl,rfl⟩,.b hg12⟩
   rw[Zf hg12] at hc9;obtain⟨r10,hr10,hc9⟩:=ye hc9;refine O 1 ?_;refine clN rfl rfl rfl ((YM.ok hr10).c _) ?_;refine O 1 ?_;subst hc9;refine zi ⟨rfl,_,_,⟨rfl,rfl⟩,.b hg12⟩
 rintro _ _ ⟨rfl,rfl⟩;refine O 1 ?_;obtain⟨c11,hc11,h⟩:=ye h;refine zH 3 (fun L τ=>L=[(0,.int .i32 a0),(19,.bool c11)]∧τ=([]:ze)) ?_ ?_
 · refine yB (b:=c9) 16 rfl (fun hg16=>?_) (fun hg16=>?_)
   · rw[if_pos hg16] at hc11;refine O 3 ?_;subst hc11;refine zi ⟨rfl,_,_,⟨rfl,rfl⟩,.b hg16⟩
   rw[Zf hg16] at hc11;obtain⟨r12,hr12,hc11⟩:=ye hc11;refine O 1 ?_;refine clN rfl rfl rfl ((YM.ok hr12).c _) ?_;refine O 1 ?_;subst hc11;refine zi ⟨rfl,_,_,⟨rfl,rfl⟩,.b hg16⟩
 rintro _ _ ⟨rfl,rfl⟩;refine O 1 ?_;obtain⟨c13,hc13,h⟩:=ye h;refine zH 3 (fun L τ=>L=[(23,.bool c13)]∧τ=([]:ze)) ?_ ?_
 · refine yB (b:=c11) 20 rfl (fun hg20=>?_) (fun hg20=>?_)
   · rw[if_pos hg20] at hc13;refine O 3 ?_;subst hc13;refine zi ⟨rfl,_,_,⟨rfl,rfl⟩,.b hg20⟩
   rw[Zf hg20] at hc13;obtain⟨r14,hr14,hc13⟩:=ye hc13;refine O 1 ?_;refine clN rfl rfl rfl ((YM.ok hr14).c _) ?_;refine O 1 ?_;subst hc13;refine zi ⟨rfl,_,_,⟨rfl,rfl⟩,.b hg20⟩
 rintro _ _ ⟨rfl,rfl⟩;refine O 1 ?_;refine nkN J ?_;cases h;exact rtA
def vaa (a0:Int):Bool:=
 bnd (YM a0 48 57) fun r1=>r1
theorem vaa.ok {a0 r}(h:vaa a0=r):ACalls qg 170 [.int .i32 a0] [] (fun r' _=>r'=.bool r):=by
 refine zt (rs:=[.tmp 2]) U Tryz.func170 rfl Tryz.ntmps170 rfl Tryz.call170 (by simp) ?_;refine zA [(0,.int .i32 a0)] ⟨rfl,trivial⟩ ?_;unfold vaa at h;refine D [0] ?_
 refine rc [2] fun K J=>?_
 obtain⟨r1,hr1,h⟩:=ye h;refine O 1 ?_;refine clN rfl rfl rfl ((YM.ok hr1).c _) ?_;refine O 1 ?_;refine nkN J ?_;cases h;exact rtA
def ZU.l11 (a0:List UInt8):Nat→Nat→Option Bool
 |0,_=>none
 |k11+1,p9=>(if p9<qa a0 then bnd (Zt ((vem a0 p9).1:Int)) fun r15=>bnd (if (!r15)=true then bnd (if ((p9:Nat):Int)=0 then true else bnd (vaa ((vem a0 p9).1:Int)) fun r16 => !r16) fun c16=>c16 else false) fun c16=>(if c16=true then some false else ((ZU.l11 a0 k11) (p9+(vem a0 p9).2))) else some true)
def ZU (a0:List UInt8):Option Bool:=
 (ZY a0).bind fun r1=>bnd (if ((decide (r1<1))||(decide (20<r1)))=true then true else bnd (wR a0) fun r5=>r5) fun c5=>(if c5=true then some false else (ZU.l11 a0 xo 0))
theorem ZU.ok {a0 r}(h:ZU a0=some r):ACalls qg 125 [.str a0] [] (fun r' _=>r'=.bool r):=by
 refine zt (rs:=[.tmp 2]) U Tryz.func125 rfl Tryz.ntmps125 rfl Tryz.call125 (by simp) ?_;refine zA [(0,.str a0)] ⟨rfl,trivial⟩ ?_;unfold ZU at h;refine D [0] ?_
 refine rc [0,3] fun K J=>?_
 obtain⟨r1,hr1,h⟩:=bind_some h;refine O 1 ?_;refine clN rfl rfl rfl ((ZY.ok hr1).c _) ?_;refine O 1 ?_;refine nkN J ?_
 refine za fun Z2 hZ2=>?_
 refine rc [0,17] fun K J=>?_
 refine O 3 ?_;refine zH 3 (fun L τ=>L=[(0,.str a0),(13,.bool ((decide (r1<1))||(decide (20<r1))))]∧τ=([]:ze)) ?_ ?_
 · refine wh 10 rfl (fun hg10=>?_) (fun hg10=>?_)
   · have t3:=eq_true hg10;refine O 3 ?_;refine zi ⟨rfl,_,_,⟨rfl,rfl⟩,.p t3⟩
   have t4:=eq_false hg10;refine O 3 ?_;refine zi ⟨rfl,_,_,⟨rfl,rfl⟩,.p t4⟩
 rintro _ _ ⟨rfl,rfl⟩;refine O 1 ?_;obtain⟨c5,hc5,h⟩:=ye h;refine zH 3 (fun L τ=>L=[(0,.str a0),(17,.bool c5)]∧τ=([]:ze)) ?_ ?_
 · refine yB (b:=((decide (r1<1))||(decide (20<r1)))) 14 rfl (fun hg14=>?_) (fun hg14=>?_)
   · rw[if_pos hg14] at hc5;refine O 3 ?_;subst hc5;refine zi ⟨rfl,_,_,⟨rfl,rfl⟩,.b hg14⟩
   rw[Zf hg14] at hc5;obtain⟨r6,hr6,hc5⟩:=ye hc5;refine O 1 ?_;refine clN rfl rfl rfl ((wR.ok hr6).c _) ?_;refine O 1 ?_;subst hc5;refine zi ⟨rfl,_,_,⟨rfl,rfl⟩,.b hg14⟩
 rintro _ _ ⟨rfl,rfl⟩;refine nkN J ?_;refine zU (b:=c5) rfl (fun hc7=>?_) (fun hc7=>?_)
 · rw[if_pos hc7] at h;refine D [2] ?_;cases h;exact rtA
 rw[Zf hc7] at h;apply zj;apply hZ2
 refine za fun Z8 hZ8=>?_
 refine D [19] ?_;apply zn;refine yh (fun m L τ=>∃ (k11:Nat) (p9:Nat),m=0+k11∧L=[(19,.it 0)]∧τ=([.iter a0 p9]:ze)∧ZU.l11 a0 k11 p9=some r) _ ⟨xo,0,rfl,rfl,rfl,h⟩ .s ?_;rintro m L τ ⟨k11,p9,rfl,rfl,rfl,h⟩
 rcases k11 with _|k11
 · cases h
 simp only[ZU.l11] at h
 by_cases hn12:p9<qa a0
 · rw[if_pos hn12] at h;have t13:=eq_true hn12
   refine rg U [19,20,21] fun K J=>?_
   simp only[go_sem,qd,qb,qe,vcH,if_true,if_false,t13];apply J
   refine za fun Z14 hZ14=>?_
   refine zK rfl ?_;apply zj;apply hZ14;apply zn;refine D [4,5,19] ?_
   refine rc [19,35] fun K J=>?_
   obtain⟨r15,hr15,h⟩:=ye h;refine O 1 ?_;refine clN rfl rfl rfl ((Zt.ok hr15).c _) ?_;refine O 2 ?_;obtain⟨c16,hc16,h⟩:=ye h;refine zH 8 (fun L τ=>L=[(19,.it 0),(35,.bool c16)]∧τ=([.iter a0 (p9+(vem a0 p9).2)]:ze)) ?_ ?_
   · refine yB (b:=(!r15)) 27 rfl (fun hg27=>?_) (fun hg27=>?_)
     · rw[if_pos hg27] at hc16;refine O 3 ?_;obtain⟨c17,hc17,hc16⟩:=ye hc16;refine zH 4 (fun L τ=>L=[(19,.it 0),(27,.bool true),(34,.bool c17)]∧τ=([.iter a0 (p9+(vem a0 p9).2)]:ze)) ?_ ?_
       · refine wh 30 rfl (fun hg30=>?_) (fun hg30=>?_)
         · have t18:=eq_true hg30;rw[if_pos hg30] at hc17;refine O 4 ?_;subst hc17;refine zi ⟨rfl,_,_,⟨rfl,rfl⟩,.p t18⟩
         have t19:=eq_false hg30;rw[if_neg hg30] at hc17;obtain⟨r20,hr20,hc17⟩:=ye hc17;refine O 1 ?_;refine clN rfl rfl rfl ((vaa.ok hr20).c _) ?_;refine O 2 ?_;subst hc17;refine zi ⟨rfl,_,_,⟨rfl,rfl⟩,.p t19⟩
       rintro _ _ ⟨rfl,rfl⟩;refine O 1 ?_;subst hc16;refine zi ⟨rfl,_,_,⟨rfl,rfl⟩,.b hg27⟩
     rw[Zf hg27] at hc16;refine O 8 ?_;subst hc16;refine zi ⟨rfl,_,_,⟨rfl,rfl⟩,.b hg27⟩
   rintro _ _ ⟨rfl,rfl⟩;refine nkN J ?_;refine zU (b:=c16) rfl (fun hc21=>?_) (fun hc21=>?_)
   · rw[if_pos hc21] at h;refine D [2] ?_;cases h;exact rtA
   rw[Zf hc21] at h;apply zj;exact⟨_,_,_,qy (0+k11),⟨k11,p9+(vem a0 p9).2,rfl,rfl,rfl,h⟩,.s⟩
 rw[if_neg hn12] at h;have t22:=eq_false hn12
 refine rg U [19,20,21] fun K J=>?_
 simp only[go_sem,qd,qb,vcH,if_true,if_false,t22];apply J
 refine za fun Z23 hZ23=>?_
 refine zG rfl ?_;apply yf;apply hZ8;refine D [2] ?_;cases h;exact rtA
def xP (a0:List (List UInt8×Bool))(a1:List UInt8):Option (Bool×List (List UInt8×Bool)):=
 (ZU a1).bind fun r2=>(if ((!r2)||((vak a0 a1).getD false))=true then some (false,a0) else some (true,setM a0 a1 true))
theorem xP.ok {a0 a1 r}(h:xP a0 a1=some r):ACalls qg 128 [.mp 0,.str a1] [.map (yN AV.str AV.bool a0)] (fun r' σ'=>r'=.bool r.1∧σ'=[.map (yN AV.str AV.bool r.2)]):=by
 refine ZO [0] (rs:=[.tmp 4]) U Tryz.func128 rfl Tryz.ntmps128 rfl Tryz.call128 (by simp) rfl ?_;refine zA [(0,.mp 0),(1,.str a1)] ⟨rfl,rfl,trivial⟩ ?_;unfold xP at h;refine D [0,1] ?_
 refine za fun Z1 hZ1=>?_
 refine rc [0,1,12] fun K J=>?_
 obtain⟨r2,hr2,h⟩:=bind_some h;refine O 1 ?_;refine clN rfl rfl rfl ((ZU.ok hr2).c _) ?_;refine O 2 ?_;refine zH 4 (fun L τ=>L=[(0,.mp 0),(1,.str a1),(12,.bool ((!r2)||((vak a0 a1).getD false)))]∧τ=([.map (yN AV.str AV.bool a0)]:ze)) ?_ ?_
 · refine yB (b:=(!r2)) 8 rfl (fun hg8=>?_) (fun hg8=>?_)
   · refine zB U 4 ?_;simp only[go_sem,qd,qb,reduceCtorEq,if_false,if_true];refine zi ⟨rfl,_,_,⟨rfl,rfl⟩,.b hg8⟩
   have f3:=fun (x:ze)=>va9 (T:=tab) (t:=202) (ek:=AV.str) (ev:=AV.bool) (z:=false) (vdL.str rfl rfl rfl rfl) rfl rfl rfl rfl a0 a1 false (.map (yN AV.str AV.bool a0)::x) 0 rfl
   refine zB U 4 ?_;simp only[go_sem,qd,qb,reduceCtorEq,vaI,ud,if_false,if_true,f3];refine zi ⟨rfl,_,_,⟨rfl,rfl⟩,.b hg8⟩
 rintro _ _ ⟨rfl,rfl⟩;refine nkN J ?_;refine zU (b:=((!r2)||((vak a0 a1).getD false))) rfl (fun hc4=>?_) (fun hc4=>?_)
 · rw[if_pos hc4] at h;refine D [4] ?_;apply yk;cases h;simp only[ZJ,yQ,yZ,xQ,exists_eq_left',go_sem];refine⟨by decide,by simp,?_,?_⟩
   · first|rfl|(simp only[go_sem,qd,qf,qb,qe,qj,qm,reduceIte,reduceCtorEq,push_cast,if_true,qz,qo,qq,qn,qF,qs,qK,qI,qv,qu,qt,zz]<;>rfl)
   first|rfl|(simp only[go_sem,push_cast,qn]<;>rfl)
 rw[Zf hc4] at h;apply zj;apply hZ1
 have f5:=fun (x:ze)=>vcv (T:=tab) (t:=202) (ek:=AV.str) (ev:=AV.bool) (vdL.str rfl rfl rfl rfl) rfl rfl a0 a1 true (.map (yN AV.str AV.bool a0)::x) 0 rfl
 refine rg U [] fun K J=>?_
 simp only[go_sem,qd,qb,reduceCtorEq,f5];apply J
 refine D [4] ?_;apply yk;cases h;simp only[ZJ,yQ,yZ,xQ,exists_eq_left',go_sem];refine⟨by decide,by simp,?_,?_⟩
 · first|rfl|(simp only[go_sem,qd,qf,qb,qe,qj,qm,reduceIte,reduceCtorEq,push_cast,if_true,qz,qo,qq,qn,qF,qs,qK,qI,qv,qu,qt,zz]<;>rfl)
 first|rfl|(simp only[go_sem,push_cast,qn]<;>rfl)
def vah (a0:Int):Bool:=
 ((decide (1≤a0))&&(decide (a0≤500)))
theorem vah.ok {a0 r}(h:vah a0=r):ACalls qg 171 [.int .i64 a0] [] (fun r' _=>r'=.bool r):=by
 refine zt (rs:=[.tmp 2]) U Tryz.func171 rfl Tryz.ntmps171 rfl Tryz.call171 (by simp) ?_;refine zA [(0,.int .i64 a0)] ⟨rfl,trivial⟩ ?_;unfold vah at h;refine D [0] ?_
 refine rc [2] fun K J=>?_
 refine O 3 ?_;refine zH 3 (fun L τ=>L=[(8,.bool ((decide (1≤a0))&&(decide (a0≤500))))]∧τ=([]:ze)) ?_ ?_
 · refine wh 5 rfl (fun hg5=>?_) (fun hg5=>?_)
   · have t1:=eq_true hg5;refine O 3 ?_;refine zi ⟨rfl,_,_,⟨rfl,rfl⟩,.p t1⟩
   have t2:=eq_false hg5;refine O 3 ?_;refine zi ⟨rfl,_,_,⟨rfl,rfl⟩,.p t2⟩
 rintro _ _ ⟨rfl,rfl⟩;refine O 1 ?_;refine nkN J ?_;cases h;exact rtA
def Yh.l4 (a1:List UInt8):List wJ→Int→wJ×Bool
 |[],x2=>((⟨[],([]:List veu)⟩:wJ),false)
 |y4::q4,x2=>(if y4.fName=a1 then (y4,true) else ((Yh.l4 a1 q4) (x2+1)))
def Yh (a0:zE)(a1:List UInt8):wJ×Bool:=
 (Yh.l4 a1 a0.fEnums 0)
theorem Yh.ok {a0 a1 r}(h:Yh a0 a1=r):ACalls qg 213 [.agg (zb a0),.str a1] [] (fun r' _=>r'=.tup [.agg (zh r.1),.bool r.2]):=by
 refine zt (rs:=[.cell 4 142,.tmp 5]) U Tryz.func213 rfl Tryz.ntmps213 rfl Tryz.call213 (by simp) ?_;refine zA [(0,.agg (zb a0)),(1,.str a1)] ⟨rfl,rfl,trivial⟩ ?_;unfold Yh at h
 refine rg U [1,2,4] fun K J=>?_
 simp only[go_sem,qd,qb,qe,reduceCtorEq,zb];apply J
 refine za fun Z1 hZ1=>?_
 refine D [1,4,9,10,11] ?_;apply zn
 refine xn 9 fun hb4=>?_
 replace hb4:qa a0.fEnums≤9223372036854775807:=hb4.1;refine yh (fun m L τ=>∃ (p4 q4:List wJ) (x2:Int),m=qa q4∧L=[(1,.str a1),(4,.op 0 0 0),(9,.ds true (qc zh a0.fEnums) (qa a0.fEnums) false),(10,.int .i64 (qa a0.fEnums:Int)),(11,.int .i64 x2)]∧τ=([.cells 0 [.str [],.ds true [] 0 true]]:ze)∧a0.fEnums=p4++q4∧x2=(qa p4:Int)∧Yh.l4 a1 q4 x2=r) _ ⟨[],a0.fEnums,0,rfl,rfl,rfl,rfl,rfl,h⟩ (.t [1] false) ?_;rintro m L τ ⟨p4,q4,x2,rfl,rfl,rfl,hE4,hi4,h⟩
 rcases q4 with _|⟨y4,q4⟩
 · have hz4:=xC hE4 hi4;simp only[Yh.l4] at h
   refine rg U [1,4,9,10,11,12] fun K J=>?_
   simp only[go_sem,qd,qb,hz4];apply J
   refine za fun Z5 hZ5=>?_
   refine zG rfl ?_;apply yf;apply hZ1;refine D [4,5] ?_;cases h;exact rtA
 obtain⟨hz4,hw4,hx4,hE'4,hi'4⟩:=yU hE4 hi4 hb4;simp only[Yh.l4] at h
 refine rg U [1,4,9,10,11,12] fun K J=>?_
 simp only[go_sem,qd,qb,hz4];apply J
 refine za fun Z6 hZ6=>?_
 refine zK rfl ?_;apply zj;apply hZ6
 refine za fun Z7 hZ7=>?_
 apply zn;have f8:=E28.idxS hx4;have f9:=E28.loadS rfl rfl hx4
 refine rg U [1,4,7,9,10,11] fun K J=>?_
 simp only[go_sem,qd,qf,qb,qe,zh,f8,f9];apply J
 refine D [1,4,7,9,10,11,18] ?_;refine yn rfl (fun hc10=>?_) (fun hc10=>?_)
 · rw[if_pos hc10] at h;have t11:=eq_true hc10
   refine rg U [4,5] fun K J=>?_
   simp only[go_sem,qd,qf,qb,qe,t11];apply J
   cases h;exact rtA
 rw[if_neg hc10] at h;have t12:=eq_false hc10;apply zj;apply hZ7
 refine rgE U [1,4,9,10,11] fun K J=>?_
 simp only[go_sem,qd,qb,hw4,t12];apply J
 exact⟨_,_,_,qy q4.length,⟨p4++[y4],q4,x2+1,rfl,rfl,rfl,hE'4,hi'4,h⟩,(.t [0] false)⟩
def vai (a0:zE)(a1:ZS):Bool:=
 (if a1.fType.fKind=6 then bnd (Yh a0 a1.fType.fName) fun r6=>(((decide (1≤a1.fLabel))&&(decide (a1.fLabel≤3)))&&r6.2) else (if a1.fType.fKind=7 then bnd (yq a0 a1.fType.fName) fun r10=>(((decide (1≤a1.fLabel))&&(decide (a1.fLabel≤3)))&&r10.2) else (((((decide (1≤a1.fLabel))&&(decide (a1.fLabel≤3)))&&(decide (1≤a1.fType.fKind)))&&(decide (a1.fType.fName=[])))&&(decide (a1.fType.fKind<6)))))
theorem vai.ok {a0 a1 r}(h:vai a0 a1=r):ACalls qg 172 [.agg (zb a0),.agg (yr a1)] [] (fun r' _=>r'=.bool r):=by
 refine zt (rs:=[.tmp 4]) U Tryz.func172 rfl Tryz.ntmps172 rfl Tryz.call172 (by simp) ?_;refine zA [(0,.agg (zb a0)),(1,.agg (yr a1))] ⟨rfl,rfl,trivial⟩ ?_;unfold vai at h
 refine rg U [2,3] fun K J=>?_
 simp only[go_sem,qd,qb,qe,reduceCtorEq,yr,zb];apply J
 refine rc [2,3,5] fun K J=>?_
 refine O 4 ?_;refine zH 4 (fun L τ=>L=[(2,.op 0 0 0),(3,.op 1 0 0),(17,.bool ((decide (1≤a1.fLabel))&&(decide (a1.fLabel≤3))))]∧τ=([.cells 0 (zb a0),.cells 0 (yr a1)]:ze)) ?_ ?_
 · refine wh 13 rfl (fun hg13=>?_) (fun hg13=>?_)
   · have t1:=eq_true hg13;refine O 4 ?_;refine zi ⟨rfl,_,_,⟨rfl,rfl⟩,.p t1⟩
   have t2:=eq_false hg13;refine O 4 ?_;refine zi ⟨rfl,_,_,⟨rfl,rfl⟩,.p t2⟩
 rintro _ _ ⟨rfl,rfl⟩;refine O 1 ?_;refine nkN J ?_
 refine za fun Z3 hZ3=>?_
 refine D [2,3,5,20] ?_;apply zn;refine D [2,3,5,20,21] ?_;refine yn rfl (fun hc4=>?_) (fun hc4=>?_)
 · rw[if_pos hc4] at h;have t5:=eq_true hc4
   refine rc [5,7] fun K J=>?_
   obtain⟨r6,hr6,h⟩:=ye h;refine zB U 4 ?_;simp only[go_sem,qd,qf,qb,qe,t5];refine clN rfl rfl rfl ((Yh.ok hr6).c _) ?_;refine zB U 6 ?_;simp only[go_sem,qd,qf,qb,qe,zh];refine nkN J ?_
   refine rc [4] fun K J=>?_
   refine O 2 ?_;refine zH 2 (fun L τ=>L=[(34,.bool (((decide (1≤a1.fLabel))&&(decide (a1.fLabel≤3)))&&r6.2))]∧τ=([.cells 0 (zb a0),.cells 0 (yr a1),.cells 0 (zh r6.1)]:ze)) ?_ ?_
   · refine yB (b:=((decide (1≤a1.fLabel))&&(decide (a1.fLabel≤3)))) 32 rfl (fun hg32=>?_) (fun hg32=>?_)
     · refine O 2 ?_;refine zi ⟨rfl,_,_,⟨rfl,rfl⟩,.b hg32⟩
     refine O 2 ?_;refine zi ⟨rfl,_,_,⟨rfl,rfl⟩,.b hg32⟩
   rintro _ _ ⟨rfl,rfl⟩;refine O 1 ?_;refine nkN J ?_;cases h;exact rtA
 rw[if_neg hc4] at h;have t7:=eq_false hc4
 refine rg U [2,3,5,35] fun K J=>?_
 simp only[go_sem,qd,qb,t7];apply J
 refine yn rfl (fun hc8=>?_) (fun hc8=>?_)
 · rw[if_pos hc8] at h;have t9:=eq_true hc8
   refine rc [5,9] fun K J=>?_
   obtain⟨r10,hr10,h⟩:=ye h;refine zB U 4 ?_;simp only[go_sem,qd,qf,qb,qe,t9];refine clN rfl rfl rfl ((yq.ok hr10).c _) ?_;refine zB U 6 ?_;simp only[go_sem,qd,qf,qb,qe,zf];refine nkN J ?_
   refine rc [4] fun K J=>?_
   refine O 2 ?_;refine zH 2 (fun L τ=>L=[(48,.bool (((decide (1≤a1.fLabel))&&(decide (a1.fLabel≤3)))&&r10.2))]∧τ=([.cells 0 (zb a0),.cells 0 (yr a1),.cells 0 (zf r10.1)]:ze)) ?_ ?_
   · refine yB (b:=((decide (1≤a1.fLabel))&&(decide (a1.fLabel≤3)))) 46 rfl (fun hg46=>?_) (fun hg46=>?_)
     · refine O 2 ?_;refine zi ⟨rfl,_,_,⟨rfl,rfl⟩,.b hg46⟩
     refine O 2 ?_;refine zi ⟨rfl,_,_,⟨rfl,rfl⟩,.b hg46⟩
   rintro _ _ ⟨rfl,rfl⟩;refine O 1 ?_;refine nkN J ?_;cases h;exact rtA
 rw[if_neg hc8] at h;have t11:=eq_false hc8;apply zj;apply hZ3
 refine rc [4] fun K J=>?_
 refine zB U 2 ?_;simp only[go_sem,qd,qb,t11];refine zH 5 (fun L τ=>L=[(3,.op 1 0 0),(55,.bool (((decide (1≤a1.fLabel))&&(decide (a1.fLabel≤3)))&&(decide (1≤a1.fType.fKind))))]∧τ=([.cells 0 (zb a0),.cells 0 (yr a1)]:ze)) ?_ ?_
 · refine yB (b:=((decide (1≤a1.fLabel))&&(decide (a1.fLabel≤3)))) 50 rfl (fun hg50=>?_) (fun hg50=>?_)
   · refine O 5 ?_;refine zi ⟨rfl,_,_,⟨rfl,rfl⟩,.b hg50⟩
   refine O 5 ?_;refine zi ⟨rfl,_,_,⟨rfl,rfl⟩,.b hg50⟩
 rintro _ _ ⟨rfl,rfl⟩;refine O 1 ?_;refine zH 8 (fun L τ=>L=[(3,.op 1 0 0),(64,.bool ((((decide (1≤a1.fLabel))&&(decide (a1.fLabel≤3)))&&(decide (1≤a1.fType.fKind)))&&(decide (a1.fType.fName=[]))))]∧τ=([.cells 0 (zb a0),.cells 0 (yr a1)]:ze)) ?_ ?_
 · refine yB (b:=(((decide (1≤a1.fLabel))&&(decide (a1.fLabel≤3)))&&(decide (1≤a1.fType.fKind)))) 56 rfl (fun hg56=>?_) (fun hg56=>?_)
   · refine zB U 8 ?_;simp only[go_sem,qd,qf,qb,qe,evEqA,vat,ceq];refine zi ⟨rfl,_,_,⟨rfl,rfl⟩,.b hg56⟩
   refine O 8 ?_;refine zi ⟨rfl,_,_,⟨rfl,rfl⟩,.b hg56⟩
 rintro _ _ ⟨rfl,rfl⟩;refine O 1 ?_;refine zH 5 (fun L τ=>L=[(70,.bool (((((decide (1≤a1.fLabel))&&(decide (a1.fLabel≤3)))&&(decide (1≤a1.fType.fKind)))&&(decide (a1.fType.fName=[])))&&(decide (a1.fType.fKind<6))))]∧τ=([.cells 0 (zb a0),.cells 0 (yr a1)]:ze)) ?_ ?_
 · refine yB (b:=((((decide (1≤a1.fLabel))&&(decide (a1.fLabel≤3)))&&(decide (1≤a1.fType.fKind)))&&(decide (a1.fType.fName=[])))) 65 rfl (fun hg65=>?_) (fun hg65=>?_)
   · refine O 5 ?_;refine zi ⟨rfl,_,_,⟨rfl,rfl⟩,.b hg65⟩
   refine O 5 ?_;refine zi ⟨rfl,_,_,⟨rfl,rfl⟩,.b hg65⟩
 rintro _ _ ⟨rfl,rfl⟩;refine O 1 ?_;refine nkN J ?_;cases h;exact rtA
def wd.l21 (a0:zE)(r2:Bool×List (List UInt8×Bool)):List ZS→Int→List (Int×Bool)→List (List UInt8×Bool)→Option (Int×List (List UInt8×Bool))
 |[],x17,l15,l16=>some (0,r2.2)
 |y21::q21,x17,l15,l16=>(xP l16 y21.fName).bind fun r28=>(if (!r28.1)=true then some (6,r2.2) else bnd (vah y21.fTag) fun r30=>(if ((!r30)||((vak l15 y21.fTag).getD false))=true then some (7,r2.2) else bnd (vai a0 y21) fun r33=>(if (!r33)=true then some (8,r2.2) else ((wd.l21 a0 r2 q21) (x17+1) (setM l15 y21.fTag true) r28.2))))
def wd.l12 (a0:zE)(a2:ya)(r2:Bool×List (List UInt8×Bool)):List Int→Int→List (Int×Bool)→Option (Int×List (List UInt8×Bool))
 |[],x9,l8=>(wd.l21 a0 r2 a2.fFields 0 l8 [])
 |y12::q12,x9,l8=>bnd (vah y12) fun r41=>(if ((!r41)||((vak l8 y12).getD false))=true then some (7,r2.2) else ((wd.l12 a0 a2 r2 q12) (x9+1) (setM l8 y12 true)))
def wd (a0:zE)(a1:List (List UInt8×Bool))(a2:ya):Option (Int×List (List UInt8×Bool)):=
 (xP a1 a2.fName).bind fun r2=>(if (!r2.1)=true then some (6,r2.2) else (if ((decide (16<(qa a2.fFields:Int)))||(decide (32<(qa a2.fReserved:Int))))=true then some (4,r2.2) else (wd.l12 a0 a2 r2 a2.fReserved 0 [])))
theorem wd.ok {a0 a1 a2 r}(h:wd a0 a1 a2=some r):ACalls qg 126 [.agg (zb a0),.mp 0,.agg (zf a2)] [.map (yN AV.str AV.bool a1)] (fun r' σ'=>r'=.int .i64 r.1∧σ'=[.map (yN AV.str AV.bool r.2)]):=by
 refine ZO [0] (rs:=[.tmp 6]) U Tryz.func126 rfl Tryz.ntmps126 rfl Tryz.call126 (by simp) rfl ?_;refine zA [(0,.agg (zb a0)),(1,.mp 0),(2,.agg (zf a2))] ⟨rfl,rfl,rfl,trivial⟩ ?_;unfold wd at h
 refine rg U [1,3,5] fun K J=>?_
 simp only[go_sem,qd,qb,qe,reduceCtorEq,zf,zb];apply J
 refine za fun Z1 hZ1=>?_
 apply zn
 refine rc [3,5,13] fun K J=>?_
 obtain⟨r2,hr2,h⟩:=bind_some h;refine O 3 ?_;refine clN rfl rfl rfl (@id (ACalls qg 128 [.mp 0,.str a2.fName] [.map (yN AV.str AV.bool a1),.cells 0 (zb a0),.cells 0 (zf a2)] (fun r' σ'=>r'=.bool r2.1∧σ'=[.map (yN AV.str AV.bool r2.2),.cells 0 (zb a0),.cells 0 (zf a2)])) ((xP.ok hr2).i [0])) ?_;refine O 2 ?_;refine nkN J ?_;refine zU (b:=(!r2.1)) rfl (fun hc3=>?_) (fun hc3=>?_)
 · rw[if_pos hc3] at h;refine D [6] ?_;apply yk;cases h;simp only[ZJ,yQ,yZ,xQ,exists_eq_left',go_sem,qe];refine⟨by decide,by simp,?_,?_⟩
   · first|rfl|(simp only[go_sem,qd,qf,qb,qe,qj,qm,reduceIte,reduceCtorEq,push_cast,if_true,qz,qo,qq,qn,qF,qs,qK,qI,qv,qu,qt,zz]<;>rfl)
   first|rfl|(simp only[go_sem,push_cast,qn]<;>rfl)
 rw[Zf hc3] at h
 refine rc [3,5,19] fun K J=>?_
 refine O 5 ?_;refine zH 5 (fun L τ=>L=[(3,.op 1 0 0),(5,.op 2 0 0),(29,.bool ((decide (16<(qa a2.fFields:Int)))||(decide (32<(qa a2.fReserved:Int)))))]∧τ=([.map (yN AV.str AV.bool r2.2),.cells 0 (zb a0),.cells 0 (zf a2)]:ze)) ?_ ?_
 · refine wh 24 rfl (fun hg24=>?_) (fun hg24=>?_)
   · have t4:=eq_true hg24;refine O 5 ?_;refine zi ⟨rfl,_,_,⟨rfl,rfl⟩,.p t4⟩
   have t5:=eq_false hg24;refine O 5 ?_;refine zi ⟨rfl,_,_,⟨rfl,rfl⟩,.p t5⟩
 rintro _ _ ⟨rfl,rfl⟩;refine O 1 ?_;refine nkN J ?_;refine zU (b:=((decide (16<(qa a2.fFields:Int)))||(decide (32<(qa a2.fReserved:Int))))) rfl (fun hc6=>?_) (fun hc6=>?_)
 · rw[if_pos hc6] at h;refine D [6] ?_;apply yk;cases h;simp only[ZJ,yQ,yZ,xQ,exists_eq_left',go_sem,qe];refine⟨by decide,by simp,?_,?_⟩
   · first|rfl|(simp only[go_sem,qd,qf,qb,qe,qj,qm,reduceIte,reduceCtorEq,push_cast,if_true,qz,qo,qq,qn,qF,qs,qK,qI,qv,qu,qt,zz]<;>rfl)
   first|rfl|(simp only[go_sem,push_cast,qn]<;>rfl)
 rw[Zf hc6] at h;apply zj;apply hZ1;refine D [3,5,7] ?_;refine Xy 3 rfl (τ:=[.map (yN AV.str AV.bool r2.2),.cells 0 (zb a0),.cells 0 (zf a2),.map (yN (AV.int .i64) AV.bool [])]) rfl ?_;refine yT (L:=[(3,.op 1 0 0),(5,.op 2 0 0),(7,.mp 3)]) (τ:=[.map (yN AV.str AV.bool r2.2),.cells 0 (zb a0),.cells 0 (zf a2),.map (yN (AV.int .i64) AV.bool [])]) .s ?_
 refine za fun Z7 hZ7=>?_
 refine D [3,5,7,32,33,34] ?_;apply zn
 refine xn 32 fun hb12=>?_
 replace hb12:qa a2.fReserved≤9223372036854775807:=hb12.1;refine yh (fun m L τ=>∃ (p12 q12:List Int) (x9:Int) (l8:List (Int×Bool)),m=qa q12∧L=[(3,.op 1 0 0),(5,.op 2 0 0),(7,.mp 3),(32,.ds true (qc wN a2.fReserved) (qa a2.fReserved) false),(33,.int .i64 (qa a2.fReserved:Int)),(34,.int .i64 x9)]∧τ=([.map (yN AV.str AV.bool r2.2),.cells 0 (zb a0),.cells 0 (zf a2),.map (yN (AV.int .i64) AV.bool l8)]:ze)∧a2.fReserved=p12++q12∧x9=(qa p12:Int)∧wd.l12 a0 a2 r2 q12 x9 l8=some r) _ ⟨[],a2.fReserved,0,[],rfl,rfl,rfl,rfl,rfl,h⟩ .s ?_;rintro m L τ ⟨p12,q12,x9,l8,rfl,rfl,rfl,hE12,hi12,h⟩
 rcases q12 with _|⟨y12,q12⟩
 · have hz12:=xC hE12 hi12;simp only[wd.l12] at h
   refine rg U [3,5,7,32,33,34,35] fun K J=>?_
   simp only[go_sem,qd,qb,hz12];apply J
   refine za fun Z13 hZ13=>?_
   refine zG rfl ?_;apply yf;apply hZ7;refine D [3,5,7,10] ?_;refine Xy 4 rfl (τ:=[.map (yN AV.str AV.bool r2.2),.cells 0 (zb a0),.cells 0 (zf a2),.map (yN (AV.int .i64) AV.bool l8),.map (yN AV.str AV.bool [])]) rfl ?_;refine yT (L:=[(3,.op 1 0 0),(5,.op 2 0 0),(7,.mp 3),(10,.mp 4)]) (τ:=[.map (yN AV.str AV.bool r2.2),.cells 0 (zb a0),.cells 0 (zf a2),.map (yN (AV.int .i64) AV.bool l8),.map (yN AV.str AV.bool [])]) .s ?_
   refine za fun Z14 hZ14=>?_
   refine D [3,7,10,51,52,53] ?_;apply zn
   refine xn 51 fun hb21=>?_
   replace hb21:qa a2.fFields≤9223372036854775807:=hb21.1;refine yh (fun m L τ=>∃ (p21 q21:List ZS) (x17:Int) (l15:List (Int×Bool)) (l16:List (List UInt8×Bool)),m=qa q21∧L=[(3,.op 1 0 0),(7,.mp 2),(10,.mp 3),(51,.ds true (qc yr a2.fFields) (qa a2.fFields) false),(52,.int .i64 (qa a2.fFields:Int)),(53,.int .i64 x17)]∧τ=([.map (yN AV.str AV.bool r2.2),.cells 0 (zb a0),.map (yN (AV.int .i64) AV.bool l15),.map (yN AV.str AV.bool l16)]:ze)∧a2.fFields=p21++q21∧x17=(qa p21:Int)∧wd.l21 a0 r2 q21 x17 l15 l16=some r) _ ⟨[],a2.fFields,0,l8,[],rfl,rfl,rfl,rfl,rfl,h⟩ (.t [0,1,3,4] false) ?_;rintro m L τ ⟨p21,q21,x17,l15,l16,rfl,rfl,rfl,hE21,hi21,h⟩
   rcases q21 with _|⟨y21,q21⟩
   · have hz21:=xC hE21 hi21;simp only[wd.l21] at h
     refine rg U [3,7,10,51,52,53,54] fun K J=>?_
     simp only[go_sem,qd,qb,hz21];apply J
     refine za fun Z22 hZ22=>?_
     refine zG rfl ?_;apply yf;apply hZ14;refine D [6] ?_;apply yk;cases h;simp only[ZJ,yQ,yZ,xQ,exists_eq_left',go_sem,qe];refine⟨by decide,by simp,?_,?_⟩
     · first|rfl|(simp only[go_sem,qd,qf,qb,qe,qj,qm,reduceIte,reduceCtorEq,push_cast,if_true,qz,qo,qq,qn,qF,qs,qK,qI,qv,qu,qt,zz]<;>rfl)
     first|rfl|(simp only[go_sem,push_cast,qn]<;>rfl)
   obtain⟨hz21,hw21,hx21,hE'21,hi'21⟩:=yU hE21 hi21 hb21;simp only[wd.l21] at h
   refine rg U [3,7,10,51,52,53,54] fun K J=>?_
   simp only[go_sem,qd,qb,hz21];apply J
   refine za fun Z23 hZ23=>?_
   refine zK rfl ?_;apply zj;apply hZ23
   refine za fun Z24 hZ24=>?_
   apply zn;have f25:=E127.idxS hx21;have f26:=E127.loadS rfl rfl hx21
   refine rg U [3,7,10,12,51,52,53] fun K J=>?_
   simp only[go_sem,qd,qf,qb,qe,yr,f25,f26];apply J
   refine za fun Z27 hZ27=>?_
   apply zn
   refine rc [3,7,10,12,51,52,53,57] fun K J=>?_
   obtain⟨r28,hr28,h⟩:=bind_some h;refine O 3 ?_;refine clN rfl rfl rfl (@id (ACalls qg 128 [.mp 3,.str y21.fName] [.map (yN AV.str AV.bool r2.2),.cells 0 (zb a0),.map (yN (AV.int .i64) AV.bool l15),.map (yN AV.str AV.bool l16),.cells 0 (yr y21)] (fun r' σ'=>r'=.bool r28.1∧σ'=[.map (yN AV.str AV.bool r2.2),.cells 0 (zb a0),.map (yN (AV.int .i64) AV.bool l15),.map (yN AV.str AV.bool r28.2),.cells 0 (yr y21)])) ((xP.ok hr28).i [3])) ?_;refine O 2 ?_;refine nkN J ?_;refine zU (b:=(!r28.1)) rfl (fun hc29=>?_) (fun hc29=>?_)
   · rw[if_pos hc29] at h;refine D [6] ?_;apply yk;cases h;simp only[ZJ,yQ,yZ,xQ,exists_eq_left',go_sem,qe];refine⟨by decide,by simp,?_,?_⟩
     · first|rfl|(simp only[go_sem,qd,qf,qb,qe,qj,qm,reduceIte,reduceCtorEq,push_cast,if_true,qz,qo,qq,qn,qF,qs,qK,qI,qv,qu,qt,zz]<;>rfl)
     first|rfl|(simp only[go_sem,push_cast,qn]<;>rfl)
   rw[Zf hc29] at h
   refine rc [3,7,10,12,51,52,53,63] fun K J=>?_
   obtain⟨r30,hr30,h⟩:=ye h;refine O 2 ?_;refine clN rfl rfl rfl ((vah.ok hr30).c _) ?_;refine O 2 ?_;refine zH 5 (fun L τ=>L=[(3,.op 1 0 0),(7,.mp 2),(10,.mp 3),(12,.op 4 0 0),(51,.ds true (qc yr a2.fFields) (qa a2.fFields) false),(52,.int .i64 (qa a2.fFields:Int)),(53,.int .i64 x17),(73,.bool ((!r30)||((vak l15 y21.fTag).getD false)))]∧τ=([.map (yN AV.str AV.bool r2.2),.cells 0 (zb a0),.map (yN (AV.int .i64) AV.bool l15),.map (yN AV.str AV.bool r28.2),.cells 0 (yr y21)]:ze)) ?_ ?_
   · refine yB (b:=(!r30)) 68 rfl (fun hg68=>?_) (fun hg68=>?_)
     · refine zB U 5 ?_;simp only[go_sem,qd,qb,if_false,if_true];refine zi ⟨rfl,_,_,⟨rfl,rfl⟩,.b hg68⟩
     have f31:=fun (o0:Yy) (o1:Yy) (x:ze)=>va9 (T:=tab) (t:=265) (ek:=(AV.int .i64)) (ev:=AV.bool) (z:=false) (vdL.int rfl rfl rfl rfl) rfl rfl rfl rfl l15 y21.fTag false (o0::o1::.map (yN (AV.int .i64) AV.bool l15)::x) 2 rfl
     refine zB U 5 ?_;simp only[go_sem,qd,qb,qe,vaI,ud,if_false,if_true,f31];refine zi ⟨rfl,_,_,⟨rfl,rfl⟩,.b hg68⟩
   rintro _ _ ⟨rfl,rfl⟩;refine O 1 ?_;refine nkN J ?_;refine zU (b:=((!r30)||((vak l15 y21.fTag).getD false))) rfl (fun hc32=>?_) (fun hc32=>?_)
   · rw[if_pos hc32] at h;refine D [6] ?_;apply yk;cases h;simp only[ZJ,yQ,yZ,xQ,exists_eq_left',go_sem,qe];refine⟨by decide,by simp,?_,?_⟩
     · first|rfl|(simp only[go_sem,qd,qf,qb,qe,qj,qm,reduceIte,reduceCtorEq,push_cast,if_true,qz,qo,qq,qn,qF,qs,qK,qI,qv,qu,qt,zz]<;>rfl)
     first|rfl|(simp only[go_sem,push_cast,qn]<;>rfl)
   rw[Zf hc32] at h
   refine rc [3,7,10,12,51,52,53,74] fun K J=>?_
   obtain⟨r33,hr33,h⟩:=ye h;refine O 2 ?_;refine clN rfl rfl rfl ((vai.ok hr33).c _) ?_;refine O 2 ?_;refine nkN J ?_;refine zU (b:=(!r33)) rfl (fun hc34=>?_) (fun hc34=>?_)
   · rw[if_pos hc34] at h;refine D [6] ?_;apply yk;cases h;simp only[ZJ,yQ,yZ,xQ,exists_eq_left',go_sem,qe];refine⟨by decide,by simp,?_,?_⟩
     · first|rfl|(simp only[go_sem,qd,qf,qb,qe,qj,qm,reduceIte,reduceCtorEq,push_cast,if_true,qz,qo,qq,qn,qF,qs,qK,qI,qv,qu,qt,zz]<;>rfl)
     first|rfl|(simp only[go_sem,push_cast,qn]<;>rfl)
   rw[Zf hc34] at h;apply zj;apply hZ27
   have f35:=fun (o0:Yy) (o1:Yy) (x:ze)=>vcv (T:=tab) (t:=265) (ek:=(AV.int .i64)) (ev:=AV.bool) (vdL.int rfl rfl rfl rfl) rfl rfl l15 y21.fTag true (o0::o1::.map (yN (AV.int .i64) AV.bool l15)::x) 2 rfl
   refine rgE U [3,7,10,51,52,53] fun K J=>?_
   simp only[go_sem,qd,qb,qe,f35];apply J
   apply hZ24
   refine rgE U [3,7,10,51,52,53] fun K J=>?_
   simp only[go_sem,qd,qb,hw21];apply J
   exact⟨_,_,_,qy q21.length,⟨p21++[y21],q21,x17+1,setM l15 y21.fTag true,r28.2,rfl,rfl,rfl,hE'21,hi'21,h⟩,(.t [0,1,2,3] false)⟩
 obtain⟨hz12,hw12,hx12,hE'12,hi'12⟩:=yU hE12 hi12 hb12;simp only[wd.l12] at h
 refine rg U [3,5,7,32,33,34,35] fun K J=>?_
 simp only[go_sem,qd,qb,hz12];apply J
 refine za fun Z36 hZ36=>?_
 refine zK rfl ?_;apply zj;apply hZ36
 refine za fun Z37 hZ37=>?_
 apply zn;have f38:=E26.idxS hx12;have f39:=E26.fldS0 (f:=3) rfl rfl hx12
 refine rg U [3,5,7,9,32,33,34] fun K J=>?_
 simp only[go_sem,qd,qb,wN,f38,f39];apply J
 refine za fun Z40 hZ40=>?_
 refine rc [3,5,7,9,32,33,34,45] fun K J=>?_
 obtain⟨r41,hr41,h⟩:=ye h;refine O 1 ?_;refine clN rfl rfl rfl ((vah.ok hr41).c _) ?_;refine O 2 ?_;refine zH 4 (fun L τ=>L=[(3,.op 1 0 0),(5,.op 2 0 0),(7,.mp 3),(9,.int .i64 y12),(32,.ds true (qc wN a2.fReserved) (qa a2.fReserved) false),(33,.int .i64 (qa a2.fReserved:Int)),(34,.int .i64 x9),(45,.bool ((!r41)||((vak l8 y12).getD false)))]∧τ=([.map (yN AV.str AV.bool r2.2),.cells 0 (zb a0),.cells 0 (zf a2),.map (yN (AV.int .i64) AV.bool l8)]:ze)) ?_ ?_
 · refine yB (b:=(!r41)) 41 rfl (fun hg41=>?_) (fun hg41=>?_)
   · refine zB U 4 ?_;simp only[go_sem,qd,qb,if_false,if_true];refine zi ⟨rfl,_,_,⟨rfl,rfl⟩,.b hg41⟩
   have f42:=fun (o0:Yy) (o1:Yy) (o2:Yy) (x:ze)=>va9 (T:=tab) (t:=265) (ek:=(AV.int .i64)) (ev:=AV.bool) (z:=false) (vdL.int rfl rfl rfl rfl) rfl rfl rfl rfl l8 y12 false (o0::o1::o2::.map (yN (AV.int .i64) AV.bool l8)::x) 3 rfl
   refine zB U 4 ?_;simp only[go_sem,qd,qb,vaI,ud,if_false,if_true,f42];refine zi ⟨rfl,_,_,⟨rfl,rfl⟩,.b hg41⟩
 rintro _ _ ⟨rfl,rfl⟩;refine nkN J ?_;refine zU (b:=((!r41)||((vak l8 y12).getD false))) rfl (fun hc43=>?_) (fun hc43=>?_)
 · rw[if_pos hc43] at h;refine D [6] ?_;apply yk;cases h;simp only[ZJ,yQ,yZ,xQ,exists_eq_left',go_sem,qe];refine⟨by decide,by simp,?_,?_⟩
   · first|rfl|(simp only[go_sem,qd,qf,qb,qe,qj,qm,reduceIte,reduceCtorEq,push_cast,if_true,qz,qo,qq,qn,qF,qs,qK,qI,qv,qu,qt,zz]<;>rfl)
   first|rfl|(simp only[go_sem,push_cast,qn]<;>rfl)
 rw[Zf hc43] at h;apply zj;apply hZ40
 have f44:=fun (o0:Yy) (o1:Yy) (o2:Yy) (x:ze)=>vcv (T:=tab) (t:=265) (ek:=(AV.int .i64)) (ev:=AV.bool) (vdL.int rfl rfl rfl rfl) rfl rfl l8 y12 true (o0::o1::o2::.map (yN (AV.int .i64) AV.bool l8)::x) 3 rfl
 refine rgE U [3,5,7,32,33,34] fun K J=>?_
 simp only[go_sem,qd,qb,f44];apply J
 apply hZ37
 refine rgE U [3,5,7,32,33,34] fun K J=>?_
 simp only[go_sem,qd,qb,hw12];apply J
 exact⟨_,_,_,qy q12.length,⟨p12++[y12],q12,x9+1,setM l8 y12 true,rfl,rfl,rfl,hE'12,hi'12,h⟩,.s⟩
end
end Go.Proofs.YtaahlckibpiphaaGreatDoor
