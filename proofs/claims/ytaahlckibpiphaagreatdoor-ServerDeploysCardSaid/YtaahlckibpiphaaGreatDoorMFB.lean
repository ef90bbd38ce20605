/- Parts of the proof, cut down to what it needs. -/
import Derived.Test.YtaahlckibpiphaaGreatDoorMU
import Derived.Shelf.Spec.SlicesInsert
import Derived.Lib.AppendZerosOnto
set_option linter.constructorNameAsVariable false
set_option linter.unusedSimpArgs false
set_option linter.unusedVariables false
namespace Go.Proofs.YtaahlckibpiphaaGreatDoor
open _root_.List renaming length → qg, flatMap → qh, length_append → qk, length_cons → qp, drop_zero → qq, map_nil → qr, map_append → qs, map_cons → qt, append_assoc → qu, length_nil → qz, append_nil → qB, flatMap_cons → qC, flatMap_append → qD, nil_append → qE, cons_append → qF, flatMap_nil → qG, getD_eq_getElem?_getD → qL, range_zero → qN, length_eq_zero_iff → qP, all_cons → qS, replicate → qT, mem_cons_of_mem → qU, all_nil → qV, mem_cons_self → qX, range_succ → qY, getElem?_append_left → qZ, getElem?_set_ne → q3, mem_cons → q5, eq_nil_of_length_eq_zero → ub, take_length → uc, getElem?_eq_getElem → ud, all_eq_true → uf, length_map → uj, getElem?_append_right → un, getElem?_set_self → uq, take_append_drop → ut, getElem?_eq_none → uu, mem_map → ux, set_cons_zero → uA, getElem?_cons_zero → uB, range → uG, set_cons_succ → uL, mem_append → uP, mem_append_left → uT
open _root_.Option renaming bind_some → qj
open _root_.Nat renaming reduceEqDiff → qa, reduceLeDiff → qb, reduceAdd → qc, reduceMul → qd, reduceLT → qe, reduceSub → qf, zero_add → ql, lt_succ_self → qH, le_refl → qI, zero_le → qW, reduceMod → q1, lt_of_lt_of_le → ug, mul_le_mul_right → uh, zero_mul → um, add_assoc → uv, sub_self → uI, add_zero → uJ, sub_zero → uO
open _root_.Bool renaming not_false → qn, and_true → qo, or_true → qv, not_true → qw, and_false → qx, or_false → qy, and_self → qJ, false_eq_true → q2, true_and → ui, true_or → uE, false_or → uM
open _root_.Int renaming toNat → qQ, toNat_natCast → ul
open _root_.BitVec renaming ofInt → qM, toNat → ur


open Result renaming andThen_ok → qm
open Sem renaming run_bind → qA, run_pure → qO
open _root_.Go.Proofs.Tryz renaming prog → qi
section
set_option maxRecDepth 4000
set_option maxHeartbeats 1000000
open AM
def vaB (a0:List UInt8)(a1:Int):Option (Int×Int×Bool):=
 (if ((decide (a1<0))||(decide ((qg a0:Int)≤a1)))=true then some (0,0,false) else (grd ((0:Int)≤a1∧a1≤(qg a0:Int)∧(qg a0:Int)≤(qg a0:Int))).bind fun _u5=>bnd (vaT (vcG a0 a1 (qg a0:Int))) fun r7=>(if ((decide (r7.1=65533))&&(decide (r7.2<2)))=true then some (0,0,false) else some (r7.1,r7.2,true)))
theorem vaB.ok {a0 a1 r}(h:vaB a0 a1=some r):ACalls qi 224 [.str a0,.int .i64 a1] [] (fun r' _=>r'=.tup [.int .i32 r.1,.int .i64 r.2.1,.bool r.2.2]):=by
 refine zw (rs:=[.tmp 4,.tmp 5,.tmp 6]) tok Tryz.func224 rfl Tryz.ntmps224 rfl Tryz.call224 (by simp) ?_;refine zC [(0,.str a0),(1,.int .i64 a1)] ⟨rfl,rfl,trivial⟩ ?_;unfold vaB at h;refine rgN [0,1] ?_
 refine ze fun Z1 hZ1=>?_
 refine rc [0,1,16] fun K hK=>?_
 refine rnN 3 ?_;refine zI 5 (fun L τ=>L=[(0,.str a0),(1,.int .i64 a1),(16,.bool ((decide (a1<0))||(decide ((qg a0:Int)≤a1))))]∧τ=([]:zi)) ?_ ?_
 · refine wr 11 rfl (fun hg11=>?_) (fun hg11=>?_)
   · have t2:=eq_true hg11;refine rnN 5 ?_;refine zm ⟨rfl,_,_,⟨rfl,rfl⟩,.p t2⟩
   have t3:=eq_false hg11;refine rnN 5 ?_;refine zm ⟨rfl,_,_,⟨rfl,rfl⟩,.p t3⟩
 rintro _ _ ⟨rfl,rfl⟩;refine nkN hK ?_;refine zY (b:=((decide (a1<0))||(decide ((qg a0:Int)≤a1)))) rfl (fun hc4=>?_) (fun hc4=>?_)
 · rw[if_pos hc4] at h;refine rgN [4,5,6] ?_;cases h;exact rtA
 rw[Zg hc4] at h;apply zp;apply hZ1
 refine rc [7,8] fun K hK=>?_
 obtain⟨_u5,hu5,h⟩:=bind_some h;have gu5:=Yh hu5;have f6:=str_lo (T:=tab) (t:=9) rfl rfl gu5;obtain⟨r7,hr7,h⟩:=yi h;refine zd tok 3 ?_;simp only[go_sem,qe,qa,reduceCtorEq,f6];refine clN rfl rfl rfl (vaT.ev (vcG a0 a1 (qg a0:Int)) r7 hr7 _) ?_;refine rnN 5 ?_;refine nkN hK ?_
 refine ze fun Z8 hZ8=>?_
 refine rc [7,8,29] fun K hK=>?_
 refine rnN 3 ?_;refine zI 3 (fun L τ=>L=[(7,.int .i32 r7.1),(8,.int .i64 r7.2),(29,.bool ((decide (r7.1=65533))&&(decide (r7.2<2))))]∧τ=([]:zi)) ?_ ?_
 · refine wr 26 rfl (fun hg26=>?_) (fun hg26=>?_)
   · have t9:=eq_true hg26;refine rnN 3 ?_;refine zm ⟨rfl,_,_,⟨rfl,rfl⟩,.p t9⟩
   have t10:=eq_false hg26;refine rnN 3 ?_;refine zm ⟨rfl,_,_,⟨rfl,rfl⟩,.p t10⟩
 rintro _ _ ⟨rfl,rfl⟩;refine nkN hK ?_;refine zY (b:=((decide (r7.1=65533))&&(decide (r7.2<2)))) rfl (fun hc11=>?_) (fun hc11=>?_)
 · rw[if_pos hc11] at h;refine rgN [4,5,6] ?_;cases h;exact rtA
 rw[Zg hc11] at h;apply zp;apply hZ8;refine rgN [4,5,6] ?_;cases h;exact rtA
def wX.l4 (a0:List UInt8):Nat→Nat→Option Bool
 |0,_=>none
 |k4+1,p2=>(if p2<qg a0 then (if ((decU a0 p2).1:Int)=65533 then (vaB a0 ((p2:Nat):Int)).bind fun r12=>(if (!r12.2.2)=true then some false else ((wX.l4 a0 k4) (p2+(decU a0 p2).2))) else ((wX.l4 a0 k4) (p2+(decU a0 p2).2))) else some true)
def wX (a0:List UInt8):Option Bool:=
 (wX.l4 a0 xG 0)
theorem wX.ok {a0 r}(h:wX a0=some r):ACalls qi 184 [.str a0] [] (fun r' _=>r'=.bool r):=by
 refine zw (rs:=[.tmp 2]) tok Tryz.func184 rfl Tryz.ntmps184 rfl Tryz.call184 (by simp) ?_;refine zC [(0,.str a0)] ⟨rfl,trivial⟩ ?_;unfold wX at h;refine rgN [0] ?_
 refine ze fun Z1 hZ1=>?_
 refine rgN [0,9] ?_;apply zt;refine yh (fun m L τ=>∃ (k4:Nat) (p2:Nat),m=0+k4∧L=[(0,.str a0),(9,.it 0)]∧τ=([.iter a0 p2]:zi)∧wX.l4 a0 k4 p2=some r) _ ⟨xG,0,rfl,rfl,rfl,h⟩ .s ?_;rintro m L τ ⟨k4,p2,rfl,rfl,rfl,h⟩
 rcases k4 with _|k4
 · cases h
 simp only[wX.l4] at h
 by_cases hn5:p2<qg a0
 · rw[if_pos hn5] at h;have t6:=eq_true hn5
   refine rg tok [0,9,10,11] fun K hK=>?_
   simp only[go_sem,qe,qa,qc,reduceCtorEq,vcd,if_true,if_false,t6];apply hK
   refine ze fun Z7 hZ7=>?_
   refine zQ rfl ?_;apply zp;apply hZ7;apply zt;refine rgN [0,3,4,9] ?_
   refine ze fun Z8 hZ8=>?_
   refine rgN [0,3,9,15] ?_;refine yn rfl (fun hc9=>?_) (fun hc9=>?_)
   · rw[if_neg hc9] at h;have t10:=eq_false hc9;apply ye;exact⟨_,_,_,qH (0+k4),⟨k4,p2+(decU a0 p2).2,rfl,rfl,rfl,h⟩,.s⟩
   rw[if_pos hc9] at h;have t11:=eq_true hc9;apply zp;apply hZ8
   refine rc [0,7,9] fun K hK=>?_
   obtain⟨r12,hr12,h⟩:=bind_some h;refine zd tok 2 ?_;simp only[go_sem,qe,qa,reduceCtorEq,t11];refine clN rfl rfl rfl ((vaB.ok hr12).c _) ?_;refine rnN 7 ?_;refine nkN hK ?_;refine rgN [0,9,24] ?_;refine zY (b:=(!r12.2.2)) rfl (fun hc13=>?_) (fun hc13=>?_)
   · rw[if_pos hc13] at h;refine rgN [2] ?_;cases h;exact rtA
   rw[Zg hc13] at h;apply zp;exact⟨_,_,_,qH (0+k4),⟨k4,p2+(decU a0 p2).2,rfl,rfl,rfl,h⟩,.s⟩
 rw[if_neg hn5] at h;have t14:=eq_false hn5
 refine rg tok [0,9,10,11] fun K hK=>?_
 simp only[go_sem,qe,qa,reduceCtorEq,vcd,if_true,if_false,t14];apply hK
 refine ze fun Z15 hZ15=>?_
 refine zK rfl ?_;apply ye;apply hZ1;refine rgN [2] ?_;cases h;exact rtA
def yy.l4 (a1:List UInt8):List yN→Int→yN×Bool
 |[],x2=>((⟨[],([]:List ZT),([]:List Int)⟩:yN),false)
 |y4::q4,x2=>(if y4.fName=a1 then (y4,true) else ((yy.l4 a1 q4) (x2+1)))
def yy (a0:zP)(a1:List UInt8):yN×Bool:=
 (yy.l4 a1 a0.fMessages 0)
theorem yy.ok {a0 a1 r}(h:yy a0 a1=r):ACalls qi 92 [.agg (zb a0),.str a1] [] (fun r' _=>r'=.tup [.agg (zf r.1),.bool r.2]):=by
 refine zw (rs:=[.cell 4 129,.tmp 5]) tok Tryz.func92 rfl Tryz.ntmps92 rfl Tryz.call92 (by simp) ?_;refine zC [(0,.agg (zb a0)),(1,.str a1)] ⟨rfl,rfl,trivial⟩ ?_;unfold yy at h
 refine rg tok [1,2,4] fun K hK=>?_
 simp only[go_sem,qe,qa,qc,reduceCtorEq,zb];apply hK
 refine ze fun Z1 hZ1=>?_
 refine rgN [1,4,9,10,11] ?_;apply zt
 refine xv 9 fun hb4=>?_
 replace hb4:qg a0.fMessages≤9223372036854775807:=hb4.1;refine yh (fun m L τ=>∃ (p4 q4:List yN) (x2:Int),m=qg q4∧L=[(1,.str a1),(4,.op 0 0 0),(9,.ds true (qh zf a0.fMessages) (qg a0.fMessages) false),(10,.int .i64 (qg a0.fMessages:Int)),(11,.int .i64 x2)]∧τ=([.cells 0 [.str [],.ds true [] 0 true,.ds true [] 0 true]]:zi)∧a0.fMessages=p4++q4∧x2=(qg p4:Int)∧yy.l4 a1 q4 x2=r) _ ⟨[],a0.fMessages,0,rfl,rfl,rfl,rfl,rfl,h⟩ (.t [1] false) ?_;rintro m L τ ⟨p4,q4,x2,rfl,rfl,rfl,hE4,hi4,h⟩
 rcases q4 with _|⟨y4,q4⟩
 · have hz4:=xE hE4 hi4;simp only[yy.l4] at h
   refine rg tok [1,4,9,10,11,12] fun K hK=>?_
   simp only[go_sem,qe,qa,hz4];apply hK
   refine ze fun Z5 hZ5=>?_
   refine zK rfl ?_;apply ye;apply hZ1;refine rgN [4,5] ?_;cases h;exact rtA
 obtain⟨hz4,hw4,hx4,hE'4,hi'4⟩:=yZ hE4 hi4 hb4;simp only[yy.l4] at h
 refine rg tok [1,4,9,10,11,12] fun K hK=>?_
 simp only[go_sem,qe,qa,hz4];apply hK
 refine ze fun Z6 hZ6=>?_
 refine zQ rfl ?_;apply zp;apply hZ6
 refine ze fun Z7 hZ7=>?_
 apply zt;have f8:=E27.idxS hx4;have f9:=E27.loadS rfl rfl hx4
 refine rg tok [1,4,7,9,10,11] fun K hK=>?_
 simp only[go_sem,qe,qb,qa,qc,zf,f8,f9];apply hK
 refine rgN [1,4,7,9,10,11,18] ?_;refine yn rfl (fun hc10=>?_) (fun hc10=>?_)
 · rw[if_pos hc10] at h;have t11:=eq_true hc10
   refine rg tok [4,5] fun K hK=>?_
   simp only[go_sem,qe,qb,qa,qc,t11];apply hK
   cases h;exact rtA
 rw[if_neg hc10] at h;have t12:=eq_false hc10;apply zp;apply hZ7
 refine rgE tok [1,4,9,10,11] fun K hK=>?_
 simp only[go_sem,qe,qa,hw4,t12];apply hK
 exact⟨_,_,_,qH q4.length,⟨p4++[y4],q4,x2+1,rfl,rfl,rfl,hE'4,hi'4,h⟩,(.t [0] false)⟩
def wy.l4 (a1:Int):List ZT→Int→ZT×Bool
 |[],x2=>((⟨[],0,0,(⟨0,[]⟩:vam)⟩:ZT),false)
 |y4::q4,x2=>(if y4.fTag=a1 then (y4,true) else ((wy.l4 a1 q4) (x2+1)))
def wy (a0:yN)(a1:Int):ZT×Bool:=
 (wy.l4 a1 a0.fFields 0)
theorem wy.ok {a0 a1 r}(h:wy a0 a1=r):ACalls qi 141 [.agg (zf a0),.int .i64 a1] [] (fun r' _=>r'=.tup [.agg (yc r.1),.bool r.2]):=by
 refine zw (rs:=[.cell 4 126,.tmp 5]) tok Tryz.func141 rfl Tryz.ntmps141 rfl Tryz.call141 (by simp) ?_;refine zC [(0,.agg (zf a0)),(1,.int .i64 a1)] ⟨rfl,rfl,trivial⟩ ?_;unfold wy at h
 refine rg tok [1,2,4] fun K hK=>?_
 simp only[go_sem,qe,qa,qc,reduceCtorEq,zf];apply hK
 refine ze fun Z1 hZ1=>?_
 refine rgN [1,4,9,10,11] ?_;apply zt
 refine xv 9 fun hb4=>?_
 replace hb4:qg a0.fFields≤9223372036854775807:=hb4.1;refine yh (fun m L τ=>∃ (p4 q4:List ZT) (x2:Int),m=qg q4∧L=[(1,.int .i64 a1),(4,.op 0 0 0),(9,.ds true (qh yc a0.fFields) (qg a0.fFields) false),(10,.int .i64 (qg a0.fFields:Int)),(11,.int .i64 x2)]∧τ=([.cells 0 [.str [],.int .i64 0,.int .i64 0,.int .i64 0,.str []]]:zi)∧a0.fFields=p4++q4∧x2=(qg p4:Int)∧wy.l4 a1 q4 x2=r) _ ⟨[],a0.fFields,0,rfl,rfl,rfl,rfl,rfl,h⟩ (.t [1] false) ?_;rintro m L τ ⟨p4,q4,x2,rfl,rfl,rfl,hE4,hi4,h⟩
 rcases q4 with _|⟨y4,q4⟩
 · have hz4:=xE hE4 hi4;simp only[wy.l4] at h
   refine rg tok [1,4,9,10,11,12] fun K hK=>?_
   simp only[go_sem,qe,qa,hz4];apply hK
   refine ze fun Z5 hZ5=>?_
   refine zK rfl ?_;apply ye;apply hZ1;refine rgN [4,5] ?_;cases h;exact rtA
 obtain⟨hz4,hw4,hx4,hE'4,hi'4⟩:=yZ hE4 hi4 hb4;simp only[wy.l4] at h
 refine rg tok [1,4,9,10,11,12] fun K hK=>?_
 simp only[go_sem,qe,qa,hz4];apply hK
 refine ze fun Z6 hZ6=>?_
 refine zQ rfl ?_;apply zp;apply hZ6
 refine ze fun Z7 hZ7=>?_
 apply zt;have f8:=E127.idxS hx4;have f9:=E127.loadS rfl rfl hx4
 refine rg tok [1,4,7,9,10,11] fun K hK=>?_
 simp only[go_sem,qe,qb,qa,qc,yc,f8,f9];apply hK
 refine rgN [1,4,7,9,10,11,18] ?_;refine yn rfl (fun hc10=>?_) (fun hc10=>?_)
 · rw[if_pos hc10] at h;have t11:=eq_true hc10
   refine rg tok [4,5] fun K hK=>?_
   simp only[go_sem,qe,qb,qa,qc,t11];apply hK
   cases h;exact rtA
 rw[if_neg hc10] at h;have t12:=eq_false hc10;apply zp;apply hZ7
 refine rgE tok [1,4,9,10,11] fun K hK=>?_
 simp only[go_sem,qe,qa,hw4,t12];apply hK
 exact⟨_,_,_,qH q4.length,⟨p4++[y4],q4,x2+1,rfl,rfl,rfl,hE'4,hi'4,h⟩,(.t [0] false)⟩
def Yu (a0:vam)(a1:Int):Bool:=
 (if a0.fKind=1 then ((decide ((-2147483648)≤a1))&&(decide (a1≤2147483647))) else (if a0.fKind=3 then ((decide (a1=0))||(decide (a1=1))) else (if a0.fKind=6 then ((decide (0≤a1))&&(decide (a1≤2147483647))) else decide (a0.fKind=2))))
theorem Yu.ok {a0 a1 r}(h:Yu a0 a1=r):ACalls qi 183 [.agg (xB a0),.int .i64 a1] [] (fun r' _=>r'=.bool r):=by
 refine zw (rs:=[.tmp 4]) tok Tryz.func183 rfl Tryz.ntmps183 rfl Tryz.call183 (by simp) ?_;refine zC [(0,.agg (xB a0)),(1,.int .i64 a1)] ⟨rfl,rfl,trivial⟩ ?_;unfold Yu at h
 refine rg tok [1,2] fun K hK=>?_
 simp only[go_sem,qe,qa,qc,reduceCtorEq,xB];apply hK
 refine ze fun Z1 hZ1=>?_
 refine rgN [1,2,6] ?_;apply zt;refine rgN [1,2,6,7] ?_;refine yn rfl (fun hc2=>?_) (fun hc2=>?_)
 · rw[if_pos hc2] at h;have t3:=eq_true hc2
   refine rc [4] fun K hK=>?_
   refine zd tok 3 ?_;simp only[go_sem,qe,qa,t3];refine zI 3 (fun L τ=>L=[(14,.bool ((decide ((-2147483648)≤a1))&&(decide (a1≤2147483647))))]∧τ=([.cells 0 [.int .i64 a0.fKind,.str a0.fName]]:zi)) ?_ ?_
   · refine wr 11 rfl (fun hg11=>?_) (fun hg11=>?_)
     · have t4:=eq_true hg11;refine rnN 3 ?_;refine zm ⟨rfl,_,_,⟨rfl,rfl⟩,.p t4⟩
     have t5:=eq_false hg11;refine rnN 3 ?_;refine zm ⟨rfl,_,_,⟨rfl,rfl⟩,.p t5⟩
   rintro _ _ ⟨rfl,rfl⟩;refine rnN 1 ?_;refine nkN hK ?_;cases h;exact rtA
 rw[if_neg hc2] at h;have t6:=eq_false hc2
 refine rg tok [1,2,6,15] fun K hK=>?_
 simp only[go_sem,qe,qa,t6];apply hK
 refine yn rfl (fun hc7=>?_) (fun hc7=>?_)
 · rw[if_pos hc7] at h;have t8:=eq_true hc7
   refine rc [4] fun K hK=>?_
   refine zd tok 3 ?_;simp only[go_sem,qe,qa,t8];refine zI 3 (fun L τ=>L=[(22,.bool ((decide (a1=0))||(decide (a1=1))))]∧τ=([.cells 0 [.int .i64 a0.fKind,.str a0.fName]]:zi)) ?_ ?_
   · refine wr 19 rfl (fun hg19=>?_) (fun hg19=>?_)
     · have t9:=eq_true hg19;refine rnN 3 ?_;refine zm ⟨rfl,_,_,⟨rfl,rfl⟩,.p t9⟩
     have t10:=eq_false hg19;refine rnN 3 ?_;refine zm ⟨rfl,_,_,⟨rfl,rfl⟩,.p t10⟩
   rintro _ _ ⟨rfl,rfl⟩;refine rnN 1 ?_;refine nkN hK ?_;cases h;exact rtA
 rw[if_neg hc7] at h;have t11:=eq_false hc7
 refine rg tok [1,2,23] fun K hK=>?_
 simp only[go_sem,qe,qa,t11];apply hK
 refine yn rfl (fun hc12=>?_) (fun hc12=>?_)
 · rw[if_pos hc12] at h;have t13:=eq_true hc12
   refine rc [4] fun K hK=>?_
   refine zd tok 3 ?_;simp only[go_sem,qe,qa,t13];refine zI 3 (fun L τ=>L=[(30,.bool ((decide (0≤a1))&&(decide (a1≤2147483647))))]∧τ=([.cells 0 [.int .i64 a0.fKind,.str a0.fName]]:zi)) ?_ ?_
   · refine wr 27 rfl (fun hg27=>?_) (fun hg27=>?_)
     · have t14:=eq_true hg27;refine rnN 3 ?_;refine zm ⟨rfl,_,_,⟨rfl,rfl⟩,.p t14⟩
     have t15:=eq_false hg27;refine rnN 3 ?_;refine zm ⟨rfl,_,_,⟨rfl,rfl⟩,.p t15⟩
   rintro _ _ ⟨rfl,rfl⟩;refine rnN 1 ?_;refine nkN hK ?_;cases h;exact rtA
 rw[if_neg hc12] at h;have t16:=eq_false hc12;apply zp;apply hZ1
 refine rg tok [4] fun K hK=>?_
 simp only[go_sem,qe,qa,qc,t16];apply hK
 cases h;exact rtA
def YH (a0:zq):Bool:=
 ((((((decide (1≤a0.fKind))&&(decide (a0.fKind≤3)))&&(decide (a0.fN=0)))&&(decide (a0.fS=[])))&&(decide ((qg a0.fEntries:Int)=0)))&&(decide ((qg a0.fRest:Int)=0)))
theorem YH.ok {a0 r}(h:YH a0=r):ACalls qi 143 [.agg (za a0)] [] (fun r' _=>r'=.bool r):=by
 refine zw (rs:=[.tmp 2]) tok Tryz.func143 rfl Tryz.ntmps143 rfl Tryz.call143 (by simp) ?_;refine zC [(0,.agg (za a0))] ⟨rfl,trivial⟩ ?_;unfold YH at h
 refine rg tok [1] fun K hK=>?_
 simp only[go_sem,qe,qa,qc,reduceCtorEq,za];apply hK
 refine rc [2] fun K hK=>?_
 refine rnN 4 ?_;refine zI 4 (fun L τ=>L=[(1,.op 0 0 0),(10,.bool ((decide (1≤a0.fKind))&&(decide (a0.fKind≤3))))]∧τ=([.cells 0 (za a0)]:zi)) ?_ ?_
 · refine wr 6 rfl (fun hg6=>?_) (fun hg6=>?_)
   · have t1:=eq_true hg6;refine rnN 4 ?_;refine zm ⟨rfl,_,_,⟨rfl,rfl⟩,.p t1⟩
   have t2:=eq_false hg6;refine rnN 4 ?_;refine zm ⟨rfl,_,_,⟨rfl,rfl⟩,.p t2⟩
 rintro _ _ ⟨rfl,rfl⟩;refine rnN 1 ?_;refine zI 4 (fun L τ=>L=[(1,.op 0 0 0),(15,.bool (((decide (1≤a0.fKind))&&(decide (a0.fKind≤3)))&&(decide (a0.fN=0))))]∧τ=([.cells 0 (za a0)]:zi)) ?_ ?_
 · refine yz (b:=((decide (1≤a0.fKind))&&(decide (a0.fKind≤3)))) 11 rfl (fun hg11=>?_) (fun hg11=>?_)
   · refine rnN 4 ?_;refine zm ⟨rfl,_,_,⟨rfl,rfl⟩,.b hg11⟩
   refine rnN 4 ?_;refine zm ⟨rfl,_,_,⟨rfl,rfl⟩,.b hg11⟩
 rintro _ _ ⟨rfl,rfl⟩;refine rnN 1 ?_;refine zI 4 (fun L τ=>L=[(1,.op 0 0 0),(20,.bool ((((decide (1≤a0.fKind))&&(decide (a0.fKind≤3)))&&(decide (a0.fN=0)))&&(decide (a0.fS=[]))))]∧τ=([.cells 0 (za a0)]:zi)) ?_ ?_
 · refine yz (b:=(((decide (1≤a0.fKind))&&(decide (a0.fKind≤3)))&&(decide (a0.fN=0)))) 16 rfl (fun hg16=>?_) (fun hg16=>?_)
   · refine rnN 4 ?_;refine zm ⟨rfl,_,_,⟨rfl,rfl⟩,.b hg16⟩
   refine rnN 4 ?_;refine zm ⟨rfl,_,_,⟨rfl,rfl⟩,.b hg16⟩
 rintro _ _ ⟨rfl,rfl⟩;refine rnN 1 ?_;refine zI 5 (fun L τ=>L=[(1,.op 0 0 0),(26,.bool (((((decide (1≤a0.fKind))&&(decide (a0.fKind≤3)))&&(decide (a0.fN=0)))&&(decide (a0.fS=[])))&&(decide ((qg a0.fEntries:Int)=0))))]∧τ=([.cells 0 (za a0)]:zi)) ?_ ?_
 · refine yz (b:=((((decide (1≤a0.fKind))&&(decide (a0.fKind≤3)))&&(decide (a0.fN=0)))&&(decide (a0.fS=[])))) 21 rfl (fun hg21=>?_) (fun hg21=>?_)
   · refine rnN 5 ?_;refine zm ⟨rfl,_,_,⟨rfl,rfl⟩,.b hg21⟩
   refine rnN 5 ?_;refine zm ⟨rfl,_,_,⟨rfl,rfl⟩,.b hg21⟩
 rintro _ _ ⟨rfl,rfl⟩;refine rnN 1 ?_;refine zI 5 (fun L τ=>L=[(32,.bool ((((((decide (1≤a0.fKind))&&(decide (a0.fKind≤3)))&&(decide (a0.fN=0)))&&(decide (a0.fS=[])))&&(decide ((qg a0.fEntries:Int)=0)))&&(decide ((qg a0.fRest:Int)=0))))]∧τ=([.cells 0 (za a0)]:zi)) ?_ ?_
 · refine yz (b:=(((((decide (1≤a0.fKind))&&(decide (a0.fKind≤3)))&&(decide (a0.fN=0)))&&(decide (a0.fS=[])))&&(decide ((qg a0.fEntries:Int)=0)))) 27 rfl (fun hg27=>?_) (fun hg27=>?_)
   · refine rnN 5 ?_;refine zm ⟨rfl,_,_,⟨rfl,rfl⟩,.b hg27⟩
   refine rnN 5 ?_;refine zm ⟨rfl,_,_,⟨rfl,rfl⟩,.b hg27⟩
 rintro _ _ ⟨rfl,rfl⟩;refine rnN 1 ?_;refine nkN hK ?_;cases h;exact rtA
def yD.j20 (x5:Int)(l4:List yo)(rec8:Int→List yo→Option (List yo))(y8:yo)(x15:Int)(rec17:Int→Option (List yo))(x19:Bool):Option (List yo):=
 (if x19=true then (rec17 (IntKind.i64.wrap (x15-1))) else (grd ((0:Int)≤IntKind.i64.wrap (x15+1)∧IntKind.i64.wrap (x15+1)≤x5+1∧x5+1≤(qg l4:Int))).bind fun _u22=>(grd ((0:Int)≤x15∧x15≤x5∧x5≤(qg l4:Int))).bind fun _u24=>(YN (vbJ l4 (qQ (IntKind.i64.wrap (x15+1))) (qQ x15) (min (qQ x5-qQ x15) (qQ (x5+1)-qQ (IntKind.i64.wrap (x15+1))))) x15).bind fun y28=>(rec8 (x5+1) (setI (vbJ l4 (qQ (IntKind.i64.wrap (x15+1))) (qQ x15) (min (qQ x5-qQ x15) (qQ (x5+1)-qQ (IntKind.i64.wrap (x15+1))))) x15 y8)))
def yD.l17 (x5:Int)(l4:List yo)(rec8:Int→List yo→Option (List yo))(y8:yo):Nat→Int→Option (List yo)
 |0,_=>none
 |k17+1,x15=>(if 0<x15 then (YN l4 (IntKind.i64.wrap (x15-1))).bind fun y33=>(yD.j20 x5 l4 rec8 y8 x15 (yD.l17 x5 l4 rec8 y8 k17) (decide (y8.fTag<y33.fTag))) else (yD.j20 x5 l4 rec8 y8 x15 (yD.l17 x5 l4 rec8 y8 k17) false))
def yD.l8 : List yo→Int→List yo→Option (List yo)
 |[],x5,l4=>some l4
 |y8::q8,x5,l4=>(yD.l17 x5 l4 (yD.l8 q8) y8 xG x5)
def yD (a0:List yo):Option (List yo):=
 (grd ((0:Int)≤(qg a0:Int)∧(40:Int)*(qg a0:Int)≤281474976710656∧(qg a0:Int)<9223372036854775807)).bind fun _u1=>(yD.l8 a0 0 (qT (qQ (qg a0:Int)) ((⟨0,0,0,[]⟩:yo):yo)))
theorem yD.ok {a0 r}(h:yD a0=some r):ACalls qi 190 [.ds true (qh zu a0) (qg a0) false] [] (fun r' _=>r'=.ds true (qh zu r) (qg r) false):=by
 refine zw (rs:=[.tmp 2]) tok Tryz.func190 rfl Tryz.ntmps190 rfl Tryz.call190 (by simp) ?_;refine zC [(0,.ds true (qh zu a0) (qg a0) false)] ⟨rfl,trivial⟩ ?_;unfold yD at h;refine rgN [0] ?_;obtain⟨_u1,hu1,h⟩:=bind_some h;have gu1:=Yh hu1;have f2:=E35.mk0 rfl (z:=((⟨0,0,0,[]⟩:yo):yo)) rfl rfl gu1 .i64 .i64
 refine rg tok [0,3] fun K hK=>?_
 simp only[go_sem,qe,qa,reduceCtorEq,f2];apply hK
 refine y5 (L:=[(0,.ds true (qh zu a0) (qg a0) false),(3,.os true 4 0 0 0 (qg (qT (qQ (qg a0:Int)) ((⟨0,0,0,[]⟩:yo):yo))) true)]) (τ:=[.cells 0 (qh zu (qT (qQ (qg a0:Int)) ((⟨0,0,0,[]⟩:yo):yo)))]) .s ?_
 refine ze fun Z3 hZ3=>?_
 refine rgN [3,10,11,12] ?_;apply zt
 refine xv 10 fun hb8=>?_
 replace hb8:qg a0≤9223372036854775807:=hb8.1;refine yh (fun m L τ=>∃ (p8 q8:List yo) (x5:Int) (l4:List yo),m=qg q8∧L=[(3,.os true 4 0 0 0 (qg l4) true),(10,.ds true (qh zu a0) (qg a0) false),(11,.int .i64 (qg a0:Int)),(12,.int .i64 x5)]∧τ=([.cells 0 (qh zu l4)]:zi)∧a0=p8++q8∧x5=(qg p8:Int)∧yD.l8 q8 x5 l4=some r) _ ⟨[],a0,0,qT (qQ (qg a0:Int)) ((⟨0,0,0,[]⟩:yo):yo),rfl,rfl,rfl,rfl,rfl,h⟩ .s ?_;rintro m L τ ⟨p8,q8,x5,l4,rfl,rfl,rfl,hE8,hi8,h⟩
 rcases q8 with _|⟨y8,q8⟩
 · have hz8:=xE hE8 hi8;simp only[yD.l8] at h
   refine rg tok [3,10,11,12,13] fun K hK=>?_
   simp only[go_sem,qe,qa,hz8];apply hK
   refine ze fun Z9 hZ9=>?_
   refine zK rfl ?_;apply ye;apply hZ3;refine rgN [2] ?_;cases h;exact rtA
 obtain⟨hz8,hw8,hx8,hE'8,hi'8⟩:=yZ hE8 hi8 hb8;simp only[yD.l8] at h
 refine rg tok [3,10,11,12,13] fun K hK=>?_
 simp only[go_sem,qe,qa,hz8];apply hK
 refine ze fun Z10 hZ10=>?_
 refine zQ rfl ?_;apply zp;apply hZ10
 refine ze fun Z11 hZ11=>?_
 apply zt;have f12:=E35.idxS hx8;have f13:=E35.loadS rfl rfl hx8
 refine rg tok [3,4,5,10,11,12] fun K hK=>?_
 simp only[go_sem,qe,qb,qa,qc,zu,f12,f13];apply hK
 refine rgN [3,4,5,6,10,11,12] ?_
 refine ze fun Z14 hZ14=>?_
 apply zt;refine yh (fun m L τ=>∃ (k17:Nat) (x15:Int),m=0+k17∧L=[(3,.os true 4 0 0 0 (qg l4) true),(4,.int .i64 x5),(5,.op 1 0 0),(6,.int .i64 x15),(10,.ds true (qh zu a0) (qg a0) false),(11,.int .i64 (qg a0:Int)),(12,.int .i64 x5)]∧τ=([.cells 0 (qh zu l4),.cells 0 [.int .i64 y8.fTag,.int .i64 y8.fWire,.int .i64 y8.fN,.str y8.fB]]:zi)∧yD.l17 x5 l4 (yD.l8 q8) y8 k17 x15=some r) _ ⟨xG,x5,rfl,rfl,rfl,h⟩ .s ?_;rintro m L τ ⟨k17,x15,rfl,rfl,rfl,h⟩
 rcases k17 with _|k17
 · cases h
 simp only[yD.l17] at h
 refine ze fun Z18 hZ18=>?_
 refine xV (fun L τ=>∃ (x19:Bool),L=[(3,.os true 4 0 0 0 (qg l4) true),(4,.int .i64 x5),(5,.op 1 0 0),(6,.int .i64 x15),(10,.ds true (qh zu a0) (qg a0) false),(11,.int .i64 (qg a0:Int)),(12,.int .i64 x5),(30,.bool x19)]∧τ=([.cells 0 (qh zu l4),.cells 0 [.int .i64 y8.fTag,.int .i64 y8.fWire,.int .i64 y8.fN,.str y8.fB]]:zi)∧yD.j20 x5 l4 (yD.l8 q8) y8 x15 (yD.l17 x5 l4 (yD.l8 q8) y8 k17) x19=some r) ?_ ?_
 · refine rdE [3,4,5,6,10,11,12,30] fun K hK=>?_
   refine DW.start (T:=tab) [.any,.any,.any,.any,.any,.any,.any,.any,.at [],.any,.at [],.any,.any] [] ?_;refine DW.runN tok 3 ?_;simp only[go_sem,qe,qa]
   refine DW.if 20 rfl (fun hg20=>?_) (fun hg20=>?_)
   · rw[if_pos hg20] at h;have t32:=eq_true hg20;obtain⟨y33,hy33,h⟩:=bind_some h;have f34:=E35.idxO hy33;have f35:=E35.rdfO0 hy33;refine DW.runN tok 8 ?_;simp only[go_sem,qe,qa,qc,zu,t32,f34,f35];refine DW.runN tok 2 ?_;simp only[go_sem,qe,qa];refine DW.fin tok (by decide +kernel) rfl ?_;simp only[zG,upd,qa,reduceIte,xl,xU];apply hK
     exact⟨_,_,⟨decide (y8.fTag<y33.fTag),rfl,rfl,h⟩,.s⟩
   rw[if_neg hg20] at h;have t36:=eq_false hg20;refine DW.runN tok 8 ?_;simp only[go_sem,qe,qa,t36];refine DW.runN tok 2 ?_;simp only[go_sem,qe,qa];refine DW.fin tok (by decide +kernel) rfl ?_;simp only[zG,upd,qa,reduceIte,xl,xU];apply hK
   exact⟨_,_,⟨false,rfl,rfl,h⟩,.s⟩
 rintro _ _ ⟨x19,rfl,rfl,h⟩;unfold yD.j20 at h;refine zY (b:=x19) rfl (fun hc21=>?_) (fun hc21=>?_)
 · rw[if_pos hc21] at h;apply zp;apply hZ18;apply zt
   refine rgE tok [3,4,5,6,10,11,12] fun K hK=>?_
   simp only[go_sem,qe,qa];apply hK
   exact⟨_,_,_,qH (0+k17),⟨k17,IntKind.i64.wrap (x15-1),rfl,rfl,rfl,h⟩,.s⟩
 rw[Zg hc21] at h;apply ye;apply hZ14;obtain⟨_u22,hu22,h⟩:=bind_some h;have gu22:=Yh hu22
 have f23:=fun id ver=>E35.slO gu22 .i64 .i64 id ver true
 obtain⟨_u24,hu24,h⟩:=bind_some h;have gu24:=Yh hu24
 have f25:=fun id ver=>E35.slO gu24 .i64 .i64 id ver true
 have f26:=fun (τ:zi) (t1 t2:Bool)=>E35.cpO vay.h gu22 gu24 t1 t2 (.cells 0 (qh zu l4)::τ) 0 0 (by simp only[zi.at_hd,if_true]) rfl
 have f27:qg (vbJ l4 (qQ (IntKind.i64.wrap (x15+1))) (qQ x15) (min (qQ x5-qQ x15) (qQ (x5+1)-qQ (IntKind.i64.wrap (x15+1)))))=qg l4:=copyI_length (by omega) (by omega)
 refine rd [3,5,6,10,11,12] fun K hK=>?_
 refine DW.start (T:=tab) [.any,.any,.any,.any,.any,.any,.any,.any,.any,.any,.eff] [] ?_;refine DW.runN tok 8 ?_;simp only[go_sem,qe,qa,hw8,f23];refine DW.runN tok 3 ?_;simp only[go_sem,qe,qa,f25,f26];refine DW.fin tok (by decide +kernel) rfl ?_;simp only[zG,upd,qa,reduceIte,xl,xU];apply hK
 refine y5 (L:=[(3,.os true 4 0 0 0 (qg (vbJ l4 (qQ (IntKind.i64.wrap (x15+1))) (qQ x15) (min (qQ x5-qQ x15) (qQ (x5+1)-qQ (IntKind.i64.wrap (x15+1)))))) true),(5,.op 1 0 0),(6,.int .i64 x15),(10,.ds true (qh zu a0) (qg a0) false),(11,.int .i64 (qg a0:Int)),(12,.int .i64 x5)]) (τ:=[.cells 0 (qh zu (vbJ l4 (qQ (IntKind.i64.wrap (x15+1))) (qQ x15) (min (qQ x5-qQ x15) (qQ (x5+1)-qQ (IntKind.i64.wrap (x15+1)))))),.cells 0 [.int .i64 y8.fTag,.int .i64 y8.fWire,.int .i64 y8.fN,.str y8.fB]]) (.same (by first|exact⟨rfl,rfl,rfl,rfl,rfl,rfl,trivial⟩|rfl|(simp only[go_sem,qa,vcM,f27,and_self]<;>rfl)) (by first|exact⟨rfl,rfl,rfl,rfl,rfl,rfl,trivial⟩|rfl|(simp only[go_sem,qe,qb,qa,qc,qd,qf,reduceIte,reduceCtorEq,vcM,Zh,wH,encS,encK,zW,qD,qC,qG,qB,qE,qk,qp,qz,ql,qu,qF,uv,zu,f27,and_self]<;>rfl))) ?_;obtain⟨y28,hy28,h⟩:=bind_some h;have f29:=E35.idxO hy28;have f30:=E35.stOc hy28;have f31:=E35.stOr hy28 (y:=y8) (cs:=[.int .i64 y8.fTag,.int .i64 y8.fWire,.int .i64 y8.fN,.str y8.fB]) rfl;simp only[wn] at f31
 refine rgE tok [3,10,11,12] fun K hK=>?_
 simp only[go_sem,qe,qb,qa,qc,f29,f30,f31];apply hK
 apply hZ11
 refine rgE tok [3,10,11,12] fun K hK=>?_
 simp only[go_sem,qe,qa,hw8];apply hK
 exact⟨_,_,_,qH q8.length,⟨p8++[y8],q8,x5+1,setI (vbJ l4 (qQ (IntKind.i64.wrap (x15+1))) (qQ x15) (min (qQ x5-qQ x15) (qQ (x5+1)-qQ (IntKind.i64.wrap (x15+1))))) x15 y8,rfl,rfl,rfl,hE'8,hi'8,h⟩,(.t [0] false)⟩
def YG.l12 (a1:Int):List UInt8→Int→Int→Option (Int×Int×Int)
 |[],x9,x8=>some (0,0,2)
 |y12::q12,x9,x8=>(if ((decide (x9=9))&&(decide (1<(y12.toNat:Int))))=true then some (0,0,3) else (grd (0≤IntKind.i64.wrap (7*x9))).bind fun _u23=>(if 128≤(y12.toNat:Int) then ((YG.l12 a1 q12) (x9+1) (IntKind.u64.wrap ((ur (qM 64 x8 ||| qM 64 (IntKind.u64.wrap ((IntKind.u64.wrap (IntKind.u8.wrap ((ur (qM 8 (y12.toNat:Int) &&& ~~~(qM 8 128)):Nat):Int)))*2^(min (qQ (IntKind.i64.wrap (7*x9))) 64)))):Nat):Int))) else (if ((decide ((y12.toNat:Int)=0))&&(decide (0<x9)))=true then some (0,0,3) else some (IntKind.u64.wrap ((ur (qM 64 x8 ||| qM 64 (IntKind.u64.wrap ((IntKind.u64.wrap (IntKind.u8.wrap ((ur (qM 8 (y12.toNat:Int) &&& ~~~(qM 8 128)):Nat):Int)))*2^(min (qQ (IntKind.i64.wrap (7*x9))) 64)))):Nat):Int),IntKind.i64.wrap ((IntKind.i64.wrap (a1+x9))+1),0))))
def YG (a0:List UInt8)(a1:Int):Option (Int×Int×Int):=
 (if ((decide (a1<0))||(decide ((qg a0:Int)<a1)))=true then some (0,0,1) else (grd ((0:Int)≤a1∧a1≤IntKind.i64.wrap (a1+(if 10<IntKind.i64.wrap ((qg a0:Int)-a1) then 10 else IntKind.i64.wrap ((qg a0:Int)-a1)))∧IntKind.i64.wrap (a1+(if 10<IntKind.i64.wrap ((qg a0:Int)-a1) then 10 else IntKind.i64.wrap ((qg a0:Int)-a1)))≤(qg a0:Int))).bind fun _u6=>(YG.l12 a1 (vcG a0 a1 (IntKind.i64.wrap (a1+(if 10<IntKind.i64.wrap ((qg a0:Int)-a1) then 10 else IntKind.i64.wrap ((qg a0:Int)-a1))))) 0 0))
theorem YG.ok {a0 a1 r}(h:YG a0 a1=some r):ACalls qi 245 [.ds true (qh Zh a0) (qg a0) false,.int .i64 a1] [] (fun r' _=>r'=.tup [.int .u64 r.1,.int .i64 r.2.1,.int .i64 r.2.2]):=by
 refine zw (rs:=[.tmp 4,.tmp 5,.tmp 6]) tok Tryz.func245 rfl Tryz.ntmps245 rfl Tryz.call245 (by simp) ?_;refine zC [(0,.ds true (qh Zh a0) (qg a0) false),(1,.int .i64 a1)] ⟨rfl,rfl,trivial⟩ ?_;unfold YG at h;refine rgN [0,1] ?_
 refine ze fun Z1 hZ1=>?_
 refine rc [0,1,17] fun K hK=>?_
 refine rnN 3 ?_;refine zI 5 (fun L τ=>L=[(0,.ds true (qh Zh a0) (qg a0) false),(1,.int .i64 a1),(17,.bool ((decide (a1<0))||(decide ((qg a0:Int)<a1))))]∧τ=([]:zi)) ?_ ?_
 · refine wr 12 rfl (fun hg12=>?_) (fun hg12=>?_)
   · have t2:=eq_true hg12;refine rnN 5 ?_;refine zm ⟨rfl,_,_,⟨rfl,rfl⟩,.p t2⟩
   have t3:=eq_false hg12;refine rnN 5 ?_;refine zm ⟨rfl,_,_,⟨rfl,rfl⟩,.p t3⟩
 rintro _ _ ⟨rfl,rfl⟩;refine nkN hK ?_;refine zY (b:=((decide (a1<0))||(decide ((qg a0:Int)<a1)))) rfl (fun hc4=>?_) (fun hc4=>?_)
 · rw[if_pos hc4] at h;refine rgN [4,5,6] ?_;cases h;exact rtA
 rw[Zg hc4] at h;apply zp;apply hZ1;refine rgN [0,1,7] ?_
 refine ze fun Z5 hZ5=>?_
 obtain⟨_u6,hu6,h⟩:=bind_some h;have gu6:=Yh hu6;have f7:=E48.sl_lh gu6
 refine rg tok [1,7,27,28,29] fun K hK=>?_
 simp only[go_sem,qe,qa,reduceCtorEq,vbt,vdz,vce,f7];apply hK
 apply zt
 refine xv 27 fun hb12=>?_
 replace hb12:qg (vcG a0 a1 (IntKind.i64.wrap (a1+(if 10<IntKind.i64.wrap ((qg a0:Int)-a1) then 10 else IntKind.i64.wrap ((qg a0:Int)-a1)))))≤9223372036854775807:=hb12.1;refine yh (fun m L τ=>∃ (p12 q12:List UInt8) (x9:Int) (x8:Int),m=qg q12∧L=[(1,.int .i64 a1),(7,.int .u64 x8),(27,.ds true (qh Zh (vcG a0 a1 (IntKind.i64.wrap (a1+(if 10<IntKind.i64.wrap ((qg a0:Int)-a1) then 10 else IntKind.i64.wrap ((qg a0:Int)-a1)))))) (qg (vcG a0 a1 (IntKind.i64.wrap (a1+(if 10<IntKind.i64.wrap ((qg a0:Int)-a1) then 10 else IntKind.i64.wrap ((qg a0:Int)-a1)))))) false),(28,.int .i64 (qg (vcG a0 a1 (IntKind.i64.wrap (a1+(if 10<IntKind.i64.wrap ((qg a0:Int)-a1) then 10 else IntKind.i64.wrap ((qg a0:Int)-a1))))):Int)),(29,.int .i64 x9)]∧τ=([]:zi)∧vcG a0 a1 (IntKind.i64.wrap (a1+(if 10<IntKind.i64.wrap ((qg a0:Int)-a1) then 10 else IntKind.i64.wrap ((qg a0:Int)-a1))))=p12++q12∧x9=(qg p12:Int)∧YG.l12 a1 q12 x9 x8=some r) _ ⟨[],vcG a0 a1 (IntKind.i64.wrap (a1+(if 10<IntKind.i64.wrap ((qg a0:Int)-a1) then 10 else IntKind.i64.wrap ((qg a0:Int)-a1)))),0,0,rfl,rfl,rfl,rfl,rfl,h⟩ .s ?_;rintro m L τ ⟨p12,q12,x9,x8,rfl,rfl,rfl,hE12,hi12,h⟩
 rcases q12 with _|⟨y12,q12⟩
 · have hz12:=xE hE12 hi12;simp only[YG.l12] at h
   refine rg tok [1,7,27,28,29,30] fun K hK=>?_
   simp only[go_sem,qe,qa,hz12];apply hK
   refine ze fun Z13 hZ13=>?_
   refine zK rfl ?_;apply ye;apply hZ5;refine rgN [4,5,6] ?_;cases h;exact rtA
 obtain⟨hz12,hw12,hx12,hE'12,hi'12⟩:=yZ hE12 hi12 hb12;simp only[YG.l12] at h
 refine rg tok [1,7,27,28,29,30] fun K hK=>?_
 simp only[go_sem,qe,qa,hz12];apply hK
 refine ze fun Z14 hZ14=>?_
 refine zQ rfl ?_;apply zp;apply hZ14
 refine ze fun Z15 hZ15=>?_
 apply zt;have f16:=E48.idxS hx12;have f17:=E48.fldS0 (f:=5) rfl rfl hx12
 refine rg tok [1,7,8,9,27,28,29] fun K hK=>?_
 simp only[go_sem,qe,qa,Zh,f16,f17];apply hK
 refine ze fun Z18 hZ18=>?_
 refine rc [1,7,8,9,27,28,29,39] fun K hK=>?_
 refine rnN 3 ?_;refine zI 3 (fun L τ=>L=[(1,.int .i64 a1),(7,.int .u64 x8),(8,.int .i64 x9),(9,.int .u8 (y12.toNat:Int)),(27,.ds true (qh Zh (vcG a0 a1 (IntKind.i64.wrap (a1+(if 10<IntKind.i64.wrap ((qg a0:Int)-a1) then 10 else IntKind.i64.wrap ((qg a0:Int)-a1)))))) (qg (vcG a0 a1 (IntKind.i64.wrap (a1+(if 10<IntKind.i64.wrap ((qg a0:Int)-a1) then 10 else IntKind.i64.wrap ((qg a0:Int)-a1)))))) false),(28,.int .i64 (qg (vcG a0 a1 (IntKind.i64.wrap (a1+(if 10<IntKind.i64.wrap ((qg a0:Int)-a1) then 10 else IntKind.i64.wrap ((qg a0:Int)-a1))))):Int)),(29,.int .i64 x9),(39,.bool ((decide (x9=9))&&(decide (1<(y12.toNat:Int)))))]∧τ=([]:zi)) ?_ ?_
 · refine wr 36 rfl (fun hg36=>?_) (fun hg36=>?_)
   · have t19:=eq_true hg36;refine rnN 3 ?_;refine zm ⟨rfl,_,_,⟨rfl,rfl⟩,.p t19⟩
   have t20:=eq_false hg36;refine rnN 3 ?_;refine zm ⟨rfl,_,_,⟨rfl,rfl⟩,.p t20⟩
 rintro _ _ ⟨rfl,rfl⟩;refine nkN hK ?_;refine zY (b:=((decide (x9=9))&&(decide (1<(y12.toNat:Int))))) rfl (fun hc21=>?_) (fun hc21=>?_)
 · rw[if_pos hc21] at h;refine rgN [4,5,6] ?_;cases h;exact rtA
 rw[Zg hc21] at h;apply zp;apply hZ18;have f22:=Zc (T:=tab) (src:=5) (dst:=287) rfl rfl rfl;obtain⟨_u23,hu23,h⟩:=bind_some h;have gu23:=Yh hu23;have gu23n:(IntKind.i64.wrap (7*x9)<0)=False:=eq_false (by omega)
 refine rg tok [1,7,8,9,27,28,29] fun K hK=>?_
 simp only[go_sem,qe,qa,f22,gu23n,vaw];apply hK
 refine ze fun Z24 hZ24=>?_
 refine rgN [1,7,8,9,27,28,29,49] ?_;refine yn rfl (fun hc25=>?_) (fun hc25=>?_)
 · rw[if_pos hc25] at h;have t26:=eq_true hc25;apply ye;apply hZ15
   refine rgE tok [1,7,27,28,29] fun K hK=>?_
   simp only[go_sem,qe,qa,hw12,t26];apply hK
   exact⟨_,_,_,qH q12.length,⟨p12++[y12],q12,x9+1,IntKind.u64.wrap ((ur (qM 64 x8 ||| qM 64 (IntKind.u64.wrap ((IntKind.u64.wrap (IntKind.u8.wrap ((ur (qM 8 (y12.toNat:Int) &&& ~~~(qM 8 128)):Nat):Int)))*2^(min (qQ (IntKind.i64.wrap (7*x9))) 64)))):Nat):Int),rfl,rfl,rfl,hE'12,hi'12,h⟩,.s⟩
 rw[if_neg hc25] at h;have t27:=eq_false hc25;apply zp;apply hZ24
 refine ze fun Z28 hZ28=>?_
 refine rc [1,7,8,55] fun K hK=>?_
 refine zd tok 3 ?_;simp only[go_sem,qe,qa,t27];refine zI 3 (fun L τ=>L=[(1,.int .i64 a1),(7,.int .u64 (IntKind.u64.wrap ((ur (qM 64 x8 ||| qM 64 (IntKind.u64.wrap ((IntKind.u64.wrap (IntKind.u8.wrap ((ur (qM 8 (y12.toNat:Int) &&& ~~~(qM 8 128)):Nat):Int)))*2^(min (qQ (IntKind.i64.wrap (7*x9))) 64)))):Nat):Int))),(8,.int .i64 x9),(55,.bool ((decide ((y12.toNat:Int)=0))&&(decide (0<x9))))]∧τ=([]:zi)) ?_ ?_
 · refine wr 52 rfl (fun hg52=>?_) (fun hg52=>?_)
   · have t29:=eq_true hg52;refine rnN 3 ?_;refine zm ⟨rfl,_,_,⟨rfl,rfl⟩,.p t29⟩
   have t30:=eq_false hg52;refine rnN 3 ?_;refine zm ⟨rfl,_,_,⟨rfl,rfl⟩,.p t30⟩
 rintro _ _ ⟨rfl,rfl⟩;refine nkN hK ?_;refine zY (b:=((decide ((y12.toNat:Int)=0))&&(decide (0<x9)))) rfl (fun hc31=>?_) (fun hc31=>?_)
 · rw[if_pos hc31] at h;refine rgN [4,5,6] ?_;cases h;exact rtA
 rw[Zg hc31] at h;apply zp;apply hZ28;refine rgN [4,5,6] ?_;cases h;exact rtA
def vb3 (a0:Int):Int:=
 IntKind.i64.wrap ((ur (qM 64 (IntKind.i64.wrap (Int.fdiv a0 (2^(min (qQ 1) 64)))) ^^^ qM 64 (IntKind.i64.wrap (0-(IntKind.i64.wrap (IntKind.u64.wrap ((ur (qM 64 a0 &&& qM 64 1):Nat):Int)))))):Nat):Int)
theorem vb3.ok {a0 r}(h:vb3 a0=r):ACalls qi 246 [.int .u64 a0] [] (fun r' _=>r'=.int .i64 r):=by
 refine zw (rs:=[.tmp 2]) tok Tryz.func246 rfl Tryz.ntmps246 rfl Tryz.call246 (by simp) ?_;refine zC [(0,.int .u64 a0)] ⟨rfl,trivial⟩ ?_;unfold vb3 at h;refine rgN [0] ?_;have f1:=Zc (T:=tab) (src:=287) (dst:=3) rfl rfl rfl;have f2:=Zc (T:=tab) (src:=287) (dst:=3) rfl rfl rfl
 refine rg tok [2] fun K hK=>?_
 simp only[go_sem,qe,qa,reduceCtorEq,f1,vaw,Int.reduceLT];apply hK
 cases h;exact rtA
def vb2 (a0:List UInt8)(a1:Int):Option (yo×Int×Int):=
 (YG a0 a1).bind fun r1=>(if r1.2.2=0 then (if ((decide (r1.1<2))||(decide (500<IntKind.u64.wrap ((r1.1).tdiv 2))))=true then some ((⟨0,0,0,[]⟩:yo),0,7) else (YG a0 r1.2.1).bind fun r11=>(if r11.2.2=0 then (if IntKind.i64.wrap ((r1.1).tmod 2)=0 then bnd (vb3 r11.1) fun r18=>some ((⟨IntKind.i64.wrap (IntKind.u64.wrap ((r1.1).tdiv 2)),IntKind.i64.wrap ((r1.1).tmod 2),r18,[]⟩:yo),r11.2.1,0) else (if IntKind.u64.wrap (IntKind.i64.wrap ((qg a0:Int)-r11.2.1))<r11.1 then some ((⟨0,0,0,[]⟩:yo),0,2) else (grd ((0:Int)≤r11.2.1∧r11.2.1≤IntKind.i64.wrap (r11.2.1+(IntKind.i64.wrap r11.1))∧IntKind.i64.wrap (r11.2.1+(IntKind.i64.wrap r11.1))≤(qg a0:Int))).bind fun _u25=>some ((⟨IntKind.i64.wrap (IntKind.u64.wrap ((r1.1).tdiv 2)),IntKind.i64.wrap ((r1.1).tmod 2),0,vcG a0 r11.2.1 (IntKind.i64.wrap (r11.2.1+(IntKind.i64.wrap r11.1)))⟩:yo),IntKind.i64.wrap (r11.2.1+(IntKind.i64.wrap r11.1)),0))) else some ((⟨0,0,0,[]⟩:yo),0,r11.2.2))) else some ((⟨0,0,0,[]⟩:yo),0,r1.2.2))
theorem vb2.ok {a0 a1 r}(h:vb2 a0 a1=some r):ACalls qi 231 [.ds true (qh Zh a0) (qg a0) false,.int .i64 a1] [] (fun r' _=>r'=.tup [.agg (zu r.1),.int .i64 r.2.1,.int .i64 r.2.2]):=by
 refine zw (rs:=[.cell 4 139,.tmp 5,.tmp 6]) tok Tryz.func231 rfl Tryz.ntmps231 rfl Tryz.call231 (by simp) ?_;refine zC [(0,.ds true (qh Zh a0) (qg a0) false),(1,.int .i64 a1)] ⟨rfl,rfl,trivial⟩ ?_;unfold vb2 at h;refine rgN [0,1,4] ?_
 refine rc [0,1,4,7,8] fun K hK=>?_
 obtain⟨r1,hr1,h⟩:=bind_some h;refine rnN 2 ?_;refine clN rfl rfl rfl ((YG.ok hr1).c _) ?_;refine rnN 7 ?_;refine nkN hK ?_
 refine ze fun Z2 hZ2=>?_
 apply zt;refine rgN [0,1,4,7,8,19] ?_;refine yn rfl (fun hc3=>?_) (fun hc3=>?_)
 · rw[if_neg hc3] at h;have t4:=eq_false hc3
   refine rg tok [4,5,6] fun K hK=>?_
   simp only[go_sem,qe,qb,qa,qc,reduceCtorEq,t4];apply hK
   cases h;exact rtA
 rw[if_pos hc3] at h;have t5:=eq_true hc3
 refine rc [0,1,4,7,24] fun K hK=>?_
 refine zd tok 3 ?_;simp only[go_sem,qe,qa,reduceCtorEq,t5];refine zI 4 (fun L τ=>L=[(0,.ds true (qh Zh a0) (qg a0) false),(1,.int .i64 r1.2.1),(4,.op 0 0 0),(7,.int .u64 r1.1),(31,.bool ((decide (r1.1<2))||(decide (500<IntKind.u64.wrap ((r1.1).tdiv 2)))))]∧τ=([.cells 0 [.int .i64 0,.int .i64 0,.int .i64 0,.str []]]:zi)) ?_ ?_
 · refine wr 27 rfl (fun hg27=>?_) (fun hg27=>?_)
   · have t6:=eq_true hg27;refine rnN 4 ?_;refine zm ⟨rfl,_,_,⟨rfl,rfl⟩,.p t6⟩
   have t7:=eq_false hg27;refine zd tok 4 ?_;simp only[go_sem,qe,qa,reduceCtorEq,Int.reduceEq];refine zm ⟨rfl,_,_,⟨rfl,rfl⟩,.p t7⟩
 rintro _ _ ⟨rfl,rfl⟩;refine rnN 1 ?_;refine nkN hK ?_;refine zY (b:=((decide (r1.1<2))||(decide (500<IntKind.u64.wrap ((r1.1).tdiv 2))))) rfl (fun hc8=>?_) (fun hc8=>?_)
 · rw[if_pos hc8] at h;refine rgN [4,5,6] ?_;cases h;exact rtA
 rw[Zg hc8] at h;apply zp;apply hZ2;have f9:=Zc (T:=tab) (src:=287) (dst:=3) rfl rfl rfl;have f10:=Zc (T:=tab) (src:=287) (dst:=3) rfl rfl rfl
 refine rg tok [0,1,4,9] fun K hK=>?_
 simp only[go_sem,qe,qb,qa,qc,reduceCtorEq,f9,Int.reduceEq];apply hK
 refine rc [0,1,4,8,9,10] fun K hK=>?_
 obtain⟨r11,hr11,h⟩:=bind_some h;refine rnN 2 ?_;refine clN rfl rfl rfl ((YG.ok hr11).c _) ?_;refine rnN 7 ?_;refine nkN hK ?_
 refine ze fun Z12 hZ12=>?_
 apply zt;refine rgN [0,1,4,8,9,10,47] ?_;refine yn rfl (fun hc13=>?_) (fun hc13=>?_)
 · rw[if_neg hc13] at h;have t14:=eq_false hc13
   refine rg tok [4,5,6] fun K hK=>?_
   simp only[go_sem,qe,qb,qa,qc,reduceCtorEq,t14];apply hK
   cases h;exact rtA
 rw[if_pos hc13] at h;have t15:=eq_true hc13
 refine rg tok [0,1,4,9,10,52] fun K hK=>?_
 simp only[go_sem,qe,qa,qc,reduceCtorEq,t15];apply hK
 refine yn rfl (fun hc16=>?_) (fun hc16=>?_)
 · rw[if_pos hc16] at h;have t17:=eq_true hc16
   refine rc [1,4,9] fun K hK=>?_
   obtain⟨r18,hr18,h⟩:=yi h;refine zd tok 1 ?_;simp only[go_sem,qe,qa,reduceCtorEq,t17];refine clN rfl rfl rfl ((vb3.ok hr18).c _) ?_;refine zd tok 2 ?_;simp only[go_sem,qe,qb,qa,qc,reduceCtorEq,zu];refine nkN hK ?_;refine rgN [4,5,6] ?_;cases h;exact rtA
 rw[if_neg hc16] at h;have t19:=eq_false hc16;have f20:=Zc (T:=tab) (src:=3) (dst:=287) rfl rfl rfl
 refine rg tok [0,1,4,9,10,61] fun K hK=>?_
 simp only[go_sem,qe,qa,reduceCtorEq,t19,f20];apply hK
 refine yn rfl (fun hc21=>?_) (fun hc21=>?_)
 · rw[if_pos hc21] at h;have t22:=eq_true hc21
   refine rg tok [4,5,6] fun K hK=>?_
   simp only[go_sem,qe,qb,qa,qc,reduceCtorEq,t22];apply hK
   cases h;exact rtA
 rw[if_neg hc21] at h;have t23:=eq_false hc21;apply zp;apply hZ12;have f24:=Zc (T:=tab) (src:=287) (dst:=3) rfl rfl rfl
 refine rg tok [0,1,4,9,11] fun K hK=>?_
 simp only[go_sem,qe,qa,reduceCtorEq,t23,f24];apply hK
 obtain⟨_u25,hu25,h⟩:=bind_some h;have gu25:=Yh hu25;have f26:=E48.sl_lh gu25;have f27:=vcl (T:=tab) (src:=48) (dst:=9) rfl rfl rfl rfl rfl rfl (vcG a0 r11.2.1 (IntKind.i64.wrap (r11.2.1+(IntKind.i64.wrap r11.1))))
 refine rg tok [4,9,11] fun K hK=>?_
 simp only[go_sem,qe,qb,qa,qc,reduceCtorEq,f26,f27];apply hK
 refine rgN [4,5,6] ?_;cases h;exact rtA
def Y5.l12 (a0:List UInt8):Nat→List yo→Int→Option (List yo×Int)
 |0,_,_=>none
 |k12+1,l6,x8=>(if x8<(qg a0:Int) then (vb2 a0 x8).bind fun r16=>(if r16.2.2=0 then (vai (qg l6+1) 40).bind fun _u21=>((Y5.l12 a0 k12) (l6++[r16.1]) r16.2.1) else some (([]:List yo),r16.2.2)) else some (l6,0))
def Y5 (a0:List UInt8):Option (List yo×Int):=
 (if 4096<(qg a0:Int) then some (([]:List yo),4) else (Y5.l12 a0 xG ([]:List yo) 0))
theorem Y5.ok {a0 r}(h:Y5 a0=some r):ACalls qi 193 [.ds true (qh Zh a0) (qg a0) false] [] (fun r' _=>r'=.tup [.ds true (qh zu r.1) (qg r.1) false,.int .i64 r.2]):=by
 refine zw (rs:=[.tmp 2,.tmp 3]) tok Tryz.func193 rfl Tryz.ntmps193 rfl Tryz.call193 (by simp) ?_;refine zC [(0,.ds true (qh Zh a0) (qg a0) false)] ⟨rfl,trivial⟩ ?_;unfold Y5 at h;refine rgN [0] ?_
 refine ze fun Z1 hZ1=>?_
 refine rgN [0,11] ?_;refine yn rfl (fun hc2=>?_) (fun hc2=>?_)
 · rw[if_pos hc2] at h;have t3:=eq_true hc2
   refine rg tok [2,3] fun K hK=>?_
   simp only[go_sem,qe,qa,reduceCtorEq,t3];apply hK
   cases h;exact rtA
 rw[if_neg hc2] at h;have t4:=eq_false hc2;apply zp;apply hZ1
 refine rg tok [0,4] fun K hK=>?_
 simp only[go_sem,qe,qa,reduceCtorEq,t4];apply hK
 refine YR 4 4 rfl ?_;refine y5 (L:=[(0,.ds true (qh Zh a0) (qg a0) false),(4,.os true 4 0 0 0 (qg ([]:List yo)) false)]) (τ:=[.cells 0 (qh zu ([]:List yo))]) .s ?_
 refine ze fun Z5 hZ5=>?_
 refine rgN [0,4,5] ?_;apply zt;refine yh (fun m L τ=>∃ (k12:Nat) (l6:List yo) (x8:Int) (v7:Nat),m=0+k12∧L=[(0,.ds true (qh Zh a0) (qg a0) false),(4,.os true 4 0 v7 0 (qg l6) false),(5,.int .i64 x8)]∧τ=([.cells v7 (qh zu l6)]:zi)∧Y5.l12 a0 k12 l6 x8=some r) _ ⟨xG,([]:List yo),0,0,rfl,rfl,rfl,h⟩ .s ?_;rintro m L τ ⟨k12,l6,x8,v7,rfl,rfl,rfl,h⟩
 rcases k12 with _|k12
 · cases h
 simp only[Y5.l12] at h
 refine ze fun Z13 hZ13=>?_
 refine rgN [0,4,5,15] ?_;refine yn rfl (fun hc14=>?_) (fun hc14=>?_)
 · rw[if_pos hc14] at h;have t15:=eq_true hc14;apply zp;apply hZ13;apply zt
   refine rc [0,4,6,7,8] fun K hK=>?_
   obtain⟨r16,hr16,h⟩:=bind_some h;refine zd tok 2 ?_;simp only[go_sem,qe,qa,reduceCtorEq,t15];refine clN rfl rfl rfl ((vb2.ok hr16).c _) ?_;refine zd tok 8 ?_;simp only[go_sem,qe,qb,qa,qc,reduceCtorEq,zu];refine nkN hK ?_
   refine ze fun Z17 hZ17=>?_
   refine rgN [0,4,6,7,8,24] ?_;refine yn rfl (fun hc18=>?_) (fun hc18=>?_)
   · rw[if_neg hc18] at h;have t19:=eq_false hc18
     refine rg tok [2,3] fun K hK=>?_
     simp only[go_sem,qe,qa,reduceCtorEq,t19];apply hK
     cases h;exact rtA
   rw[if_pos hc18] at h;have t20:=eq_true hc18;apply zp;apply hZ17;obtain⟨_u21,hu21,h⟩:=bind_some h;have gu21:=xh hu21;have f22:=(zX E35.len l6)
   refine rg tok [0,4,7] fun K hK=>?_
   simp only[go_sem,qe,qb,qa,qc,qd,reduceCtorEq,zU,yA,qY,qN,true_and,q1,yR,yp,yU,t20,gu21,f22,yP,qV,qS,AV.one,qJ,qE,qp,qz,ql,qF];apply hK
   refine y5 (L:=[(0,.ds true (qh Zh a0) (qg a0) false),(4,.os true 4 0 (v7+1) 0 (qg (l6++[r16.1])) false),(7,.int .i64 r16.2.1)]) (τ:=[.cells (v7+1) (qh zu (l6++[r16.1])),.cells 0 [.int .i64 r16.1.fTag,.int .i64 r16.1.fWire,.int .i64 r16.1.fN,.str r16.1.fB],.cells 0 [.int .i64 r16.1.fTag,.int .i64 r16.1.fWire,.int .i64 r16.1.fN,.str r16.1.fB]]) .s ?_
   refine rgE tok [0,4,5] fun K hK=>?_
   simp only[go_sem,qe,qa,reduceCtorEq];apply hK
   exact⟨_,_,_,qH (0+k12),⟨k12,l6++[r16.1],r16.2.1,v7+1,rfl,rfl,rfl,h⟩,(.t [0] false)⟩
 rw[if_neg hc14] at h;have t23:=eq_false hc14;apply ye;apply hZ5
 refine rg tok [2,3] fun K hK=>?_
 simp only[go_sem,qe,qa,reduceCtorEq,t23];apply hK
 cases h;exact rtA
def YC (a0:zA)(a1:Int):Int:=
 IntKind.i64.wrap (a0.fTag-a1)
theorem YC.ok {a0 a1 r}(h:YC a0 a1=r):ACalls qi 233 [.agg (zF a0),.int .i64 a1] [] (fun r' _=>r'=.int .i64 r):=by
 refine zw (rs:=[.tmp 4]) tok Tryz.func233 rfl Tryz.ntmps233 rfl Tryz.call233 (by simp) ?_;refine zC [(0,.agg (zF a0)),(1,.int .i64 a1)] ⟨rfl,rfl,trivial⟩ ?_;unfold YC at h
 refine rg tok [1,2] fun K hK=>?_
 simp only[go_sem,qe,qa,qc,reduceCtorEq,zF];apply hK
 refine rgN [4] ?_;cases h;exact rtA
def z2.l6 (a0:List zA)(a1:Int):Nat→Int→Int→Option (Int×Bool)
 |0,_,_=>none
 |k6+1,x2,x3=>(if x2<x3 then (YN a0 (IntKind.i64.wrap (Int.fdiv (IntKind.u64.wrap (IntKind.i64.wrap (x2+x3))) (2^(min (qQ 1) 64))))).bind fun y12=>bnd (YC y12 a1) fun r15=>(if r15<0 then ((z2.l6 a0 a1 k6) (IntKind.i64.wrap ((IntKind.i64.wrap (Int.fdiv (IntKind.u64.wrap (IntKind.i64.wrap (x2+x3))) (2^(min (qQ 1) 64))))+1)) x3) else ((z2.l6 a0 a1 k6) x2 (IntKind.i64.wrap (Int.fdiv (IntKind.u64.wrap (IntKind.i64.wrap (x2+x3))) (2^(min (qQ 1) 64)))))) else (if x2<(qg a0:Int) then (YN a0 x2).bind fun y20=>bnd (YC y20 a1) fun r23=>some (decide (r23=0)) else some false).bind fun c20=>some (x2,c20))
def z2 (a0:List zA)(a1:Int):Option (Int×Bool):=
 (z2.l6 a0 a1 xG 0 (qg a0:Int))
theorem z2.ok {a0 a1 r}(h:z2 a0 a1=some r):ACalls qi 232 [.ds true (qh zz a0) (qg a0) false,.int .i64 a1,.fn (.func 233) [] []] [] (fun r' _=>r'=.tup [.int .i64 r.1,.bool r.2]):=by
 refine zw (rs:=[.tmp 6,.tmp 7]) tok Tryz.func232 rfl Tryz.ntmps232 rfl Tryz.call232 (by simp) ?_;refine zC [(0,.ds true (qh zz a0) (qg a0) false),(1,.int .i64 a1),(2,.fn (.func 233) [] [])] ⟨rfl,rfl,rfl,trivial⟩ ?_;unfold z2 at h;refine rgN [0,1,2] ?_;refine rgN [0,1,2,8] ?_;refine rgN [0,1,2,8,9,10] ?_
 refine ze fun Z1 hZ1=>?_
 apply zt;refine yh (fun m L τ=>∃ (k6:Nat) (x2:Int) (x3:Int),m=0+k6∧L=[(0,.ds true (qh zz a0) (qg a0) false),(1,.int .i64 a1),(2,.fn (.func 233) [] []),(8,.int .i64 (qg a0:Int)),(9,.int .i64 x2),(10,.int .i64 x3)]∧τ=([]:zi)∧z2.l6 a0 a1 k6 x2 x3=some r) _ ⟨xG,0,(qg a0:Int),rfl,rfl,rfl,h⟩ .s ?_;rintro m L τ ⟨k6,x2,x3,rfl,rfl,rfl,h⟩
 rcases k6 with _|k6
 · cases h
 simp only[z2.l6] at h
 refine ze fun Z7 hZ7=>?_
 refine rgN [0,1,2,8,9,10,17] ?_;refine yn rfl (fun hc8=>?_) (fun hc8=>?_)
 · rw[if_pos hc8] at h;have t9:=eq_true hc8;apply zp;apply hZ7;apply zt;have f10:=Zc (T:=tab) (src:=3) (dst:=100) rfl rfl rfl;have f11:=Zc (T:=tab) (src:=100) (dst:=3) rfl rfl rfl
   refine rg tok [0,1,2,8,9,10,11] fun K hK=>?_
   simp only[go_sem,qe,qa,reduceCtorEq,t9,f10,f11,vaw,Int.reduceLT];apply hK
   refine rc [0,1,2,8,9,10,11,31] fun K hK=>?_
   obtain⟨y12,hy12,h⟩:=bind_some h;have f13:=E34.idxS hy12;have f14:=E34.loadS rfl rfl hy12;obtain⟨r15,hr15,h⟩:=yi h;refine zd tok 6 ?_;simp only[go_sem,qe,qa,reduceCtorEq,zF,z8,f13,f14];refine clN rfl rfl rfl ((YC.ok hr15).c _) ?_;refine rnN 1 ?_;refine nkN hK ?_;refine yn rfl (fun hc16=>?_) (fun hc16=>?_)
   · rw[if_pos hc16] at h;have t17:=eq_true hc16
     refine rgE tok [0,1,2,8,9,10] fun K hK=>?_
     simp only[go_sem,qe,qa,reduceCtorEq,t17];apply hK
     exact⟨_,_,_,qH (0+k6),⟨k6,IntKind.i64.wrap ((IntKind.i64.wrap (Int.fdiv (IntKind.u64.wrap (IntKind.i64.wrap (x2+x3))) (2^(min (qQ 1) 64))))+1),x3,rfl,rfl,rfl,h⟩,.s⟩
   rw[if_neg hc16] at h;have t18:=eq_false hc16
   refine rgE tok [0,1,2,8,9,10] fun K hK=>?_
   simp only[go_sem,qe,qa,reduceCtorEq,t18];apply hK
   exact⟨_,_,_,qH (0+k6),⟨k6,x2,IntKind.i64.wrap (Int.fdiv (IntKind.u64.wrap (IntKind.i64.wrap (x2+x3))) (2^(min (qQ 1) 64))),rfl,rfl,rfl,h⟩,.s⟩
 rw[if_neg hc8] at h;have t19:=eq_false hc8;apply ye;apply hZ1
 refine rc [6,7] fun K hK=>?_
 refine zd tok 5 ?_;simp only[go_sem,qe,qa,reduceCtorEq,t19];obtain⟨c20,hc20,h⟩:=bind_some h;refine zI 9 (fun L τ=>L=[(35,.int .i64 x2),(48,.bool c20)]∧τ=([]:zi)) ?_ ?_
 · refine wr 39 rfl (fun hg39=>?_) (fun hg39=>?_)
   · have t21:=eq_true hg39;rw[if_pos hg39] at hc20;obtain⟨y22,hy22,hc20⟩:=bind_some hc20;have f23:=E34.idxS hy22;have f24:=E34.loadS rfl rfl hy22;obtain⟨r25,hr25,hc20⟩:=yi hc20;refine zd tok 6 ?_;simp only[go_sem,qe,qa,reduceCtorEq,zF,z8,f23,f24];refine clN rfl rfl rfl ((YC.ok hr25).c _) ?_;refine rnN 2 ?_;cases hc20;refine zm ⟨rfl,_,_,⟨rfl,rfl⟩,.p t21⟩
   have t26:=eq_false hg39;rw[if_neg hg39] at hc20;refine rnN 9 ?_;cases hc20;refine zm ⟨rfl,_,_,⟨rfl,rfl⟩,.p t26⟩
 rintro _ _ ⟨rfl,rfl⟩;refine rnN 2 ?_;refine nkN hK ?_;cases h;exact rtA
def Zw (a0:zA)(a1:yN):Option Bool:=
 bnd (wy a1 a0.fTag) fun r1=>(if r1.1.fLabel=1 then (YN a0.fTrees 0).bind fun y2=>bnd (YH y2) fun r5=>some r5 else some false).bind fun c2=>some c2
theorem Zw.ok {a0 a1 r}(h:Zw a0 a1=some r):ACalls qi 197 [.agg (zF a0),.dp (zf a1) 0] [] (fun r' _=>r'=.bool r):=by
 refine zw (rs:=[.tmp 3]) tok Tryz.func197 rfl Tryz.ntmps197 rfl Tryz.call197 (by simp) ?_;refine zC [(0,.agg (zF a0)),(1,.dp (zf a1) 0)] ⟨rfl,rfl,trivial⟩ ?_;unfold Zw at h
 refine rg tok [1,2] fun K hK=>?_
 simp only[go_sem,qe,qa,qc,reduceCtorEq,zF];apply hK
 refine rc [2,4] fun K hK=>?_
 obtain⟨r1,hr1,h⟩:=yi h;refine zd tok 3 ?_;simp only[go_sem,qe,qb,qa,qc,zf,vbs];refine clN rfl rfl rfl ((wy.ok hr1).c _) ?_;refine zd tok 6 ?_;simp only[go_sem,qe,qb,qa,qc,yc];refine nkN hK ?_
 refine rc [3] fun K hK=>?_
 refine rnN 4 ?_;obtain⟨c2,hc2,h⟩:=bind_some h;refine zI 6 (fun L τ=>L=[(22,.bool c2)]∧τ=([.cells 0 (zF a0),.cells 0 (yc r1.1)]:zi)) ?_ ?_
 · refine wr 16 rfl (fun hg16=>?_) (fun hg16=>?_)
   · have t3:=eq_true hg16;rw[if_pos hg16] at hc2;obtain⟨y4,hy4,hc2⟩:=bind_some hc2;have f5:=E38.idxS hy4;have f6:=E38.loadS rfl rfl hy4;obtain⟨r7,hr7,hc2⟩:=yi hc2;refine zd tok 4 ?_;simp only[go_sem,qe,qa,qc,za,zh,f5,f6];refine clN rfl rfl rfl ((YH.ok hr7).c _) ?_;refine rnN 1 ?_;cases hc2;refine zm ⟨rfl,_,_,⟨rfl,rfl⟩,.p t3⟩
   have t8:=eq_false hg16;rw[if_neg hg16] at hc2;refine rnN 6 ?_;cases hc2;refine zm ⟨rfl,_,_,⟨rfl,rfl⟩,.p t8⟩
 rintro _ _ ⟨rfl,rfl⟩;refine rnN 1 ?_;refine nkN hK ?_;cases h;exact rtA
def z1.l4 (a1_0:yN):List zA→Int→Option Int
 |[],x2=>some (-1)
 |y4::q4,x2=>(Zw y4 a1_0).bind fun r10=>(if r10=true then some x2 else ((z1.l4 a1_0 q4) (x2+1)))
def z1 (a0:List zA)(a1_0:yN):Option Int:=
 (z1.l4 a1_0 a0 0)
theorem z1.ok {a0 a1_0 r}(h:z1 a0 a1_0=some r):ACalls qi 235 [.ds true (qh zz a0) (qg a0) false,.fn (.func 197) [] [.dp (zf a1_0) 0]] [] (fun r' _=>r'=.int .i64 r):=by
 refine zw (rs:=[.tmp 4]) tok Tryz.func235 rfl Tryz.ntmps235 rfl Tryz.call235 (by simp) ?_;refine zC [(0,.ds true (qh zz a0) (qg a0) false),(1,.fn (.func 197) [] [.dp (zf a1_0) 0])] ⟨rfl,rfl,trivial⟩ ?_;unfold z1 at h;refine rgN [0,1] ?_
 refine ze fun Z1 hZ1=>?_
 refine rgN [0,1,7,8] ?_;apply zt
 refine xv 0 fun hb4=>?_
 replace hb4:qg a0≤9223372036854775807:=hb4.1;refine yh (fun m L τ=>∃ (p4 q4:List zA) (x2:Int),m=qg q4∧L=[(0,.ds true (qh zz a0) (qg a0) false),(1,.fn (.func 197) [] [.dp (zf a1_0) 0]),(7,.int .i64 (qg a0:Int)),(8,.int .i64 x2)]∧τ=([]:zi)∧a0=p4++q4∧x2=(qg p4:Int)∧z1.l4 a1_0 q4 x2=some r) _ ⟨[],a0,0,rfl,rfl,rfl,rfl,rfl,h⟩ .s ?_;rintro m L τ ⟨p4,q4,x2,rfl,rfl,rfl,hE4,hi4,h⟩
 rcases q4 with _|⟨y4,q4⟩
 · have hz4:=xE hE4 hi4;simp only[z1.l4] at h
   refine rg tok [0,1,7,8,9] fun K hK=>?_
   simp only[go_sem,qe,qa,reduceCtorEq,hz4];apply hK
   refine ze fun Z5 hZ5=>?_
   refine zK rfl ?_;apply ye;apply hZ1;refine rgN [4] ?_;cases h;exact rtA
 obtain⟨hz4,hw4,hx4,hE'4,hi'4⟩:=yZ hE4 hi4 hb4;simp only[z1.l4] at h
 refine rg tok [0,1,7,8,9] fun K hK=>?_
 simp only[go_sem,qe,qa,reduceCtorEq,hz4];apply hK
 refine ze fun Z6 hZ6=>?_
 refine zQ rfl ?_;apply zp;apply hZ6
 refine ze fun Z7 hZ7=>?_
 apply zt;refine rgN [0,1,5,7,8] ?_
 refine rc [0,1,5,7,8,16] fun K hK=>?_
 have f8:=E34.idxS hx4;have f9:=E34.loadS rfl rfl hx4;obtain⟨r10,hr10,h⟩:=bind_some h;refine zd tok 5 ?_;simp only[go_sem,qe,qa,reduceCtorEq,zF,z8,f8,f9];refine clN rfl rfl rfl ((Zw.ok hr10).c _) ?_;refine nkN hK ?_;refine zY (b:=r10) rfl (fun hc11=>?_) (fun hc11=>?_)
 · rw[if_pos hc11] at h;refine rgN [4] ?_;cases h;exact rtA
 rw[Zg hc11] at h;apply zp;apply hZ7
 refine rgE tok [0,1,7,8] fun K hK=>?_
 simp only[go_sem,qe,qa,reduceCtorEq,hw4];apply hK
 exact⟨_,_,_,qH q4.length,⟨p4++[y4],q4,x2+1,rfl,rfl,rfl,hE'4,hi'4,h⟩,.s⟩
def yW.j4 (m4_1:zq):Option (zq×Int):=
 some (m4_1,0)
def yW.j6 (yl:zP→yN→(List UInt8)→Int→Option (zq×Int))(a0:zP)(a1:vam)(a2:yo)(a3:Int)(m4_1:zq)(x5:Bool):Option (zq×Int):=
 (if x5=true then bnd (Yu a1 a2.fN) fun r8=>(if (!r8)=true then some ((⟨0,0,[],([]:List zA),([]:List yo)⟩:zq),11) else (yW.j4 m4_1)) else (if a1.fKind=4 then (wX a2.fB).bind fun r12=>(if (!r12)=true then some ((⟨0,0,[],([]:List zA),([]:List yo)⟩:zq),9) else (yW.j4 m4_1)) else (if a1.fKind=7 then bnd (yy a0 a1.fName) fun r17=>(grd (qg a2.fB≤9223372036854775807)).bind fun _u18=>(yl a0 r17.1 a2.fB (IntKind.i64.wrap (a3+1))).bind fun r20=>some (r20.1,r20.2) else (yW.j4 m4_1))))
def yW.j3 (yl:zP→yN→(List UInt8)→Int→Option (zq×Int))(a0:zP)(a1:vam)(a2:yo)(a3:Int)(m4_1:zq):Option (zq×Int):=
 (if a1.fKind=3 then (yW.j6 yl a0 a1 a2 a3 m4_1 (decide (a1.fKind=3))) else (yW.j6 yl a0 a1 a2 a3 m4_1 (decide (a1.fKind=6))))
def yW.j26 (yl:zP→yN→(List UInt8)→Int→Option (zq×Int))(a0:zP)(a1:vam)(a2:yo)(a3:Int)(m4_1:zq)(x25:Bool):Option (zq×Int):=
 (if x25=true then (if a2.fWire=1 then (yW.j3 yl a0 a1 a2 a3 m4_1) else some ((⟨0,0,[],([]:List zA),([]:List yo)⟩:zq),8)) else (if a2.fWire=0 then (yW.j3 yl a0 a1 a2 a3 m4_1) else some ((⟨0,0,[],([]:List zA),([]:List yo)⟩:zq),8)))
def yW.j2 (yl:zP→yN→(List UInt8)→Int→Option (zq×Int))(a0:zP)(a1:vam)(a2:yo)(a3:Int)(m4_1:zq):Option (zq×Int):=
 (if a1.fKind=4 then (yW.j26 yl a0 a1 a2 a3 m4_1 (decide (a1.fKind=4))) else (if a1.fKind=5 then (yW.j26 yl a0 a1 a2 a3 m4_1 (decide (a1.fKind=5))) else (yW.j26 yl a0 a1 a2 a3 m4_1 (decide (a1.fKind=7)))))
def yW.body (yl:zP→yN→(List UInt8)→Int→Option (zq×Int))(wd:zP→vam→yo→Int→Option (zq×Int))(a0:zP)(a1:vam)(a2:yo)(a3:Int):Option (zq×Int):=
 (if a2.fWire=1 then (yW.j2 yl a0 a1 a2 a3 (⟨2,0,a2.fB,([]:List zA),([]:List yo)⟩:zq)) else (yW.j2 yl a0 a1 a2 a3 (⟨1,a2.fN,[],([]:List zA),([]:List yo)⟩:zq)))
theorem yW.step (yl:zP→yN→(List UInt8)→Int→Option (zq×Int))(wd:zP→vam→yo→Int→Option (zq×Int))(vcA:∀ (a0:zP) (a1:yN) (a2:List UInt8) (a3:Int) (r:zq×Int),yl a0 a1 a2 a3=some r→ACalls qi 149 [.agg (zb a0),.agg (zf a1),.ds true (qh Zh a2) (qg a2) false,.int .i64 a3] [] (fun r' _=>r'=.tup [.agg (za r.1),.int .i64 r.2]))(va0:∀ (a0:zP) (a1:vam) (a2:yo) (a3:Int) (r:zq×Int),wd a0 a1 a2 a3=some r→ACalls qi 194 [.agg (zb a0),.agg (xB a1),.agg (zu a2),.int .i64 a3] [] (fun r' _=>r'=.tup [.agg (za r.1),.int .i64 r.2]))(a0:zP)(a1:vam)(a2:yo)(a3:Int)(r:zq×Int)(h:yW.body yl wd a0 a1 a2 a3=some r):ACalls qi 194 [.agg (zb a0),.agg (xB a1),.agg (zu a2),.int .i64 a3] [] (fun r' _=>r'=.tup [.agg (za r.1),.int .i64 r.2]):=by
 have ev_decode_message:=fun a0 a1 a2 a3 r h σ=>(vcA a0 a1 a2 a3 r h).c σ
 have ev_decode_one:=fun a0 a1 a2 a3 r h σ=>(va0 a0 a1 a2 a3 r h).c σ
 refine zw (rs:=[.cell 8 37,.tmp 9]) tok Tryz.func194 rfl Tryz.ntmps194 rfl Tryz.call194 (by simp) ?_;refine zC [(0,.agg (zb a0)),(1,.agg (xB a1)),(2,.agg (zu a2)),(3,.int .i64 a3)] ⟨rfl,rfl,rfl,rfl,trivial⟩ ?_;unfold yW.body at h
 refine rg tok [3,4,5,6,8] fun K hK=>?_
 simp only[go_sem,qe,qa,qc,reduceCtorEq,zu,zb,xB];apply hK
 refine rgN [3,4,5,6,8,10] ?_;refine xV (fun L τ=>∃ (m4_1:zq),L=[(3,.int .i64 a3),(4,.op 0 0 0),(5,.op 1 0 0),(6,.op 2 0 0),(8,.op 3 0 0),(10,.op 4 0 0)]∧τ=([.cells 0 (zb a0),.cells 0 [.int .i64 a1.fKind,.str a1.fName],.cells 0 [.int .i64 a2.fTag,.int .i64 a2.fWire,.int .i64 a2.fN,.str a2.fB],.cells 0 [.int .i64 0,.int .i64 0,.str [],.ds true (qh zz ([]:List zA)) (qg ([]:List zA)) false,.ds true (qh zu ([]:List yo)) (qg ([]:List yo)) false],.cells 0 (za m4_1)]:zi)∧yW.j2 yl a0 a1 a2 a3 m4_1=some r) ?_ ?_
 · refine rgN [3,4,5,6,8,10,18] ?_;refine yn rfl (fun hc40=>?_) (fun hc40=>?_)
   · rw[if_pos hc40] at h;have t41:=eq_true hc40
     refine rgE tok [3,4,5,6,8,10] fun K hK=>?_
     simp only[go_sem,qe,qb,qa,qc,t41];apply hK
     exact⟨_,_,⟨(⟨2,0,a2.fB,([]:List zA),([]:List yo)⟩:zq),rfl,rfl,h⟩,(.t [0,1,2,3,4] true)⟩
   rw[if_neg hc40] at h;have t42:=eq_false hc40;apply zp;exact⟨_,_,⟨(⟨1,a2.fN,[],([]:List zA),([]:List yo)⟩:zq),rfl,rfl,h⟩,(.t [0,1,2,3,4] true)⟩
 rintro _ _ ⟨m4_1,rfl,rfl,h⟩;unfold yW.j2 at h;refine xV (fun L τ=>L=[(3,.int .i64 a3),(4,.op 0 0 0),(5,.op 1 0 0),(6,.op 2 0 0),(8,.op 3 0 0),(10,.op 4 0 0)]∧τ=([.cells 0 (zb a0),.cells 0 [.int .i64 a1.fKind,.str a1.fName],.cells 0 [.int .i64 a2.fTag,.int .i64 a2.fWire,.int .i64 a2.fN,.str a2.fB],.cells 0 [.int .i64 0,.int .i64 0,.str [],.ds true (qh zz ([]:List zA)) (qg ([]:List zA)) false,.ds true (qh zu ([]:List yo)) (qg ([]:List yo)) false],.cells 0 (za m4_1)]:zi)∧yW.j3 yl a0 a1 a2 a3 m4_1=some r) ?_ ?_
 · refine rgN [3,4,5,6,8,10,23] ?_;apply zt;refine xV (fun L τ=>∃ (x25:Bool),L=[(3,.int .i64 a3),(4,.op 0 0 0),(5,.op 1 0 0),(6,.op 2 0 0),(8,.op 3 0 0),(10,.op 4 0 0),(28,.bool x25)]∧τ=([.cells 0 (zb a0),.cells 0 [.int .i64 a1.fKind,.str a1.fName],.cells 0 [.int .i64 a2.fTag,.int .i64 a2.fWire,.int .i64 a2.fN,.str a2.fB],.cells 0 [.int .i64 0,.int .i64 0,.str [],.ds true (qh zz ([]:List zA)) (qg ([]:List zA)) false,.ds true (qh zu ([]:List yo)) (qg ([]:List yo)) false],.cells 0 (za m4_1)]:zi)∧yW.j26 yl a0 a1 a2 a3 m4_1 x25=some r) ?_ ?_
   · refine rgN [3,4,5,6,8,10,23,28] ?_;refine yn rfl (fun hc34=>?_) (fun hc34=>?_)
     · rw[if_pos hc34] at h;have t35:=eq_true hc34;apply zp;exact⟨_,_,⟨decide (a1.fKind=4),rfl,rfl,h⟩,.s⟩
     rw[if_neg hc34] at h;have t36:=eq_false hc34
     refine rg tok [3,4,5,6,8,10,23,28] fun K hK=>?_
     simp only[go_sem,qe,qa,t36];apply hK
     refine yn rfl (fun hc37=>?_) (fun hc37=>?_)
     · rw[if_pos hc37] at h;have t38:=eq_true hc37;apply zp;exact⟨_,_,⟨decide (a1.fKind=5),rfl,rfl,h⟩,.s⟩
     rw[if_neg hc37] at h;have t39:=eq_false hc37
     refine rgE tok [3,4,5,6,8,10,28] fun K hK=>?_
     simp only[go_sem,qe,qa,t39];apply hK
     exact⟨_,_,⟨decide (a1.fKind=7),rfl,rfl,h⟩,.s⟩
   rintro _ _ ⟨x25,rfl,rfl,h⟩;unfold yW.j26 at h;refine zY (b:=x25) rfl (fun hc27=>?_) (fun hc27=>?_)
   · rw[if_pos hc27] at h;refine rgN [3,4,5,6,8,10,34] ?_;refine yn rfl (fun hc28=>?_) (fun hc28=>?_)
     · rw[if_neg hc28] at h;have t29:=eq_false hc28
       refine rg tok [8,9] fun K hK=>?_
       simp only[go_sem,qe,qb,qa,qc,t29];apply hK
       cases h;exact rtA
     rw[if_pos hc28] at h;have t30:=eq_true hc28;apply zp;exact⟨_,_,⟨rfl,rfl,h⟩,.s⟩
   rw[Zg hc27] at h;refine rgN [3,4,5,6,8,10,26] ?_;refine yn rfl (fun hc31=>?_) (fun hc31=>?_)
   · rw[if_neg hc31] at h;have t32:=eq_false hc31
     refine rg tok [8,9] fun K hK=>?_
     simp only[go_sem,qe,qb,qa,qc,t32];apply hK
     cases h;exact rtA
   rw[if_pos hc31] at h;have t33:=eq_true hc31;apply zp;exact⟨_,_,⟨rfl,rfl,h⟩,.s⟩
 rintro _ _ ⟨rfl,rfl,h⟩;unfold yW.j3 at h;refine xV (fun L τ=>L=[(8,.op 0 0 0),(10,.op 1 0 0)]∧τ=([.cells 0 [.int .i64 0,.int .i64 0,.str [],.ds true (qh zz ([]:List zA)) (qg ([]:List zA)) false,.ds true (qh zu ([]:List yo)) (qg ([]:List yo)) false],.cells 0 (za m4_1)]:zi)∧yW.j4 m4_1=some r) ?_ ?_
 · refine rgN [3,4,5,6,8,10,37] ?_;apply zt;refine xV (fun L τ=>∃ (x5:Bool),L=[(3,.int .i64 a3),(4,.op 0 0 0),(5,.op 1 0 0),(6,.op 2 0 0),(8,.op 3 0 0),(10,.op 4 0 0),(37,.int .i64 a1.fKind),(38,.bool x5)]∧τ=([.cells 0 (zb a0),.cells 0 [.int .i64 a1.fKind,.str a1.fName],.cells 0 [.int .i64 a2.fTag,.int .i64 a2.fWire,.int .i64 a2.fN,.str a2.fB],.cells 0 [.int .i64 0,.int .i64 0,.str [],.ds true (qh zz ([]:List zA)) (qg ([]:List zA)) false,.ds true (qh zu ([]:List yo)) (qg ([]:List yo)) false],.cells 0 (za m4_1)]:zi)∧yW.j6 yl a0 a1 a2 a3 m4_1 x5=some r) ?_ ?_
   · refine rgN [3,4,5,6,8,10,37,38] ?_;refine yn rfl (fun hc22=>?_) (fun hc22=>?_)
     · rw[if_pos hc22] at h;have t23:=eq_true hc22;apply zp;exact⟨_,_,⟨decide (a1.fKind=3),rfl,rfl,h⟩,.s⟩
     rw[if_neg hc22] at h;have t24:=eq_false hc22
     refine rgE tok [3,4,5,6,8,10,37,38] fun K hK=>?_
     simp only[go_sem,qe,qa,t24];apply hK
     exact⟨_,_,⟨decide (a1.fKind=6),rfl,rfl,h⟩,.s⟩
   rintro _ _ ⟨x5,rfl,rfl,h⟩;unfold yW.j6 at h;refine zY (b:=x5) rfl (fun hc7=>?_) (fun hc7=>?_)
   · rw[if_pos hc7] at h
     refine rc [8,10,45] fun K hK=>?_
     obtain⟨r8,hr8,h⟩:=yi h;refine rnN 3 ?_;refine clN rfl rfl rfl ((Yu.ok hr8).c _) ?_;refine rnN 1 ?_;refine nkN hK ?_;refine zY (b:=(!r8)) rfl (fun hc9=>?_) (fun hc9=>?_)
     · rw[if_pos hc9] at h;refine rgN [8,9] ?_;cases h;exact rtA
     rw[Zg hc9] at h;apply zp;exact⟨_,_,⟨rfl,rfl,h⟩,(.t [3,4] false)⟩
   rw[Zg hc7] at h;refine rgN [3,4,5,6,8,10,37,47] ?_;refine yn rfl (fun hc10=>?_) (fun hc10=>?_)
   · rw[if_pos hc10] at h;have t11:=eq_true hc10
     refine rc [8,10,52] fun K hK=>?_
     obtain⟨r12,hr12,h⟩:=bind_some h;refine zd tok 2 ?_;simp only[go_sem,qe,qa,qc,t11];refine clN rfl rfl rfl ((wX.ok hr12).c _) ?_;refine rnN 1 ?_;refine nkN hK ?_;refine zY (b:=(!r12)) rfl (fun hc13=>?_) (fun hc13=>?_)
     · rw[if_pos hc13] at h;refine rgN [8,9] ?_;cases h;exact rtA
     rw[Zg hc13] at h;apply zp;exact⟨_,_,⟨rfl,rfl,h⟩,(.t [3,4] false)⟩
   rw[if_neg hc10] at h;have t14:=eq_false hc10
   refine rg tok [3,4,5,6,8,10,54] fun K hK=>?_
   simp only[go_sem,qe,qa,t14];apply hK
   refine yn rfl (fun hc15=>?_) (fun hc15=>?_)
   · rw[if_pos hc15] at h;have t16:=eq_true hc15
     refine rc [3,4,6,8,11] fun K hK=>?_
     obtain⟨r17,hr17,h⟩:=yi h;refine zd tok 3 ?_;simp only[go_sem,qe,qb,qa,qc,t16];refine clN rfl rfl rfl ((yy.ok hr17).c _) ?_;refine zd tok 6 ?_;simp only[go_sem,qe,qb,qa,qc,zf];refine nkN hK ?_
     refine rc [8,9] fun K hK=>?_
     obtain⟨_u18,hu18,h⟩:=bind_some h;have gu18:=Yh hu18;have gu18t:=eq_true gu18;have f19:=conv_s2b (T:=tab) (src:=9) (dst:=48) rfl rfl rfl rfl rfl rfl (Yh hu18);obtain⟨r20,hr20,h⟩:=bind_some h;refine zd tok 7 ?_;simp only[go_sem,qe,qb,qa,qc,f19];refine X5 (L:=[(8,.op 0 0 0),(63,.agg (zb a0)),(64,.agg (zf r17.1)),(67,.ds true (qh Zh a2.fB) (qg a2.fB) false),(69,.int .i64 (IntKind.i64.wrap (a3+1)))]) (τ:=[.cells 0 [.int .i64 0,.int .i64 0,.str [],.ds true (qh zz ([]:List zA)) (qg ([]:List zA)) false,.ds true (qh zu ([]:List yo)) (qg ([]:List yo)) false]]) (.t [3] false) ?_;refine clN rfl rfl rfl (ev_decode_message a0 r17.1 a2.fB (IntKind.i64.wrap (a3+1)) r20 hr20 _) ?_;refine zd tok 4 ?_;simp only[go_sem,qe,qb,qa,qc,za,zf,zb];refine nkN hK ?_;cases h;exact rtA
   rw[if_neg hc15] at h;have t21:=eq_false hc15;apply zp;exact⟨_,_,⟨rfl,rfl,h⟩,(.t [3,4] false)⟩
 rintro _ _ ⟨rfl,rfl,h⟩;unfold yW.j4 at h;refine rgN [8,9] ?_;cases h;exact rtA
end
section
open Go.RowKit AM
theorem setRun_ins (cs new:List AV)(k:Nat)(hk:k≤cs.length)(hn:new.length=2):
 wn (wn (cs++[.u,.u]) (k+2) (cs.drop k)) k new=cs.take k++(new++cs.drop k):=by
 have e0:cs++[AV.u,.u]=(cs.take k++((cs.drop k++[AV.u,.u]).take 2))++(((cs.drop k++[AV.u,.u]).drop 2)++[]):=by
  rw[qB,qu,ut,← qu,ut]
 have l1:((cs.drop k++[AV.u,.u]).take 2).length=2:=by simp
 have l2:(cs.take k++((cs.drop k++[AV.u,.u]).take 2)).length=k+2:=by rw[qk,l1,List.length_take,Nat.min_eq_left hk]
 have e1:wn (cs++[.u,.u]) (k+2) (cs.drop k)=(cs.take k++((cs.drop k++[AV.u,.u]).take 2))++(cs.drop k++[]):=by
  rw[e0,← l2];exact Xk (cs.drop k) _ _ [] (by simp)
 rw[e1,qB,qu]
 have l3:(cs.take k).length=k:=by rw[List.length_take,Nat.min_eq_left hk]
 have:=Xk new (cs.take k) ((cs.drop k++[AV.u,.u]).take 2) (cs.drop k) (by rw[l1,hn]);rw[l3] at this;exact this
theorem all_drop {l:List AV}{k:Nat}(h:l.all AV.one=true):(l.drop k).all AV.one=true:=by
 rw[uf] at *
 exact fun x hx=>h x (List.mem_of_mem_drop hx)
theorem frozen_end {E:Env}{b:Nat}{cs:List AV}(h:Blk E b cs){t:TypeId}{m:Nat}(hs:E.w.shape? b=some (t,m))(ht:tsize t=2)(o:Nat):E.w.frozen? ⟨b,o,none⟩=false:=by
 obtain⟨conc,t',fr,a1,a2,a3,a4⟩:=h.blk
 have:t'=t:=by simp only[World.shape?,a1,Option.some.injEq,Prod.mk.injEq] at hs; exact hs.1
 subst this
 have he:fr.1=fr.2:=by
  rcases a2 with h|⟨_,h⟩
  · exact h
  omega
 obtain⟨lo,hi⟩:=fr;simp only[World.frozen?,a1];simp only at he;simp only[Bool.and_eq_false_iff,decide_eq_false_iff_not]
 omega
set_option maxHeartbeats 4000000 in
set_option maxRecDepth 100000 in
theorem ins_shift {E:Env}{σ:zi}(hS:SR E σ){id ver n i b cap vid vver vb:Nat}{cells new:List AV}(hcs:zi.at σ id ver=some cells)(hlen:cells.length=n*2)(hone:cells.all AV.one=true)(hi:i<n)
 (hloc:E.loc id=some (ver,some b)) (hok:E.ok id ver) {t m:Nat} (hsh:E.w.shape? b=some (t,m)) (hts:tsize t=2) (hm:cap*2≤m) (hroom:n+1≤cap) (hn:(n+1)*32≤140737488355328)
 (hv:zi.at σ vid vver=some new) (hnew:new.length=2) (honev:new.all AV.one=true) (hvid:vid≠id) (hvloc:E.loc vid=some (vver,some vb)) (hvok:E.ok vid vver) {tv mv:Nat} (hvsh:E.w.shape? vb=some (tv,mv)) (hvts:tsize tv=2) (hvc:2≤mv):
 Calls qi 234 #[.slice (some ⟨b,0,none⟩) n cap,.int .i64 i,.slice (some ⟨vb,0,none⟩) 1 1] E.w fun e w'=>
  ∃ E',e=.returned (.slice (some ⟨b,0,none⟩) (n+1) cap)∧w'=E'.w∧VR E' (.os true 2 id ver 0 (n+1) false) (.slice (some ⟨b,0,none⟩) (n+1) cap)∧SR E' (σ.set id (.cells ver (cells.take (i*2)++(new++cells.drop (i*2)))))∧Ext E E':=by
 have hvb:vb≠b:=fun e=>hvid (hS.inj _ _ _ _ b (e▸hvloc) hloc)
 have hB1:Blk E b cells:=by
  rcases hS.at hcs with ⟨b',h1,h2⟩|⟨_,h1⟩
  · rw[hloc] at h1; cases h1; exact h2
  rw[hloc] at h1; cases h1
 have hB2:Blk E vb new:=by
  rcases hS.at hv with ⟨b',h1,h2⟩|⟨_,h1⟩
  · rw[hvloc] at h1; cases h1; exact h2
  rw[hvloc] at h1; cases h1
 have hSw:=hS.widen hcs hloc hsh 2 (by omega);obtain⟨hS1,hx1⟩:=hSw.grew (vag.drew E.w);have hcsw:zi.at (σ.set id (.cells ver (cells++qT 2 AV.u))) id ver=some (cells++qT 2 AV.u):=zi.at_set hcs;have hlt:=zi.at_lt hcs
 have hvw:zi.at (σ.set id (.cells ver (cells++qT 2 AV.u))) vid vver=some new:=by
  unfold zi.at at hv ⊢; rw[q3 (fun e=>hvid e.symm)]; exact hv
 have os1:∀ {E':Env} (hx:Ext E E') (k:Nat),k≤n→VR E' (.os true 2 id ver (k*2) (n+1-k) false) (.slice (some ⟨b,k*2,none⟩) (n+1-k) (cap-k)):=by
  intro E' hx k hk
  refine VR.ext hx (.os _ _ _ _ _ _ _ _ _ hok (by omega) (fun h=>by cases h) (by omega) fun ob hob=>?_)
  rw[hloc] at hob; cases hob
  exact⟨b,rfl,.inr rfl,t,m,hsh,hts,by omega⟩
 have osv:∀ {E':Env} (hx:Ext E E'),VR E' (.os true 2 vid vver 0 1 true) (.slice (some ⟨vb,0,none⟩) 1 1):=by
  intro E' hx
  refine VR.ext hx (.os _ _ _ _ _ _ _ _ _ hvok (by omega) (fun _=>rfl) (by omega) fun ob hob=>?_)
  rw[hvloc] at hob; cases hob
  exact⟨vb,rfl,.inr rfl,tv,mv,hvsh,hvts,by omega⟩
 have hov:∀ lb cb,(callFunc 247 #[.slice (some ⟨vb,0,none⟩) 1 1,.slice (some ⟨b,(i+1)*2,none⟩) lb cb]).run qi E.w=.ok (.value (.bool false)) E.w:=fun lb cb=>by
  rw[run_callFunc_extern Tryz.func247 (by kernel_rfl) (by kernel_rfl) (by kernel_rfl) (e:=Extern.SlicesOverlaps.overlaps #[34,34] #[4]) (by kernel_rfl),
   Lib.run_overlaps_apart E.w 34 4 40 (tok _ _ va6).desc 2 (fun w=>w8 w (tok _ _ va5)) ⟨vb,0,none⟩ ⟨b,(i+1)*2,none⟩ 1 1 lb cb hvb tv t mv m hvsh hsh (by omega) (frozen_end hB2 hvsh hvts _) (frozen_end hB2 hvsh hvts _)]
  rfl
 have hdl:(cells.drop (i*2)).length=(n-i)*2:=by rw[List.length_drop,hlen,Nat.sub_mul]
 have hlw:(cells++qT 2 AV.u).length=(n+1)*2:=by rw[qk,hlen,List.length_replicate,Nat.add_mul]
 have hW:∀ ty,∃ v E2,(Builtin.copy_ #[34,34] ty #[.slice (some ⟨b,(i+1)*2,none⟩) (n+1-(i+1)) (cap-(i+1)),.slice (some ⟨b,i*2,none⟩) (n+1-i) (cap-i)]).run qi E.w.drew=.ok v E2.w∧
  SR E2 (σ.set id (.cells ver (wn (cells++[.u,.u]) (i*2+2) (cells.drop (i*2)))))∧Ext E E2:=by
  intro ty
  have hx0:Ext E { E with w:=E.w.drew }:=hx1;have hd:=os1 hx0 (i+1) (by omega);have hs:=os1 hx0 i (by omega)
  have hev:vaI tab 34 (.os true 2 id ver ((i+1)*2) (n+1-(i+1)) false) (.os true 2 id ver (i*2) (n+1-i) false) (σ.set id (.cells ver (cells++qT 2 AV.u)))=
   some (.int .i64 ((min (n+1-i) (n+1-(i+1)):Nat):Int),(σ.set id (.cells ver (cells++qT 2 AV.u))).set id (.cells ver (wn (cells++qT 2 AV.u) ((i+1)*2) (cells.drop (i*2))))):=by
   have e1:xf (σ.set id (.cells ver (cells++qT 2 AV.u))) 2 (.os true 2 id ver (i*2) (n+1-i) false)=some (n+1-i,((cells++qT 2 AV.u).drop (i*2)).take ((n+1-i)*2)):=by
    simp only[xf,hcsw];rw[if_pos (by rw[hlw,← Nat.add_mul]; exact uh _ (by omega))]
   have e2:min (n+1-i) (n+1-(i+1))=n-i:=by omega
   have e3:(((cells++qT 2 AV.u).drop (i*2)).take ((n+1-i)*2)).take ((n-i)*2)=cells.drop (i*2):=by
    rw[List.take_take,Nat.min_eq_left (uh _ (by omega)),List.drop_append_of_le_length (by rw[hlen]; exact uh _ (by omega)),List.take_append_of_le_length (by rw[hdl]; exact qI _),← hdl,uc]
   have hp:Yx (σ.set id (.cells ver (cells++qT 2 AV.u))) (.os true 2 id ver ((i+1)*2) (n+1-(i+1)) false) (n-i) 2 (cells.drop (i*2))=some ((σ.set id (.cells ver (cells++qT 2 AV.u))).set id (.cells ver (wn (cells++qT 2 AV.u) ((i+1)*2) (cells.drop (i*2))))):=by
    unfold Yx;rw[if_neg (by omega)];simp only[hcsw];rw[if_pos ⟨trivial,by rw[hlw,hdl,← Nat.add_mul]; exact uh _ (by omega),all_drop hone⟩]
   simp only[vaI,va6,va5,ti34,ti40,e1,e2,e3,hp]
  obtain⟨v,E2,h1,h2,h3,h4⟩:=vaC (P:=qi) (st:=34) (ty:=ty) tok hS1 hd hs hev;refine⟨v,E2,h1,?_,hx0.trans h4⟩;rw[List.set_set] at h3
  have e:(i+1)*2=i*2+2:=by omega
  rw[e] at h3;exact h3
 obtain⟨v1,E2,hc1,hS2,hx2⟩:=hW 3;rw[show n+1-(i+1)=n-i by omega] at hc1;have hcs2:zi.at (σ.set id (.cells ver (wn (cells++[.u,.u]) (i*2+2) (cells.drop (i*2))))) id ver=some (wn (cells++[.u,.u]) (i*2+2) (cells.drop (i*2))):=zi.at_set hcs
 have hv2:zi.at (σ.set id (.cells ver (wn (cells++[.u,.u]) (i*2+2) (cells.drop (i*2))))) vid vver=some new:=by
  unfold zi.at at hv ⊢; rw[q3 (fun e=>hvid e.symm)]; exact hv
 have hW2:∃ v E3,(Builtin.copy_ #[34,34] 3 #[.slice (some ⟨b,i*2,none⟩) (n+1-i) (cap-i),.slice (some ⟨vb,0,none⟩) 1 1]).run qi E2.w=.ok v E3.w∧
  SR E3 (σ.set id (.cells ver (cells.take (i*2)++(new++cells.drop (i*2)))))∧Ext E E3:=by
  have hd:=os1 hx2 i (by omega);have hs:=osv hx2
  have hev:vaI tab 34 (.os true 2 id ver (i*2) (n+1-i) false) (.os true 2 vid vver 0 1 true) (σ.set id (.cells ver (wn (cells++[.u,.u]) (i*2+2) (cells.drop (i*2)))))=
   some (.int .i64 ((min 1 (n+1-i):Nat):Int),(σ.set id (.cells ver (wn (cells++[.u,.u]) (i*2+2) (cells.drop (i*2))))).set id (.cells ver (wn (wn (cells++[.u,.u]) (i*2+2) (cells.drop (i*2))) (i*2) new))):=by
   have e1:xf (σ.set id (.cells ver (wn (cells++[.u,.u]) (i*2+2) (cells.drop (i*2))))) 2 (.os true 2 vid vver 0 1 true)=some (1,new):=by
    simp only[xf,hv2];rw[if_pos (by omega),qq,← hnew,Nat.one_mul] ;rw[show new.length=new.length from rfl,uc]
   have e2:min 1 (n+1-i)=1:=by omega
   have e3:new.take (1*2)=new:=by rw[Nat.one_mul,← hnew,uc]
   have hp:Yx (σ.set id (.cells ver (wn (cells++[.u,.u]) (i*2+2) (cells.drop (i*2))))) (.os true 2 id ver (i*2) (n+1-i) false) 1 2 new=some ((σ.set id (.cells ver (wn (cells++[.u,.u]) (i*2+2) (cells.drop (i*2))))).set id (.cells ver (wn (wn (cells++[.u,.u]) (i*2+2) (cells.drop (i*2))) (i*2) new))):=by
    unfold Yx;rw[if_neg (by omega)];simp only[hcs2];rw[if_pos ⟨trivial,by rw[vaY,hnew]; simp only[qk,qp,qz,hlen]; omega,honev⟩]
   simp only[vaI,va6,va5,ti34,ti40,e1,e2,e3,hp]
  obtain⟨v,E3,h1,h2,h3,h4⟩:=vaC (P:=qi) (st:=34) (ty:=3) tok hS2 hd hs hev;refine⟨v,E3,h1,?_,hx2.trans h4⟩;rw[List.set_set,setRun_ins _ _ _ (by omega) hnew] at h3;exact h3
 obtain⟨v2,E3,hc2,hS3,hx3⟩:=hW2;have hfin:=os1 hx3 0 (qW _);rw[um,uO,uO] at hfin
 have hz1:¬ ((i:Int)=(n:Int)):=by omega
 have hw1:IntKind.i64.wrap ((i:Int)+1)=(i:Int)+1:=by rw[IntKind.wrap_i64]; omega
 have hw2:IntKind.i64.wrap ((n:Int)+1)=(n:Int)+1:=by rw[IntKind.wrap_i64]; omega
 have hb1:(0:Int)≤(i:Int)+1:=by omega
 have hin:i≤n:=by omega
 have htn:((i:Int)+1).toNat=i+1:=by omega
 have hb2:¬ (cap=i+1):=by omega
 have hb3:(i:Int)≤(n:Int)+1:=by omega
 have hb4:¬ (cap=i):=by omega
 have mixed:Tryz.prog.follows .mixedOrders=true:=by kernel_rfl
 clear hS hcs hcsw hvw hcs2 hv2 hS1 hSw os1 osv hB1 hB2 hW
 go_enter Tryz.func234,Tryz.ntmps234
 go_wp2_with (simp only[hov])
 go_region_law_o (refine step_copy_runI rfl _ _ 34 34 rfl _ _ (by simp[Act.eval,Act.put]) (by simp[Act.eval,Act.put]) hc1 ?_)
 go_wp2_with (at_builtin; refine wpList_copy_runI _ rfl _ _ 34 34 rfl _ _ rfl rfl hc2 ?_)
 go_ret
 exact⟨E3,rfl,rfl,hfin,hS3,hx3⟩
theorem setRun_ins2 (cs new:List AV)(k:Nat)(hk:k≤cs.length)(hn:new.length=2)(q:Nat)(hq:q=cs.length-k+2):
 wn (wn (cs.take k++qT q AV.u) k new) (k+2) (cs.drop k)=cs.take k++(new++cs.drop k):=by
 have l3:(cs.take k).length=k:=by rw[List.length_take,Nat.min_eq_left hk]
 have e0:cs.take k++qT q AV.u=cs.take k++(qT 2 AV.u++qT (cs.length-k) AV.u):=by
  rw[List.replicate_append_replicate,hq,Nat.add_comm]
 have e1:wn (cs.take k++qT q AV.u) k new=cs.take k++(new++qT (cs.length-k) AV.u):=by
  rw[e0];have:=Xk new (cs.take k) (qT 2 AV.u) (qT (cs.length-k) AV.u) (by simp[hn])
  rw[l3] at this; exact this
 have l4:(cs.take k++new).length=k+2:=by rw[qk,l3,hn]
 rw[e1,← qu,← l4];have:=Xk (cs.drop k) (cs.take k++new) (qT (cs.length-k) AV.u) [] (by simp);rw[qB,qB] at this;rw[this,qu]
set_option maxHeartbeats 4000000 in
set_option maxRecDepth 100000 in
theorem ins_grow {E:Env}{σ:zi}(hS:SR E σ){id ver n i b vid vver vb:Nat}{cells new:List AV}(hcs:zi.at σ id ver=some cells)(hlen:cells.length=n*2)(hone:cells.all AV.one=true)(hi:i<n)
 (hloc:E.loc id=some (ver,some b)) (hok:E.ok id ver) {t m:Nat} (hsh:E.w.shape? b=some (t,m)) (hts:tsize t=2) (hm:n*2≤m) (hn:(n+1)*32≤140737488355328)
 (hv:zi.at σ vid vver=some new) (hnew:new.length=2) (honev:new.all AV.one=true) (hvid:vid≠id) (hvloc:E.loc vid=some (vver,some vb)) (hvok:E.ok vid vver) {tv mv:Nat} (hvsh:E.w.shape? vb=some (tv,mv)) (hvts:tsize tv=2) (hvc:2≤mv):
 Calls qi 234 #[.slice (some ⟨b,0,none⟩) n n,.int .i64 i,.slice (some ⟨vb,0,none⟩) 1 1] E.w fun e w'=>
  ∃ E' v,e=.returned v∧w'=E'.w∧VR E' (.os true 2 σ.length 0 0 (n+1) false) v∧SR E' (σ++[.cells 0 (cells.take (i*2)++(new++cells.drop (i*2)))])∧Ext E E'∧∀ i2 v2 nb,E.loc i2=some (v2,some nb)→E'.loc σ.length=some (0,some nb)→False:=by
 have hvb:vb≠b:=fun e=>hvid (hS.inj _ _ _ _ b (e▸hvloc) hloc)
 have hlt:=zi.at_lt hcs;have hltv:=zi.at_lt hv;obtain⟨hS1,hx1⟩:=hS.grew (vag.drew E.w)
 have os1:∀ {E':Env} (hx:Ext E E') (k q:Nat),k+q≤n→VR E' (.os true 2 id ver (k*2) q false) (.slice (some ⟨b,k*2,none⟩) q (n-k)):=by
  intro E' hx k q hk
  refine VR.ext hx (.os _ _ _ _ _ _ _ _ _ hok (by omega) (fun h=>by cases h) (by omega) fun ob hob=>?_)
  rw[hloc] at hob; cases hob
  exact⟨b,rfl,.inr rfl,t,m,hsh,hts,by omega⟩
 have osv:∀ {E':Env} (hx:Ext E E'),VR E' (.os true 2 vid vver 0 1 true) (.slice (some ⟨vb,0,none⟩) 1 1):=by
  intro E' hx
  refine VR.ext hx (.os _ _ _ _ _ _ _ _ _ hvok (by omega) (fun h=>rfl) (by omega) fun ob hob=>?_)
  rw[hvloc] at hob; cases hob
  exact⟨vb,rfl,.inr rfl,tv,mv,hvsh,hvts,by omega⟩
 have htl:(cells.take (i*2)).length=i*2:=by rw[List.length_take,hlen]; omega
 have hdl:(cells.drop (i*2)).length=(n-i)*2:=by rw[List.length_drop,hlen,Nat.sub_mul]
 -- what is copied by append
 have hold0:=os1 hx1 0 i (by omega);rw[um] at hold0
 obtain⟨_,_,hrd⟩:=vbg (P:=qi) hS1 hold0 (size:=2) (n:=i) (cs:=cells.take (i*2)) (by
  simp only[xf,hcs]
  rw[if_pos (by omega),qq])
 obtain⟨os,hos,hto⟩:=hrd i (qI _);rw[show (cells.take (i*2)).take (i*2)=cells.take (i*2) by rw[List.take_take,Nat.min_self]] at hto
 obtain⟨G,hG⟩:∃ G,G=grownCap E.w (n+1) n 40:=⟨_,rfl⟩
 have hGn:n+1≤G:=by rw[hG]; unfold grownCap; simp only[Question.cut]; omega
 obtain⟨conc,hconc⟩:∃ conc:Array Value,conc=os++Builtin.zeroCells (Value.agg #[Value.int IntKind.i64 0,Value.slice none 0 0]).cells (n+1-i)++Builtin.zeroCells (Value.agg #[Value.int IntKind.i64 0,Value.slice none 0 0]).cells (G-(n+1)):=⟨_,rfl⟩
 have hrz:∀ ty,(Builtin.append_ #[34,3] ty #[.slice (some ⟨b,0,none⟩) i n,.int .i64 ((n:Int)+1-(i:Int))]).run qi E.w=
  .ok (.slice (some ⟨E.w.heap.size,0,none⟩) (n+1) G) (E.w.drew.alloc (.cells conc 40)):=fun ty=>by
  have h:=Lib.run_append_grow_zeros (P:=qi) E.w 34 3 ty 40 Tryz.t40 _ .i64 .i64 Tryz.underlying34 Tryz.underlying3 Tryz.type40 rfl (some ⟨b,0,none⟩) i n os.toList (by rw[Array.toArray_toList]; exact hos) (n+1-i) (by omega) (by decide) (by omega) (by omega) (by show (n+1-i)*32≤_; omega) (by
   rw[show i+(n+1-i)=n+1 by omega]
   exact growslice_fits (by omega) (by show (n+1)*32≤_; omega))
  rw[show i+(n+1-i)=n+1 by omega,← hG,Array.toArray_toList,← hconc] at h;rw[show (n:Int)+1-(i:Int)=((n+1-i:Nat):Int) by omega];exact h
 have hsz1:os.size=i*2:=by rw[hto.1,htl]
 have hcsz:G*2≤conc.size:=by
  rw[hconc];simp only[Array.size_append,hsz1,Builtin.zeroCells,Value.cells]
  simp
  omega
 have hnr:=hS1.newRow conc 40 (cells.take (i*2)++qT ((n+1-i)*2) AV.u) (by rw[qk,htl,List.length_replicate]; omega) (by
  intro k hk
  by_cases hki:k<i*2
  · rw[vav _ _ _ (by rw[htl]; exact hki)];have:=hto.2 k (by rw[htl]; exact hki)
    have e:conc.getD k undef=os.getD k undef:=by
     rw[hconc,Array.append_assoc]
     simp[Array.getElem?_append_left (show k<os.size by omega)]
    rw[e]; exact this
  rw[Xd _ _ _ (by rw[htl]; omega)]
  have:gc (qT ((n+1-i)*2) AV.u) (k-(cells.take (i*2)).length)=.u:=by
   unfold gc;rw[qL,List.getElem?_replicate]
   split<;>rfl
  rw[this]; exact .u _)
 obtain⟨hS2,hx2⟩:=hnr
 obtain⟨E2,hE2⟩:∃ E2,E2=Env.new { E with w:=E.w.drew } (E.w.drew.alloc (.cells conc 40)) (some E.w.drew.heap.size):=⟨_,rfl⟩
 have hloc2:E2.loc σ.length=some (0,some E.w.heap.size):=by rw[hE2]; exact Env.loc_new hS1 _ _
 have hok2:E2.ok σ.length 0:=by rw[hE2]; exact Env.ok_new hS1 _ _
 have hE2w:E2.w=E.w.drew.alloc (.cells conc 40):=by rw[hE2]; rfl
 rw[← hE2] at hS2 hx2;have hx02:Ext E E2:=Ext.trans hx1 hx2
 have hsh2:E2.w.shape? E.w.heap.size=some (40,conc.size):=by
  rw[hE2w];have:=wD E.w.drew (.cells conc 40);simp only[World.shape?];rw[show E.w.heap.size=E.w.drew.heap.size from rfl,this]
 have osn:∀ {E':Env} (hx:Ext E2 E') (k q:Nat),k+q≤n+1→VR E' (.os true 2 σ.length 0 (k*2) q false) (.slice (some ⟨E.w.heap.size,k*2,none⟩) q (G-k)):=by
  intro E' hx k q hk
  refine VR.ext hx (.os _ _ _ _ _ _ _ _ _ hok2 (by omega) (fun h=>by cases h) (by omega) fun ob hob=>?_)
  rw[hloc2] at hob; cases hob
  exact⟨_,rfl,.inr rfl,_,_,hsh2,rfl,by omega⟩
 have hat2:∀ cs,zi.at (σ++[.cells 0 cs]) σ.length 0=some cs:=fun cs=>zi.at_new σ 0 cs
 have hset2:∀ cs cs',(σ++[Yt.cells 0 cs]).set σ.length (.cells 0 cs')=σ++[.cells 0 cs']:=fun cs cs'=>by
  rw[List.set_append_right _ _ (qI _),uI]; rfl
 have hold2:∀ {id ver:Nat} {c cs:List AV},zi.at σ id ver=some c→zi.at (σ++[Yt.cells 0 cs]) id ver=some c:=by
  intro id ver c cs h
  have:=zi.at_lt h
  unfold zi.at at h ⊢; rw[qZ this]; exact h
 -- the first copy
 have hW2:∃ v E3,(Builtin.copy_ #[34,34] 3 #[.slice (some ⟨E.w.heap.size,i*2,none⟩) (n+1-i) (G-i),.slice (some ⟨vb,0,none⟩) 1 1]).run qi E2.w=.ok v E3.w∧
  SR E3 (σ++[.cells 0 (wn (cells.take (i*2)++qT ((n+1-i)*2) AV.u) (i*2) new)])∧Ext E2 E3:=by
  have hd:=osn (Ext.refl E2) i (n+1-i) (by omega);have hs:=osv hx02
  have hev:vaI tab 34 (.os true 2 σ.length 0 (i*2) (n+1-i) false) (.os true 2 vid vver 0 1 true) (σ++[.cells 0 (cells.take (i*2)++qT ((n+1-i)*2) AV.u)])=
   some (.int .i64 ((min 1 (n+1-i):Nat):Int),σ++[.cells 0 (wn (cells.take (i*2)++qT ((n+1-i)*2) AV.u) (i*2) new)]):=by
   have e1:xf (σ++[.cells 0 (cells.take (i*2)++qT ((n+1-i)*2) AV.u)]) 2 (.os true 2 vid vver 0 1 true)=some (1,new):=by
    simp only[xf,hold2 hv];rw[if_pos (by omega),qq,Nat.one_mul,← hnew,uc]
   have e2:min 1 (n+1-i)=1:=by omega
   have e3:new.take (1*2)=new:=by rw[Nat.one_mul,← hnew,uc]
   have hp:Yx (σ++[.cells 0 (cells.take (i*2)++qT ((n+1-i)*2) AV.u)]) (.os true 2 σ.length 0 (i*2) (n+1-i) false) 1 2 new=some (σ++[.cells 0 (wn (cells.take (i*2)++qT ((n+1-i)*2) AV.u) (i*2) new)]):=by
    unfold Yx;rw[if_neg (by omega)];simp only[hat2,hset2];rw[if_pos ⟨trivial,by rw[hnew,qk,htl,List.length_replicate]; omega,honev⟩]
   simp only[vaI,va6,va5,ti34,ti40,e1,e2,e3,hp]
  obtain⟨v,E3,h1,h2,h3,h4⟩:=vaC (P:=qi) (st:=34) (ty:=3) tok hS2 hd hs hev;exact⟨v,E3,h1,h3,h4⟩
 obtain⟨v1,E3,hc1,hS3,hx3⟩:=hW2;obtain⟨hS4,hx4⟩:=hS3.grew (vag.drew E3.w)
 -- the second copy
 have hW3:∀ ty,∃ v E4,(Builtin.copy_ #[34,34] ty #[.slice (some ⟨E.w.heap.size,(i+1)*2,none⟩) (n-i) (G-(i+1)),.slice (some ⟨b,i*2,none⟩) (n-i) (n-i)]).run qi E3.w.drew=.ok v E4.w∧
  SR E4 (σ++[.cells 0 (cells.take (i*2)++(new++cells.drop (i*2)))])∧Ext E2 E4:=by
  intro ty
  have hx24:Ext E2 { E3 with w:=E3.w.drew }:=Ext.trans hx3 hx4;have hd:=osn hx24 (i+1) (n-i) (by omega);have hs:=os1 (hx02.trans hx24) i (n-i) (by omega)
  have hev:vaI tab 34 (.os true 2 σ.length 0 ((i+1)*2) (n-i) false) (.os true 2 id ver (i*2) (n-i) false) (σ++[.cells 0 (wn (cells.take (i*2)++qT ((n+1-i)*2) AV.u) (i*2) new)])=
   some (.int .i64 ((min (n-i) (n-i):Nat):Int),σ++[.cells 0 (cells.take (i*2)++(new++cells.drop (i*2)))]):=by
   have e1:xf (σ++[.cells 0 (wn (cells.take (i*2)++qT ((n+1-i)*2) AV.u) (i*2) new)]) 2 (.os true 2 id ver (i*2) (n-i) false)=some (n-i,cells.drop (i*2)):=by
    simp only[xf,hold2 hcs];rw[if_pos (by rw[hlen,← Nat.add_mul]; exact uh _ (by omega)),← hdl,uc]
   have e2:min (n-i) (n-i)=n-i:=by omega
   have e3:(cells.drop (i*2)).take ((n-i)*2)=cells.drop (i*2):=by rw[← hdl,uc]
   have hp:Yx (σ++[.cells 0 (wn (cells.take (i*2)++qT ((n+1-i)*2) AV.u) (i*2) new)]) (.os true 2 σ.length 0 ((i+1)*2) (n-i) false) (n-i) 2 (cells.drop (i*2))=some (σ++[.cells 0 (cells.take (i*2)++(new++cells.drop (i*2)))]):=by
    unfold Yx;rw[if_neg (by omega)];simp only[hat2,hset2];rw[if_pos ⟨trivial,by rw[hdl,vaY,qk,htl,List.length_replicate]; omega,all_drop hone⟩];rw[show (i+1)*2=i*2+2 by omega,setRun_ins2 _ _ _ (by omega) hnew _ (by rw[hlen]; omega)]
   simp only[vaI,va6,va5,ti34,ti40,e1,e2,e3,hp]
  obtain⟨v,E4,h1,h2,h3,h4⟩:=vaC (P:=qi) (st:=34) (ty:=ty) tok hS4 hd hs hev;exact⟨v,E4,h1,h3,hx24.trans h4⟩
 obtain⟨v2,E4,hc2,hS5,hx5⟩:=hW3 3
 have hfin:VR E4 (.os true 2 σ.length 0 0 (n+1) false) (.slice (some ⟨E.w.heap.size,0,none⟩) (n+1) G):=by
  have:=osn hx5 0 (n+1) (by omega)
  rwa [um,uO] at this
 have hxf:Ext E E4:=hx02.trans hx5
 have hnew':∀ i2 v2 nb,E.loc i2=some (v2,some nb)→E4.loc σ.length=some (0,some nb)→False:=by
  intro i2 v2 nb h1 h2
  have h3:=hx5.back hok2 h2
  rw[hloc2] at h3; cases h3
  have:=(hS.blk _ _ _ h1).1
  omega
 have hz1:¬ ((i:Int)=(n:Int)):=by omega
 have hw1:IntKind.i64.wrap ((i:Int)+1)=(i:Int)+1:=by rw[IntKind.wrap_i64]; omega
 have hw2:IntKind.i64.wrap ((n:Int)+1)=(n:Int)+1:=by rw[IntKind.wrap_i64]; omega
 have hw3:IntKind.i64.wrap ((n:Int)+1-(i:Int))=(n:Int)+1-(i:Int):=by rw[IntKind.wrap_i64]; omega
 have hb1:(0:Int)≤(i:Int)+1:=by omega
 have hin:i≤n:=by omega
 have htn:((i:Int)+1).toNat=i+1:=by omega
 have hb2:¬ (G=i+1):=by omega
 have hb3:(i:Int)≤(n:Int)+1:=by omega
 have hb4:¬ (G=i):=by omega
 have hb5:¬ (n=i):=by omega
 have hz3:(n:Int)<(n:Int)+1:=by omega
 have mixed:Tryz.prog.follows .mixedOrders=true:=by kernel_rfl
 have hrz1:=hrz 34;rw[← hE2w] at hrz1
 clear hS hcs hS1 os1 osv hrz hrd hos hto hS2 hx2 osn hold2 hset2 hat2 hW3 hE2 hE2w hloc2 hok2 hsh2 hx02 hold0 hG hconc hcsz
 go_enter Tryz.func234,Tryz.ntmps234
 go_wp2_with (first
  |(at_builtin; refine Lib.wpList_append_run _ rfl _ _ _ _ rfl _ _ rfl rfl _ _ hrz1 ?_)
  |(at_builtin; refine wpList_copy_runI _ rfl _ _ 34 34 rfl _ _ rfl rfl hc1 ?_))
 go_region_law_o (refine step_copy_runI rfl _ _ 34 34 rfl _ _ (by simp[Act.eval,Act.put]) (by simp[Act.eval,Act.put]) hc2 ?_)
 go_wp2
 go_ret
 exact⟨E4,_,rfl,rfl,hfin,hS5,hxf,hnew'⟩
end
section
set_option maxRecDepth 20000
open Go.RowKit AM
theorem SR.die {E:Env}{σ:zi}(hS:SR E σ):SR { E with n:=E.n+1 } (σ++[.dead])∧Ext E { E with n:=E.n+1 }:=by
 have hx:Ext E { E with n:=E.n+1 } := {
  os:=rfl,tape:=rfl,output:=rfl,size:=qI _,shape:=fun _ _ h=>h,st:=fun _ h=>⟨h,rfl⟩,n:=Nat.le_succ _,
  loc:=fun _ _ v o h=>⟨v,o,h,qI _,fun _=>rfl⟩,old:=fun _ _ _=>rfl,own:=fun id v _ h _=>⟨id,v,h⟩,stn:=fun _ h=>.inl h }
 have hn:E.loc σ.length=none:=by
  have:=hS.obj σ.length;rw[uu (qI _)] at this;exact this
 refine⟨⟨by simp[hS.len],fun id=>?_,hS.inj,hS.blk,hS.stb,hS.glb⟩,hx⟩
 by_cases h1:id<σ.length
 · rw[qZ h1]
   exact (hS.obj id).ext hx rfl fun _ _ _=>rfl
 by_cases h2:id=σ.length
 · subst h2;rw[un (qI _),uI];exact hn
 rw[uu (by simp; omega)];have:=hS.obj id;rw[uu (by omega)] at this;exact this
theorem SR.swap {E:Env}{σ:zi}{cs:List AV}(hS:SR E (σ++[.cells 0 cs])){id ver b nb:Nat}(hlt:id<σ.length)(hl:E.loc id=some (ver,some b))(hn:E.loc σ.length=some (0,some nb)):
 let E':Env := { E with loc:=fun i=>if i=id then some (ver+1,some nb) else if i=σ.length then none else E.loc i }
 SR E' (σ.set id (.cells (ver+1) cs)++[.dead])∧ExtV E E'∧∀ sz len v,VR E (.os true sz σ.length 0 0 len false) v→VR E' (.os true sz id (ver+1) 0 len false) v:=by
 intro E'
 have hid:E'.loc id=some (ver+1,some nb):=by simp[E']
 have hlast:E'.loc σ.length=none:=by simp[E']; omega
 have hother:∀ i,i≠id→i≠σ.length→E'.loc i=E.loc i:=fun i h1 h2=>by simp[E',h1,h2]
 have hx:ExtV E E' := {
  shape:=fun _ _ h=>h
  st:=fun _ h=>⟨h,rfl⟩
  n:=qI _
  loc:=fun i _ v o h=>by
   by_cases h1:i=id
   · subst h1; rw[hid] at h; cases h; exact⟨ver,some b,hl,by omega,fun e=>by omega⟩
   by_cases h2:i=σ.length
   · subst h2; rw[hlast] at h; cases h
   rw[hother i h1 h2] at h; exact⟨v,o,h,qI _,fun _=>rfl⟩ }
 have hnE:E.n=σ.length+1:=by have:=hS.len; simp at this; omega
 have hold:∀ i v c,E'.loc i=some (v,some c)→(i=id∧c=nb)∨(i≠id∧i≠σ.length∧E.loc i=some (v,some c)):=by
  intro i v c h
  by_cases h1:i=id
  · subst h1; rw[hid] at h; cases h; exact .inl ⟨rfl,rfl⟩
  by_cases h2:i=σ.length
  · subst h2; rw[hlast] at h; cases h
  rw[hother i h1 h2] at h; exact .inr ⟨h1,h2,h⟩
 refine⟨⟨by simp[hnE,E'],fun i=>?_,fun i i' v v' c h1 h2=>?_,fun i v c h=>?_,hS.stb,hS.glb⟩,hx,fun sz len v h=>?_⟩
 · by_cases h1:i=id
   · subst h1;rw[qZ (by simpa using hlt),uq hlt];have:=hS.obj σ.length;rw[un (qI _),uI] at this
     rcases this with ⟨c,e1,e2⟩|⟨_,e1⟩
     · rw[hn] at e1; cases e1
       refine .inl ⟨nb,hid,?_⟩;obtain⟨conc,t,fr,a1,a2,a3,a4⟩:=e2.blk;exact⟨conc,t,fr,a1,a2,a3,fun k hk=>(a4 k hk).extV hx⟩
     rw[hn] at e1; cases e1
   by_cases h2:i=σ.length
   · subst h2;rw[un (by simp)];simp only[List.length_set,uI,uB];exact hlast
   have ho:=hS.obj i
   by_cases h3:i<σ.length
   · rw[qZ (by simpa using h3),q3 (fun e=>h1 e.symm)];rw[qZ h3] at ho
     exact ho.extV hx (hother i h1 h2) fun _ _ _=>rfl
   rw[uu (by simp; omega)] at ho ⊢;exact (hother i h1 h2).trans ho
 · rcases hold _ _ _ h1 with ⟨e1,e2⟩|⟨e1,e2,e3⟩
   · subst e1; subst e2
     rcases hold _ _ _ h2 with ⟨f1,f2⟩|⟨f1,f2,f3⟩
     · exact f1.symm
     exact absurd (hS.inj _ _ _ _ _ f3 hn) f2
   rcases hold _ _ _ h2 with ⟨f1,f2⟩|⟨f1,f2,f3⟩
   · subst f2; exact absurd (hS.inj _ _ _ _ _ e3 hn) e2
   exact hS.inj _ _ _ _ _ e3 f3
 · rcases hold _ _ _ h with ⟨e1,e2⟩|⟨e1,e2,e3⟩
   · subst e2; exact hS.blk _ _ _ hn
   exact hS.blk _ _ _ e3
 have hok:E'.ok id (ver+1):=⟨by show id<E.n; omega,fun v o h=>by rw[hid] at h; cases h; exact qI _⟩
 cases h with
 |osn _ _ _ _ _ a hk h=>
  have:=h _ hn; cases this
 |os _ _ _ _ _ _ _ a cap hk hc ht hB h=>
  refine .os _ _ _ _ _ _ _ a cap hok hc ht hB fun ob hob=>?_
  rw[hid] at hob; cases hob
  exact h _ hn
theorem Ext.swap {E0 E:Env}(hx:Ext E0 E){σ0:zi}(h0:SR E0 σ0){id ver b nb:Nat}(hl:E.loc id=some (ver,some b))(hn:E.loc σ0.length=some (0,some nb))(hnb:E0.w.heap.size≤nb)(hlt:id<σ0.length):
 Ext E0 { E with loc:=fun i=>if i=id then some (ver+1,some nb) else if i=σ0.length then none else E.loc i }:=by
 refine { hx with loc:=fun i hi v o h=>?_,own:=fun i v c h hc=>?_,n:=hx.n,st:=hx.st }
 · by_cases h1:i=id
   · subst h1;simp only[if_true,Option.some.injEq,Prod.mk.injEq] at h;obtain⟨v0,o0,e1,e2,e3⟩:=hx.loc _ hi _ _ hl;exact⟨v0,o0,e1,by omega,fun e=>by omega⟩
   simp only[if_neg h1] at h
   split at h
   · cases h
   exact hx.loc i hi v o h
 by_cases h1:i=id
 · subst h1;simp only[if_true,Option.some.injEq,Prod.mk.injEq] at h
   omega
 simp only[if_neg h1] at h
 split at h
 · cases h
 exact hx.own i v c h hc
theorem ACalls.dies {P:Program}{f:FuncId}{args:List AV}{σ:zi}{x:AV}{τ:zi}(h:ACalls P f args σ fun r σ'=>r=x∧σ'=τ):ACalls P f args σ fun r σ'=>r=x∧σ'=τ++[.dead]:=by
 refine⟨h.1,fun E vs hS hl=>(h.2 E vs hS hl).mono ?_⟩;rintro e w ⟨v,r,σ',E',rfl,rfl,h3,h4,h5,rfl,rfl⟩;obtain⟨g1,g2⟩:=SR.die h4;exact⟨_,_,_,{ E' with n:=E'.n+1 },rfl,rfl,h3.ext g2,g1,h5.trans g2,rfl,rfl⟩
theorem bump {E E':Env}{σ:zi}(hS:SR E σ){id ver b:Nat}{cs cs':List AV}(hcs:zi.at σ id ver=some cs)(hk:E.ok id ver)(hloc:E.loc id=some (ver,some b))(hne:cs.length≠0)(hlen:cs'.length≠0)(h4:SR E' (σ.set id (.cells ver cs')))(h5:Ext E E'){sz len:Nat}{v:Value}
 (h3:VR E' (.os true sz id ver 0 len false) v):
 ∃ E2:Env,E2.w=E'.w∧SR E2 (σ.set id (.cells (ver+1) cs'))∧VR E2 (.os true sz id (ver+1) 0 len false) v∧Ext E E2:=by
 have hat:=zi.at_set (ver':=ver) (cs':=cs') hcs
 have hl':E'.loc id=some (ver,some b):=by
  rcases h4.at hat with ⟨b',e1,_⟩|⟨e1,_⟩
  · have:=h5.back hk e1; rw[hloc] at this; cases this; exact e1
  rw[e1] at hlen; exact absurd rfl hlen
 obtain⟨hS3,hx3⟩:=h4.move (vag.refl E'.w) hat hl' (ob:=some b) (fun b hb=>by cases hb; exact⟨.inr rfl,(h4.blk _ _ _ hl').1⟩) (cs:=cs') (.inl ⟨b,by simp[Env.move],by
  rcases h4.at hat with ⟨b1,h1,hblk1⟩|⟨_,h1⟩
  · rw[hl'] at h1; cases h1
    obtain⟨conc,t,fr,a1,a2,a3,a4⟩:=hblk1.blk;exact⟨conc,t,fr,a1,a2,a3,fun k hk=>(a4 k hk).ext (Ext.move h4.stb (vag.refl _) hl' _ fun b hb=>by cases hb; exact .inr rfl)⟩
  rw[hl'] at h1; cases h1⟩)
 rw[List.set_set] at hS3;refine⟨E'.move E'.w id (ver+1) (some b),rfl,hS3,?_,h5.trans hx3⟩;have hok:(E'.move E'.w id (ver+1) (some b)).ok id (ver+1):=⟨ug hk.1 h5.n,fun v o hvo=>by simp[Env.move] at hvo; omega⟩
 cases h3 with
 |osn _ _ _ _ _ a hk h=>have:=h _ hl'; cases this
 |os _ _ _ _ _ _ _ a cap hk hc ht hB h=>
  refine .os _ _ _ _ _ _ _ a cap hok hc ht hB fun ob hob=>?_
  simp only[Env.move,if_true,Option.some.injEq,Prod.mk.injEq,true_and] at hob;subst hob;exact h _ hl'
theorem Insert_at {σ:zi}{id ver n i vid vver:Nat}{nl:Bool}{cells new:List AV}(hcs:zi.at σ id ver=some cells)(hlen:cells.length=n*2)(hone:cells.all AV.one=true)(hi:i≤n)(hn:(n+1)*32≤140737488355328)
 (hv:zi.at σ vid vver=some new) (hnew:new.length=2) (honev:new.all AV.one=true) (hvid:vid≠id):
 ACalls qi 234 [.os nl 2 id ver 0 n false,.int .i64 (i:Int),.os true 2 vid vver 0 1 true] σ (fun r σ'=>r=.os true 2 id (ver+1) 0 (n+1) false∧
  σ'=σ.set id (.cells (ver+1) (cells.take (i*2)++(new++cells.drop (i*2))))++[.dead]):=by
 have hlt:=zi.at_lt hcs
 by_cases hin:i=n
 · subst hin;refine ACalls.dies ?_;refine YE (rs:=[.tmp 6]) tok Tryz.func234 rfl Tryz.ntmps234 rfl Tryz.call234 (by simp) ?_
   have hap:yR tab 34 34 (.os nl 2 id ver 0 i false) (.os true 2 vid vver 0 1 true) σ=some (.os true 2 id (ver+1) 0 (i+1) false,σ.set id (.cells (ver+1) (cells++new))):=by
    have e1:xf σ 2 (.os true 2 vid vver 0 1 true)=some (1,new):=by
     simp only[xf,hv];rw[if_pos (by omega),qq,Nat.one_mul,← hnew,uc]
    have hg:((i+1)*32≤140737488355328)=True:=eq_true (by omega);simp only[yR,va6,va5,e1,yU,hg,honev,qe,and_self,if_true,yp,hcs,hlen]
   have hsl:Yi tab 34 (.os nl 2 id ver 0 i false) (some (.int .i64 (i:Int))) none none=some (.os nl 2 id ver (i*2) (i-i) false):=by
    simp only[Yi,va6,va5,vcY]
    simp
   refine zC [(0,.os nl 2 id ver 0 i false),(1,.int .i64 (i:Int)),(2,.os true 2 vid vver 0 1 true)] ⟨rfl,rfl,rfl,trivial⟩ ?_
   refine rg tok [0,1,2,6] fun K hK=>?_
   simp only[go_sem,qe,qa,reduceCtorEq];apply hK
   clear hK K
   refine rg tok [0,1,2,6] fun K hK=>?_
   simp only[go_sem,qe,qa,reduceCtorEq,hsl];apply hK
   clear hK K
   refine rg tok [0,1,2,6,7] fun K hK=>?_
   simp only[go_sem,qe,qa,reduceCtorEq];apply hK
   clear hK K
   refine ze fun Z hZ=>?_
   refine rg tok [0,1,2,6,7,16] fun K hK=>?_
   simp only[go_sem,qe,qa,reduceCtorEq];apply hK
   clear hK K
   refine yn rfl (fun h=>absurd h (by decide)) (fun _=>?_);refine zp ?_;refine hZ _ _ ?_
   clear hZ Z
   refine rg tok [0,1,2,6,7,8] fun K hK=>?_
   simp only[go_sem,qe,qa,reduceCtorEq];apply hK
   clear hK K
   refine ze fun Z hZ=>?_
   refine rg tok [0,1,2,6,7,8,22] fun K hK=>?_
   simp only[go_sem,qe,qa,reduceCtorEq,decide_true];apply hK
   clear hK K
   refine zQ rfl ?_
   refine rg tok [6] fun K hK=>?_
   simp only[go_sem,qe,qa,reduceCtorEq,hap];apply hK
   clear hK K
   refine yk ?_;simp only[ZA,yT,yY,xR,exists_eq_left',go_sem];rw[← hlen,uc,List.drop_length,qB]
 have hi':i<n:=by omega
 refine⟨Tryz.call234,fun E vs hS hl=>?_⟩;obtain⟨l1,l2⟩:=hl.arr
 rcases vs with ⟨_|⟨v0,_|⟨v1,_|⟨v2,_|⟨v3,l⟩⟩⟩⟩⟩<;>simp only[List.size_toArray,qp,qz,qc,reduceCtorEq,qa] at l1
 have h0:VR E (.os nl 2 id ver 0 n false) v0:=l2 0 (by simp);have h1:VR E (.int .i64 (i:Int)) v1:=l2 1 (by simp);have h2:VR E (.os true 2 vid vver 0 1 true) v2:=l2 2 (by simp)
 clear l2 hl
 cases h1
 cases h0 with
 |osn=>omega
 |os _ _ _ _ _ _ _ a cap hk hc ht hB hp=>
 cases h2 with
 |os _ _ _ _ _ _ _ av capv hkv hcv htv hBv hpv=>
 have:=htv rfl; subst this
 obtain⟨b,hloc,_⟩:=hS.block_of hcs (show 0<cells.length by omega);obtain⟨vb,hvloc,_⟩:=hS.block_of hv (show 0<new.length by omega);obtain⟨b',e1,e2,t,m,hsh,hts,hm⟩:=hp _ hloc;cases e1
 have:=e2.resolve_left (by omega); subst this
 obtain⟨b',e1,e2,tv,mv,hvsh,hvts,hmv⟩:=hpv _ hvloc;cases e1
 have:=e2.resolve_left (by omega); subst this
 by_cases hroom:n+1≤cap
 · refine (ins_shift hS hcs hlen hone hi' hloc hk hsh hts (by omega) hroom hn hv hnew honev hvid hvloc hkv hvsh hvts (by omega)).mono ?_;rintro e w ⟨E',rfl,rfl,h3,h4,h5⟩;obtain⟨E2,g1,g2,g3,g4⟩:=bump hS hcs hk hloc (by omega) (by simp only[qk,hnew]; omega) h4 h5 h3;obtain⟨hS3,hx3⟩:=SR.die g2;exact⟨_,_,_,{ E2 with n:=E2.n+1 },rfl,g1,g3.ext hx3,hS3,g4.trans hx3,rfl,rfl⟩
 have hcn:cap=n:=by omega
 subst hcn;refine (ins_grow hS hcs hlen hone hi' hloc hk hsh hts (by omega) hn hv hnew honev hvid hvloc hkv hvsh hvts (by omega)).mono ?_;rintro e w ⟨E',v,rfl,rfl,h3,h4,h5,hnew'⟩
 have hl':E'.loc id=some (ver,some b):=by
  have:=(h4.at (id:=id) (ver:=ver) (cs:=cells) (by
   have:=zi.at_lt hcs
   unfold zi.at at hcs ⊢; rw[qZ this]; exact hcs))
  rcases this with ⟨b',e1,_⟩|⟨e1,_⟩
  · have:=h5.back hk e1; rw[hloc] at this; cases this; exact e1
  rw[e1] at hlen; simp at hlen; omega
 have hn':∃ nb,E'.loc σ.length=some (0,some nb)∧E.w.heap.size≤nb:=by
  rcases h4.at (zi.at_new σ 0 _) with ⟨nb,e1,_⟩|⟨e1,_⟩
  · refine⟨nb,e1,Nat.le_of_not_lt fun hlt'=>?_⟩;obtain⟨i2,v2,e2⟩:=h5.own _ _ _ e1 hlt';exact hnew' i2 v2 nb e2 e1
  have:(cells.take (i*2)++(new++cells.drop (i*2))).length=0:=by rw[e1]; rfl
  simp only[qk,hnew] at this; omega
 obtain⟨nb,hn1,hn2⟩:=hn';obtain⟨g1,g2,g3⟩:=SR.swap h4 hlt hl' hn1;exact⟨_,_,_,{ E' with loc:=fun i=>if i=id then some (ver+1,some nb) else if i=σ.length then none else E'.loc i },rfl,rfl,g3 _ _ _ h3,g1,Ext.swap h5 hS hl' hn1 hn2 hlt,rfl,rfl⟩
end
section
set_option maxRecDepth 8000
set_option maxHeartbeats 1000000
open Go.RowKit AM
structure Ent where
 tag:Int
 id:Nat
 ver:Nat
 trees:List zq
def Ent.cells (e:Ent):List AV:=[.int .i64 e.tag,.os true 5 e.id e.ver 0 e.trees.length false]
def Ent.val (e:Ent):zA:=⟨e.tag,e.trees⟩
structure Rep (σ:zi)(tid eid ever:Nat)(L:List Ent):Prop where
 t:zi.at σ tid 0=some [.int .i64 3,.int .i64 0,.str [],.os true 2 eid ever 0 L.length false,.ds true [] 0 true]
 e:zi.at σ eid ever=some (L.flatMap Ent.cells)
 tr:∀ x∈L,zi.at σ x.id x.ver=some (x.trees.flatMap ym)
 nd:(tid::eid::L.map Ent.id).Nodup
def vcF (es:List zA)(f:ZT)(x:zq):Option (List zA×Bool):=
 (z2 es f.fTag).bind fun p=>
 (if p.2=true then some es else (grd (0≤p.1∧p.1≤(es.length:Int))).bind fun _=>(vai (es.length+1) 32).bind fun _=>some (es.take p.1.toNat++⟨f.fTag,[]⟩::es.drop p.1.toNat)).bind fun es1=>
 (YN es1 p.1).bind fun e=>
 (vai ((if f.fLabel=3 then e.fTrees.length else 0)+1) 80).bind fun _=>
 some (es1.set p.1.toNat ⟨e.fTag,(if f.fLabel=3 then e.fTrees else [])++[x]⟩,decide ((((if f.fLabel=3 then e.fTrees else [])++[x]).length:Int)≤64))
theorem Ym {σ:zi}{id ver:Nat}{cs:List AV}(h:zi.at σ id ver=some cs)(l:zi):zi.at (σ++l) id ver=some cs:=by
 have:=zi.at_lt h
 unfold zi.at at h ⊢; rw[qZ this]; exact h
theorem Zj {σ:zi}{id id' ver:Nat}{cs:List AV}(h:zi.at σ id ver=some cs)(hne:id≠id')(o:Yt):zi.at (σ.set id' o) id ver=some cs:=by
 unfold zi.at at h ⊢; rw[q3 (fun e=>hne e.symm)]; exact h
theorem vco (σ:zi)(cs:List AV)(l:zi):zi.at (σ++.cells 0 cs::l) σ.length 0=some cs:=by
 unfold zi.at; rw[un (qI _),uI]; rfl
theorem at_end1 (σ:zi)(o:Yt)(cs:List AV)(l:zi):zi.at (σ++o::.cells 0 cs::l) (σ.length+1) 0=some cs:=by
 unfold zi.at; rw[un (by omega)]; simp
theorem Rep.app {σ:zi}{tid eid ever:Nat}{L:List Ent}(h:Rep σ tid eid ever L)(l:zi):Rep (σ++l) tid eid ever L:=
 ⟨Ym h.t l,Ym h.e l,fun x hx=>Ym (h.tr x hx) l,h.nd⟩
theorem Rep.toldC {σ:zi}{tid eid ever:Nat}{L:List Ent}(h:Rep σ tid eid ever L)(keep:List Nat)(ls:Bool)(f:Nat)(hk:∀ y∈L,Xb keep y.id 0=none):(L.flatMap Ent.cells).map (tell σ keep ls (f+2))=(L.map Ent.val).flatMap zz:=by
 have key:∀ l:List Ent,(∀ x∈l,x∈L)→(l.flatMap Ent.cells).map (tell σ keep ls (f+2))=(l.map Ent.val).flatMap zz:=by
  intro l
  induction l with
  |nil=>intro _; rfl
  |cons a l ih=>
   intro hl
   have h1:=h.tr a (hl a (qX ..));have h2:=hk a (hl a (qX ..));simp only[qC,qs,qt,ih fun x hx=>hl x (qU _ hx)]
   congr 1
   simp only[Ent.cells,Ent.val,qt,qr,vbB,ZI,h2,h1,z8,zF,zA.fTag,zA.fTrees];have hl:(a.trees.flatMap ym).length=a.trees.length*5:=zX E38.len a.trees;rw[if_pos (by rw[hl]; omega),qq,← hl,uc,zx]
 exact key L (fun _ h=>h)
theorem Rep.told {σ:zi}{tid eid ever:Nat}{L:List Ent}(h:Rep σ tid eid ever L)(nl:Bool):tell σ [] true 12 (.os nl 2 eid ever 0 L.length false)=.ds true ((L.map Ent.val).flatMap zz) (L.map Ent.val).length false:=by
 have hl:(L.flatMap Ent.cells).length=L.length*2:=by
  clear h
  induction L with
  |nil=>rfl
  |cons a l ih=>rw[qC,qk,ih]; simp[Ent.cells]; omega
 simp only[ZI,Zi,h.e];rw[if_pos (by rw[hl]; omega),qq,← hl,uc,h.toldC [] true 9 (fun _ _=>rfl),uj]
theorem Rep.set_ne {σ:zi}{tid eid ever:Nat}{L:List Ent}(h:Rep σ tid eid ever L){j:Nat}(hj:j∉tid::eid::L.map Ent.id)(o:Yt):Rep (σ.set j o) tid eid ever L:=by
 refine⟨Zj h.t (fun e=>hj (by rw[← e]; simp)) o,Zj h.e (fun e=>hj (by rw[← e]; simp)) o,fun x hx=>Zj (h.tr x hx) (fun e=>hj ?_) o,h.nd⟩;rw[← e];exact qU _ (qU _ (ux.2 ⟨x,hx,rfl⟩))
structure Mid (σ τ:zi)(tid eid ever:Nat)(ids:List Nat)(pre post:List Ent)(tag:Int)(av:AV)(trees:List zq):Prop where
 t:zi.at τ tid 0=some [.int .i64 3,.int .i64 0,.str [],.os true 2 eid ever 0 (pre.length+(1+post.length)) false,.ds true [] 0 true]
 e:zi.at τ eid ever=some (pre.flatMap Ent.cells++([.int .i64 tag,av]++post.flatMap Ent.cells))
 tr:∀ y∈pre++post,zi.at τ y.id y.ver=some (y.trees.flatMap ym)
 nd:(tid::eid::(pre++post).map Ent.id).Nodup
 c:(av=.ds true [] 0 true∧trees=[])∨∃ id ver,av=.os true 5 id ver 0 trees.length false∧zi.at τ id ver=some (trees.flatMap ym)∧id∉tid::eid::(pre++post).map Ent.id∧id∈ids
 sub:∀ y∈pre++post,y.id∈ids
 len:σ.length+2≤τ.length
 fr:∀ j,j<σ.length→j∉tid::eid::ids→τ[j]?=σ[j]?
 lt:∀ j∈tid::eid::ids,j<σ.length
theorem agr_app {x:List Nat}:∀ {s:zi} {i:Nat} (l:zi),agr x i s s (s++l)=True:=by
 intro s
 induction s with
 |nil=>intro i l; rfl
 |cons a s ih=>intro i l; simp only[qF,agr,ih]; simp
theorem vcm (l:List Ent):(l.flatMap Ent.cells).length=l.length*2:=by
 induction l with
 |nil=>rfl
 |cons a l ih=>rw[qC,qk,ih]; simp[Ent.cells]; omega
theorem cells_one (l:List Ent):(l.flatMap Ent.cells).all AV.one=true:=by
 induction l with
 |nil=>rfl
 |cons a l ih=>rw[qC,List.all_append,ih]; rfl
theorem split_at {α:Type}{l:List α}{k:Nat}(h:k≤l.length):∃ a b,l=a++b∧a.length=k:=⟨l.take k,l.drop k,(ut k l).symm,by simp[h]⟩
theorem split_el {α:Type}{l:List α}{k:Nat}(h:k<l.length):∃ a x b,l=a++x::b∧a.length=k:=by
 refine⟨l.take k,l[k],l.drop (k+1),?_,by simp; omega⟩;rw[← List.drop_eq_getElem_cons h,ut]
theorem set_mid {α:Type}(a:List α)(x y:α)(b:List α):(a++x::b).set a.length y=a++y::b:=by
 rw[List.set_append_right _ _ (qI _),uI]; rfl
theorem gc_mid (a b:List AV)(x y:AV):gc (a++([x,y]++b)) (a.length+1)=y:=by
 rw[Xd _ _ _ (by omega),Nat.add_sub_cancel_left]; rfl
theorem set_mid1 (a b:List AV)(x y z:AV):(a++([x,y]++b)).set (a.length+1) z=a++([x,z]++b):=by
 rw[List.set_append_right _ _ (by omega),Nat.add_sub_cancel_left]; rfl
theorem put_at {σ:zi}{tid eid ever:Nat}{L:List Ent}(hR:Rep σ tid eid ever L)(f:ZT)(x:zq){es':List zA}{b:Bool}(h:vcF (L.map Ent.val) f x=some (es',b)):
 ACalls qi 195 [.op tid 0 0,.agg (yc f),.agg (za x)] σ (fun r σ'=>∃ ever' L',r=.bool b∧Rep σ' tid eid ever' L'∧L'.map Ent.val=es'∧
  (∀ y∈L',y.id∈L.map Ent.id∨σ.length≤y.id)∧σ.length≤σ'.length∧∀ j,j<σ.length→j∉tid::eid::L.map Ent.id→σ'[j]?=σ[j]?):=by
 refine YE (rs:=[.tmp 6]) tok Tryz.func195 rfl Tryz.ntmps195 rfl Tryz.call195 (by simp) ?_;refine zC [(0,.op tid 0 0),(1,.agg (yc f)),(2,.agg (za x))] ⟨rfl,rfl,rfl,trivial⟩ ?_
 refine rg tok [0,4,5,6] fun K hK=>?_
 simp only[go_sem,qe,qa,qc,reduceCtorEq,yc,za];apply hK
 clear hK K
 simp only[qu,qF,qE,qk,qp,qz,ql]
 obtain⟨σ1,hσ1⟩:∃ s,s=σ++[.cells 0 [.str f.fName,.int .i64 f.fTag,.int .i64 f.fLabel,.int .i64 f.fType.fKind,.str f.fType.fName],
  .cells 0 [.int .i64 x.fKind,.int .i64 x.fN,.str x.fS,.ds true (qh zz x.fEntries) x.fEntries.length false,.ds true (qh zu x.fRest) x.fRest.length false]]:=⟨_,rfl⟩
 rw[← hσ1];have hR1:Rep σ1 tid eid ever L:=hσ1▸hR.app _;have h4:zi.at σ1 σ.length 0=some [.str f.fName,.int .i64 f.fTag,.int .i64 f.fLabel,.int .i64 f.fType.fKind,.str f.fType.fName]:=hσ1▸vco _ _ _;have h5:zi.at σ1 (σ.length+1) 0=some [.int .i64 x.fKind,.int .i64 x.fN,.str x.fS,.ds true (qh zz x.fEntries) x.fEntries.length false,.ds true (qh zu x.fRest) x.fRest.length false]:=hσ1▸at_end1 _ _ _ _
 have hn1:σ1.length=σ.length+2:=by rw[hσ1]; simp
 have hfr:∀ j,j<σ.length→σ1[j]?=σ[j]?:=fun j hj=>by rw[hσ1,qZ hj]
 have hlt:∀ j∈tid::eid::L.map Ent.id,j<σ.length:=by
  intro j hj
  rcases q5.1 hj with rfl|hj
  · exact zi.at_lt hR.t
  rcases q5.1 hj with rfl|hj
  · exact zi.at_lt hR.e
  obtain⟨y,hy,rfl⟩:=ux.1 hj;exact zi.at_lt (hR.tr y hy)
 clear hσ1
 unfold vcF at h;obtain⟨p,hp,h⟩:=bind_some h;have ht1:=hR1.t
 refine rd [0,4,5,6,7,8] fun K hK=>?_
 refine DW.start (T:=tab) [.any,.any,.any,.at [],.any,.at [],.eff,.any,.any,.any,.any,.any] [] ?_;refine DW.runN tok 6 ?_;simp only[go_sem,qe,qa,qc,reduceCtorEq,ht1,h4];refine DW.call rfl rfl rfl ((z2.ok hp).lend rfl true 12 (by simp only[qt,qr,go_sem,qa,reduceCtorEq,hR1.told true,vbB]; rfl)) ?_;refine DW.runN tok 5 ?_;simp only[go_sem,qe,qa,qc,reduceCtorEq];refine DW.fin tok (by decide +kernel) rfl ?_;simp only[zG,upd,qa,reduceIte,xl,xU];apply hK
 clear hK K
 obtain⟨es1,hes1,h⟩:=bind_some h;obtain⟨e,he,h⟩:=bind_some h;obtain⟨u,hu,h⟩:=bind_some h;have hg:=xh hu
 have hidL:∀ l:List Ent,(l.map Ent.val).length=l.length:=fun l=>uj _
 refine xV (fun F τ=>F=[(0,AV.op tid 0 0),(4,.op σ.length 0 0),(5,.op (σ.length+1) 0 0),(6,.bool false),(7,.int .i64 p.1)]∧∃ ever' pre post av,p.1=(pre.length:Int)∧es1=pre.map Ent.val++e::post.map Ent.val∧Mid σ τ tid eid ever' (L.map Ent.id) pre post e.fTag av e.fTrees∧
  zi.at τ σ.length 0=some [.str f.fName,.int .i64 f.fTag,.int .i64 f.fLabel,.int .i64 f.fType.fKind,.str f.fType.fName]∧
  zi.at τ (σ.length+1) 0=some [.int .i64 x.fKind,.int .i64 x.fN,.str x.fS,.ds true (qh zz x.fEntries) x.fEntries.length false,.ds true (qh zu x.fRest) x.fRest.length false]) ?_ ?_
 · refine rg tok [0,4,5,6,7,21] fun K hK=>?_
   simp only[go_sem,qe,qa,reduceCtorEq];apply hK
   clear hK K
   refine zY (b := !p.2) rfl (fun hc=>?_) (fun hc=>?_)
   · have hc':p.2=false:=by simpa using hc
     rw[Zg hc'] at hes1;obtain⟨_,h1,hes1⟩:=bind_some hes1;obtain⟨_,h2,hes1⟩:=bind_some hes1;have h1:=Yh h1;have h2:=xh h2;obtain rfl:=Option.some.inj hes1
     obtain⟨k,hk⟩:∃ k:Nat,p.1=k:=⟨p.1.toNat,by omega⟩
     rw[hk] at he h1 ⊢;simp only[ul,hidL] at he h1 h2
     have hkl:k≤L.length:=by omega
     obtain⟨pre,post,rfl,rfl⟩:=split_at hkl;have hl2:(pre++post).length=pre.length+post.length:=qk
     have e1:List.take pre.length ((pre++post).map Ent.val)=pre.map Ent.val:=by rw[qs,← uj (f:=Ent.val),List.take_left]
     have e2:List.drop pre.length ((pre++post).map Ent.val)=post.map Ent.val:=by rw[qs,← uj (f:=Ent.val),List.drop_left]
     rw[e1,e2] at he
     have hee:e=⟨f.fTag,[]⟩:=by
      obtain⟨_,_,_,g3⟩:=ZN he
      rw[← g3]; simp
     subst hee;rw[ul,e1,e2]
     have hc1:((pre++post).flatMap Ent.cells).take (pre.length*2)=pre.flatMap Ent.cells:=by rw[qD,← vcm,List.take_left]
     have hc2:((pre++post).flatMap Ent.cells).drop (pre.length*2)=post.flatMap Ent.cells:=by rw[qD,← vcm,List.drop_left]
     have htl:(tid<σ1.length)=True:=eq_true (by have:=hlt tid (by simp); omega);have htl2:(tid<σ.length)=True:=eq_true (hlt tid (by simp));have hel:=hlt eid (by simp)
     have hte:tid≠eid:=by have:=hR1.nd; simp at this; exact this.1.1
     have hins:=Insert_at (σ:=σ1++[Yt.cells 0 [AV.int .i64 f.fTag,AV.ds true [] 0 true]]) (nl:=true) (i:=pre.length) (Ym hR1.e _) (vcm _) (cells_one _) (by omega) (by have:=of_eq_true h2; omega) (vco σ1 _ []) (new:=[AV.int .i64 f.fTag,AV.ds true [] 0 true]) rfl rfl (by omega);rw[hc1,hc2] at hins
     obtain⟨σ2,hσ2⟩:∃ s,s=List.set (σ1++[Yt.cells 0 [AV.int .i64 f.fTag,AV.ds true [] 0 true]]) eid (Yt.cells (ever+1) (pre.flatMap Ent.cells++([AV.int .i64 f.fTag,AV.ds true [] 0 true]++post.flatMap Ent.cells)))++[Yt.dead]:=⟨_,rfl⟩
     rw[← hσ2] at hins
     have ht2:zi.at σ2 tid 0=some [.int .i64 3,.int .i64 0,.str [],.os true 2 eid ever 0 (pre++post).length false,.ds true [] 0 true]:=by
      rw[hσ2]; exact Ym (Zj (Ym hR1.t _) hte _) _
     refine rdE [0,4,5,6,7] fun K hK=>?_
     refine DW.start (T:=tab) [.any,.any,.any,.any,.own 1 [],.any,.any,.at [],.any,.eff,.eff,.any,.any,.eff] [(1,[])] ?_;refine DW.runN tok 6 ?_;simp only[go_sem,qe,qa,qc,reduceCtorEq,ht1,htl];refine DW.runN tok 4 ?_;simp only[go_sem,qe,qb,qa,qc,qd,reduceCtorEq,h4,zU,yA,qY,qN,true_and,q1,agr_app];refine DW.callS rfl rfl rfl hins (fun m x hm hle=>by simp at hm hle; omega) ?_;refine DW.runN tok 3 ?_;simp only[go_sem,qe,qb,qa,qc,reduceCtorEq,ht2];refine DW.fin tok (by decide +kernel) rfl ?_;simp only[zG,upd,qa,reduceIte,xl,xU];apply hK
     clear hK K
     have hnd:=hR1.nd
     have keep:∀ {j v:Nat} {cs:List AV},zi.at σ1 j v=some cs→j≠eid→j≠tid→zi.at (σ2.set tid (.cells 0 [.int .i64 3,.int .i64 0,.str [],.os true 2 eid (ever+1) 0 ((pre++post).length+1) false,.ds true [] 0 true])) j v=some cs:=by
      intro j v cs hj h1 h2
      refine Zj ?_ h2 _
      rw[hσ2]; exact Ym (Zj (Ym hj _) h1 _) _
     have hnid:∀ y∈pre++post,y.id≠eid∧y.id≠tid:=by
      intro y hy
      have hm:y.id∈(pre++post).map Ent.id:=ux.2 ⟨y,hy,rfl⟩;rw[List.nodup_cons,List.nodup_cons] at hnd;exact⟨fun e=>hnd.2.1 (e▸hm),fun e=>hnd.1 (qU _ (e▸hm))⟩
     simp only[zG];refine⟨_,_,⟨rfl,ever+1,pre,post,.ds true [] 0 true,rfl,rfl,⟨?_,?_,?_,hnd,.inl ⟨rfl,rfl⟩,?_,?_,?_,hlt⟩,keep h4 (by omega) (by have:=of_eq_true htl2; omega),keep h5 (by omega) (by have:=of_eq_true htl2; omega)⟩,.same ⟨rfl,rfl,rfl,rfl,rfl,trivial⟩ rfl⟩
     · have:=zi.at_set (ver':=0) (cs':=[.int .i64 3,.int .i64 0,.str [],.os true 2 eid (ever+1) 0 ((pre++post).length+1) false,.ds true [] 0 true]) ht2;rw[this,hl2];simp only[Option.some.injEq,List.cons.injEq,AV.os.injEq,true_and,and_true]
       omega
     · refine Zj ?_ hte.symm _
       rw[hσ2]; exact Ym (zi.at_set (Ym hR1.e _)) _
     · intro y hy; exact keep (hR1.tr y hy) (hnid y hy).1 (hnid y hy).2
     · intro y hy; exact ux.2 ⟨y,hy,rfl⟩
     · rw[hσ2]; simp; omega
     intro j hj hjn
     simp only[q5,not_or] at hjn;rw[q3 (fun e=>hjn.1 e.symm),hσ2,qZ (by simp; omega),q3 (fun e=>hjn.2.1 e.symm),qZ (by omega)];exact hfr j hj
   have hc':p.2=true:=by simpa using hc
   rw[if_pos hc'] at hes1;obtain rfl:=Option.some.inj hes1
   obtain⟨k,hk⟩:∃ k:Nat,p.1=k:=⟨p.1.toNat,by have:=(ZN he).1; omega⟩
   have he':=he;rw[hk] at he';obtain⟨g0,g1,g2,g3⟩:=ZN he';simp only[ul,hidL] at g1 g2 g3;obtain⟨pre,a,post,rfl,rfl⟩:=split_el (show k<L.length by omega)
   have hea:e=a.val:=by
    rw[← g3]; simp
   subst hea;refine zp ?_;simp only[zG];refine⟨_,σ1,⟨rfl,ever,pre,post,.os true 5 a.id a.ver 0 a.trees.length false,hk,by simp,⟨?_,?_,?_,?_,?_,?_,?_,?_,?_⟩,h4,h5⟩,.same ⟨rfl,rfl,rfl,rfl,rfl,trivial⟩ rfl⟩
   · have:=hR1.t
     rw[qk,qp,Nat.add_comm post.length 1] at this; exact this
   · have:=hR1.e
     rw[qD,qC] at this; exact this
   · intro y hy
     refine hR1.tr y ?_
     rcases uP.1 hy with h|h
     · exact uT _ h
     exact List.mem_append_right _ (qU _ h)
   · have:=hR1.nd;refine List.Nodup.sublist ?_ this;refine List.Sublist.cons_cons _ (List.Sublist.cons_cons _ ?_);exact (List.Sublist.append_left (List.sublist_cons_self _ _) _).map _
   · refine .inr ⟨a.id,a.ver,rfl,hR1.tr a (by simp),?_,by simp⟩;have:=hR1.nd;simp only[qs,qt,List.nodup_cons,q5,uP,List.nodup_append,not_or] at this ⊢;obtain⟨⟨h1,h2,h3,h4⟩,⟨h5,h6,h7⟩,h8,⟨h9,h10⟩,h11⟩:=this;exact⟨fun e=>h3 e.symm,fun e=>h6 e.symm,fun hm=>h11 _ hm _ (.inl rfl) rfl,h9⟩
   · intro y hy
     rcases uP.1 hy with h|h
     · exact ux.2 ⟨y,uT _ h,rfl⟩
     exact ux.2 ⟨y,List.mem_append_right _ (qU _ h),rfl⟩
   · omega
   · intro j hj _; exact hfr j hj
   exact hlt
 clear hes1 hp ht1 hR1 h4 h5 hn1 hfr σ1
 rintro _ τ ⟨rfl,ever1,pre,post,av,hp1,rfl,hM,h4,h5⟩;rw[hp1] at he h;simp only[ul] at h
 have hix:ZF tab 34 (.os true 2 eid ever1 0 (pre.length+(1+post.length)) false) (.int .i64 p.1)=some (.op eid ever1 (pre.length*2)):=by
  rw[hp1];simp only[ZF,va6,va5]
  simp
  omega
 have ht:=hM.t
 refine rg tok [4,5,6,9] fun K hK=>?_
 simp only[go_sem,qe,qa,qc,reduceCtorEq,ht,hix];apply hK
 clear hK K
 have hcl:(pre.flatMap Ent.cells).length=pre.length*2:=vcm pre
 refine xV (fun F τ'=>F=[(5,AV.op (σ.length+1) 0 0),(6,.bool false),(9,.op eid ever1 (pre.length*2))]∧∃ av',Mid σ τ' tid eid ever1 (L.map Ent.id) pre post e.fTag av' (if f.fLabel=3 then e.fTrees else [])∧
  zi.at τ' (σ.length+1) 0=some [.int .i64 x.fKind,.int .i64 x.fN,.str x.fS,.ds true (qh zz x.fEntries) x.fEntries.length false,.ds true (qh zu x.fRest) x.fRest.length false]) ?_ ?_
 · refine rg tok [5,6,9,43] fun K hK=>?_
   simp only[go_sem,qe,qa,qc,h4];apply hK
   clear hK K
   refine yn rfl (fun hc=>?_) (fun hc=>?_)
   · obtain⟨cs,hcs⟩:∃ cs,cs=pre.flatMap Ent.cells++([.int .i64 e.fTag,av]++post.flatMap Ent.cells):=⟨_,rfl⟩
     have hMe:=hM.e;rw[← hcs] at hMe;have hle:(pre.length*2+1<cs.length)=True:=eq_true (by rw[hcs]; simp only[qk,hcl,qp,qz]; omega);have hle':(pre.length*2+1+1≤cs.length)=True:=eq_true (by have:=of_eq_true hle; omega)
     refine rgE tok [5,6,9] fun K hK=>?_
     simp only[go_sem,qe,qa,hMe,hle'];apply hK
     clear hK K
     have hset:cs.set (pre.length*2+1) (.ds true [] 0 true)=pre.flatMap Ent.cells++([.int .i64 e.fTag,.ds true [] 0 true]++post.flatMap Ent.cells):=by
      rw[hcs,← hcl,set_mid1]
     rw[hset];simp only[zG];rw[if_neg hc];have hnd:=hM.nd;have hlt:=hM.lt;rw[List.nodup_cons,List.nodup_cons] at hnd
     have hte:tid≠eid:=fun e=>hnd.1 (e▸qX ..)
     refine⟨_,_,⟨rfl,.ds true [] 0 true,⟨Zj hM.t hte _,zi.at_set hM.e,?_,hM.nd,.inl ⟨rfl,rfl⟩,hM.sub,?_,?_,hM.lt⟩,Zj h5 ?_ _⟩,.same ⟨rfl,rfl,rfl,trivial⟩ rfl⟩
     · intro y hy
       refine Zj (hM.tr y hy) ?_ _
       intro e; exact hnd.2.1 (e▸ux.2 ⟨y,hy,rfl⟩)
     · have:=hM.len; simpa using this
     · intro j hj hjn
       rw[q3]
       · exact hM.fr j hj hjn
       intro e; exact hjn (e▸by simp)
     have:=hlt eid (by simp); omega
   refine zp ?_;simp only[zG];rw[if_pos hc];exact⟨_,τ,⟨rfl,av,hM,h5⟩,.same ⟨rfl,rfl,rfl,trivial⟩ rfl⟩
 clear hM h4 h5 hix ht τ av
 rintro _ τ ⟨rfl,av,hM,h5⟩
 obtain⟨cs,hcs⟩:∃ cs,cs=pre.flatMap Ent.cells++([.int .i64 e.fTag,av]++post.flatMap Ent.cells):=⟨_,rfl⟩
 have hMe:=hM.e;rw[← hcs] at hMe;have hle:(pre.length*2+1<cs.length)=True:=eq_true (by rw[hcs]; simp only[qk,hcl,qp,qz]; omega);have hle':(pre.length*2+1+1≤cs.length)=True:=eq_true (by have:=of_eq_true hle; omega)
 have hgc:gc cs (pre.length*2+1)=av:=by rw[hcs,← hcl,gc_mid]
 have heid:(eid<τ.length)=True:=eq_true (zi.at_lt hMe)
 refine rd [6,9] fun K hK=>?_
 refine DW.start (T:=tab) [.any,.any,.any,.any,.own 1 [],.at [],.eff,.eff,.any,.any,.eff] [(1,[])] ?_;refine DW.runN tok 6 ?_;simp only[go_sem,qe,qb,qa,qc,hMe,hle,hgc,heid,h5]
 obtain⟨xc,hxc⟩:∃ xc,xc=[AV.int .i64 x.fKind,.int .i64 x.fN,.str x.fS,.ds true (qh zz x.fEntries) x.fEntries.length false,.ds true (qh zu x.fRest) x.fRest.length false]:=⟨_,rfl⟩
 have hx5:xc.length=5:=by rw[hxc]; rfl
 have hx1:xc.all AV.one=true:=by rw[hxc]; rfl
 have hxe:xc=ym x:=by rw[hxc,zh]<;>rfl
 generalize htr:(if f.fLabel=3 then e.fTrees else [])=trees at *
 have key:∃ nid nver τ3,yR tab 38 38 av (.os true 5 τ.length 0 0 1 true) (τ++[.cells 0 xc])=some (.os true 5 nid nver 0 (trees.length+1) false,τ3)∧zi.at τ3 nid nver=some (trees.flatMap ym++xc)∧
  (∀ j v cs,zi.at τ j v=some cs→j≠nid→zi.at τ3 j v=some cs)∧nid∉tid::eid::(pre++post).map Ent.id∧(nid∈L.map Ent.id∨σ.length≤nid)∧τ.length≤τ3.length∧∀ j,j<σ.length→j∉tid::eid::L.map Ent.id→τ3[j]?=τ[j]?:=by
  have e1:xf (τ++[.cells 0 xc]) 5 (.os true 5 τ.length 0 0 1 true)=some (1,xc):=by
   simp only[xf,vco τ xc []];rw[if_pos (by omega),qq,Nat.one_mul,← hx5,uc]
  rcases hM.c with ⟨rfl,h0⟩|⟨id,ver,rfl,h1,h2,h3⟩
  · refine⟨τ.length+1,0,τ++[.cells 0 xc]++[.cells 0 xc],?_,?_,fun j v cs hj _=>Ym (Ym hj _) _,fun hj=>?_,.inr (by have:=hM.len; omega),by simp,fun j hj _=>?_⟩
    · subst h0;simp only[yR,tab_38,tab_37,e1,yU,hx1,yp,if_true,qk,qp,qz]
      simp
    · subst h0;simp only[qu,qF,qE];exact at_end1 _ _ _ _
    · have:τ.length+1<σ.length:=hM.lt _ (by
       rcases q5.1 hj with h|h
       · rw[h]; simp
       rcases q5.1 h with h|h
       · rw[h]; simp
       obtain⟨y,hy,h'⟩:=ux.1 h
       rw[← h']; exact qU _ (qU _ (hM.sub y hy)))
      have:=hM.len; omega
    have:=hM.len;rw[qu,qZ (by omega)]
  refine⟨id,ver+1,List.set (τ++[Yt.cells 0 xc]) id (Yt.cells (ver+1) (trees.flatMap ym++xc)),?_,zi.at_set (Ym h1 _),fun j v cs hj hne=>Zj (Ym hj _) hne _,h2,.inl h3,by simp,fun j hj hjn=>?_⟩
  · have hl:(trees.flatMap ym).length=trees.length*5:=zX E38.len trees
    have hg':((trees.length+1)*80≤140737488355328)=True:=by
     rw[← htr]
     by_cases hl3:f.fLabel=3
     · rw[if_pos hl3]; rw[if_pos hl3] at hg; exact hg
     rw[if_neg hl3]; simp
    simp only[yR,tab_38,tab_37,e1,yU,hx1,yp,Ym h1,hl,hg',and_self,qe,if_true]
  have:=hM.len;rw[q3,qZ (by omega)]
  intro e; exact hjn (e▸qU _ (qU _ h3))
 obtain⟨nid,nver,τ3,k1,k2,k3,k4,k5,k6,k7⟩:=key
 have hne:eid≠nid:=fun e=>k4 (e▸by simp)
 have hMe3:=k3 _ _ _ hMe hne;refine DW.runN tok 1 ?_;simp only[go_sem,qe,qb,qa,qc,qd,zU,yA,qY,qN,true_and,q1,agr_app];rw[← hxc];refine DW.runN tok 1 ?_;simp only[go_sem,qe,qb,qa,qc,k1];refine DW.runN tok 3 ?_;simp only[go_sem,qe,qb,qa,qc,hMe3,hle'];refine DW.fin tok (by decide +kernel) rfl ?_;simp only[zG,upd,qa,reduceIte,xl,xU];apply hK
 clear hK K
 have hset:cs.set (pre.length*2+1) (.os true 5 nid nver 0 (trees.length+1) false)=pre.flatMap Ent.cells++([.int .i64 e.fTag,.os true 5 nid nver 0 (trees.length+1) false]++post.flatMap Ent.cells):=by
  rw[hcs,← hcl,set_mid1]
 have hat4:=zi.at_set (ver':=ever1) (cs':=cs.set (pre.length*2+1) (.os true 5 nid nver 0 (trees.length+1) false)) hMe3
 generalize cs.set (pre.length*2+1) (.os true 5 nid nver 0 (trees.length+1) false)=cs4 at *
 have hgc4:gc cs4 (pre.length*2+1)=.os true 5 nid nver 0 (trees.length+1) false:=by rw[hset,← hcl,gc_mid]
 have hle4:(pre.length*2+1<cs4.length)=True:=eq_true (by rw[hset]; simp only[qk,hcl,qp,qz]; omega)
 refine rg tok [6] fun K hK=>?_
 simp only[go_sem,qe,qa,hat4,hgc4,hle4];apply hK
 clear hK K
 refine yk ?_;simp only[ZA,yT,yY,xR,exists_eq_left',go_sem];have h':=Option.some.inj h;obtain⟨h1,h2⟩:=Prod.mk.inj h';have hnd:=hM.nd;have hlt:=hM.lt;rw[List.nodup_cons,List.nodup_cons] at hnd
 have hte:tid≠eid:=fun e=>hnd.1 (e▸qX ..)
 have htn:tid≠nid:=fun e=>k4 (e▸by simp)
 have hll:(trees++[x]).length=trees.length+1:=by simp
 refine⟨ever1,pre++⟨e.fTag,nid,nver,trees++[x]⟩::post,?_,⟨?_,?_,?_,?_⟩,?_,?_,?_,?_⟩
 · rw[← h2,hll]
 · refine Zj ?_ hte _;have:=k3 _ _ _ hM.t htn;rw[this];simp only[Option.some.injEq,List.cons.injEq,AV.os.injEq,true_and,and_true,qk,qp]
   omega
 · rw[hat4,hset]
   simp[Ent.cells]
 · intro y hy
   rcases uP.1 hy with hy|hy
   · refine Zj (k3 _ _ _ (hM.tr y (uT _ hy)) ?_) ?_ _
     · intro e'; exact k4 (e'▸qU _ (qU _ (ux.2 ⟨y,uT _ hy,rfl⟩)))
     intro e'; exact hnd.2.1 (e'▸ux.2 ⟨y,uT _ hy,rfl⟩)
   rcases q5.1 hy with rfl|hy
   · refine Zj ?_ hne.symm _
     show zi.at τ3 nid nver=some ((trees++[x]).flatMap ym)
     rw[k2,qD,hxe]; simp
   refine Zj (k3 _ _ _ (hM.tr y (List.mem_append_right _ hy)) ?_) ?_ _
   · intro e'; exact k4 (e'▸qU _ (qU _ (ux.2 ⟨y,List.mem_append_right _ hy,rfl⟩)))
   intro e'; exact hnd.2.1 (e'▸ux.2 ⟨y,List.mem_append_right _ hy,rfl⟩)
 · have hp:(nid::tid::eid::(pre++post).map Ent.id).Nodup:=List.nodup_cons.2 ⟨k4,hM.nd⟩;refine (List.Perm.nodup_iff ?_).1 hp;refine (List.Perm.swap _ _ _).trans (List.Perm.cons _ ((List.Perm.swap _ _ _).trans (List.Perm.cons _ ?_)));rw[qs,qs,qt];exact (List.perm_middle).symm
 · rw[← h1,← hidL pre,set_mid]
   simp[Ent.val]
 · intro y hy
   rcases uP.1 hy with hy|hy
   · exact .inl (hM.sub y (uT _ hy))
   rcases q5.1 hy with rfl|hy
   · exact k5
   exact .inl (hM.sub y (List.mem_append_right _ hy))
 · have:=hM.len; simp; omega
 intro j hj hjn
 rw[q3 (fun e=>hjn (by rw[← e]; simp)),k7 j hj hjn];exact hM.fr j hj hjn
open Go.RowKit AM
def YM (m:yN):List zA→Option (List zA)
 |[]=>some []
 |e::l=>(Zw e m).bind fun b=>(YM m l).bind fun l'=>some (if b=true then l' else e::l')
theorem idx_del (m:yN):∀ (es:List zA) (x:Int) (es':List zA),YM m es=some es'→
 ∃ r,z1.l4 m es x=some r∧((r = -1∧es'=es)∨∃ pre e post post',es=pre++e::post∧r=x+pre.length∧YM m post=some post'∧es'=pre++post'):=by
 intro es
 induction es with
 |nil=>intro x es' h; cases h; exact⟨-1,rfl,.inl ⟨rfl,rfl⟩⟩
 |cons e l ih=>
  intro x es' h
  simp only[YM] at h;obtain⟨b,hb,h⟩:=bind_some h;obtain⟨l',hl,h⟩:=bind_some h;obtain rfl:=Option.some.inj h;simp only[z1.l4,hb,qj]
  cases b with
  |true=>exact⟨x,rfl,.inr ⟨[],e,l,l',rfl,by simp,hl,rfl⟩⟩
  |false=>
   obtain⟨r,h1,h2⟩:=ih (x+1) l' hl;refine⟨r,h1,?_⟩
   rcases h2 with ⟨rfl,rfl⟩|⟨pre,e2,post,post',rfl,rfl,h3,rfl⟩
   · exact .inl ⟨rfl,rfl⟩
   exact .inr ⟨e::pre,e2,post,post',rfl,by simp; omega,h3,rfl⟩
theorem tell_fn {σ:zi}{keep:List Nat}{ls:Bool}{f:Nat}{g:Fn}{a b:List AV}:tell σ keep ls (f+1) (.fn g a b)=.fn g (a.map (tell σ keep ls f)) (b.map (tell σ keep ls f)):=rfl
theorem tell_msg {σ:zi}{keep:List Nat}{f:Nat}{g:Fn}{m:yN}:tell σ keep true (f+1+1+1) (.fn g [] [.dp (zf m) 0])=.fn g [] [.dp (zf m) 0]:=by
 simp only[tell_fn,qr,qt,tell_dp,zf,vbA,Xj,zx,qv,qw,qx]
theorem vc9 (n:Nat):(yA [AV.int .i64 0,.ds true [] 0 true] n).all AV.one=true:=by
 rw[uf]
 intro x hx
 obtain⟨k,_,rfl⟩:=ux.1 hx
 have:k % 2=0∨k % 2=1:=by omega
 rcases this with h|h<;>simp[h,AV.one,gc]
theorem DeleteFunc_at {σ:zi}{id ver:Nat}{nl:Bool}{es es':List zA}(m:yN)(hcs:zi.at σ id ver=some (es.flatMap zz))(h:YM m es=some es')(hB:es.length≤1000000000000000):
 ACalls qi 196 [.os nl 2 id ver 0 es.length false,.fn (.func 197) [] [.dp (zf m) 0]] σ (fun r σ'=>∃ cs g,r=.os nl 2 id ver 0 es'.length false∧σ'=List.set σ id (.cells ver (es'.flatMap zz++cs))++g):=by
 obtain⟨r,hr,hcase⟩:=idx_del m es 0 es' h;refine YE (rs:=[.tmp 4]) tok Tryz.func196 rfl Tryz.ntmps196 rfl Tryz.call196 (by simp) ?_;refine zC [(0,.os nl 2 id ver 0 es.length false),(1,.fn (.func 197) [] [.dp (zf m) 0])] ⟨rfl,rfl,trivial⟩ ?_
 refine rg tok [0,1] fun K hK=>?_
 simp only[go_sem,qe,qa,reduceCtorEq];apply hK
 clear hK K
 have htold:tell σ [] true 12 (.os nl 2 id ver 0 es.length false)=.ds true (es.flatMap zz) es.length false:=by
  have hl:(es.flatMap zz).length=es.length*2:=zX E34.len es;simp only[ZI,Zi,hcs];rw[if_pos (by rw[hl]; omega),qq,← hl,uc,zx]
 refine rc [0,1,5] fun K hK=>?_
 refine zd tok 2 ?_;simp only[go_sem,qe,qa,reduceCtorEq];refine Ye rfl rfl rfl ((z1.ok hr).lend rfl true 12 (by simp only[qt,qr,go_sem,qa,reduceCtorEq,htold,tell_msg])) ?_;rintro _ _ ⟨rfl,hσ⟩
 rw[hσ]; clear hσ
 refine zd tok 1 ?_;simp only[go_sem,qe,qa,reduceCtorEq];refine zm ?_;simp only[zG,upd,qa,reduceIte,xl,xU];apply hK
 clear hK K
 refine ze fun Z hZ=>?_
 refine rg tok [0,1,5,12] fun K hK=>?_
 simp only[go_sem,qe,qa,reduceCtorEq];apply hK
 clear hK K
 refine yn rfl (fun hc=>?_) (fun hc=>?_)
 · have he:es'=es:=by
    rcases hcase with ⟨_,h⟩|⟨pre,e,post,post',_,h2,_⟩
    · exact h
    omega
   subst he
   refine rg tok [4] fun K hK=>?_
   simp only[go_sem,qe,qa,reduceCtorEq];apply hK
   clear hK K
   refine yk ?_;simp only[ZA,yT,yY,xR,exists_eq_left',go_sem];exact⟨[],[],by rw[qB,qB,zi.set_at hcs]⟩
 obtain⟨pre,e,post,post',he,h2,h3,h4⟩:∃ pre e post post',es=pre++e::post∧r=0+(pre.length:Int)∧YM m post=some post'∧es'=pre++post':=by
  rcases hcase with ⟨h,_⟩|h
  · exact absurd h hc
  exact h
 rw[Int.zero_add] at h2;subst h2
 have hl0:es.length=pre.length+(post.length+1):=by rw[he]; simp
 refine zp ?_;refine hZ _ _ ?_
 clear hZ Z
 have hw1:IntKind.i64.wrap ((pre.length:Int)+1)=(pre.length:Int)+1:=by rw[IntKind.wrap_i64]; omega
 refine ze fun Z hZ=>?_
 refine rg tok [0,1,5,6] fun K hK=>?_
 simp only[go_sem,qe,qa,reduceCtorEq,hw1];apply hK
 clear hK K
 refine zt ?_
 refine yh (fun k F τ=>∃ (cur kept rest rest':List zA) (j:Nat) (g:zi),k=rest.length∧F=[(0,AV.os nl 2 id ver 0 es.length false),(1,.fn (.func 197) [] [.dp (zf m) 0]),(5,.int .i64 (kept.length:Int)),(6,.int .i64 (j:Int))]∧
  τ=List.set σ id (.cells ver (cur.flatMap zz))++g∧cur.length=es.length∧cur.take kept.length=kept∧cur.drop j=rest∧j+rest.length=es.length∧kept.length<j∧YM m rest=some rest'∧es'=kept++rest') post.length
  ⟨es,pre,post,post',pre.length+1,[],rfl,rfl,by rw[zi.set_at hcs,qB],rfl,by rw[he,List.take_left],by rw[he,← List.drop_drop,List.drop_left]; rfl,by omega,by omega,h3,h4⟩ (.same ⟨rfl,rfl,rfl,rfl,trivial⟩ rfl) ?_
 rintro k _ _ ⟨cur,kept,rest,rest',j,g,rfl,rfl,rfl,c1,c2,c3,c4,c5,c6,c7⟩;have hat:zi.at (List.set σ id (.cells ver (cur.flatMap zz))++g) id ver=some (cur.flatMap zz):=Ym (zi.at_set hcs) _
 obtain⟨τ,hτ⟩:∃ τ,τ=List.set σ id (.cells ver (cur.flatMap zz))++g:=⟨_,rfl⟩
 rw[← hτ] at hat ⊢
 refine ze fun Y hY=>?_
 refine rg tok [0,1,5,6,19] fun K hK=>?_
 simp only[go_sem,qe,qa,reduceCtorEq];apply hK
 clear hK K
 refine yn rfl (fun hc=>?_) (fun hc=>?_)
 · refine zp ?_;refine hY _ _ ?_
   clear hY Y
   rcases rest with _|⟨e2,rest⟩
   · simp only[qz] at c4; omega
   simp only[YM] at c6;obtain⟨b,hb,c6⟩:=bind_some c6;obtain⟨l',hl',c6⟩:=bind_some c6;obtain rfl:=Option.some.inj c6;simp only[qp] at c4
   have hx:YN cur (j:Int)=some e2:=by
    unfold YN;rw[if_pos (by omega),ul]
    have:(cur.drop j)[0]?=some e2:=by rw[c3]; rfl
    rwa [List.getElem?_drop,uJ] at this
   have hcd:cur.drop (j+1)=rest:=by rw[← List.drop_drop,c3]; rfl
   have hw6:IntKind.i64.wrap ((j:Int)+1)=((j+1:Nat):Int):=by rw[IntKind.wrap_i64]; omega
   have hix:=E34.idxO hx nl false .i64 2 id ver;rw[c1] at hix;have hrd:=E34.rdO hx
   refine ze fun X hX=>?_
   have fin:∀ (cur' kept':List zA) (F:Fr) (τ':zi),vcM F [(0,AV.os nl 2 id ver 0 es.length false),(1,.fn (.func 197) [] [.dp (zf m) 0]),(5,.int .i64 (kept'.length:Int)),(6,.int .i64 (j:Int))]→(∃ g',τ'=List.set σ id (.cells ver (cur'.flatMap zz))++g')→cur'.length=es.length→cur'.take kept'.length=kept'→cur'.drop (j+1)=rest→kept'.length<j+1→es'=kept'++l'→
    X F τ':=by
    rintro cur' kept' F _ hF ⟨g',rfl⟩ d1 d2 d3 d4 d5;refine hX _ _ (y5 (.same hF rfl) ?_)
    refine rgE tok [0,1,5,6] fun K hK=>?_
    simp only[go_sem,qe,qa,reduceCtorEq,hw6];apply hK
    clear hK K
    simp only[zG];exact⟨rest.length,_,_,by simp,⟨cur',kept',rest,l',j+1,g',rfl,rfl,rfl,d1,d2,d3,by omega,by omega,hl',d5⟩,.same ⟨rfl,rfl,rfl,rfl,trivial⟩ rfl⟩
   clear hX
   have hae:∀ cs,zi.at (τ++[.cells 0 cs]) τ.length 0=some cs:=fun cs=>vco τ cs []
   have hse:∀ cs cs',(τ++[Yt.cells 0 cs]).set τ.length (.cells 0 cs')=τ++[.cells 0 cs']:=fun cs cs'=>set_mid τ _ _ []
   have hw5:IntKind.i64.wrap ((kept.length:Int)+1)=((kept.length+1:Nat):Int):=by rw[IntKind.wrap_i64]; omega
   refine zt ?_
   refine rg tok [0,1,5,6,7] fun K hK=>?_
   simp only[go_sem,qe,qb,qa,qc,reduceCtorEq,hat,hix,hrd,z8,zF,hae,hse,qp,qz,uA,uL];apply hK
   clear hK K
   refine rc [0,5,6,7,1,29] fun K hK=>?_
   refine zd tok 2 ?_;simp only[go_sem,qe,qb,qa,qc,reduceCtorEq,hae,qp,qz];refine Ye rfl rfl rfl ((Zw.ok hb).c _) ?_;rintro _ _ ⟨rfl,hσ⟩
   rw[hσ]; clear hσ
   refine zd tok 1 ?_;simp only[go_sem,qe,qa,reduceCtorEq];refine zm ?_;simp only[zG,upd,qa,reduceIte,xl,xU];apply hK
   clear hK K
   cases b with
   |true=>
    refine zK rfl ?_;refine zp ?_;simp only[XT,zG];exact fin cur kept _ _ ⟨rfl,rfl,rfl,rfl,trivial⟩ ⟨g++[.cells 0 [.int .i64 e2.fTag,.ds true (qh ym e2.fTrees) e2.fTrees.length false]],by rw[hτ,qu]⟩ c1 c2 hcd (by omega) c7
   |false=>
    refine zQ rfl ?_
    have hkl:kept.length<cur.length:=by omega
    have hx2:YN cur (kept.length:Int)=some cur[kept.length]:=by
     unfold YN;rw[if_pos (by omega),ul,ud hkl]
    have hix2:=E34.idxO hx2 nl false .i64 2 id ver;rw[c1] at hix2;have hsc:=E34.stOc hx2;have hsr:=E34.stOr hx2 (y:=e2) (cs:=[.int .i64 e2.fTag,.ds true (qh ym e2.fTrees) e2.fTrees.length false]) (by rw[z8]<;>rfl);simp only[wn] at hsr;have hat1:zi.at (τ++[.cells 0 [.int .i64 e2.fTag,.ds true (qh ym e2.fTrees) e2.fTrees.length false]]) id ver=some (cur.flatMap zz):=Ym hat _
    refine rg tok [0,1,5,6] fun K hK=>?_
    simp only[go_sem,qe,qb,qa,qc,reduceCtorEq,hae,hix2,hsc,hsr,hat1,qp,qz];apply hK
    clear hK K
    refine rgE tok [0,1,5,6] fun K hK=>?_
    simp only[go_sem,qe,qa,reduceCtorEq,hw5];apply hK
    clear hK K
    simp only[XT,zG]
    have hlen:(kept++[e2]).length=kept.length+1:=by simp
    refine fin (setI cur (kept.length:Int) e2) (kept++[e2]) _ _ ⟨rfl,rfl,by rw[hlen]; rfl,rfl,trivial⟩ ⟨g++[.cells 0 [.int .i64 e2.fTag,.ds true (qh ym e2.fTrees) e2.fTrees.length false]],?_⟩ ?_ ?_ ?_ (by rw[hlen]; omega) (by rw[c7]; simp)
    · rw[hτ,qu,List.set_append_left _ _ (by simpa using zi.at_lt hcs),List.set_set]
    · rw[zW]; exact c1
    · rw[hlen];unfold setI;rw[ul,List.take_set,List.take_add_one,c2,ud hkl]
      simp
    unfold setI;rw[ul,List.drop_set_of_lt (by omega)];exact hcd
 refine ye ?_;simp only[go_sem];have hr0:rest=[]:=qP.1 (by omega);subst hr0;cases c6;rw[qB] at c7;subst c7;simp only[qz,uJ] at c4
 have hkn:es'.length<es.length:=by omega
 have hsl1:Yi tab 34 (.os nl 2 id ver 0 es.length false) (some (.int .i64 (es'.length:Int))) none none=some (.os nl 2 id ver (es'.length*2) (es.length-es'.length) false):=by
  simp only[Yi,va6,va5,vcY]
  simp
  omega
 have hsl2:Yi tab 34 (.os nl 2 id ver 0 es.length false) none (some (.int .i64 (es'.length:Int))) none=some (.os nl 2 id ver 0 es'.length false):=by
  simp only[Yi,va6,va5,vcY]
  simp
  omega
 have hcl:(cur.flatMap zz).length=es.length*2:=by rw[← c1]; exact zX E34.len cur
 have hzl:∀ n,(yA [AV.int .i64 0,.ds true [] 0 true] n).length=n:=fun n=>by simp[yA]
 have hsr:wn (cur.flatMap zz) (es'.length*2) (yA [AV.int .i64 0,.ds true [] 0 true] ((es.length-es'.length)*2))=es'.flatMap zz++yA [AV.int .i64 0,.ds true [] 0 true] ((es.length-es'.length)*2):=by
  have e0:cur.flatMap zz=es'.flatMap zz++((cur.drop es'.length).flatMap zz++[]):=by
   rw[qB,← qD]
   congr 1
   conv=>lhs; rw[← ut es'.length cur,c2]
  have l1:(es'.flatMap zz).length=es'.length*2:=zX E34.len _;rw[e0,← l1,Xk _ _ _ _ (by rw[hzl,zX E34.len,List.length_drop,c1]),qB]
 have hclr:vdB tab 34 (.os nl 2 id ver (es'.length*2) (es.length-es'.length) false) τ=some (.tup [],τ.set id (.cells ver (es'.flatMap zz++yA [AV.int .i64 0,.ds true [] 0 true] ((es.length-es'.length)*2)))):=by
  have hp:Yx τ (.os nl 2 id ver (es'.length*2) (es.length-es'.length) false) (es.length-es'.length) 2 (yA [AV.int .i64 0,.ds true [] 0 true] ((es.length-es'.length)*2))=some (τ.set id (.cells ver (es'.flatMap zz++yA [AV.int .i64 0,.ds true [] 0 true] ((es.length-es'.length)*2)))):=by
   unfold Yx;rw[if_neg (by omega)];simp only[hat];rw[if_pos ⟨trivial,by rw[hzl,hcl,← Nat.add_mul]; exact uh _ (by omega),vc9 _⟩,hsr]
  simp only[vdB,va6,va5,AV.cells,hp]
  simp[AV.okc,AV.one]
 refine hZ _ _ ?_
 refine rg tok [0,5] fun K hK=>?_
 simp only[go_sem,qe,qa,reduceCtorEq,hsl1,hclr];apply hK
 clear hK K
 refine rg tok [4] fun K hK=>?_
 simp only[go_sem,qe,qa,reduceCtorEq,hsl2];apply hK
 clear hK K
 refine yk ?_;simp only[ZA,yT,yY,xR,exists_eq_left',go_sem];refine⟨yA [AV.int .i64 0,.ds true [] 0 true] ((es.length-es'.length)*2),g,?_⟩;rw[hτ,List.set_append_left _ _ (by simpa using zi.at_lt hcs),List.set_set]
open Go.RowKit AM
def yC.l (wd:zP→vam→yo→Int→Option (zq×Int))(a0:zP)(a1:yN)(a3:Int):List yo→List zA→List yo→Option (zq×Int)
 |[],es,rest=>(vai es.length 32).bind fun _=>(YM a1 es).bind fun es'=>(yD rest).bind fun r=>some ((⟨3,0,[],es',r⟩:zq),0)
 |r::q,es,rest=>bnd (wy a1 r.fTag) fun f=>(if f.2=true then (wd a0 f.1.fType r a3).bind fun x=>(if x.2=0 then (vcF es f.1 x.1).bind fun p=>(if p.2=true then yC.l wd a0 a1 a3 q p.1 rest else some ((⟨0,0,[],[],[]⟩:zq),4)) else some ((⟨0,0,[],[],[]⟩:zq),x.2))
  else (vai (rest.length+1) 40).bind fun _=>yC.l wd a0 a1 a3 q es (rest++[r]))
def yC.body (yl:zP→yN→List UInt8→Int→Option (zq×Int))(wd:zP→vam→yo→Int→Option (zq×Int))(a0:zP)(a1:yN)(a2:List UInt8)(a3:Int):Option (zq×Int):=
 if 10<a3 then some ((⟨0,0,[],[],[]⟩:zq),10) else (Y5 a2).bind fun g=>if g.2=0 then yC.l wd a0 a1 a3 g.1 [] [] else some ((⟨0,0,[],[],[]⟩:zq),g.2)
structure Loop (τ:zi)(a0:zP)(a1:yN)(ever rver:Nat)(L:List Ent)(rest:List yo):Prop where
 h0:zi.at τ 0 0=some (zb a0)
 h1:zi.at τ 1 0=some (zf a1)
 h2:zi.at τ 2 0=some [.int .i64 0,.int .i64 0,.str [],.ds true [] 0 true,.ds true [] 0 true]
 rep:Rep τ 3 4 ever L
 h5:zi.at τ 5 rver=some (rest.flatMap zu)
 ids:∀ y∈L,6≤y.id
theorem Loop.app {τ:zi}{a0:zP}{a1:yN}{ever rver:Nat}{L:List Ent}{rest:List yo}(h:Loop τ a0 a1 ever rver L rest)(l:zi):Loop (τ++l) a0 a1 ever rver L rest:=
 ⟨Ym h.h0 l,Ym h.h1 l,Ym h.h2 l,h.rep.app l,Ym h.h5 l,h.ids⟩
theorem vb6 {σ:zi}{keep:List Nat}{e:Int}:tell σ keep true 12 (.tup [.agg [.int .i64 0,.int .i64 0,.str [],.ds true [] 0 true,.ds true [] 0 true],.int .i64 e])=.tup [.agg (za ⟨0,0,[],[],[]⟩),.int .i64 e]:=by
 simp only[tell_tup,qt,qr,tell_agg,vbB,vbA,Xj]
 rfl
theorem yC.step (yl:zP→yN→List UInt8→Int→Option (zq×Int))(wd:zP→vam→yo→Int→Option (zq×Int))
 (va0:∀ (a0:zP) (a1:vam) (a2:yo) (a3:Int) (r:zq×Int),wd a0 a1 a2 a3=some r→ACalls qi 194 [.agg (zb a0),.agg (xB a1),.agg (zu a2),.int .i64 a3] [] (fun r' _=>r'=.tup [.agg (za r.1),.int .i64 r.2]))
 (a0:zP) (a1:yN) (a2:List UInt8) (a3:Int) (r:zq×Int) (h:yC.body yl wd a0 a1 a2 a3=some r):
 ACalls qi 149 [.agg (zb a0),.agg (zf a1),.ds true (qh Zh a2) (qg a2) false,.int .i64 a3] [] (fun r' _=>r'=.tup [.agg (za r.1),.int .i64 r.2]):=by
 have ev_one:=fun a0 a1 a2 a3 r h σ=>(va0 a0 a1 a2 a3 r h).pureAt (by simp only[AV.canon,xu,xD,qJ,qn,qv,zu,zb,xB]) (by simp only[AV.canon,xu,xD,qJ,qn,qv,za]) σ
 refine zw (rs:=[.cell 8 37,.tmp 9]) tok Tryz.func149 rfl Tryz.ntmps149 rfl Tryz.call149 (by simp) ?_;refine zC [(0,.agg (zb a0)),(1,.agg (zf a1)),(2,.ds true (qh Zh a2) (qg a2) false),(3,.int .i64 a3)] ⟨rfl,rfl,rfl,rfl,trivial⟩ ?_;unfold yC.body at h
 refine rg tok [2,3,4,5,8,9] fun K hK=>?_
 simp only[go_sem,qe,qa,qc,reduceCtorEq,zb,zf];apply hK
 clear hK K
 refine ze fun Z hZ=>?_
 refine rg tok [2,3,4,5,8,9,21] fun K hK=>?_
 simp only[go_sem,qe,qa];apply hK
 clear hK K
 refine yn rfl (fun hc=>?_) (fun hc=>?_)
 · rw[if_pos hc] at h;obtain rfl:=Option.some.inj h
   refine rg tok [8,9] fun K hK=>?_
   simp only[go_sem,qe,qb,qa,qc];apply hK
   clear hK K
   refine yk ?_;simp only[ZA,yT,yY,xR,exists_eq_left',go_sem,qb,qa,qc];exact vb6
 rw[if_neg hc] at h;obtain⟨g,hg,h⟩:=bind_some h;refine zp ?_;refine hZ _ _ ?_
 clear hZ Z
 refine rc [3,4,5,8,9,10,11] fun K hK=>?_
 refine zd tok 1 ?_;simp only[go_sem,qe,qa];refine Ye rfl rfl rfl ((Y5.ok hg).c _) ?_;rintro _ _ ⟨rfl,hσ⟩
 rw[hσ]; clear hσ
 refine zd tok 5 ?_;simp only[go_sem,qe,qa,qc];refine zm ?_;simp only[zG,upd,qa,reduceIte,xl,xU];apply hK
 clear hK K
 refine ze fun Z hZ=>?_
 refine rg tok [3,4,5,8,9,10,11,29] fun K hK=>?_
 simp only[go_sem,qe,qa];apply hK
 clear hK K
 refine yn rfl (fun hc2=>?_) (fun hc2=>?_)
 · rw[if_neg hc2] at h;obtain rfl:=Option.some.inj h
   refine rg tok [8,9] fun K hK=>?_
   simp only[go_sem,qe,qb,qa,qc];apply hK
   clear hK K
   refine yk ?_;simp only[ZA,yT,yY,xR,exists_eq_left',go_sem,qb,qa,qc];exact vb6
 rw[if_pos hc2] at h;refine zp ?_;refine hZ _ _ ?_
 clear hZ Z
 refine rg tok [3,4,5,8,9,10,12] fun K hK=>?_
 simp only[go_sem,qe,qb,qa,qc];apply hK
 clear hK K
 refine ZG 3 3 2 rfl (by simp) rfl (L:=[(3,.int .i64 a3),(4,.op 0 0 0),(5,.op 1 0 0),(8,.op 2 0 0),(9,.int .i64 0),(10,.ds true (qh zu g.1) (qg g.1) false),(12,.op 3 0 0)]) (.same ⟨rfl,rfl,rfl,rfl,rfl,rfl,rfl,trivial⟩ rfl) ?_
 refine rg tok [3,4,5,8,9,10,12,13] fun K hK=>?_
 simp only[go_sem,qe,qa,qc];apply hK
 clear hK K
 refine YR 13 4 rfl ?_;refine y5 (L:=[(3,.int .i64 a3),(4,.op 0 0 0),(5,.op 1 0 0),(8,.op 2 0 0),(9,.int .i64 0),(10,.ds true (qh zu g.1) (qg g.1) false),(12,.op 3 0 0),(13,.os true 4 5 0 0 0 false)]) (.same ⟨rfl,rfl,rfl,rfl,rfl,rfl,rfl,rfl,trivial⟩ rfl) ?_
 refine ze fun Z hZ=>?_
 refine xv 10 fun hb=>?_
 replace hb:qg g.1≤9223372036854775807:=hb.1
 refine rg tok [3,4,5,8,9,12,13,33,34,35] fun K hK=>?_
 simp only[go_sem,qe,qa];apply hK
 clear hK K
 refine zt ?_
 refine yh (fun k F τ=>∃ (p q:List yo) (i:Int) (L:List Ent) (rest:List yo) (ever rver:Nat),k=q.length∧F=[(3,AV.int .i64 a3),(4,.op 0 0 0),(5,.op 1 0 0),(8,.op 2 0 0),(9,.int .i64 0),(12,.op 3 0 0),(13,.os true 4 5 rver 0 rest.length false),(33,.ds true (qh zu g.1) (qg g.1) false),(34,.int .i64 (qg g.1:Int)),(35,.int .i64 i)]∧Loop τ a0 a1 ever rver L rest∧g.1=p++q∧i=(p.length:Int)∧yC.l wd a0 a1 a3 q (L.map Ent.val) rest=some r) g.1.length
  ⟨[],g.1,0,[],[],0,0,rfl,rfl,⟨rfl,rfl,rfl,⟨rfl,rfl,fun _ h=>(by cases h),by simp⟩,rfl,fun _ h=>(by cases h)⟩,rfl,rfl,h⟩ (.same ⟨rfl,rfl,rfl,rfl,rfl,rfl,rfl,rfl,rfl,rfl,trivial⟩ rfl) ?_
 clear h
 rintro k _ τ ⟨p,q,i,L,rest,ever,rver,rfl,rfl,hL,hE,hi,h⟩
 refine rg tok [3,4,5,8,9,12,13,33,34,35,36] fun K hK=>?_
 simp only[go_sem,qe,qa];apply hK
 clear hK K
 refine ze fun Y hY=>?_
 rcases q with _|⟨y,q⟩
 · have hz:=xE hE hi;refine yn rfl (fun hc=>absurd hc (by rw[hz]; exact id)) (fun _=>?_);refine ye ?_;simp only[zG,go_sem];simp only[yC.l] at h;obtain⟨u,hu,h⟩:=bind_some h;have hrm:=of_eq_true (xh hu);obtain⟨es',hes,h⟩:=bind_some h;obtain⟨rr,hrr,h⟩:=bind_some h;obtain rfl:=Option.some.inj h
   have hid:∀ y∈L,Xb [2,3,4] y.id 0=none:=by
    intro y hy
    have:=hL.ids y hy;simp only[Yp,Zi];rw[if_neg (by omega),if_neg (by omega),if_neg (by omega)]
   have hget:∀ {j v:Nat} {cs:List AV},zi.at τ j v=some cs→τ.getD j .dead=.cells v cs:=by
    intro j v cs hj
    rw[qL,zi.at_some hj]; rfl
   have hl4:(rest.flatMap zu).length=rest.length*4:=zX E35.len rest;have hcells:=hL.rep.toldC [2,3,4] false 10 hid
   have htS:vbR τ [2,3,4] false 12=[.cells 0 [.int .i64 0,.int .i64 0,.str [],.ds true [] 0 true,.ds true [] 0 true],.cells 0 [.int .i64 3,.int .i64 0,.str [],.os true 2 2 ever 0 (L.map Ent.val).length false,.ds true [] 0 true],.cells ever ((L.map Ent.val).flatMap zz)]:=by
    simp only[vbR,qt,qr,hget hL.h2,hget hL.rep.t,hget hL.rep.e,vbf,vbB,vbA,Xj,ZI,Yp,Zi,qa,if_true,if_false,hcells,uj,qy,qn,qo,qc]
   have hrest:tell τ [2,3,4] false 12 (.os true 4 5 rver 0 rest.length false)=.ds true (rest.flatMap zu) rest.length false:=by
    simp only[ZI,Yp,Zi,qa,if_false,hL.h5];rw[if_pos (by rw[hl4]; omega),qq,← hl4,uc,zx]
   have hmsg:tell τ [2,3,4] false 12 (.op 1 0 0)=.dp (zf a1) 0:=by
    simp only[tell_op,Yp,Zi,qa,if_false,hL.h1,zf,qt,qr,vbA,Xj,zx,qy,qn,qo]
   have hk3:[2,3,4].Nodup:=by decide
   have hlt5:=zi.at_lt hL.h5;refine hZ _ _ ?_;refine y5 (L:=[(5,.dp (zf a1) 0),(8,.op 0 0 0),(12,.op 1 0 0),(13,.ds true (rest.flatMap zu) rest.length false)]) (.told [2,3,4] false hk3 (by intro id hid'; simp at hid'; omega) rfl htS ⟨hmsg,rfl,rfl,hrest,trivial⟩) ?_
   refine rc [8,12,13] fun K hK=>?_
   refine zd tok 3 ?_;simp only[go_sem,qe,qa,qc,uj];have hdel:=DeleteFunc_at (σ:=[.cells 0 [.int .i64 0,.int .i64 0,.str [],.ds true [] 0 true,.ds true [] 0 true],.cells 0 [.int .i64 3,.int .i64 0,.str [],.os true 2 2 ever 0 L.length false,.ds true [] 0 true],.cells ever ((L.map Ent.val).flatMap zz)]) (id:=2) (ver:=ever) (nl:=true) a1 (by simp only[zi.at_hd,zi.at_tl,if_true]) hes (by omega);rw[uj] at hdel;refine Ye rfl rfl rfl hdel ?_;rintro _ _ ⟨cs,g',rfl,rfl⟩;refine zd tok 2 ?_;simp only[go_sem,qe,qb,qa,qc,qF,qE,uL,uA];refine zm ?_;simp only[zG,upd,qa,reduceIte,xl,xU];apply hK
   clear hK K
   refine rc [8,12] fun K hK=>?_
   refine zd tok 1 ?_;simp only[go_sem,qe,qa];refine Ye rfl rfl rfl ((yD.ok hrr).c _) ?_;rintro _ _ ⟨rfl,hσ⟩
   rw[hσ]; clear hσ
   refine zd tok 2 ?_;simp only[go_sem,qe,qb,qa,qc,uL,uA];refine zm ?_;simp only[zG,upd,qa,reduceIte,xl,xU];apply hK
   clear hK K
   refine rg tok [8,9] fun K hK=>?_
   simp only[go_sem,qe,qb,qa,qc,uL,uA];apply hK
   clear hK K
   refine yk ?_;simp only[ZA,yT,yY,xR,exists_eq_left',go_sem,qb,qa,qc];have hle:(es'.flatMap zz).length=es'.length*2:=zX E34.len es';simp only[tell_tup,qt,qr,tell_agg,vbB,vbA,Xj,ZI,Zi,zi.at_hd,zi.at_tl,if_true,zx,za,zq.fKind,zq.fN,zq.fS,zq.fEntries,zq.fRest];rw[if_pos (by rw[qk,hle]; omega),qq,← hle,List.take_left,zx]
   rfl
 obtain⟨hz,hw,hx,hE',hi'⟩:=yZ hE hi hb;refine yn rfl (fun _=>?_) (fun hc=>absurd (of_eq_true hz) hc);refine zp ?_;refine hY _ _ ?_
 clear hY Y
 refine ze fun X hX=>?_
 have fin:∀ (F:Fr) (τ':zi) (L':List Ent) (rest':List yo) (ever' rver':Nat),vcM F [(3,AV.int .i64 a3),(4,.op 0 0 0),(5,.op 1 0 0),(8,.op 2 0 0),(9,.int .i64 0),(12,.op 3 0 0),(13,.os true 4 5 rver' 0 rest'.length false),(33,.ds true (qh zu g.1) (qg g.1) false),(34,.int .i64 (qg g.1:Int)),(35,.int .i64 i)]→Loop τ' a0 a1 ever' rver' L' rest'→yC.l wd a0 a1 a3 q (L'.map Ent.val) rest'=some r→X F τ':=by
  intro F τ' L' rest' ever' rver' hF hL' h'
  refine hX _ _ (y5 (.same hF rfl) ?_)
  refine rgE tok [3,4,5,8,9,12,13,33,34,35] fun K hK=>?_
  simp only[go_sem,qe,qa,hw];apply hK
  clear hK K
  simp only[zG];exact⟨q.length,_,_,by simp,⟨p++[y],q,i+1,L',rest',ever',rver',rfl,rfl,hL',hE',hi',h'⟩,.same ⟨rfl,rfl,rfl,rfl,rfl,rfl,rfl,rfl,rfl,rfl,trivial⟩ rfl⟩
 clear hX
 refine zt ?_;have hix:=E35.idxS hx;have hld:=E35.loadS rfl rfl hx
 have hae:∀ (τ:zi) cs,zi.at (τ++[.cells 0 cs]) τ.length 0=some cs:=fun τ cs=>vco τ cs []
 have hse:∀ (τ:zi) cs cs',(τ++[Yt.cells 0 cs]).set τ.length (.cells 0 cs')=τ++[.cells 0 cs']:=fun τ cs cs'=>set_mid τ _ _ []
 refine rg tok [3,4,5,8,9,12,13,15,33,34,35] fun K hK=>?_
 simp only[go_sem,qe,qb,qa,qc,hix,hld,zu,hae,hse,qp,qz,uA,uL];apply hK
 clear hK K
 simp only[yC.l] at h;obtain⟨f,hf,h⟩:=yi h;have hL1:=hL.app [.cells 0 [.int .i64 y.fTag,.int .i64 y.fWire,.int .i64 y.fN,.str y.fB]];have hr1:=vco τ [.int .i64 y.fTag,.int .i64 y.fWire,.int .i64 y.fN,.str y.fB] []
 generalize τ.length=k1 at *
 generalize τ++[.cells 0 [.int .i64 y.fTag,.int .i64 y.fWire,.int .i64 y.fN,.str y.fB]]=τ1 at *
 have hm1:=hL1.h1;have hs1:=hL1.h0;simp only[zf] at hm1;simp only[zb] at hs1
 refine rc [3,4,5,8,9,12,13,15,16,17,33,34,35] fun K hK=>?_
 refine zd tok 3 ?_;simp only[go_sem,qe,qb,qa,qc,hm1,hr1,qp,qz];refine Ye rfl rfl rfl ((wy.ok hf).c _) ?_;rintro _ _ ⟨rfl,hσ⟩
 rw[hσ]; clear hσ
 refine zd tok 6 ?_;simp only[go_sem,qe,qb,qa,qc,yc,hae,hse,qp,qz,uA,uL];refine zm ?_;simp only[zG,upd,qa,reduceIte,xl,xU];apply hK
 clear hK K
 have hL2:=hL1.app [.cells 0 [.str f.1.fName,.int .i64 f.1.fTag,.int .i64 f.1.fLabel,.int .i64 f.1.fType.fKind,.str f.1.fType.fName]];have hr2:=Ym hr1 [.cells 0 [.str f.1.fName,.int .i64 f.1.fTag,.int .i64 f.1.fLabel,.int .i64 f.1.fType.fKind,.str f.1.fType.fName]];have hm2:=Ym hs1 [.cells 0 [.str f.1.fName,.int .i64 f.1.fTag,.int .i64 f.1.fLabel,.int .i64 f.1.fType.fKind,.str f.1.fType.fName]];have hf2:=vco τ1 [.str f.1.fName,.int .i64 f.1.fTag,.int .i64 f.1.fLabel,.int .i64 f.1.fType.fKind,.str f.1.fType.fName] []
 clear hm1 hs1 hr1
 generalize τ1.length=k2 at *
 generalize τ1++[.cells 0 [.str f.1.fName,.int .i64 f.1.fTag,.int .i64 f.1.fLabel,.int .i64 f.1.fType.fKind,.str f.1.fType.fName]]=τ2 at *
 refine ze fun Y hY=>?_
 refine rg tok [3,4,5,8,9,12,13,15,16,17,33,34,35,47] fun K hK=>?_
 simp only[go_sem,qe,qa];apply hK
 clear hK K
 have hb2:∀ (b:Bool),(!b)=true→b=false:=by decide
 refine zY (b := !f.2) rfl (fun hc3=>?_) (fun hc3=>?_)
 · have hc4:f.2=false:=by simpa using hc3
   rw[Zg hc4] at h;obtain⟨u,hu,h⟩:=bind_some h;have hrm:=xh hu;have hL5:=hL2.h5;have hl4:(rest.flatMap zu).length=rest.length*4:=zX E35.len rest
   refine rg tok [3,4,5,8,9,12,13,33,34,35] fun K hK=>?_
   have hlit:=vco τ2 [.int .i64 y.fTag,.int .i64 y.fWire,.int .i64 y.fN,.str y.fB] [];have hat5:=Ym hL5 [.cells 0 [.int .i64 y.fTag,.int .i64 y.fWire,.int .i64 y.fN,.str y.fB]]
   have hap:yR tab 35 35 (.os true 4 5 rver 0 rest.length false) (.os true 4 τ2.length 0 0 1 true) (τ2++[.cells 0 [.int .i64 y.fTag,.int .i64 y.fWire,.int .i64 y.fN,.str y.fB]])=
    some (.os true 4 5 (rver+1) 0 (rest.length+1) false,List.set (τ2++[.cells 0 [.int .i64 y.fTag,.int .i64 y.fWire,.int .i64 y.fN,.str y.fB]]) 5 (.cells (rver+1) (rest.flatMap zu++[.int .i64 y.fTag,.int .i64 y.fWire,.int .i64 y.fN,.str y.fB]))):=by
    have e1:xf (τ2++[.cells 0 [.int .i64 y.fTag,.int .i64 y.fWire,.int .i64 y.fN,.str y.fB]]) 4 (.os true 4 τ2.length 0 0 1 true)=some (1,[.int .i64 y.fTag,.int .i64 y.fWire,.int .i64 y.fN,.str y.fB]):=by
     simp only[xf,hlit]; simp
    simp only[yR,tab_35,tab_139,e1,yU,yp,hat5,hl4,hrm]
    simp[AV.one]
   simp only[go_sem,qe,qb,qa,qc,qd,hr2,zU,yA,qY,qN,true_and,q1,qp,qz,hap];apply hK
   clear hK K
   refine ye ?_;simp only[go_sem,reduceCtorEq]
   have hLs:Loop (List.set (τ2++[.cells 0 [.int .i64 y.fTag,.int .i64 y.fWire,.int .i64 y.fN,.str y.fB]]) 5 (.cells (rver+1) (rest.flatMap zu++[.int .i64 y.fTag,.int .i64 y.fWire,.int .i64 y.fN,.str y.fB]))) a0 a1 ever (rver+1) L (rest++[y]):=by
    have hL3:=hL2.app [.cells 0 [.int .i64 y.fTag,.int .i64 y.fWire,.int .i64 y.fN,.str y.fB]];refine⟨Zj hL3.h0 (by decide) _,Zj hL3.h1 (by decide) _,Zj hL3.h2 (by decide) _,hL3.rep.set_ne (fun hm=>?_) _,?_,hL3.ids⟩
    · simp only[q5,ux] at hm
      rcases hm with h|h|⟨z,hz,h⟩
      · cases h
      · cases h
      have:=hL3.ids z hz; omega
    rw[zi.at_set hL3.h5,qD]
    simp[zu]
   exact fin _ _ L (rest++[y]) ever (rver+1) ⟨rfl,rfl,rfl,rfl,rfl,rfl,by rw[qk]; rfl,rfl,rfl,rfl,trivial⟩ hLs h
 have hc4:f.2=true:=by simpa using hc3
 rw[if_pos hc4] at h;refine zp ?_;refine hY _ _ ?_
 clear hY Y
 obtain⟨x,hx1,h⟩:=bind_some h;have hty:AV.agg (xB f.1.fType)=.agg [.int .i64 f.1.fType.fKind,.str f.1.fType.fName]:=rfl
 refine rc [3,4,5,8,9,12,13,16,18,19,33,34,35] fun K hK=>?_
 refine zd tok 5 ?_;simp only[go_sem,qe,qb,qa,qc,hm2,hr2,hf2,qp,qz,List.drop_succ_cons,qq,List.take_succ_cons,List.take_zero];refine Ye rfl rfl rfl (ev_one a0 f.1.fType y a3 x hx1 _) ?_;rintro _ _ ⟨rfl,hσ⟩
 rw[hσ]; clear hσ
 refine zd tok 6 ?_;simp only[go_sem,qe,qb,qa,qc,za,hae,hse,qp,qz,uA,uL];refine zm ?_;simp only[zG,upd,qa,reduceIte,xl,xU];apply hK
 clear hK K hr2 hm2
 obtain⟨xc,hxc⟩:∃ xc,xc=[AV.int .i64 x.1.fKind,.int .i64 x.1.fN,.str x.1.fS,.ds true (qh zz x.1.fEntries) x.1.fEntries.length false,.ds true (qh zu x.1.fRest) x.1.fRest.length false]:=⟨_,rfl⟩
 rw[← hxc];have hL3:=hL2.app [.cells 0 xc];have hf3:=Ym hf2 [.cells 0 xc];have hx3:=vco τ2 xc []
 clear hf2 hL2
 generalize τ2.length=k3 at *
 generalize τ2++[.cells 0 xc]=τ3 at *
 subst hxc
 refine ze fun Y hY=>?_
 refine rg tok [3,4,5,8,9,12,13,16,18,19,33,34,35,62] fun K hK=>?_
 simp only[go_sem,qe,qa];apply hK
 clear hK K
 have h23:=hL3.h2;have h24:=zi.at_set (ver':=0) (cs':=[.int .i64 0,.int .i64 0,.str [],.ds true [] 0 true,.ds true [] 0 true]) h23;refine yn rfl (fun hc5=>?_) (fun hc5=>?_)
 · rw[if_neg hc5] at h;obtain rfl:=Option.some.inj h
   refine rg tok [8,9] fun K hK=>?_
   simp only[go_sem,qe,qb,qa,qc,h23,qp,qz,uA,uL];apply hK
   clear hK K
   refine yk ?_;simp only[vdG,ZA,yT,yY,xR,exists_eq_left',go_sem,qb,qa,qc,h24,qp,qz];exact vb6
 rw[if_pos hc5] at h;obtain⟨pp,hp,h⟩:=bind_some h;refine zp ?_;refine hY _ _ ?_
 clear hY Y
 refine rc [3,4,5,8,9,12,13,33,34,35,68] fun K hK=>?_
 refine zd tok 2 ?_;simp only[go_sem,qe,qb,qa,qc,hf3,hx3,qp,qz];refine Ye rfl rfl rfl (put_at hL3.rep f.1 x.1 (es':=pp.1) (b:=pp.2) hp) ?_;rintro _ τ4 ⟨ever',L',rfl,hR4,he4,hid4,hle4,hfr4⟩;refine zd tok 1 ?_;simp only[go_sem,qe,qa];refine zm ?_;simp only[zG,upd,qa,reduceIte,xl,xU];apply hK
 clear hK K
 have hkeep:∀ {j v:Nat} {cs:List AV},zi.at τ3 j v=some cs→j<6→j≠3→j≠4→zi.at τ4 j v=some cs:=by
  intro j v cs hj h6 h3 h4
  have hlt:=zi.at_lt hj;unfold zi.at at hj ⊢;rw[hfr4 j hlt (fun hm=>?_)]
  · exact hj
  simp only[q5,ux] at hm
  rcases hm with h|h|⟨z,hz,h⟩
  · exact h3 h
  · exact h4 h
  have:=hL3.ids z hz; omega
 have h45:6≤τ3.length:=by
  have:=zi.at_lt hL3.h5; omega
 have hL4:Loop τ4 a0 a1 ever' rver L' rest:=by
  refine⟨hkeep hL3.h0 (by decide) (by decide) (by decide),hkeep hL3.h1 (by decide) (by decide) (by decide),hkeep hL3.h2 (by decide) (by decide) (by decide),hR4,hkeep hL3.h5 (by decide) (by decide) (by decide),fun z hz=>?_⟩
  rcases hid4 z hz with h|h
  · obtain⟨w,hw,h'⟩:=ux.1 h
    have:=hL3.ids w hw; omega
  omega
 have h43:=hL4.h2;have h44:=zi.at_set (ver':=0) (cs':=[.int .i64 0,.int .i64 0,.str [],.ds true [] 0 true,.ds true [] 0 true]) h43;refine zY (b := !pp.2) rfl (fun hc6=>?_) (fun hc6=>?_)
 · have hc7:pp.2=false:=by simpa using hc6
   rw[Zg hc7] at h;obtain rfl:=Option.some.inj h
   refine rg tok [8,9] fun K hK=>?_
   simp only[go_sem,qe,qb,qa,qc,h43,qp,qz,uA,uL];apply hK
   clear hK K
   refine yk ?_;simp only[vdG,ZA,yT,yY,xR,exists_eq_left',go_sem,qb,qa,qc,h44,qp,qz];exact vb6
 have hc7:pp.2=true:=by simpa using hc6
 rw[if_pos hc7] at h;refine zp ?_;simp only[XT,zG];exact fin _ _ L' rest ever' rver ⟨rfl,rfl,rfl,rfl,rfl,rfl,rfl,rfl,rfl,rfl,trivial⟩ hL4 (by rw[he4]; exact h)
end
section
set_option maxRecDepth 8000
open Go.RowKit AM
mutual
def yC : Nat→zP→yN→List UInt8→Int→Option (zq×Int)
 |0,_,_,_,_=>none
 |k+1,a0,a1,a2,a3=>yC.body (yC k) (yW k) a0 a1 a2 a3
def yW : Nat→zP→vam→yo→Int→Option (zq×Int)
 |0,_,_,_,_=>none
 |k+1,a0,a1,a2,a3=>yW.body (yC k) (yW k) a0 a1 a2 a3
end
theorem yC.all (k:Nat):
 (∀ (a0:zP) (a1:yN) (a2:List UInt8) (a3:Int) (r:zq×Int),yC k a0 a1 a2 a3=some r→ACalls qi 149 [.agg (zb a0),.agg (zf a1),.ds true (qh Zh a2) (qg a2) false,.int .i64 a3] [] (fun r' _=>r'=.tup [.agg (za r.1),.int .i64 r.2]))∧
 (∀ (a0:zP) (a1:vam) (a2:yo) (a3:Int) (r:zq×Int),yW k a0 a1 a2 a3=some r→ACalls qi 194 [.agg (zb a0),.agg (xB a1),.agg (zu a2),.int .i64 a3] [] (fun r' _=>r'=.tup [.agg (za r.1),.int .i64 r.2])):=by
 induction k with
 |zero=>exact⟨fun a0 a1 a2 a3 r h=>(by simp only[yC] at h; cases h),fun a0 a1 a2 a3 r h=>(by simp only[yW] at h; cases h)⟩
 |succ k ih=>
  exact⟨fun a0 a1 a2 a3 r h=>yC.step (yC k) (yW k) ih.2 a0 a1 a2 a3 r (by simpa only [yC] using h),
   fun a0 a1 a2 a3 r h=>yW.step (yC k) (yW k) ih.1 ih.2 a0 a1 a2 a3 r (by simpa only [yW] using h)⟩
theorem yC.ok (k:Nat)(a0:zP)(a1:yN)(a2:List UInt8)(a3:Int)(r:zq×Int)(h:yC k a0 a1 a2 a3=some r):ACalls qi 149 [.agg (zb a0),.agg (zf a1),.ds true (qh Zh a2) (qg a2) false,.int .i64 a3] [] (fun r' _=>r'=.tup [.agg (za r.1),.int .i64 r.2]):=
 (yC.all k).1 a0 a1 a2 a3 r h
theorem yC.ev (k:Nat)(a0:zP)(a1:yN)(a2:List UInt8)(a3:Int)(r:zq×Int)(h:yC k a0 a1 a2 a3=some r)(σ:zi):ACalls qi 149 [.agg (zb a0),.agg (zf a1),.ds true (qh Zh a2) (qg a2) false,.int .i64 a3] σ (fun r' σ'=>r'=.tup [.agg (za r.1),.int .i64 r.2]∧σ'=σ):=
 (yC.ok k a0 a1 a2 a3 r h).pureAt (by simp only[AV.canon,xu,xD,qJ,qo,ui,qn,qw,qv,uM,uE,za,zf,zb]) (by simp only[AV.canon,xu,xD,qJ,qo,ui,qn,qw,qv,uM,uE,za,zh]) σ
end
section
namespace AM
open Go.RowKit
end AM
end
section
set_option maxRecDepth 8000
open Go.RowKit AM
section
variable {P:Program} {n k:Nat} {Q:Exit→Fr→zi→Prop} {F:Fr} {σ:zi}
theorem AM.opsWp_inil {T:TT}(hT:TOK P T){ops:Array Oper}{o:Oper}{l:List Oper}{x:Operand}{t yt:TypeId}{i:TI}{e:Array (String×TypeId)}(hg:YA ops F o=some true)(ho:o.op=.binOp .eql t x (.const .nilIface) yt)(hi:T t=some i)(hd:i.desc=.interface e)
 (hs:ev F x=.nilI) (hdst:vax n o.dst=true) (h:ZW P n k ops l Q (ZS F o.dst (.bool true)) σ):ZW P n k ops (o::l) Q F σ:=by
 intro E a hk hS hF
 unfold wpList;rw[if_pos (Zz hF hg)];refine .inl ?_;have hx:=hF.ev x;rw[hs] at hx
 have hv:a.eval x=.nilIface:=by
  generalize a.eval x=v at hx
  cases hx; rfl
 unfold Oper.wp
 have hrun:(execOp a.eval o).run P E.w=.ok (.value (.bool true)) E.w:=by
  obtain⟨dst,op,ty,pos,after,guard⟩:=o;simp only at ho;subst ho
  show (do pure (.value (← (do eqGuard .eql t x (.const .nilIface) (a.eval x) .nilIface; Go.binOp .eql t (a.eval x) .nilIface:Sem Value))):Sem Next).run P E.w=_
  have h3:∀ d,(Op.equalIn (d+1) t .nilIface .nilIface).run P E.w=.ok true E.w:=by
   intro d
   simp only[Op.equalIn,qA,yq _ (hT _ _ hi),qm,hd]; rfl
  have h2:(Op.equal t .nilIface .nilIface).run P E.w=.ok true E.w:=h3 9999
  have h1:(do eqGuard .eql t x (.const .nilIface) .nilIface .nilIface; Go.binOp .eql t .nilIface .nilIface:Sem Value).run P E.w=.ok (.bool true) E.w:=by
   have hgd:(eqGuard .eql t x (.const .nilIface) .nilIface .nilIface).run P E.w=.ok () E.w:=by
    unfold eqGuard
    cases x<;>rfl
   rw[qA,hgd,qm];simp only[Go.binOp,qA,h2,qm,qO]
  rw[hv,qA,h1,qm]; rfl
 rw[hrun];exact h E _ hk hS (hF.put (XR hdst) (.bool true))
end
theorem kind_num (m:Int)(σ:zi):ACalls qi 275 [.int .i64 m] σ (fun r' σ'=>r'=.int .i64 1∧σ'=σ):=by
 refine ACalls.c (x:=.int .i64 1) ?_ σ;refine zw (rs:=[.tmp 2]) tok Tryz.func275 rfl Tryz.ntmps275 rfl Tryz.call275 (by simp) ?_;refine zC [(0,.int .i64 m)] ⟨rfl,trivial⟩ ?_
 refine rg tok [2] fun K hK=>?_
 simp only[go_sem,qe,qb,qa,qc,qd,qf,reduceIte,reduceCtorEq];apply hK
 clear hK K
 refine rg tok [2] fun K hK=>?_
 simp only[go_sem,qe,qb,qa,qc,qd,qf,reduceIte,reduceCtorEq];apply hK
 clear hK K
 refine yk ?_;exact retA
theorem kind_str (m:List UInt8)(σ:zi):ACalls qi 276 [.str m] σ (fun r' σ'=>r'=.int .i64 2∧σ'=σ):=by
 refine ACalls.c (x:=.int .i64 2) ?_ σ;refine zw (rs:=[.tmp 2]) tok Tryz.func276 rfl Tryz.ntmps276 rfl Tryz.call276 (by simp) ?_;refine zC [(0,.str m)] ⟨rfl,trivial⟩ ?_
 refine rg tok [2] fun K hK=>?_
 simp only[go_sem,qe,qb,qa,qc,qd,qf,reduceIte,reduceCtorEq];apply hK
 clear hK K
 refine rg tok [2] fun K hK=>?_
 simp only[go_sem,qe,qb,qa,qc,qd,qf,reduceIte,reduceCtorEq];apply hK
 clear hK K
 refine yk ?_;exact retA
theorem kind_node (m:yg)(σ:zi):ACalls qi 274 [.dp (zJ m) 0] σ (fun r' σ'=>r'=.int .i64 3∧σ'=σ):=by
 refine ACalls.c (x:=.int .i64 3) ?_ σ;refine zw (rs:=[.tmp 2]) tok Tryz.func274 rfl Tryz.ntmps274 rfl Tryz.call274 (by simp) ?_;refine zC [(0,.dp (zJ m) 0)] ⟨rfl,trivial⟩ ?_
 refine rg tok [2] fun K hK=>?_
 simp only[go_sem,qe,qb,qa,qc,qd,qf,reduceIte,reduceCtorEq];apply hK
 clear hK K
 refine rg tok [2] fun K hK=>?_
 simp only[go_sem,qe,qb,qa,qc,qd,qf,reduceIte,reduceCtorEq];apply hK
 clear hK K
 refine yk ?_;exact retA
theorem has_num : vcp qi 348 "concordat/value.kind" 275:=by intro v w; kernel_rfl
theorem has_str : vcp qi 349 "concordat/value.kind" 276:=by intro v w; kernel_rfl
theorem has_node : vcp qi 232 "concordat/value.kind" 274:=by intro v w; kernel_rfl
def Ze (a0:zs):Int:=
 match a0 with|.nil=>0|.num _=>1|.str _=>2|.node _ _=>3
theorem Ze.ok (a0:zs)(r:Int)(h:Ze a0=r):ACalls qi 253 [.agg (zl a0)] [] (fun r' _=>r'=.int .i64 r):=by
 refine zw (rs:=[.tmp 2]) tok Tryz.func253 rfl Tryz.ntmps253 rfl Tryz.call253 (by simp) ?_;refine zC [(0,.agg (zl a0))] ⟨rfl,trivial⟩ ?_;unfold Ze at h;have f1:=Yf a0;unfold AV.one at f1
 refine rg tok [1] fun K hK=>?_
 simp only[go_sem,qe,qb,qa,qc,qd,qf,reduceIte,reduceCtorEq,zl,f1];apply hK
 clear hK K
 rcases a0 with _|n2|s2|⟨e2,r2⟩
 · dsimp only at h
   try simp only[Xv]
   refine ze fun Z hZ=>?_
   refine rc [1,5] fun K hK=>?_
   refine zd tok 2 ?_;simp only[go_sem,qe,qb,qa,qc,qd,qf,reduceIte,reduceCtorEq];refine opsWp_inil tok rfl rfl rfl rfl rfl rfl ?_;refine zm ?_;simp only[zG,yE,yV,ZS,upd,qa,reduceIte,xl,xU];apply hK
   clear hK K
   refine zQ rfl ?_
   refine rg tok [2] fun K hK=>?_
   simp only[go_sem,qe,qb,qa,qc,qd,qf,reduceIte,reduceCtorEq];apply hK
   clear hK K
   refine yk ?_;obtain rfl:=h;exact retA
 · dsimp only at h
   try simp only[Xu]
   refine ze fun Z hZ=>?_
   refine rg tok [1,5] fun K hK=>?_
   simp only[go_sem,qe,qb,qa,qc,qd,qf,reduceIte,reduceCtorEq,zV];apply hK
   clear hK K
   refine zK rfl ?_;refine zp ?_;refine hZ _ _ ?_
   clear hZ Z
   refine rc [2] fun K hK=>?_
   refine zd tok 2 ?_;simp only[go_sem,qe,qb,qa,qc,qd,qf,reduceIte,reduceCtorEq];refine vbo rfl rfl rfl has_num rfl (kind_num n2 _) ?_;rintro _ _ ⟨rfl,rfl⟩;refine zd tok 1 ?_;simp only[go_sem,qe,qb,qa,qc,qd,qf,reduceIte,reduceCtorEq];refine zm ?_;simp only[zG,yE,yV,ZS,upd,qa,reduceIte,xl,xU];apply hK
   clear hK K
   refine yk ?_;obtain rfl:=h;exact retA
 · dsimp only at h
   try simp only[Xt]
   refine ze fun Z hZ=>?_
   refine rg tok [1,5] fun K hK=>?_
   simp only[go_sem,qe,qb,qa,qc,qd,qf,reduceIte,reduceCtorEq,zV];apply hK
   clear hK K
   refine zK rfl ?_;refine zp ?_;refine hZ _ _ ?_
   clear hZ Z
   refine rc [2] fun K hK=>?_
   refine zd tok 2 ?_;simp only[go_sem,qe,qb,qa,qc,qd,qf,reduceIte,reduceCtorEq];refine vbo rfl rfl rfl has_str rfl (kind_str s2 _) ?_;rintro _ _ ⟨rfl,rfl⟩;refine zd tok 1 ?_;simp only[go_sem,qe,qb,qa,qc,qd,qf,reduceIte,reduceCtorEq];refine zm ?_;simp only[zG,yE,yV,ZS,upd,qa,reduceIte,xl,xU];apply hK
   clear hK K
   refine yk ?_;obtain rfl:=h;exact retA
 dsimp only at h
 try simp only[Yz]
 refine ze fun Z hZ=>?_
 refine rg tok [1,5] fun K hK=>?_
 simp only[go_sem,qe,qb,qa,qc,qd,qf,reduceIte,reduceCtorEq,zV];apply hK
 clear hK K
 refine zK rfl ?_;refine zp ?_;refine hZ _ _ ?_
 clear hZ Z
 refine rc [2] fun K hK=>?_
 refine zd tok 2 ?_;simp only[go_sem,qe,qb,qa,qc,qd,qf,reduceIte,reduceCtorEq];refine vbo rfl rfl rfl has_node rfl (kind_node ⟨e2,r2⟩ _) ?_;rintro _ _ ⟨rfl,rfl⟩;refine zd tok 1 ?_;simp only[go_sem,qe,qb,qa,qc,qd,qf,reduceIte,reduceCtorEq];refine zm ?_;simp only[zG,yE,yV,ZS,upd,qa,reduceIte,xl,xU];apply hK
 clear hK K
 refine yk ?_;obtain rfl:=h;exact retA
theorem Ze.ev (a0:zs)(r:Int)(h:Ze a0=r)(σ:zi):ACalls qi 253 [.agg (zl a0)] σ (fun r' σ'=>r'=.int .i64 r∧σ'=σ):=
 (Ze.ok a0 r h).c σ
theorem asNode_nil (σ:zi):ACalls qi 254 [.agg ([.nilI])] σ (fun r' σ'=>r'=.tup [.nilp,.bool false]∧σ'=σ):=by
 refine ACalls.c (x:=.tup [.nilp,.bool false]) ?_ σ;refine zw (rs:=[.tmp 2,.tmp 3]) tok Tryz.func254 rfl Tryz.ntmps254 rfl Tryz.call254 (by simp) ?_;refine zC [(0,.agg ([.nilI]))] ⟨rfl,trivial⟩ ?_
 refine rg tok [1] fun K hK=>?_
 simp only[go_sem,qe,qb,qa,qc,qd,qf,reduceIte,reduceCtorEq];apply hK
 clear hK K
 refine rg tok [4,5] fun K hK=>?_
 simp only[go_sem,qe,qb,qa,qc,qd,qf,reduceIte,reduceCtorEq,xI,xJ,TypeDesc.isIface];apply hK
 clear hK K
 refine rg tok [2,3] fun K hK=>?_
 simp only[go_sem,qe,qb,qa,qc,qd,qf,reduceIte,reduceCtorEq];apply hK
 clear hK K
 refine yk ?_;exact retA
theorem asNode_num (n:Int)(σ:zi):ACalls qi 254 [.agg ([.ifc 348 (.int .i64 n)])] σ (fun r' σ'=>r'=.tup [.nilp,.bool false]∧σ'=σ):=by
 refine ACalls.c (x:=.tup [.nilp,.bool false]) ?_ σ;refine zw (rs:=[.tmp 2,.tmp 3]) tok Tryz.func254 rfl Tryz.ntmps254 rfl Tryz.call254 (by simp) ?_;refine zC [(0,.agg ([.ifc 348 (.int .i64 n)]))] ⟨rfl,trivial⟩ ?_
 refine rg tok [1] fun K hK=>?_
 simp only[go_sem,qe,qb,qa,qc,qd,qf,reduceIte,reduceCtorEq];apply hK
 clear hK K
 refine rg tok [4,5] fun K hK=>?_
 simp only[go_sem,qe,qb,qa,qc,qd,qf,reduceIte,reduceCtorEq,xI,xJ,TypeDesc.isIface];apply hK
 clear hK K
 refine rg tok [2,3] fun K hK=>?_
 simp only[go_sem,qe,qb,qa,qc,qd,qf,reduceIte,reduceCtorEq];apply hK
 clear hK K
 refine yk ?_;exact retA
theorem asNode_str (s:List UInt8)(σ:zi):ACalls qi 254 [.agg ([.ifc 349 (.str s)])] σ (fun r' σ'=>r'=.tup [.nilp,.bool false]∧σ'=σ):=by
 refine ACalls.c (x:=.tup [.nilp,.bool false]) ?_ σ;refine zw (rs:=[.tmp 2,.tmp 3]) tok Tryz.func254 rfl Tryz.ntmps254 rfl Tryz.call254 (by simp) ?_;refine zC [(0,.agg ([.ifc 349 (.str s)]))] ⟨rfl,trivial⟩ ?_
 refine rg tok [1] fun K hK=>?_
 simp only[go_sem,qe,qb,qa,qc,qd,qf,reduceIte,reduceCtorEq];apply hK
 clear hK K
 refine rg tok [4,5] fun K hK=>?_
 simp only[go_sem,qe,qb,qa,qc,qd,qf,reduceIte,reduceCtorEq,xI,xJ,TypeDesc.isIface];apply hK
 clear hK K
 refine rg tok [2,3] fun K hK=>?_
 simp only[go_sem,qe,qb,qa,qc,qd,qf,reduceIte,reduceCtorEq];apply hK
 clear hK K
 refine yk ?_;exact retA
theorem asNode_node (e:List yJ)(q:List yo)(σ:zi):ACalls qi 254 [.agg ([.ifc 232 (.dp [.ds true (qh xa e) (qg e) false,.ds true (qh zu q) (qg q) false] 0)])] σ (fun r' σ'=>r'=.tup [.dp (zJ ⟨e,q⟩) 0,.bool true]∧σ'=σ):=by
 refine ACalls.c (x:=.tup [.dp (zJ ⟨e,q⟩) 0,.bool true]) ?_ σ;refine zw (rs:=[.tmp 2,.tmp 3]) tok Tryz.func254 rfl Tryz.ntmps254 rfl Tryz.call254 (by simp) ?_;refine zC [(0,.agg ([.ifc 232 (.dp [.ds true (qh xa e) (qg e) false,.ds true (qh zu q) (qg q) false] 0)]))] ⟨rfl,trivial⟩ ?_
 refine rg tok [1] fun K hK=>?_
 simp only[go_sem,qe,qb,qa,qc,qd,qf,reduceIte,reduceCtorEq];apply hK
 clear hK K
 refine rg tok [4,5] fun K hK=>?_
 simp only[go_sem,qe,qb,qa,qc,qd,qf,reduceIte,reduceCtorEq,xI,xJ,TypeDesc.isIface];apply hK
 clear hK K
 refine rg tok [2,3] fun K hK=>?_
 simp only[go_sem,qe,qb,qa,qc,qd,qf,reduceIte,reduceCtorEq];apply hK
 clear hK K
 refine yk ?_;exact retA
end
section
set_option maxRecDepth 4000
set_option maxHeartbeats 1000000
open AM
def ZR.l9 (a0:List UInt8):Nat→Nat→Int→Option Int
 |0,_,_=>none
 |k9+1,p5,x6=>(if p5<qg a0 then ((ZR.l9 a0 k9) (p5+(decU a0 p5).2) (IntKind.i64.wrap (x6+1))) else some x6)
def ZR (a0:List UInt8):Option Int:=
 (wX a0).bind fun r2=>(if (!r2)=true then some 0 else (ZR.l9 a0 xG 0 0))
theorem ZR.ok {a0 r}(h:ZR a0=some r):ACalls qi 167 [.str a0] [] (fun r' _=>r'=.int .i64 r):=by
 refine zw (rs:=[.tmp 2]) tok Tryz.func167 rfl Tryz.ntmps167 rfl Tryz.call167 (by simp) ?_;refine zC [(0,.str a0)] ⟨rfl,trivial⟩ ?_;unfold ZR at h;refine rgN [0] ?_
 refine ze fun Z1 hZ1=>?_
 refine rc [0,6] fun K hK=>?_
 obtain⟨r2,hr2,h⟩:=bind_some h;refine rnN 1 ?_;refine clN rfl rfl rfl ((wX.ok hr2).c _) ?_;refine rnN 1 ?_;refine nkN hK ?_;refine zY (b:=(!r2)) rfl (fun hc3=>?_) (fun hc3=>?_)
 · rw[if_pos hc3] at h;refine rgN [2] ?_;cases h;exact rtA
 rw[Zg hc3] at h;apply zp;apply hZ1;refine rgN [0,3] ?_
 refine ze fun Z4 hZ4=>?_
 refine rgN [3,8] ?_;apply zt;refine yh (fun m L τ=>∃ (k9:Nat) (p5:Nat) (x6:Int),m=0+k9∧L=[(3,.int .i64 x6),(8,.it 0)]∧τ=([.iter a0 p5]:zi)∧ZR.l9 a0 k9 p5 x6=some r) _ ⟨xG,0,0,rfl,rfl,rfl,h⟩ .s ?_;rintro m L τ ⟨k9,p5,x6,rfl,rfl,rfl,h⟩
 rcases k9 with _|k9
 · cases h
 simp only[ZR.l9] at h
 by_cases hn10:p5<qg a0
 · rw[if_pos hn10] at h;have t11:=eq_true hn10
   refine rg tok [3,8,10] fun K hK=>?_
   simp only[go_sem,qe,qb,qa,qc,qd,qf,reduceIte,reduceCtorEq,vcd,if_true,if_false,t11];apply hK
   refine ze fun Z12 hZ12=>?_
   refine zQ rfl ?_;apply zp;apply hZ12;apply zt
   refine rgE tok [3,8] fun K hK=>?_
   simp only[go_sem,qe,qb,qa,qc,qd,qf,reduceIte,reduceCtorEq,zV,t11];apply hK
   exact⟨_,_,_,qH (0+k9),⟨k9,p5+(decU a0 p5).2,IntKind.i64.wrap (x6+1),rfl,rfl,rfl,h⟩,.s⟩
 rw[if_neg hn10] at h;have t13:=eq_false hn10
 refine rg tok [3,8,10] fun K hK=>?_
 simp only[go_sem,qe,qb,qa,qc,qd,qf,reduceIte,reduceCtorEq,vcd,if_true,if_false,t13];apply hK
 refine ze fun Z14 hZ14=>?_
 refine zK rfl ?_;apply ye;apply hZ4
 refine rg tok [2] fun K hK=>?_
 simp only[go_sem,qe,qb,qa,qc,qd,qf,reduceIte,reduceCtorEq,t13];apply hK
 cases h;exact rtA
def wR.j3 (x2:Bool):Bool:=
 (if x2=true then true else false)
def wR (a0:List UInt8):Bool:=
 (if a0=[115,99,104,101,109,97] then (wR.j3 (decide (a0=[115,99,104,101,109,97]))) else (if a0=[109,101,115,115,97,103,101] then (wR.j3 (decide (a0=[109,101,115,115,97,103,101]))) else (if a0=[101,110,117,109] then (wR.j3 (decide (a0=[101,110,117,109]))) else (if a0=[99,97,108,108] then (wR.j3 (decide (a0=[99,97,108,108]))) else (if a0=[114,101,116,117,114,110,115] then (wR.j3 (decide (a0=[114,101,116,117,114,110,115]))) else (if a0=[114,101,115,101,114,118,101,100] then (wR.j3 (decide (a0=[114,101,115,101,114,118,101,100]))) else (if a0=[111,112,116,105,111,110,97,108] then (wR.j3 (decide (a0=[111,112,116,105,111,110,97,108]))) else (if a0=[114,101,112,101,97,116,101,100] then (wR.j3 (decide (a0=[114,101,112,101,97,116,101,100]))) else (if a0=[105,110,116,51,50] then (wR.j3 (decide (a0=[105,110,116,51,50]))) else (if a0=[105,110,116,54,52] then (wR.j3 (decide (a0=[105,110,116,54,52]))) else (if a0=[98,111,111,108] then (wR.j3 (decide (a0=[98,111,111,108]))) else (if a0=[116,101,120,116] then (wR.j3 (decide (a0=[116,101,120,116]))) else (wR.j3 (decide (a0=[98,121,116,101,115])))))))))))))))
theorem wR.ok {a0 r}(h:wR a0=r):ACalls qi 168 [.str a0] [] (fun r' _=>r'=.bool r):=by
 refine zw (rs:=[.tmp 2]) tok Tryz.func168 rfl Tryz.ntmps168 rfl Tryz.call168 (by simp) ?_;refine zC [(0,.str a0)] ⟨rfl,trivial⟩ ?_;unfold wR at h;refine rgN [0] ?_
 refine ze fun Z1 hZ1=>?_
 refine rgN [3] ?_;apply zt;refine xV (fun L τ=>∃ (x2:Bool),L=[(4,.bool x2)]∧τ=([]:zi)∧wR.j3 x2=r) ?_ ?_
 · refine rg tok [3,4] fun K hK=>?_
   simp only[go_sem,qe,qb,qa,qc,qd,qf,reduceIte,reduceCtorEq,zV];apply hK
   refine yn rfl (fun hc5=>?_) (fun hc5=>?_)
   · rw[if_pos hc5] at h;have t6:=eq_true hc5;apply zp;exact⟨_,_,⟨decide (a0=[115,99,104,101,109,97]),rfl,rfl,h⟩,.s⟩
   rw[if_neg hc5] at h;have t7:=eq_false hc5
   refine rg tok [3,4] fun K hK=>?_
   simp only[go_sem,qe,qb,qa,qc,qd,qf,reduceIte,reduceCtorEq,zV,t7];apply hK
   refine yn rfl (fun hc8=>?_) (fun hc8=>?_)
   · rw[if_pos hc8] at h;have t9:=eq_true hc8;apply zp;exact⟨_,_,⟨decide (a0=[109,101,115,115,97,103,101]),rfl,rfl,h⟩,.s⟩
   rw[if_neg hc8] at h;have t10:=eq_false hc8
   refine rg tok [3,4] fun K hK=>?_
   simp only[go_sem,qe,qb,qa,qc,qd,qf,reduceIte,reduceCtorEq,zV,t7,t10];apply hK
   refine yn rfl (fun hc11=>?_) (fun hc11=>?_)
   · rw[if_pos hc11] at h;have t12:=eq_true hc11;apply zp;exact⟨_,_,⟨decide (a0=[101,110,117,109]),rfl,rfl,h⟩,.s⟩
   rw[if_neg hc11] at h;have t13:=eq_false hc11
   refine rg tok [3,4] fun K hK=>?_
   simp only[go_sem,qe,qb,qa,qc,qd,qf,reduceIte,reduceCtorEq,zV,t7,t10,t13];apply hK
   refine yn rfl (fun hc14=>?_) (fun hc14=>?_)
   · rw[if_pos hc14] at h;have t15:=eq_true hc14;apply zp;exact⟨_,_,⟨decide (a0=[99,97,108,108]),rfl,rfl,h⟩,.s⟩
   rw[if_neg hc14] at h;have t16:=eq_false hc14
   refine rg tok [3,4] fun K hK=>?_
   simp only[go_sem,qe,qb,qa,qc,qd,qf,reduceIte,reduceCtorEq,zV,t7,t10,t13,t16];apply hK
   refine yn rfl (fun hc17=>?_) (fun hc17=>?_)
   · rw[if_pos hc17] at h;have t18:=eq_true hc17;apply zp;exact⟨_,_,⟨decide (a0=[114,101,116,117,114,110,115]),rfl,rfl,h⟩,.s⟩
   rw[if_neg hc17] at h;have t19:=eq_false hc17
   refine rg tok [3,4] fun K hK=>?_
   simp only[go_sem,qe,qb,qa,qc,qd,qf,reduceIte,reduceCtorEq,zV,t7,t10,t13,t16,t19];apply hK
   refine yn rfl (fun hc20=>?_) (fun hc20=>?_)
   · rw[if_pos hc20] at h;have t21:=eq_true hc20;apply zp;exact⟨_,_,⟨decide (a0=[114,101,115,101,114,118,101,100]),rfl,rfl,h⟩,.s⟩
   rw[if_neg hc20] at h;have t22:=eq_false hc20
   refine rg tok [3,4] fun K hK=>?_
   simp only[go_sem,qe,qb,qa,qc,qd,qf,reduceIte,reduceCtorEq,zV,t7,t10,t13,t16,t19,t22];apply hK
   refine yn rfl (fun hc23=>?_) (fun hc23=>?_)
   · rw[if_pos hc23] at h;have t24:=eq_true hc23;apply zp;exact⟨_,_,⟨decide (a0=[111,112,116,105,111,110,97,108]),rfl,rfl,h⟩,.s⟩
   rw[if_neg hc23] at h;have t25:=eq_false hc23
   refine rg tok [3,4] fun K hK=>?_
   simp only[go_sem,qe,qb,qa,qc,qd,qf,reduceIte,reduceCtorEq,zV,t7,t10,t13,t16,t19,t22,t25];apply hK
   refine yn rfl (fun hc26=>?_) (fun hc26=>?_)
   · rw[if_pos hc26] at h;have t27:=eq_true hc26;apply zp;exact⟨_,_,⟨decide (a0=[114,101,112,101,97,116,101,100]),rfl,rfl,h⟩,.s⟩
   rw[if_neg hc26] at h;have t28:=eq_false hc26
   refine rg tok [3,4] fun K hK=>?_
   simp only[go_sem,qe,qb,qa,qc,qd,qf,reduceIte,reduceCtorEq,zV,t7,t10,t13,t16,t19,t22,t25,t28];apply hK
   refine yn rfl (fun hc29=>?_) (fun hc29=>?_)
   · rw[if_pos hc29] at h;have t30:=eq_true hc29;apply zp;exact⟨_,_,⟨decide (a0=[105,110,116,51,50]),rfl,rfl,h⟩,.s⟩
   rw[if_neg hc29] at h;have t31:=eq_false hc29
   refine rg tok [3,4] fun K hK=>?_
   simp only[go_sem,qe,qb,qa,qc,qd,qf,reduceIte,reduceCtorEq,zV,t7,t10,t13,t16,t19,t22,t25,t28,t31];apply hK
   refine yn rfl (fun hc32=>?_) (fun hc32=>?_)
   · rw[if_pos hc32] at h;have t33:=eq_true hc32;apply zp;exact⟨_,_,⟨decide (a0=[105,110,116,54,52]),rfl,rfl,h⟩,.s⟩
   rw[if_neg hc32] at h;have t34:=eq_false hc32
   refine rg tok [3,4] fun K hK=>?_
   simp only[go_sem,qe,qb,qa,qc,qd,qf,reduceIte,reduceCtorEq,zV,t7,t10,t13,t16,t19,t22,t25,t28,t31,t34];apply hK
   refine yn rfl (fun hc35=>?_) (fun hc35=>?_)
   · rw[if_pos hc35] at h;have t36:=eq_true hc35;apply zp;exact⟨_,_,⟨decide (a0=[98,111,111,108]),rfl,rfl,h⟩,.s⟩
   rw[if_neg hc35] at h;have t37:=eq_false hc35
   refine rg tok [3,4] fun K hK=>?_
   simp only[go_sem,qe,qb,qa,qc,qd,qf,reduceIte,reduceCtorEq,zV,t7,t10,t13,t16,t19,t22,t25,t28,t31,t34,t37];apply hK
   refine yn rfl (fun hc38=>?_) (fun hc38=>?_)
   · rw[if_pos hc38] at h;have t39:=eq_true hc38;apply zp;exact⟨_,_,⟨decide (a0=[116,101,120,116]),rfl,rfl,h⟩,.s⟩
   rw[if_neg hc38] at h;have t40:=eq_false hc38
   refine rgE tok [4] fun K hK=>?_
   simp only[go_sem,qe,qb,qa,qc,qd,qf,reduceIte,reduceCtorEq,zV,t7,t10,t13,t16,t19,t22,t25,t28,t31,t34,t37,t40];apply hK
   exact⟨_,_,⟨decide (a0=[98,121,116,101,115]),rfl,rfl,h⟩,.s⟩
 rintro _ _ ⟨x2,rfl,rfl,h⟩;unfold wR.j3 at h;refine zY (b:=x2) rfl (fun hc4=>?_) (fun hc4=>?_)
 · rw[if_pos hc4] at h;refine rgN [2] ?_;cases h;exact rtA
 rw[Zg hc4] at h;apply zp;apply hZ1;refine rgN [2] ?_;cases h;exact rtA
def YI (a0:Int)(a1:Int)(a2:Int):Bool:=
 ((decide (a1≤a0))&&(decide (a0≤a2)))
theorem YI.ok {a0 a1 a2 r}(h:YI a0 a1 a2=r):ACalls qi 212 [.int .i32 a0,.int .i32 a1,.int .i32 a2] [] (fun r' _=>r'=.bool r):=by
 refine zw (rs:=[.tmp 6]) tok Tryz.func212 rfl Tryz.ntmps212 rfl Tryz.call212 (by simp) ?_;refine zC [(0,.int .i32 a0),(1,.int .i32 a1),(2,.int .i32 a2)] ⟨rfl,rfl,rfl,trivial⟩ ?_;unfold YI at h;refine rgN [0,1,2] ?_
 refine rc [6] fun K hK=>?_
 refine zd tok 4 ?_;simp only[go_sem,qe,qb,qa,qc,qd,qf,reduceIte,reduceCtorEq,zV];refine zI 4 (fun L τ=>L=[(14,.bool ((decide (a1≤a0))&&(decide (a0≤a2))))]∧τ=([]:zi)) ?_ ?_
 · refine wr 10 rfl (fun hg10=>?_) (fun hg10=>?_)
   · have t1:=eq_true hg10;refine zd tok 4 ?_;simp only[go_sem,qe,qb,qa,qc,qd,qf,reduceIte,reduceCtorEq,zV];refine zm ⟨rfl,_,_,⟨rfl,rfl⟩,.p t1⟩
   have t2:=eq_false hg10;refine zd tok 4 ?_;simp only[go_sem,qe,qb,qa,qc,qd,qf,reduceIte,reduceCtorEq,zV];refine zm ⟨rfl,_,_,⟨rfl,rfl⟩,.p t2⟩
 rintro _ _ ⟨rfl,rfl⟩;refine rnN 1 ?_;refine nkN hK ?_;cases h;exact rtA
def Zq.j6 (a0:Int)(x5:Bool):Bool:=
 (if x5=true then false else bnd (YI a0 97 122) fun r8=>bnd (if r8=true then true else bnd (YI a0 65 90) fun r9=>r9) fun c9=>bnd (if c9=true then true else bnd (YI a0 192 591) fun r11=>r11) fun c11=>bnd (if c11=true then true else bnd (YI a0 913 969) fun r13=>r13) fun c13=>c13)
def Zq (a0:Int):Bool:=
 (if a0=95 then true else (if a0=215 then (Zq.j6 a0 (decide (a0=215))) else (if a0=247 then (Zq.j6 a0 (decide (a0=247))) else (Zq.j6 a0 (decide (a0=930))))))
theorem Zq.ok {a0 r}(h:Zq a0=r):ACalls qi 169 [.int .i32 a0] [] (fun r' _=>r'=.bool r):=by
 refine zw (rs:=[.tmp 2]) tok Tryz.func169 rfl Tryz.ntmps169 rfl Tryz.call169 (by simp) ?_;refine zC [(0,.int .i32 a0)] ⟨rfl,trivial⟩ ?_;unfold Zq at h;refine rgN [0] ?_
 refine ze fun Z1 hZ1=>?_
 refine rgN [0,3] ?_;apply zt
 refine rg tok [0,3,4] fun K hK=>?_
 simp only[go_sem,qe,qb,qa,qc,qd,qf,reduceIte,reduceCtorEq,zV];apply hK
 refine yn rfl (fun hc2=>?_) (fun hc2=>?_)
 · rw[if_pos hc2] at h;have t3:=eq_true hc2
   refine rg tok [2] fun K hK=>?_
   simp only[go_sem,qe,qb,qa,qc,qd,qf,reduceIte,reduceCtorEq,t3];apply hK
   cases h;exact rtA
 rw[if_neg hc2] at h;have t4:=eq_false hc2;refine xV (fun L τ=>∃ (x5:Bool),L=[(0,.int .i32 a0),(6,.bool x5)]∧τ=([]:zi)∧Zq.j6 a0 x5=r) ?_ ?_
 · refine rg tok [0,3,6] fun K hK=>?_
   simp only[go_sem,qe,qb,qa,qc,qd,qf,reduceIte,reduceCtorEq,zV,t4];apply hK
   refine yn rfl (fun hc15=>?_) (fun hc15=>?_)
   · rw[if_pos hc15] at h;have t16:=eq_true hc15;apply zp;exact⟨_,_,⟨decide (a0=215),rfl,rfl,h⟩,.s⟩
   rw[if_neg hc15] at h;have t17:=eq_false hc15
   refine rg tok [0,3,6] fun K hK=>?_
   simp only[go_sem,qe,qb,qa,qc,qd,qf,reduceIte,reduceCtorEq,zV,t4,t17];apply hK
   refine yn rfl (fun hc18=>?_) (fun hc18=>?_)
   · rw[if_pos hc18] at h;have t19:=eq_true hc18;apply zp;exact⟨_,_,⟨decide (a0=247),rfl,rfl,h⟩,.s⟩
   rw[if_neg hc18] at h;have t20:=eq_false hc18
   refine rgE tok [0,6] fun K hK=>?_
   simp only[go_sem,qe,qb,qa,qc,qd,qf,reduceIte,reduceCtorEq,zV,t4,t17,t20];apply hK
   exact⟨_,_,⟨decide (a0=930),rfl,rfl,h⟩,.s⟩
 rintro _ _ ⟨x5,rfl,rfl,h⟩;unfold Zq.j6 at h;refine zY (b:=x5) rfl (fun hc7=>?_) (fun hc7=>?_)
 · rw[if_pos hc7] at h
   refine rg tok [2] fun K hK=>?_
   simp only[go_sem,qe,qb,qa,qc,qd,qf,reduceIte,reduceCtorEq,t4];apply hK
   cases h;exact rtA
 rw[Zg hc7] at h;apply zp;apply hZ1
 refine rc [2] fun K hK=>?_
 obtain⟨r8,hr8,h⟩:=yi h;refine zd tok 1 ?_;simp only[go_sem,qe,qb,qa,qc,qd,qf,reduceIte,reduceCtorEq,t4];refine clN rfl rfl rfl ((YI.ok hr8).c _) ?_;refine zd tok 1 ?_;simp only[go_sem,qe,qb,qa,qc,qd,qf,reduceIte,reduceCtorEq,t4];obtain⟨c9,hc9,h⟩:=yi h;refine zI 3 (fun L τ=>L=[(0,.int .i32 a0),(15,.bool c9)]∧τ=([]:zi)) ?_ ?_
 · refine yz (b:=r8) 12 rfl (fun hg12=>?_) (fun hg12=>?_)
   · rw[if_pos hg12] at hc9;refine zd tok 3 ?_;simp only[go_sem,qe,qb,qa,qc,qd,qf,reduceIte,reduceCtorEq,t4];subst hc9;refine zm ⟨rfl,_,_,⟨rfl,rfl⟩,.b hg12⟩
   rw[Zg hg12] at hc9;obtain⟨r10,hr10,hc9⟩:=yi hc9;refine zd tok 1 ?_;simp only[go_sem,qe,qb,qa,qc,qd,qf,reduceIte,reduceCtorEq,t4];refine clN rfl rfl rfl ((YI.ok hr10).c _) ?_;refine zd tok 1 ?_;simp only[go_sem,qe,qb,qa,qc,qd,qf,reduceIte,reduceCtorEq,t4];subst hc9;refine zm ⟨rfl,_,_,⟨rfl,rfl⟩,.b hg12⟩
 rintro _ _ ⟨rfl,rfl⟩;refine zd tok 1 ?_;simp only[go_sem,qe,qb,qa,qc,qd,qf,reduceIte,reduceCtorEq,t4];obtain⟨c11,hc11,h⟩:=yi h;refine zI 3 (fun L τ=>L=[(0,.int .i32 a0),(19,.bool c11)]∧τ=([]:zi)) ?_ ?_
 · refine yz (b:=c9) 16 rfl (fun hg16=>?_) (fun hg16=>?_)
   · rw[if_pos hg16] at hc11;refine zd tok 3 ?_;simp only[go_sem,qe,qb,qa,qc,qd,qf,reduceIte,reduceCtorEq,t4];subst hc11;refine zm ⟨rfl,_,_,⟨rfl,rfl⟩,.b hg16⟩
   rw[Zg hg16] at hc11;obtain⟨r12,hr12,hc11⟩:=yi hc11;refine zd tok 1 ?_;simp only[go_sem,qe,qb,qa,qc,qd,qf,reduceIte,reduceCtorEq,t4];refine clN rfl rfl rfl ((YI.ok hr12).c _) ?_;refine zd tok 1 ?_;simp only[go_sem,qe,qb,qa,qc,qd,qf,reduceIte,reduceCtorEq,t4];subst hc11;refine zm ⟨rfl,_,_,⟨rfl,rfl⟩,.b hg16⟩
 rintro _ _ ⟨rfl,rfl⟩;refine zd tok 1 ?_;simp only[go_sem,qe,qb,qa,qc,qd,qf,reduceIte,reduceCtorEq,t4];obtain⟨c13,hc13,h⟩:=yi h;refine zI 3 (fun L τ=>L=[(23,.bool c13)]∧τ=([]:zi)) ?_ ?_
 · refine yz (b:=c11) 20 rfl (fun hg20=>?_) (fun hg20=>?_)
   · rw[if_pos hg20] at hc13;refine zd tok 3 ?_;simp only[go_sem,qe,qb,qa,qc,qd,qf,reduceIte,reduceCtorEq,t4];subst hc13;refine zm ⟨rfl,_,_,⟨rfl,rfl⟩,.b hg20⟩
   rw[Zg hg20] at hc13;obtain⟨r14,hr14,hc13⟩:=yi hc13;refine zd tok 1 ?_;simp only[go_sem,qe,qb,qa,qc,qd,qf,reduceIte,reduceCtorEq,t4];refine clN rfl rfl rfl ((YI.ok hr14).c _) ?_;refine zd tok 1 ?_;simp only[go_sem,qe,qb,qa,qc,qd,qf,reduceIte,reduceCtorEq,t4];subst hc13;refine zm ⟨rfl,_,_,⟨rfl,rfl⟩,.b hg20⟩
 rintro _ _ ⟨rfl,rfl⟩;refine zd tok 1 ?_;simp only[go_sem,qe,qb,qa,qc,qd,qf,reduceIte,reduceCtorEq,t4];refine nkN hK ?_;cases h;exact rtA
def X3 (a0:Int):Bool:=
 bnd (YI a0 48 57) fun r1=>r1
theorem X3.ok {a0 r}(h:X3 a0=r):ACalls qi 170 [.int .i32 a0] [] (fun r' _=>r'=.bool r):=by
 refine zw (rs:=[.tmp 2]) tok Tryz.func170 rfl Tryz.ntmps170 rfl Tryz.call170 (by simp) ?_;refine zC [(0,.int .i32 a0)] ⟨rfl,trivial⟩ ?_;unfold X3 at h;refine rgN [0] ?_
 refine rc [2] fun K hK=>?_
 obtain⟨r1,hr1,h⟩:=yi h;refine rnN 1 ?_;refine clN rfl rfl rfl ((YI.ok hr1).c _) ?_;refine rnN 1 ?_;refine nkN hK ?_;cases h;exact rtA
def ZK.l11 (a0:List UInt8):Nat→Nat→Option Bool
 |0,_=>none
 |k11+1,p9=>(if p9<qg a0 then bnd (Zq ((decU a0 p9).1:Int)) fun r15=>bnd (if (!r15)=true then bnd (if ((p9:Nat):Int)=0 then true else bnd (X3 ((decU a0 p9).1:Int)) fun r16 => !r16) fun c16=>c16 else false) fun c16=>(if c16=true then some false else ((ZK.l11 a0 k11) (p9+(decU a0 p9).2))) else some true)
def ZK (a0:List UInt8):Option Bool:=
 (ZR a0).bind fun r1=>bnd (if ((decide (r1<1))||(decide (20<r1)))=true then true else bnd (wR a0) fun r5=>r5) fun c5=>(if c5=true then some false else (ZK.l11 a0 xG 0))
theorem ZK.ok {a0 r}(h:ZK a0=some r):ACalls qi 125 [.str a0] [] (fun r' _=>r'=.bool r):=by
 refine zw (rs:=[.tmp 2]) tok Tryz.func125 rfl Tryz.ntmps125 rfl Tryz.call125 (by simp) ?_;refine zC [(0,.str a0)] ⟨rfl,trivial⟩ ?_;unfold ZK at h;refine rgN [0] ?_
 refine rc [0,3] fun K hK=>?_
 obtain⟨r1,hr1,h⟩:=bind_some h;refine rnN 1 ?_;refine clN rfl rfl rfl ((ZR.ok hr1).c _) ?_;refine rnN 1 ?_;refine nkN hK ?_
 refine ze fun Z2 hZ2=>?_
 refine rc [0,17] fun K hK=>?_
 refine zd tok 3 ?_;simp only[go_sem,qe,qb,qa,qc,qd,qf,reduceIte,reduceCtorEq,zV];refine zI 3 (fun L τ=>L=[(0,.str a0),(13,.bool ((decide (r1<1))||(decide (20<r1))))]∧τ=([]:zi)) ?_ ?_
 · refine wr 10 rfl (fun hg10=>?_) (fun hg10=>?_)
   · have t3:=eq_true hg10;refine zd tok 3 ?_;simp only[go_sem,qe,qb,qa,qc,qd,qf,reduceIte,reduceCtorEq,zV];refine zm ⟨rfl,_,_,⟨rfl,rfl⟩,.p t3⟩
   have t4:=eq_false hg10;refine zd tok 3 ?_;simp only[go_sem,qe,qb,qa,qc,qd,qf,reduceIte,reduceCtorEq,zV];refine zm ⟨rfl,_,_,⟨rfl,rfl⟩,.p t4⟩
 rintro _ _ ⟨rfl,rfl⟩;refine rnN 1 ?_;obtain⟨c5,hc5,h⟩:=yi h;refine zI 3 (fun L τ=>L=[(0,.str a0),(17,.bool c5)]∧τ=([]:zi)) ?_ ?_
 · refine yz (b:=((decide (r1<1))||(decide (20<r1)))) 14 rfl (fun hg14=>?_) (fun hg14=>?_)
   · rw[if_pos hg14] at hc5;refine rnN 3 ?_;subst hc5;refine zm ⟨rfl,_,_,⟨rfl,rfl⟩,.b hg14⟩
   rw[Zg hg14] at hc5;obtain⟨r6,hr6,hc5⟩:=yi hc5;refine rnN 1 ?_;refine clN rfl rfl rfl ((wR.ok hr6).c _) ?_;refine rnN 1 ?_;subst hc5;refine zm ⟨rfl,_,_,⟨rfl,rfl⟩,.b hg14⟩
 rintro _ _ ⟨rfl,rfl⟩;refine nkN hK ?_;refine zY (b:=c5) rfl (fun hc7=>?_) (fun hc7=>?_)
 · rw[if_pos hc7] at h;refine rgN [2] ?_;cases h;exact rtA
 rw[Zg hc7] at h;apply zp;apply hZ2
 refine ze fun Z8 hZ8=>?_
 refine rgN [19] ?_;apply zt;refine yh (fun m L τ=>∃ (k11:Nat) (p9:Nat),m=0+k11∧L=[(19,.it 0)]∧τ=([.iter a0 p9]:zi)∧ZK.l11 a0 k11 p9=some r) _ ⟨xG,0,rfl,rfl,rfl,h⟩ .s ?_;rintro m L τ ⟨k11,p9,rfl,rfl,rfl,h⟩
 rcases k11 with _|k11
 · cases h
 simp only[ZK.l11] at h
 by_cases hn12:p9<qg a0
 · rw[if_pos hn12] at h;have t13:=eq_true hn12
   refine rg tok [19,20,21] fun K hK=>?_
   simp only[go_sem,qe,qb,qa,qc,qd,qf,reduceIte,reduceCtorEq,vcd,if_true,if_false,t13];apply hK
   refine ze fun Z14 hZ14=>?_
   refine zQ rfl ?_;apply zp;apply hZ14;apply zt
   refine rg tok [4,5,19] fun K hK=>?_
   simp only[go_sem,qe,qb,qa,qc,qd,qf,reduceIte,reduceCtorEq,t13];apply hK
   refine rc [19,35] fun K hK=>?_
   obtain⟨r15,hr15,h⟩:=yi h;refine zd tok 1 ?_;simp only[go_sem,qe,qb,qa,qc,qd,qf,reduceIte,reduceCtorEq,t13];refine clN rfl rfl rfl ((Zq.ok hr15).c _) ?_;refine zd tok 2 ?_;simp only[go_sem,qe,qb,qa,qc,qd,qf,reduceIte,reduceCtorEq,t13];obtain⟨c16,hc16,h⟩:=yi h;refine zI 8 (fun L τ=>L=[(19,.it 0),(35,.bool c16)]∧τ=([.iter a0 (p9+(decU a0 p9).2)]:zi)) ?_ ?_
   · refine yz (b:=(!r15)) 27 rfl (fun hg27=>?_) (fun hg27=>?_)
     · rw[if_pos hg27] at hc16;refine zd tok 3 ?_;simp only[go_sem,qe,qb,qa,qc,qd,qf,reduceIte,reduceCtorEq,zV,t13];obtain⟨c17,hc17,hc16⟩:=yi hc16;refine zI 4 (fun L τ=>L=[(19,.it 0),(27,.bool true),(34,.bool c17)]∧τ=([.iter a0 (p9+(decU a0 p9).2)]:zi)) ?_ ?_
       · refine wr 30 rfl (fun hg30=>?_) (fun hg30=>?_)
         · have t18:=eq_true hg30;rw[if_pos hg30] at hc17;refine zd tok 4 ?_;simp only[go_sem,qe,qb,qa,qc,qd,qf,reduceIte,reduceCtorEq,t13];subst hc17;refine zm ⟨rfl,_,_,⟨rfl,rfl⟩,.p t18⟩
         have t19:=eq_false hg30;rw[if_neg hg30] at hc17;obtain⟨r20,hr20,hc17⟩:=yi hc17;refine zd tok 1 ?_;simp only[go_sem,qe,qb,qa,qc,qd,qf,reduceIte,reduceCtorEq,t13];refine clN rfl rfl rfl ((X3.ok hr20).c _) ?_;refine zd tok 2 ?_;simp only[go_sem,qe,qb,qa,qc,qd,qf,reduceIte,reduceCtorEq,t13];subst hc17;refine zm ⟨rfl,_,_,⟨rfl,rfl⟩,.p t19⟩
       rintro _ _ ⟨rfl,rfl⟩;refine zd tok 1 ?_;simp only[go_sem,qe,qb,qa,qc,qd,qf,reduceIte,reduceCtorEq,t13];subst hc16;refine zm ⟨rfl,_,_,⟨rfl,rfl⟩,.b hg27⟩
     rw[Zg hg27] at hc16;refine zd tok 8 ?_;simp only[go_sem,qe,qb,qa,qc,qd,qf,reduceIte,reduceCtorEq,zV,t13];subst hc16;refine zm ⟨rfl,_,_,⟨rfl,rfl⟩,.b hg27⟩
   rintro _ _ ⟨rfl,rfl⟩;refine nkN hK ?_;refine zY (b:=c16) rfl (fun hc21=>?_) (fun hc21=>?_)
   · rw[if_pos hc21] at h
     refine rg tok [2] fun K hK=>?_
     simp only[go_sem,qe,qb,qa,qc,qd,qf,reduceIte,reduceCtorEq,t13];apply hK
     cases h;exact rtA
   rw[Zg hc21] at h;apply zp;exact⟨_,_,_,qH (0+k11),⟨k11,p9+(decU a0 p9).2,rfl,rfl,rfl,h⟩,.s⟩
 rw[if_neg hn12] at h;have t22:=eq_false hn12
 refine rg tok [19,20,21] fun K hK=>?_
 simp only[go_sem,qe,qb,qa,qc,qd,qf,reduceIte,reduceCtorEq,vcd,if_true,if_false,t22];apply hK
 refine ze fun Z23 hZ23=>?_
 refine zK rfl ?_;apply ye;apply hZ8
 refine rg tok [2] fun K hK=>?_
 simp only[go_sem,qe,qb,qa,qc,qd,qf,reduceIte,reduceCtorEq,t22];apply hK
 cases h;exact rtA
def xQ (a0:List (List UInt8×Bool))(a1:List UInt8):Option (Bool×List (List UInt8×Bool)):=
 (ZK a1).bind fun r2=>(if ((!r2)||((XZ a0 a1).getD false))=true then some (false,a0) else some (true,setM a0 a1 true))
theorem xQ.ok {a0 a1 r}(h:xQ a0 a1=some r):ACalls qi 128 [.mp 0,.str a1] [.map (yK AV.str AV.bool a0)] (fun r' σ'=>r'=.bool r.1∧σ'=[.map (yK AV.str AV.bool r.2)]):=by
 refine Zy [0] (rs:=[.tmp 4]) tok Tryz.func128 rfl Tryz.ntmps128 rfl Tryz.call128 (by simp) rfl ?_;refine zC [(0,.mp 0),(1,.str a1)] ⟨rfl,rfl,trivial⟩ ?_;unfold xQ at h;refine rgN [0,1] ?_
 refine ze fun Z1 hZ1=>?_
 refine rc [0,1,12] fun K hK=>?_
 obtain⟨r2,hr2,h⟩:=bind_some h;refine rnN 1 ?_;refine clN rfl rfl rfl ((ZK.ok hr2).c _) ?_;refine rnN 2 ?_;refine zI 4 (fun L τ=>L=[(0,.mp 0),(1,.str a1),(12,.bool ((!r2)||((XZ a0 a1).getD false)))]∧τ=([.map (yK AV.str AV.bool a0)]:zi)) ?_ ?_
 · refine yz (b:=(!r2)) 8 rfl (fun hg8=>?_) (fun hg8=>?_)
   · refine zd tok 4 ?_;simp only[go_sem,qe,qb,qa,qc,qd,qf,reduceIte,reduceCtorEq,XA,q2,if_false,if_true];refine zm ⟨rfl,_,_,⟨rfl,rfl⟩,.b hg8⟩
   have f3:=fun (x:zi)=>vaX (T:=tab) (t:=202) (ek:=AV.str) (ev:=AV.bool) (z:=false) (vc8.str rfl rfl rfl rfl) rfl rfl rfl rfl a0 a1 false (.map (yK AV.str AV.bool a0)::x) 0 rfl
   refine zd tok 4 ?_;simp only[go_sem,qe,qb,qa,qc,qd,qf,reduceIte,reduceCtorEq,XA,q2,if_false,if_true,f3];refine zm ⟨rfl,_,_,⟨rfl,rfl⟩,.b hg8⟩
 rintro _ _ ⟨rfl,rfl⟩;refine nkN hK ?_;refine zY (b:=((!r2)||((XZ a0 a1).getD false))) rfl (fun hc4=>?_) (fun hc4=>?_)
 · rw[if_pos hc4] at h;refine rgN [4] ?_;apply yk;cases h;simp only[ZA,yT,yY,xR,exists_eq_left',go_sem,qe,qb,qa,qc,qd,qf,reduceIte,reduceCtorEq];refine⟨by decide,by simp,?_,?_⟩
   · first|rfl|(simp only[go_sem,qe,qb,qa,qc,qd,qf,reduceIte,reduceCtorEq,push_cast,if_true,qq,ql,qt,qr,qs,qv,qy,qo,qx,qw,qn,zx]<;>rfl)
   first|rfl|(simp only[go_sem,qe,qb,qa,qc,qd,qf,reduceIte,reduceCtorEq,push_cast,if_true,qq,ql,qt,qr,qs,qv,qy,qo,qx,qw,qn,zx]<;>rfl)
 rw[Zg hc4] at h;apply zp;apply hZ1
 have f5:=fun (x:zi)=>vb5 (T:=tab) (t:=202) (ek:=AV.str) (ev:=AV.bool) (vc8.str rfl rfl rfl rfl) rfl rfl a0 a1 true (.map (yK AV.str AV.bool a0)::x) 0 rfl
 refine rg tok [] fun K hK=>?_
 simp only[go_sem,qe,qb,qa,qc,qd,qf,reduceIte,reduceCtorEq,f5];apply hK
 refine rgN [4] ?_;apply yk;cases h;simp only[ZA,yT,yY,xR,exists_eq_left',go_sem,qe,qb,qa,qc,qd,qf,reduceIte,reduceCtorEq];refine⟨by decide,by simp,?_,?_⟩
 · first|rfl|(simp only[go_sem,qe,qb,qa,qc,qd,qf,reduceIte,reduceCtorEq,push_cast,if_true,qq,ql,qt,qr,qs,qv,qy,qo,qx,qw,qn,zx]<;>rfl)
 first|rfl|(simp only[go_sem,qe,qb,qa,qc,qd,qf,reduceIte,reduceCtorEq,push_cast,if_true,qq,ql,qt,qr,qs,qv,qy,qo,qx,qw,qn,zx]<;>rfl)
def vab (a0:Int):Bool:=
 ((decide (1≤a0))&&(decide (a0≤500)))
theorem vab.ok {a0 r}(h:vab a0=r):ACalls qi 171 [.int .i64 a0] [] (fun r' _=>r'=.bool r):=by
 refine zw (rs:=[.tmp 2]) tok Tryz.func171 rfl Tryz.ntmps171 rfl Tryz.call171 (by simp) ?_;refine zC [(0,.int .i64 a0)] ⟨rfl,trivial⟩ ?_;unfold vab at h;refine rgN [0] ?_
 refine rc [2] fun K hK=>?_
 refine zd tok 3 ?_;simp only[go_sem,qe,qb,qa,qc,qd,qf,reduceIte,reduceCtorEq,zV];refine zI 3 (fun L τ=>L=[(8,.bool ((decide (1≤a0))&&(decide (a0≤500))))]∧τ=([]:zi)) ?_ ?_
 · refine wr 5 rfl (fun hg5=>?_) (fun hg5=>?_)
   · have t1:=eq_true hg5;refine zd tok 3 ?_;simp only[go_sem,qe,qb,qa,qc,qd,qf,reduceIte,reduceCtorEq,zV];refine zm ⟨rfl,_,_,⟨rfl,rfl⟩,.p t1⟩
   have t2:=eq_false hg5;refine zd tok 3 ?_;simp only[go_sem,qe,qb,qa,qc,qd,qf,reduceIte,reduceCtorEq,zV];refine zm ⟨rfl,_,_,⟨rfl,rfl⟩,.p t2⟩
 rintro _ _ ⟨rfl,rfl⟩;refine rnN 1 ?_;refine nkN hK ?_;cases h;exact rtA
def ZZ.l4 (a1:List UInt8):List wK→Int→wK×Bool
 |[],x2=>((⟨[],([]:List vdJ)⟩:wK),false)
 |y4::q4,x2=>(if y4.fName=a1 then (y4,true) else ((ZZ.l4 a1 q4) (x2+1)))
def ZZ (a0:zP)(a1:List UInt8):wK×Bool:=
 (ZZ.l4 a1 a0.fEnums 0)
theorem ZZ.ok {a0 a1 r}(h:ZZ a0 a1=r):ACalls qi 213 [.agg (zb a0),.str a1] [] (fun r' _=>r'=.tup [.agg (zj r.1),.bool r.2]):=by
 refine zw (rs:=[.cell 4 142,.tmp 5]) tok Tryz.func213 rfl Tryz.ntmps213 rfl Tryz.call213 (by simp) ?_;refine zC [(0,.agg (zb a0)),(1,.str a1)] ⟨rfl,rfl,trivial⟩ ?_;unfold ZZ at h
 refine rg tok [1,2,4] fun K hK=>?_
 simp only[go_sem,qe,qb,qa,qc,qd,qf,reduceIte,reduceCtorEq,zb];apply hK
 refine ze fun Z1 hZ1=>?_
 refine rgN [1,4,9,10,11] ?_;apply zt
 refine xv 9 fun hb4=>?_
 replace hb4:qg a0.fEnums≤9223372036854775807:=hb4.1;refine yh (fun m L τ=>∃ (p4 q4:List wK) (x2:Int),m=qg q4∧L=[(1,.str a1),(4,.op 0 0 0),(9,.ds true (qh zj a0.fEnums) (qg a0.fEnums) false),(10,.int .i64 (qg a0.fEnums:Int)),(11,.int .i64 x2)]∧τ=([.cells 0 [.str [],.ds true [] 0 true]]:zi)∧a0.fEnums=p4++q4∧x2=(qg p4:Int)∧ZZ.l4 a1 q4 x2=r) _ ⟨[],a0.fEnums,0,rfl,rfl,rfl,rfl,rfl,h⟩ (.t [1] false) ?_;rintro m L τ ⟨p4,q4,x2,rfl,rfl,rfl,hE4,hi4,h⟩
 rcases q4 with _|⟨y4,q4⟩
 · have hz4:=xE hE4 hi4;simp only[ZZ.l4] at h
   refine rg tok [1,4,9,10,11,12] fun K hK=>?_
   simp only[go_sem,qe,qb,qa,qc,qd,qf,reduceIte,reduceCtorEq,zV,hz4];apply hK
   refine ze fun Z5 hZ5=>?_
   refine zK rfl ?_;apply ye;apply hZ1
   refine rg tok [4,5] fun K hK=>?_
   simp only[go_sem,qe,qb,qa,qc,qd,qf,reduceIte,reduceCtorEq,zj,hz4];apply hK
   cases h;exact rtA
 obtain⟨hz4,hw4,hx4,hE'4,hi'4⟩:=yZ hE4 hi4 hb4;simp only[ZZ.l4] at h
 refine rg tok [1,4,9,10,11,12] fun K hK=>?_
 simp only[go_sem,qe,qb,qa,qc,qd,qf,reduceIte,reduceCtorEq,zV,hz4,hw4];apply hK
 refine ze fun Z6 hZ6=>?_
 refine zQ rfl ?_;apply zp;apply hZ6
 refine ze fun Z7 hZ7=>?_
 apply zt;have f8:=E28.idxS hx4;have f9:=E28.loadS rfl rfl hx4
 refine rg tok [1,4,7,9,10,11] fun K hK=>?_
 simp only[go_sem,qe,qb,qa,qc,qd,qf,reduceIte,reduceCtorEq,zj,hz4,hw4,f8,f9];apply hK
 refine rg tok [1,4,7,9,10,11,18] fun K hK=>?_
 simp only[go_sem,qe,qb,qa,qc,qd,qf,reduceIte,reduceCtorEq,zV,hz4,hw4];apply hK
 refine yn rfl (fun hc10=>?_) (fun hc10=>?_)
 · rw[if_pos hc10] at h;have t11:=eq_true hc10
   refine rg tok [4,5] fun K hK=>?_
   simp only[go_sem,qe,qb,qa,qc,qd,qf,reduceIte,reduceCtorEq,zj,hz4,hw4,t11];apply hK
   cases h;exact rtA
 rw[if_neg hc10] at h;have t12:=eq_false hc10;apply zp;apply hZ7
 refine rgE tok [1,4,9,10,11] fun K hK=>?_
 simp only[go_sem,qe,qb,qa,qc,qd,qf,reduceIte,reduceCtorEq,zV,hz4,hw4,t12];apply hK
 exact⟨_,_,_,qH q4.length,⟨p4++[y4],q4,x2+1,rfl,rfl,rfl,hE'4,hi'4,h⟩,(.t [0] false)⟩
def vac (a0:zP)(a1:ZT):Bool:=
 (if a1.fType.fKind=6 then bnd (ZZ a0 a1.fType.fName) fun r6=>(((decide (1≤a1.fLabel))&&(decide (a1.fLabel≤3)))&&r6.2) else (if a1.fType.fKind=7 then bnd (yy a0 a1.fType.fName) fun r10=>(((decide (1≤a1.fLabel))&&(decide (a1.fLabel≤3)))&&r10.2) else (((((decide (1≤a1.fLabel))&&(decide (a1.fLabel≤3)))&&(decide (1≤a1.fType.fKind)))&&(decide (a1.fType.fName=[])))&&(decide (a1.fType.fKind<6)))))
theorem vac.ok {a0 a1 r}(h:vac a0 a1=r):ACalls qi 172 [.agg (zb a0),.agg (yc a1)] [] (fun r' _=>r'=.bool r):=by
 refine zw (rs:=[.tmp 4]) tok Tryz.func172 rfl Tryz.ntmps172 rfl Tryz.call172 (by simp) ?_;refine zC [(0,.agg (zb a0)),(1,.agg (yc a1))] ⟨rfl,rfl,trivial⟩ ?_;unfold vac at h
 refine rg tok [2,3] fun K hK=>?_
 simp only[go_sem,qe,qb,qa,qc,qd,qf,reduceIte,reduceCtorEq,yc,zb,xB];apply hK
 refine rc [2,3,5] fun K hK=>?_
 refine zd tok 4 ?_;simp only[go_sem,qe,qb,qa,qc,qd,qf,reduceIte,reduceCtorEq,zV];refine zI 4 (fun L τ=>L=[(2,.op 0 0 0),(3,.op 1 0 0),(17,.bool ((decide (1≤a1.fLabel))&&(decide (a1.fLabel≤3))))]∧τ=([.cells 0 (zb a0),.cells 0 (yc a1)]:zi)) ?_ ?_
 · refine wr 13 rfl (fun hg13=>?_) (fun hg13=>?_)
   · have t1:=eq_true hg13;refine zd tok 4 ?_;simp only[go_sem,qe,qb,qa,qc,qd,qf,reduceIte,reduceCtorEq,zV];refine zm ⟨rfl,_,_,⟨rfl,rfl⟩,.p t1⟩
   have t2:=eq_false hg13;refine zd tok 4 ?_;simp only[go_sem,qe,qb,qa,qc,qd,qf,reduceIte,reduceCtorEq,zV];refine zm ⟨rfl,_,_,⟨rfl,rfl⟩,.p t2⟩
 rintro _ _ ⟨rfl,rfl⟩;refine rnN 1 ?_;refine nkN hK ?_
 refine ze fun Z3 hZ3=>?_
 refine rgN [2,3,5,20] ?_;apply zt
 refine rg tok [2,3,5,20,21] fun K hK=>?_
 simp only[go_sem,qe,qb,qa,qc,qd,qf,reduceIte,reduceCtorEq,zV];apply hK
 refine yn rfl (fun hc4=>?_) (fun hc4=>?_)
 · rw[if_pos hc4] at h;have t5:=eq_true hc4
   refine rc [5,7] fun K hK=>?_
   obtain⟨r6,hr6,h⟩:=yi h;refine zd tok 4 ?_;simp only[go_sem,qe,qb,qa,qc,qd,qf,reduceIte,reduceCtorEq,zb,t5];refine clN rfl rfl rfl ((ZZ.ok hr6).c _) ?_;refine zd tok 6 ?_;simp only[go_sem,qe,qb,qa,qc,qd,qf,reduceIte,reduceCtorEq,zj,zb,t5];refine nkN hK ?_
   refine rc [4] fun K hK=>?_
   refine zd tok 2 ?_;simp only[go_sem,qe,qb,qa,qc,qd,qf,reduceIte,reduceCtorEq,t5];refine zI 2 (fun L τ=>L=[(34,.bool (((decide (1≤a1.fLabel))&&(decide (a1.fLabel≤3)))&&r6.2))]∧τ=([.cells 0 (zb a0),.cells 0 (yc a1),.cells 0 (zj r6.1)]:zi)) ?_ ?_
   · refine yz (b:=((decide (1≤a1.fLabel))&&(decide (a1.fLabel≤3)))) 32 rfl (fun hg32=>?_) (fun hg32=>?_)
     · refine zd tok 2 ?_;simp only[go_sem,qe,qb,qa,qc,qd,qf,reduceIte,reduceCtorEq,t5];refine zm ⟨rfl,_,_,⟨rfl,rfl⟩,.b hg32⟩
     refine zd tok 2 ?_;simp only[go_sem,qe,qb,qa,qc,qd,qf,reduceIte,reduceCtorEq,t5];refine zm ⟨rfl,_,_,⟨rfl,rfl⟩,.b hg32⟩
   rintro _ _ ⟨rfl,rfl⟩;refine zd tok 1 ?_;simp only[go_sem,qe,qb,qa,qc,qd,qf,reduceIte,reduceCtorEq,t5];refine nkN hK ?_;cases h;exact rtA
 rw[if_neg hc4] at h;have t7:=eq_false hc4
 refine rg tok [2,3,5,35] fun K hK=>?_
 simp only[go_sem,qe,qb,qa,qc,qd,qf,reduceIte,reduceCtorEq,zV,t7];apply hK
 refine yn rfl (fun hc8=>?_) (fun hc8=>?_)
 · rw[if_pos hc8] at h;have t9:=eq_true hc8
   refine rc [5,9] fun K hK=>?_
   obtain⟨r10,hr10,h⟩:=yi h;refine zd tok 4 ?_;simp only[go_sem,qe,qb,qa,qc,qd,qf,reduceIte,reduceCtorEq,zb,t7,t9];refine clN rfl rfl rfl ((yy.ok hr10).c _) ?_;refine zd tok 6 ?_;simp only[go_sem,qe,qb,qa,qc,qd,qf,reduceIte,reduceCtorEq,zf,zb,t7,t9];refine nkN hK ?_
   refine rc [4] fun K hK=>?_
   refine zd tok 2 ?_;simp only[go_sem,qe,qb,qa,qc,qd,qf,reduceIte,reduceCtorEq,t7,t9];refine zI 2 (fun L τ=>L=[(48,.bool (((decide (1≤a1.fLabel))&&(decide (a1.fLabel≤3)))&&r10.2))]∧τ=([.cells 0 (zb a0),.cells 0 (yc a1),.cells 0 (zf r10.1)]:zi)) ?_ ?_
   · refine yz (b:=((decide (1≤a1.fLabel))&&(decide (a1.fLabel≤3)))) 46 rfl (fun hg46=>?_) (fun hg46=>?_)
     · refine zd tok 2 ?_;simp only[go_sem,qe,qb,qa,qc,qd,qf,reduceIte,reduceCtorEq,t7,t9];refine zm ⟨rfl,_,_,⟨rfl,rfl⟩,.b hg46⟩
     refine zd tok 2 ?_;simp only[go_sem,qe,qb,qa,qc,qd,qf,reduceIte,reduceCtorEq,t7,t9];refine zm ⟨rfl,_,_,⟨rfl,rfl⟩,.b hg46⟩
   rintro _ _ ⟨rfl,rfl⟩;refine zd tok 1 ?_;simp only[go_sem,qe,qb,qa,qc,qd,qf,reduceIte,reduceCtorEq,t7,t9];refine nkN hK ?_;cases h;exact rtA
 rw[if_neg hc8] at h;have t11:=eq_false hc8;apply zp;apply hZ3
 refine rc [4] fun K hK=>?_
 refine zd tok 2 ?_;simp only[go_sem,qe,qb,qa,qc,qd,qf,reduceIte,reduceCtorEq,t7,t11];refine zI 5 (fun L τ=>L=[(3,.op 1 0 0),(55,.bool (((decide (1≤a1.fLabel))&&(decide (a1.fLabel≤3)))&&(decide (1≤a1.fType.fKind))))]∧τ=([.cells 0 (zb a0),.cells 0 (yc a1)]:zi)) ?_ ?_
 · refine yz (b:=((decide (1≤a1.fLabel))&&(decide (a1.fLabel≤3)))) 50 rfl (fun hg50=>?_) (fun hg50=>?_)
   · refine zd tok 5 ?_;simp only[go_sem,qe,qb,qa,qc,qd,qf,reduceIte,reduceCtorEq,zV,t7,t11];refine zm ⟨rfl,_,_,⟨rfl,rfl⟩,.b hg50⟩
   refine zd tok 5 ?_;simp only[go_sem,qe,qb,qa,qc,qd,qf,reduceIte,reduceCtorEq,zV,t7,t11];refine zm ⟨rfl,_,_,⟨rfl,rfl⟩,.b hg50⟩
 rintro _ _ ⟨rfl,rfl⟩;refine zd tok 1 ?_;simp only[go_sem,qe,qb,qa,qc,qd,qf,reduceIte,reduceCtorEq,t7,t11];refine zI 8 (fun L τ=>L=[(3,.op 1 0 0),(64,.bool ((((decide (1≤a1.fLabel))&&(decide (a1.fLabel≤3)))&&(decide (1≤a1.fType.fKind)))&&(decide (a1.fType.fName=[]))))]∧τ=([.cells 0 (zb a0),.cells 0 (yc a1)]:zi)) ?_ ?_
 · refine yz (b:=(((decide (1≤a1.fLabel))&&(decide (a1.fLabel≤3)))&&(decide (1≤a1.fType.fKind)))) 56 rfl (fun hg56=>?_) (fun hg56=>?_)
   · refine zd tok 8 ?_;simp only[go_sem,qe,qb,qa,qc,qd,qf,reduceIte,reduceCtorEq,zV,xB,t7,t11,evEqA,vak,ceq];refine zm ⟨rfl,_,_,⟨rfl,rfl⟩,.b hg56⟩
   refine zd tok 8 ?_;simp only[go_sem,qe,qb,qa,qc,qd,qf,reduceIte,reduceCtorEq,zV,xB,t7,t11];refine zm ⟨rfl,_,_,⟨rfl,rfl⟩,.b hg56⟩
 rintro _ _ ⟨rfl,rfl⟩;refine zd tok 1 ?_;simp only[go_sem,qe,qb,qa,qc,qd,qf,reduceIte,reduceCtorEq,xB,t7,t11];refine zI 5 (fun L τ=>L=[(70,.bool (((((decide (1≤a1.fLabel))&&(decide (a1.fLabel≤3)))&&(decide (1≤a1.fType.fKind)))&&(decide (a1.fType.fName=[])))&&(decide (a1.fType.fKind<6))))]∧τ=([.cells 0 (zb a0),.cells 0 (yc a1)]:zi)) ?_ ?_
 · refine yz (b:=((((decide (1≤a1.fLabel))&&(decide (a1.fLabel≤3)))&&(decide (1≤a1.fType.fKind)))&&(decide (a1.fType.fName=[])))) 65 rfl (fun hg65=>?_) (fun hg65=>?_)
   · refine zd tok 5 ?_;simp only[go_sem,qe,qb,qa,qc,qd,qf,reduceIte,reduceCtorEq,zV,xB,t7,t11];refine zm ⟨rfl,_,_,⟨rfl,rfl⟩,.b hg65⟩
   refine zd tok 5 ?_;simp only[go_sem,qe,qb,qa,qc,qd,qf,reduceIte,reduceCtorEq,zV,xB,t7,t11];refine zm ⟨rfl,_,_,⟨rfl,rfl⟩,.b hg65⟩
 rintro _ _ ⟨rfl,rfl⟩;refine zd tok 1 ?_;simp only[go_sem,qe,qb,qa,qc,qd,qf,reduceIte,reduceCtorEq,xB,t7,t11];refine nkN hK ?_;cases h;exact rtA
end
section
set_option maxRecDepth 4000
set_option maxHeartbeats 1000000
open AM
def we.l21 (a0:zP)(r2:Bool×List (List UInt8×Bool)):List ZT→Int→List (Int×Bool)→List (List UInt8×Bool)→Option (Int×List (List UInt8×Bool))
 |[],x17,l15,l16=>some (0,r2.2)
 |y21::q21,x17,l15,l16=>(xQ l16 y21.fName).bind fun r28=>(if (!r28.1)=true then some (6,r2.2) else bnd (vab y21.fTag) fun r30=>(if ((!r30)||((XZ l15 y21.fTag).getD false))=true then some (7,r2.2) else bnd (vac a0 y21) fun r33=>(if (!r33)=true then some (8,r2.2) else ((we.l21 a0 r2 q21) (x17+1) (setM l15 y21.fTag true) r28.2))))
def we.l12 (a0:zP)(a2:yN)(r2:Bool×List (List UInt8×Bool)):List Int→Int→List (Int×Bool)→Option (Int×List (List UInt8×Bool))
 |[],x9,l8=>(we.l21 a0 r2 a2.fFields 0 l8 [])
 |y12::q12,x9,l8=>bnd (vab y12) fun r41=>(if ((!r41)||((XZ l8 y12).getD false))=true then some (7,r2.2) else ((we.l12 a0 a2 r2 q12) (x9+1) (setM l8 y12 true)))
def we (a0:zP)(a1:List (List UInt8×Bool))(a2:yN):Option (Int×List (List UInt8×Bool)):=
 (xQ a1 a2.fName).bind fun r2=>(if (!r2.1)=true then some (6,r2.2) else (if ((decide (16<(qg a2.fFields:Int)))||(decide (32<(qg a2.fReserved:Int))))=true then some (4,r2.2) else (we.l12 a0 a2 r2 a2.fReserved 0 [])))
theorem we.ok {a0 a1 a2 r}(h:we a0 a1 a2=some r):ACalls qi 126 [.agg (zb a0),.mp 0,.agg (zf a2)] [.map (yK AV.str AV.bool a1)] (fun r' σ'=>r'=.int .i64 r.1∧σ'=[.map (yK AV.str AV.bool r.2)]):=by
 refine Zy [0] (rs:=[.tmp 6]) tok Tryz.func126 rfl Tryz.ntmps126 rfl Tryz.call126 (by simp) rfl ?_;refine zC [(0,.agg (zb a0)),(1,.mp 0),(2,.agg (zf a2))] ⟨rfl,rfl,rfl,trivial⟩ ?_;unfold we at h
 refine rg tok [1,3,5] fun K hK=>?_
 simp only[go_sem,qe,qb,qa,qc,qd,qf,reduceIte,reduceCtorEq,zf,zb];apply hK
 refine ze fun Z1 hZ1=>?_
 apply zt
 refine rc [3,5,13] fun K hK=>?_
 obtain⟨r2,hr2,h⟩:=bind_some h;refine rnN 3 ?_;refine clN rfl rfl rfl (@id (ACalls qi 128 [.mp 0,.str a2.fName] [.map (yK AV.str AV.bool a1),.cells 0 (zb a0),.cells 0 (zf a2)] (fun r' σ'=>r'=.bool r2.1∧σ'=[.map (yK AV.str AV.bool r2.2),.cells 0 (zb a0),.cells 0 (zf a2)])) ((xQ.ok hr2).i [0])) ?_;refine rnN 2 ?_;refine nkN hK ?_;refine zY (b:=(!r2.1)) rfl (fun hc3=>?_) (fun hc3=>?_)
 · rw[if_pos hc3] at h;refine rgN [6] ?_;apply yk;cases h;simp only[ZA,yT,yY,xR,exists_eq_left',go_sem,qe,qb,qa,qc,qd,qf,reduceIte,reduceCtorEq];refine⟨by decide,by simp,?_,?_⟩
   · first|rfl|(simp only[go_sem,qe,qb,qa,qc,qd,qf,reduceIte,reduceCtorEq,push_cast,if_true,qq,ql,qt,qr,qs,qv,qy,qo,qx,qw,qn,zx]<;>rfl)
   first|rfl|(simp only[go_sem,qe,qb,qa,qc,qd,qf,reduceIte,reduceCtorEq,push_cast,if_true,qq,ql,qt,qr,qs,qv,qy,qo,qx,qw,qn,zx]<;>rfl)
 rw[Zg hc3] at h
 refine rc [3,5,19] fun K hK=>?_
 refine zd tok 5 ?_;simp only[go_sem,qe,qb,qa,qc,qd,qf,reduceIte,reduceCtorEq,zV];refine zI 5 (fun L τ=>L=[(3,.op 1 0 0),(5,.op 2 0 0),(29,.bool ((decide (16<(qg a2.fFields:Int)))||(decide (32<(qg a2.fReserved:Int)))))]∧τ=([.map (yK AV.str AV.bool r2.2),.cells 0 (zb a0),.cells 0 (zf a2)]:zi)) ?_ ?_
 · refine wr 24 rfl (fun hg24=>?_) (fun hg24=>?_)
   · have t4:=eq_true hg24;refine zd tok 5 ?_;simp only[go_sem,qe,qb,qa,qc,qd,qf,reduceIte,reduceCtorEq,zV];refine zm ⟨rfl,_,_,⟨rfl,rfl⟩,.p t4⟩
   have t5:=eq_false hg24;refine zd tok 5 ?_;simp only[go_sem,qe,qb,qa,qc,qd,qf,reduceIte,reduceCtorEq,zV];refine zm ⟨rfl,_,_,⟨rfl,rfl⟩,.p t5⟩
 rintro _ _ ⟨rfl,rfl⟩;refine rnN 1 ?_;refine nkN hK ?_;refine zY (b:=((decide (16<(qg a2.fFields:Int)))||(decide (32<(qg a2.fReserved:Int))))) rfl (fun hc6=>?_) (fun hc6=>?_)
 · rw[if_pos hc6] at h;refine rgN [6] ?_;apply yk;cases h;simp only[ZA,yT,yY,xR,exists_eq_left',go_sem,qe,qb,qa,qc,qd,qf,reduceIte,reduceCtorEq];refine⟨by decide,by simp,?_,?_⟩
   · first|rfl|(simp only[go_sem,qe,qb,qa,qc,qd,qf,reduceIte,reduceCtorEq,push_cast,if_true,qq,ql,qt,qr,qs,qv,qy,qo,qx,qw,qn,zx]<;>rfl)
   first|rfl|(simp only[go_sem,qe,qb,qa,qc,qd,qf,reduceIte,reduceCtorEq,push_cast,if_true,qq,ql,qt,qr,qs,qv,qy,qo,qx,qw,qn,zx]<;>rfl)
 rw[Zg hc6] at h;apply zp;apply hZ1;refine rgN [3,5,7] ?_;refine Xp 3 rfl (τ:=[.map (yK AV.str AV.bool r2.2),.cells 0 (zb a0),.cells 0 (zf a2),.map (yK (AV.int .i64) AV.bool [])]) rfl ?_;refine y5 (L:=[(3,.op 1 0 0),(5,.op 2 0 0),(7,.mp 3)]) (τ:=[.map (yK AV.str AV.bool r2.2),.cells 0 (zb a0),.cells 0 (zf a2),.map (yK (AV.int .i64) AV.bool [])]) .s ?_
 refine ze fun Z7 hZ7=>?_
 refine rgN [3,5,7,32,33,34] ?_;apply zt
 refine xv 32 fun hb12=>?_
 replace hb12:qg a2.fReserved≤9223372036854775807:=hb12.1;refine yh (fun m L τ=>∃ (p12 q12:List Int) (x9:Int) (l8:List (Int×Bool)),m=qg q12∧L=[(3,.op 1 0 0),(5,.op 2 0 0),(7,.mp 3),(32,.ds true (qh wH a2.fReserved) (qg a2.fReserved) false),(33,.int .i64 (qg a2.fReserved:Int)),(34,.int .i64 x9)]∧τ=([.map (yK AV.str AV.bool r2.2),.cells 0 (zb a0),.cells 0 (zf a2),.map (yK (AV.int .i64) AV.bool l8)]:zi)∧a2.fReserved=p12++q12∧x9=(qg p12:Int)∧we.l12 a0 a2 r2 q12 x9 l8=some r) _ ⟨[],a2.fReserved,0,[],rfl,rfl,rfl,rfl,rfl,h⟩ .s ?_;rintro m L τ ⟨p12,q12,x9,l8,rfl,rfl,rfl,hE12,hi12,h⟩
 rcases q12 with _|⟨y12,q12⟩
 · have hz12:=xE hE12 hi12;simp only[we.l12] at h
   refine rg tok [3,5,7,32,33,34,35] fun K hK=>?_
   simp only[go_sem,qe,qb,qa,qc,qd,qf,reduceIte,reduceCtorEq,zV,hz12];apply hK
   refine ze fun Z13 hZ13=>?_
   refine zK rfl ?_;apply ye;apply hZ7
   refine rg tok [3,5,7,10] fun K hK=>?_
   simp only[go_sem,qe,qb,qa,qc,qd,qf,reduceIte,reduceCtorEq,hz12];apply hK
   refine Xp 4 rfl (τ:=[.map (yK AV.str AV.bool r2.2),.cells 0 (zb a0),.cells 0 (zf a2),.map (yK (AV.int .i64) AV.bool l8),.map (yK AV.str AV.bool [])]) rfl ?_;refine y5 (L:=[(3,.op 1 0 0),(5,.op 2 0 0),(7,.mp 3),(10,.mp 4)]) (τ:=[.map (yK AV.str AV.bool r2.2),.cells 0 (zb a0),.cells 0 (zf a2),.map (yK (AV.int .i64) AV.bool l8),.map (yK AV.str AV.bool [])]) .s ?_
   refine ze fun Z14 hZ14=>?_
   refine rg tok [3,7,10,51,52,53] fun K hK=>?_
   simp only[go_sem,qe,qb,qa,qc,qd,qf,reduceIte,reduceCtorEq,hz12];apply hK
   apply zt
   refine xv 51 fun hb21=>?_
   replace hb21:qg a2.fFields≤9223372036854775807:=hb21.1;refine yh (fun m L τ=>∃ (p21 q21:List ZT) (x17:Int) (l15:List (Int×Bool)) (l16:List (List UInt8×Bool)),m=qg q21∧L=[(3,.op 1 0 0),(7,.mp 2),(10,.mp 3),(51,.ds true (qh yc a2.fFields) (qg a2.fFields) false),(52,.int .i64 (qg a2.fFields:Int)),(53,.int .i64 x17)]∧τ=([.map (yK AV.str AV.bool r2.2),.cells 0 (zb a0),.map (yK (AV.int .i64) AV.bool l15),.map (yK AV.str AV.bool l16)]:zi)∧a2.fFields=p21++q21∧x17=(qg p21:Int)∧we.l21 a0 r2 q21 x17 l15 l16=some r) _ ⟨[],a2.fFields,0,l8,[],rfl,rfl,rfl,rfl,rfl,h⟩ (.t [0,1,3,4] false) ?_;rintro m L τ ⟨p21,q21,x17,l15,l16,rfl,rfl,rfl,hE21,hi21,h⟩
   rcases q21 with _|⟨y21,q21⟩
   · have hz21:=xE hE21 hi21;simp only[we.l21] at h
     refine rg tok [3,7,10,51,52,53,54] fun K hK=>?_
     simp only[go_sem,qe,qb,qa,qc,qd,qf,reduceIte,reduceCtorEq,zV,hz12,hz21];apply hK
     refine ze fun Z22 hZ22=>?_
     refine zK rfl ?_;apply ye;apply hZ14
     refine rg tok [6] fun K hK=>?_
     simp only[go_sem,qe,qb,qa,qc,qd,qf,reduceIte,reduceCtorEq,hz12,hz21];apply hK
     apply yk;cases h;simp only[ZA,yT,yY,xR,exists_eq_left',go_sem,qe,qb,qa,qc,qd,qf,reduceIte,reduceCtorEq];refine⟨by decide,by simp,?_,?_⟩
     · first|rfl|(simp only[go_sem,qe,qb,qa,qc,qd,qf,reduceIte,reduceCtorEq,push_cast,if_true,qq,ql,qt,qr,qs,qv,qy,qo,qx,qw,qn,zx]<;>rfl)
     first|rfl|(simp only[go_sem,qe,qb,qa,qc,qd,qf,reduceIte,reduceCtorEq,push_cast,if_true,qq,ql,qt,qr,qs,qv,qy,qo,qx,qw,qn,zx]<;>rfl)
   obtain⟨hz21,hw21,hx21,hE'21,hi'21⟩:=yZ hE21 hi21 hb21;simp only[we.l21] at h
   refine rg tok [3,7,10,51,52,53,54] fun K hK=>?_
   simp only[go_sem,qe,qb,qa,qc,qd,qf,reduceIte,reduceCtorEq,zV,hz12,hz21,hw21];apply hK
   refine ze fun Z23 hZ23=>?_
   refine zQ rfl ?_;apply zp;apply hZ23
   refine ze fun Z24 hZ24=>?_
   apply zt;have f25:=E127.idxS hx21;have f26:=E127.loadS rfl rfl hx21
   refine rg tok [3,7,10,12,51,52,53] fun K hK=>?_
   simp only[go_sem,qe,qb,qa,qc,qd,qf,reduceIte,reduceCtorEq,yc,xB,hz12,hz21,hw21,f25,f26];apply hK
   refine ze fun Z27 hZ27=>?_
   apply zt
   refine rc [3,7,10,12,51,52,53,57] fun K hK=>?_
   obtain⟨r28,hr28,h⟩:=bind_some h;refine zd tok 3 ?_;simp only[go_sem,qe,qb,qa,qc,qd,qf,reduceIte,reduceCtorEq,hz12,hz21,hw21];refine clN rfl rfl rfl (@id (ACalls qi 128 [.mp 3,.str y21.fName] [.map (yK AV.str AV.bool r2.2),.cells 0 (zb a0),.map (yK (AV.int .i64) AV.bool l15),.map (yK AV.str AV.bool l16),.cells 0 (yc y21)] (fun r' σ'=>r'=.bool r28.1∧σ'=[.map (yK AV.str AV.bool r2.2),.cells 0 (zb a0),.map (yK (AV.int .i64) AV.bool l15),.map (yK AV.str AV.bool r28.2),.cells 0 (yc y21)])) ((xQ.ok hr28).i [3])) ?_;refine zd tok 2 ?_;simp only[go_sem,qe,qb,qa,qc,qd,qf,reduceIte,reduceCtorEq,hz12,hz21,hw21];refine nkN hK ?_;refine zY (b:=(!r28.1)) rfl (fun hc29=>?_) (fun hc29=>?_)
   · rw[if_pos hc29] at h
     refine rg tok [6] fun K hK=>?_
     simp only[go_sem,qe,qb,qa,qc,qd,qf,reduceIte,reduceCtorEq,hz12,hz21,hw21];apply hK
     apply yk;cases h;simp only[ZA,yT,yY,xR,exists_eq_left',go_sem,qe,qb,qa,qc,qd,qf,reduceIte,reduceCtorEq];refine⟨by decide,by simp,?_,?_⟩
     · first|rfl|(simp only[go_sem,qe,qb,qa,qc,qd,qf,reduceIte,reduceCtorEq,push_cast,if_true,qq,ql,qt,qr,qs,qv,qy,qo,qx,qw,qn,zx]<;>rfl)
     first|rfl|(simp only[go_sem,qe,qb,qa,qc,qd,qf,reduceIte,reduceCtorEq,push_cast,if_true,qq,ql,qt,qr,qs,qv,qy,qo,qx,qw,qn,zx]<;>rfl)
   rw[Zg hc29] at h
   refine rc [3,7,10,12,51,52,53,63] fun K hK=>?_
   obtain⟨r30,hr30,h⟩:=yi h;refine zd tok 2 ?_;simp only[go_sem,qe,qb,qa,qc,qd,qf,reduceIte,reduceCtorEq,hz12,hz21,hw21];refine clN rfl rfl rfl ((vab.ok hr30).c _) ?_;refine zd tok 2 ?_;simp only[go_sem,qe,qb,qa,qc,qd,qf,reduceIte,reduceCtorEq,hz12,hz21,hw21];refine zI 5 (fun L τ=>L=[(3,.op 1 0 0),(7,.mp 2),(10,.mp 3),(12,.op 4 0 0),(51,.ds true (qh yc a2.fFields) (qg a2.fFields) false),(52,.int .i64 (qg a2.fFields:Int)),(53,.int .i64 x17),(73,.bool ((!r30)||((XZ l15 y21.fTag).getD false)))]∧τ=([.map (yK AV.str AV.bool r2.2),.cells 0 (zb a0),.map (yK (AV.int .i64) AV.bool l15),.map (yK AV.str AV.bool r28.2),.cells 0 (yc y21)]:zi)) ?_ ?_
   · refine yz (b:=(!r30)) 68 rfl (fun hg68=>?_) (fun hg68=>?_)
     · refine zd tok 5 ?_;simp only[go_sem,qe,qb,qa,qc,qd,qf,reduceIte,reduceCtorEq,XA,q2,if_false,if_true,hz12,hz21,hw21];refine zm ⟨rfl,_,_,⟨rfl,rfl⟩,.b hg68⟩
     have f31:=fun (o0:Yt) (o1:Yt) (x:zi)=>vaX (T:=tab) (t:=265) (ek:=(AV.int .i64)) (ev:=AV.bool) (z:=false) (vc8.int rfl rfl rfl rfl) rfl rfl rfl rfl l15 y21.fTag false (o0::o1::.map (yK (AV.int .i64) AV.bool l15)::x) 2 rfl
     refine zd tok 5 ?_;simp only[go_sem,qe,qb,qa,qc,qd,qf,reduceIte,reduceCtorEq,XA,q2,if_false,if_true,hz12,hz21,hw21,f31];refine zm ⟨rfl,_,_,⟨rfl,rfl⟩,.b hg68⟩
   rintro _ _ ⟨rfl,rfl⟩;refine zd tok 1 ?_;simp only[go_sem,qe,qb,qa,qc,qd,qf,reduceIte,reduceCtorEq,hz12,hz21,hw21];refine nkN hK ?_;refine zY (b:=((!r30)||((XZ l15 y21.fTag).getD false))) rfl (fun hc32=>?_) (fun hc32=>?_)
   · rw[if_pos hc32] at h
     refine rg tok [6] fun K hK=>?_
     simp only[go_sem,qe,qb,qa,qc,qd,qf,reduceIte,reduceCtorEq,hz12,hz21,hw21];apply hK
     apply yk;cases h;simp only[ZA,yT,yY,xR,exists_eq_left',go_sem,qe,qb,qa,qc,qd,qf,reduceIte,reduceCtorEq];refine⟨by decide,by simp,?_,?_⟩
     · first|rfl|(simp only[go_sem,qe,qb,qa,qc,qd,qf,reduceIte,reduceCtorEq,push_cast,if_true,qq,ql,qt,qr,qs,qv,qy,qo,qx,qw,qn,zx]<;>rfl)
     first|rfl|(simp only[go_sem,qe,qb,qa,qc,qd,qf,reduceIte,reduceCtorEq,push_cast,if_true,qq,ql,qt,qr,qs,qv,qy,qo,qx,qw,qn,zx]<;>rfl)
   rw[Zg hc32] at h
   refine rc [3,7,10,12,51,52,53,74] fun K hK=>?_
   obtain⟨r33,hr33,h⟩:=yi h;refine zd tok 2 ?_;simp only[go_sem,qe,qb,qa,qc,qd,qf,reduceIte,reduceCtorEq,yc,zb,xB,hz12,hz21,hw21];refine clN rfl rfl rfl ((vac.ok hr33).c _) ?_;refine zd tok 2 ?_;simp only[go_sem,qe,qb,qa,qc,qd,qf,reduceIte,reduceCtorEq,yc,zb,xB,hz12,hz21,hw21];refine nkN hK ?_;refine zY (b:=(!r33)) rfl (fun hc34=>?_) (fun hc34=>?_)
   · rw[if_pos hc34] at h
     refine rg tok [6] fun K hK=>?_
     simp only[go_sem,qe,qb,qa,qc,qd,qf,reduceIte,reduceCtorEq,hz12,hz21,hw21];apply hK
     apply yk;cases h;simp only[ZA,yT,yY,xR,exists_eq_left',go_sem,qe,qb,qa,qc,qd,qf,reduceIte,reduceCtorEq];refine⟨by decide,by simp,?_,?_⟩
     · first|rfl|(simp only[go_sem,qe,qb,qa,qc,qd,qf,reduceIte,reduceCtorEq,push_cast,if_true,qq,ql,qt,qr,qs,qv,qy,qo,qx,qw,qn,zx]<;>rfl)
     first|rfl|(simp only[go_sem,qe,qb,qa,qc,qd,qf,reduceIte,reduceCtorEq,push_cast,if_true,qq,ql,qt,qr,qs,qv,qy,qo,qx,qw,qn,zx]<;>rfl)
   rw[Zg hc34] at h;apply zp;apply hZ27
   have f35:=fun (o0:Yt) (o1:Yt) (x:zi)=>vb5 (T:=tab) (t:=265) (ek:=(AV.int .i64)) (ev:=AV.bool) (vc8.int rfl rfl rfl rfl) rfl rfl l15 y21.fTag true (o0::o1::.map (yK (AV.int .i64) AV.bool l15)::x) 2 rfl
   refine rgE tok [3,7,10,51,52,53] fun K hK=>?_
   simp only[go_sem,qe,qb,qa,qc,qd,qf,reduceIte,reduceCtorEq,hz12,hz21,hw21,f35];apply hK
   apply hZ24
   refine rgE tok [3,7,10,51,52,53] fun K hK=>?_
   simp only[go_sem,qe,qb,qa,qc,qd,qf,reduceIte,reduceCtorEq,zV,hz12,hz21,hw21];apply hK
   exact⟨_,_,_,qH q21.length,⟨p21++[y21],q21,x17+1,setM l15 y21.fTag true,r28.2,rfl,rfl,rfl,hE'21,hi'21,h⟩,(.t [0,1,2,3] false)⟩
 obtain⟨hz12,hw12,hx12,hE'12,hi'12⟩:=yZ hE12 hi12 hb12;simp only[we.l12] at h
 refine rg tok [3,5,7,32,33,34,35] fun K hK=>?_
 simp only[go_sem,qe,qb,qa,qc,qd,qf,reduceIte,reduceCtorEq,zV,hz12,hw12];apply hK
 refine ze fun Z36 hZ36=>?_
 refine zQ rfl ?_;apply zp;apply hZ36
 refine ze fun Z37 hZ37=>?_
 apply zt;have f38:=E26.idxS hx12;have f39:=E26.fldS0 (f:=3) rfl rfl hx12
 refine rg tok [3,5,7,9,32,33,34] fun K hK=>?_
 simp only[go_sem,qe,qb,qa,qc,qd,qf,reduceIte,reduceCtorEq,wH,hz12,hw12,f38,f39];apply hK
 refine ze fun Z40 hZ40=>?_
 refine rc [3,5,7,9,32,33,34,45] fun K hK=>?_
 obtain⟨r41,hr41,h⟩:=yi h;refine zd tok 1 ?_;simp only[go_sem,qe,qb,qa,qc,qd,qf,reduceIte,reduceCtorEq,hz12,hw12];refine clN rfl rfl rfl ((vab.ok hr41).c _) ?_;refine zd tok 2 ?_;simp only[go_sem,qe,qb,qa,qc,qd,qf,reduceIte,reduceCtorEq,hz12,hw12];refine zI 4 (fun L τ=>L=[(3,.op 1 0 0),(5,.op 2 0 0),(7,.mp 3),(9,.int .i64 y12),(32,.ds true (qh wH a2.fReserved) (qg a2.fReserved) false),(33,.int .i64 (qg a2.fReserved:Int)),(34,.int .i64 x9),(45,.bool ((!r41)||((XZ l8 y12).getD false)))]∧τ=([.map (yK AV.str AV.bool r2.2),.cells 0 (zb a0),.cells 0 (zf a2),.map (yK (AV.int .i64) AV.bool l8)]:zi)) ?_ ?_
 · refine yz (b:=(!r41)) 41 rfl (fun hg41=>?_) (fun hg41=>?_)
   · refine zd tok 4 ?_;simp only[go_sem,qe,qb,qa,qc,qd,qf,reduceIte,reduceCtorEq,XA,q2,if_false,if_true,hz12,hw12];refine zm ⟨rfl,_,_,⟨rfl,rfl⟩,.b hg41⟩
   have f42:=fun (o0:Yt) (o1:Yt) (o2:Yt) (x:zi)=>vaX (T:=tab) (t:=265) (ek:=(AV.int .i64)) (ev:=AV.bool) (z:=false) (vc8.int rfl rfl rfl rfl) rfl rfl rfl rfl l8 y12 false (o0::o1::o2::.map (yK (AV.int .i64) AV.bool l8)::x) 3 rfl
   refine zd tok 4 ?_;simp only[go_sem,qe,qb,qa,qc,qd,qf,reduceIte,reduceCtorEq,XA,q2,if_false,if_true,hz12,hw12,f42];refine zm ⟨rfl,_,_,⟨rfl,rfl⟩,.b hg41⟩
 rintro _ _ ⟨rfl,rfl⟩;refine nkN hK ?_;refine zY (b:=((!r41)||((XZ l8 y12).getD false))) rfl (fun hc43=>?_) (fun hc43=>?_)
 · rw[if_pos hc43] at h
   refine rg tok [6] fun K hK=>?_
   simp only[go_sem,qe,qb,qa,qc,qd,qf,reduceIte,reduceCtorEq,hz12,hw12];apply hK
   apply yk;cases h;simp only[ZA,yT,yY,xR,exists_eq_left',go_sem,qe,qb,qa,qc,qd,qf,reduceIte,reduceCtorEq];refine⟨by decide,by simp,?_,?_⟩
   · first|rfl|(simp only[go_sem,qe,qb,qa,qc,qd,qf,reduceIte,reduceCtorEq,push_cast,if_true,qq,ql,qt,qr,qs,qv,qy,qo,qx,qw,qn,zx]<;>rfl)
   first|rfl|(simp only[go_sem,qe,qb,qa,qc,qd,qf,reduceIte,reduceCtorEq,push_cast,if_true,qq,ql,qt,qr,qs,qv,qy,qo,qx,qw,qn,zx]<;>rfl)
 rw[Zg hc43] at h;apply zp;apply hZ40
 have f44:=fun (o0:Yt) (o1:Yt) (o2:Yt) (x:zi)=>vb5 (T:=tab) (t:=265) (ek:=(AV.int .i64)) (ev:=AV.bool) (vc8.int rfl rfl rfl rfl) rfl rfl l8 y12 true (o0::o1::o2::.map (yK (AV.int .i64) AV.bool l8)::x) 3 rfl
 refine rgE tok [3,5,7,32,33,34] fun K hK=>?_
 simp only[go_sem,qe,qb,qa,qc,qd,qf,reduceIte,reduceCtorEq,hz12,hw12,f44];apply hK
 apply hZ37
 refine rgE tok [3,5,7,32,33,34] fun K hK=>?_
 simp only[go_sem,qe,qb,qa,qc,qd,qf,reduceIte,reduceCtorEq,zV,hz12,hw12];apply hK
 exact⟨_,_,_,qH q12.length,⟨p12++[y12],q12,x9+1,setM l8 y12 true,rfl,rfl,rfl,hE'12,hi'12,h⟩,.s⟩
def w7.l23 (r2:Bool×List (List UInt8×Bool)):List vdJ→Int→List (List UInt8×Bool)→List (Int×Bool)→Option (Int×List (List UInt8×Bool))
 |[],x19,l17,l18=>some (0,r2.2)
 |y23::q23,x19,l17,l18=>(xQ l17 y23.fName).bind fun r30=>(if (!r30.1)=true then some (6,r2.2) else (if (((decide (y23.fN<0))||(decide (2147483647<y23.fN)))||((XZ l18 y23.fN).getD false))=true then some (11,r2.2) else ((w7.l23 r2 q23) (x19+1) r30.2 (setM l18 y23.fN true))))
def w7.l12 (a1:wK)(r2:Bool×List (List UInt8×Bool)):List vdJ→Int→Bool→Option (Int×List (List UInt8×Bool))
 |[],x9,x8=>(if (!x8)=true then some (12,r2.2) else (w7.l23 r2 a1.fValues 0 [] []))
 |y12::q12,x9,x8=>((w7.l12 a1 r2 q12) (x9+1) (x8||(decide (y12.fN=0))))
def w7 (a0:List (List UInt8×Bool))(a1:wK):Option (Int×List (List UInt8×Bool)):=
 (xQ a0 a1.fName).bind fun r2=>(if (!r2.1)=true then some (6,r2.2) else (if 16<(qg a1.fValues:Int) then some (4,r2.2) else (w7.l12 a1 r2 a1.fValues 0 false)))
theorem w7.ok {a0 a1 r}(h:w7 a0 a1=some r):ACalls qi 127 [.mp 0,.agg (zj a1)] [.map (yK AV.str AV.bool a0)] (fun r' σ'=>r'=.int .i64 r.1∧σ'=[.map (yK AV.str AV.bool r.2)]):=by
 refine Zy [0] (rs:=[.tmp 4]) tok Tryz.func127 rfl Tryz.ntmps127 rfl Tryz.call127 (by simp) rfl ?_;refine zC [(0,.mp 0),(1,.agg (zj a1))] ⟨rfl,rfl,trivial⟩ ?_;unfold w7 at h
 refine rg tok [0,3] fun K hK=>?_
 simp only[go_sem,qe,qb,qa,qc,qd,qf,reduceIte,reduceCtorEq,zj];apply hK
 refine ze fun Z1 hZ1=>?_
 apply zt
 refine rc [3,12] fun K hK=>?_
 obtain⟨r2,hr2,h⟩:=bind_some h;refine rnN 3 ?_;refine clN rfl rfl rfl (@id (ACalls qi 128 [.mp 0,.str a1.fName] [.map (yK AV.str AV.bool a0),.cells 0 (zj a1)] (fun r' σ'=>r'=.bool r2.1∧σ'=[.map (yK AV.str AV.bool r2.2),.cells 0 (zj a1)])) ((xQ.ok hr2).i [0])) ?_;refine rnN 2 ?_;refine nkN hK ?_;refine zY (b:=(!r2.1)) rfl (fun hc3=>?_) (fun hc3=>?_)
 · rw[if_pos hc3] at h;refine rgN [4] ?_;apply yk;cases h;simp only[ZA,yT,yY,xR,exists_eq_left',go_sem,qe,qb,qa,qc,qd,qf,reduceIte,reduceCtorEq];refine⟨by decide,by simp,?_,?_⟩
   · first|rfl|(simp only[go_sem,qe,qb,qa,qc,qd,qf,reduceIte,reduceCtorEq,push_cast,if_true,qq,ql,qt,qr,qs,qv,qy,qo,qx,qw,qn,zx]<;>rfl)
   first|rfl|(simp only[go_sem,qe,qb,qa,qc,qd,qf,reduceIte,reduceCtorEq,push_cast,if_true,qq,ql,qt,qr,qs,qv,qy,qo,qx,qw,qn,zx]<;>rfl)
 rw[Zg hc3] at h
 refine rg tok [3,18] fun K hK=>?_
 simp only[go_sem,qe,qb,qa,qc,qd,qf,reduceIte,reduceCtorEq,zV];apply hK
 refine yn rfl (fun hc4=>?_) (fun hc4=>?_)
 · rw[if_pos hc4] at h;have t5:=eq_true hc4
   refine rg tok [4] fun K hK=>?_
   simp only[go_sem,qe,qb,qa,qc,qd,qf,reduceIte,reduceCtorEq,t5];apply hK
   apply yk;cases h;simp only[ZA,yT,yY,xR,exists_eq_left',go_sem,qe,qb,qa,qc,qd,qf,reduceIte,reduceCtorEq];refine⟨by decide,by simp,?_,?_⟩
   · first|rfl|(simp only[go_sem,qe,qb,qa,qc,qd,qf,reduceIte,reduceCtorEq,push_cast,if_true,qq,ql,qt,qr,qs,qv,qy,qo,qx,qw,qn,zx]<;>rfl)
   first|rfl|(simp only[go_sem,qe,qb,qa,qc,qd,qf,reduceIte,reduceCtorEq,push_cast,if_true,qq,ql,qt,qr,qs,qv,qy,qo,qx,qw,qn,zx]<;>rfl)
 rw[if_neg hc4] at h;have t6:=eq_false hc4;apply zp;apply hZ1
 refine rg tok [3,5] fun K hK=>?_
 simp only[go_sem,qe,qb,qa,qc,qd,qf,reduceIte,reduceCtorEq,t6];apply hK
 refine ze fun Z7 hZ7=>?_
 refine rg tok [3,5,24,25,26] fun K hK=>?_
 simp only[go_sem,qe,qb,qa,qc,qd,qf,reduceIte,reduceCtorEq,t6];apply hK
 apply zt
 refine xv 24 fun hb12=>?_
 replace hb12:qg a1.fValues≤9223372036854775807:=hb12.1;refine yh (fun m L τ=>∃ (p12 q12:List vdJ) (x9:Int) (x8:Bool),m=qg q12∧L=[(3,.op 1 0 0),(5,.bool x8),(24,.ds true (qh Zr a1.fValues) (qg a1.fValues) false),(25,.int .i64 (qg a1.fValues:Int)),(26,.int .i64 x9)]∧τ=([.map (yK AV.str AV.bool r2.2),.cells 0 (zj a1)]:zi)∧a1.fValues=p12++q12∧x9=(qg p12:Int)∧w7.l12 a1 r2 q12 x9 x8=some r) _ ⟨[],a1.fValues,0,false,rfl,rfl,rfl,rfl,rfl,h⟩ .s ?_;rintro m L τ ⟨p12,q12,x9,x8,rfl,rfl,rfl,hE12,hi12,h⟩
 rcases q12 with _|⟨y12,q12⟩
 · have hz12:=xE hE12 hi12;simp only[w7.l12] at h
   refine rg tok [3,5,24,25,26,27] fun K hK=>?_
   simp only[go_sem,qe,qb,qa,qc,qd,qf,reduceIte,reduceCtorEq,zV,t6,hz12];apply hK
   refine ze fun Z13 hZ13=>?_
   refine zK rfl ?_;apply ye;apply hZ7
   refine ze fun Z14 hZ14=>?_
   refine rg tok [3,38] fun K hK=>?_
   simp only[go_sem,qe,qb,qa,qc,qd,qf,reduceIte,reduceCtorEq,t6,hz12];apply hK
   refine zY (b:=(!x8)) rfl (fun hc15=>?_) (fun hc15=>?_)
   · rw[if_pos hc15] at h
     refine rg tok [4] fun K hK=>?_
     simp only[go_sem,qe,qb,qa,qc,qd,qf,reduceIte,reduceCtorEq,t6,hz12];apply hK
     apply yk;cases h;simp only[ZA,yT,yY,xR,exists_eq_left',go_sem,qe,qb,qa,qc,qd,qf,reduceIte,reduceCtorEq];refine⟨by decide,by simp,?_,?_⟩
     · first|rfl|(simp only[go_sem,qe,qb,qa,qc,qd,qf,reduceIte,reduceCtorEq,push_cast,if_true,qq,ql,qt,qr,qs,qv,qy,qo,qx,qw,qn,zx]<;>rfl)
     first|rfl|(simp only[go_sem,qe,qb,qa,qc,qd,qf,reduceIte,reduceCtorEq,push_cast,if_true,qq,ql,qt,qr,qs,qv,qy,qo,qx,qw,qn,zx]<;>rfl)
   rw[Zg hc15] at h;apply zp;apply hZ14
   refine rg tok [3,8,9] fun K hK=>?_
   simp only[go_sem,qe,qb,qa,qc,qd,qf,reduceIte,reduceCtorEq,t6,hz12];apply hK
   refine Xp 2 rfl rfl ?_;refine Xp 3 rfl (τ:=[.map (yK AV.str AV.bool r2.2),.cells 0 (zj a1),.map (yK AV.str AV.bool []),.map (yK (AV.int .i64) AV.bool [])]) rfl ?_;refine y5 (L:=[(3,.op 1 0 0),(8,.mp 2),(9,.mp 3)]) (τ:=[.map (yK AV.str AV.bool r2.2),.cells 0 (zj a1),.map (yK AV.str AV.bool []),.map (yK (AV.int .i64) AV.bool [])]) .s ?_
   refine ze fun Z16 hZ16=>?_
   refine rg tok [8,9,42,43,44] fun K hK=>?_
   simp only[go_sem,qe,qb,qa,qc,qd,qf,reduceIte,reduceCtorEq,t6,hz12];apply hK
   apply zt
   refine xv 42 fun hb23=>?_
   replace hb23:qg a1.fValues≤9223372036854775807:=hb23.1;refine yh (fun m L τ=>∃ (p23 q23:List vdJ) (x19:Int) (l17:List (List UInt8×Bool)) (l18:List (Int×Bool)),m=qg q23∧L=[(8,.mp 1),(9,.mp 2),(42,.ds true (qh Zr a1.fValues) (qg a1.fValues) false),(43,.int .i64 (qg a1.fValues:Int)),(44,.int .i64 x19)]∧τ=([.map (yK AV.str AV.bool r2.2),.map (yK AV.str AV.bool l17),.map (yK (AV.int .i64) AV.bool l18)]:zi)∧a1.fValues=p23++q23∧x19=(qg p23:Int)∧w7.l23 r2 q23 x19 l17 l18=some r) _ ⟨[],a1.fValues,0,[],[],rfl,rfl,rfl,rfl,rfl,h⟩ (.t [0,2,3] false) ?_;rintro m L τ ⟨p23,q23,x19,l17,l18,rfl,rfl,rfl,hE23,hi23,h⟩
   rcases q23 with _|⟨y23,q23⟩
   · have hz23:=xE hE23 hi23;simp only[w7.l23] at h
     refine rg tok [8,9,42,43,44,45] fun K hK=>?_
     simp only[go_sem,qe,qb,qa,qc,qd,qf,reduceIte,reduceCtorEq,zV,t6,hz12,hz23];apply hK
     refine ze fun Z24 hZ24=>?_
     refine zK rfl ?_;apply ye;apply hZ16
     refine rg tok [4] fun K hK=>?_
     simp only[go_sem,qe,qb,qa,qc,qd,qf,reduceIte,reduceCtorEq,t6,hz12,hz23];apply hK
     apply yk;cases h;simp only[ZA,yT,yY,xR,exists_eq_left',go_sem,qe,qb,qa,qc,qd,qf,reduceIte,reduceCtorEq];refine⟨by decide,by simp,?_,?_⟩
     · first|rfl|(simp only[go_sem,qe,qb,qa,qc,qd,qf,reduceIte,reduceCtorEq,push_cast,if_true,qq,ql,qt,qr,qs,qv,qy,qo,qx,qw,qn,zx]<;>rfl)
     first|rfl|(simp only[go_sem,qe,qb,qa,qc,qd,qf,reduceIte,reduceCtorEq,push_cast,if_true,qq,ql,qt,qr,qs,qv,qy,qo,qx,qw,qn,zx]<;>rfl)
   obtain⟨hz23,hw23,hx23,hE'23,hi'23⟩:=yZ hE23 hi23 hb23;simp only[w7.l23] at h
   refine rg tok [8,9,42,43,44,45] fun K hK=>?_
   simp only[go_sem,qe,qb,qa,qc,qd,qf,reduceIte,reduceCtorEq,zV,t6,hz12,hz23,hw23];apply hK
   refine ze fun Z25 hZ25=>?_
   refine zQ rfl ?_;apply zp;apply hZ25
   refine ze fun Z26 hZ26=>?_
   apply zt;have f27:=E140.idxS hx23;have f28:=E140.loadS rfl rfl hx23
   refine rg tok [8,9,11,42,43,44] fun K hK=>?_
   simp only[go_sem,qe,qb,qa,qc,qd,qf,reduceIte,reduceCtorEq,Zr,t6,hz12,hz23,hw23,f27,f28];apply hK
   refine ze fun Z29 hZ29=>?_
   apply zt
   refine rc [8,9,11,42,43,44,48] fun K hK=>?_
   obtain⟨r30,hr30,h⟩:=bind_some h;refine zd tok 3 ?_;simp only[go_sem,qe,qb,qa,qc,qd,qf,reduceIte,reduceCtorEq,t6,hz12,hz23,hw23];refine clN rfl rfl rfl (@id (ACalls qi 128 [.mp 1,.str y23.fName] [.map (yK AV.str AV.bool r2.2),.map (yK AV.str AV.bool l17),.map (yK (AV.int .i64) AV.bool l18),.cells 0 [.str y23.fName,.int .i64 y23.fN]] (fun r' σ'=>r'=.bool r30.1∧σ'=[.map (yK AV.str AV.bool r2.2),.map (yK AV.str AV.bool r30.2),.map (yK (AV.int .i64) AV.bool l18),.cells 0 [.str y23.fName,.int .i64 y23.fN]])) ((xQ.ok hr30).i [1])) ?_;refine zd tok 2 ?_;simp only[go_sem,qe,qb,qa,qc,qd,qf,reduceIte,reduceCtorEq,t6,hz12,hz23,hw23];refine nkN hK ?_;refine zY (b:=(!r30.1)) rfl (fun hc31=>?_) (fun hc31=>?_)
   · rw[if_pos hc31] at h
     refine rg tok [4] fun K hK=>?_
     simp only[go_sem,qe,qb,qa,qc,qd,qf,reduceIte,reduceCtorEq,t6,hz12,hz23,hw23];apply hK
     apply yk;cases h;simp only[ZA,yT,yY,xR,exists_eq_left',go_sem,qe,qb,qa,qc,qd,qf,reduceIte,reduceCtorEq];refine⟨by decide,by simp,?_,?_⟩
     · first|rfl|(simp only[go_sem,qe,qb,qa,qc,qd,qf,reduceIte,reduceCtorEq,push_cast,if_true,qq,ql,qt,qr,qs,qv,qy,qo,qx,qw,qn,zx]<;>rfl)
     first|rfl|(simp only[go_sem,qe,qb,qa,qc,qd,qf,reduceIte,reduceCtorEq,push_cast,if_true,qq,ql,qt,qr,qs,qv,qy,qo,qx,qw,qn,zx]<;>rfl)
   rw[Zg hc31] at h
   refine rc [8,9,11,42,43,44,54] fun K hK=>?_
   refine zd tok 4 ?_;simp only[go_sem,qe,qb,qa,qc,qd,qf,reduceIte,reduceCtorEq,zV,t6,hz12,hz23,hw23];refine zI 4 (fun L τ=>L=[(8,.mp 1),(9,.mp 2),(11,.op 3 0 0),(42,.ds true (qh Zr a1.fValues) (qg a1.fValues) false),(43,.int .i64 (qg a1.fValues:Int)),(44,.int .i64 x19),(62,.bool ((decide (y23.fN<0))||(decide (2147483647<y23.fN))))]∧τ=([.map (yK AV.str AV.bool r2.2),.map (yK AV.str AV.bool r30.2),.map (yK (AV.int .i64) AV.bool l18),.cells 0 [.str y23.fName,.int .i64 y23.fN]]:zi)) ?_ ?_
   · refine wr 58 rfl (fun hg58=>?_) (fun hg58=>?_)
     · have t32:=eq_true hg58;refine zd tok 4 ?_;simp only[go_sem,qe,qb,qa,qc,qd,qf,reduceIte,reduceCtorEq,zV,t6,hz12,hz23,hw23];refine zm ⟨rfl,_,_,⟨rfl,rfl⟩,.p t32⟩
     have t33:=eq_false hg58;refine zd tok 4 ?_;simp only[go_sem,qe,qb,qa,qc,qd,qf,reduceIte,reduceCtorEq,zV,t6,hz12,hz23,hw23];refine zm ⟨rfl,_,_,⟨rfl,rfl⟩,.p t33⟩
   rintro _ _ ⟨rfl,rfl⟩;refine zd tok 1 ?_;simp only[go_sem,qe,qb,qa,qc,qd,qf,reduceIte,reduceCtorEq,t6,hz12,hz23,hw23];refine zI 5 (fun L τ=>L=[(8,.mp 1),(9,.mp 2),(11,.op 3 0 0),(42,.ds true (qh Zr a1.fValues) (qg a1.fValues) false),(43,.int .i64 (qg a1.fValues:Int)),(44,.int .i64 x19),(68,.bool (((decide (y23.fN<0))||(decide (2147483647<y23.fN)))||((XZ l18 y23.fN).getD false)))]∧τ=([.map (yK AV.str AV.bool r2.2),.map (yK AV.str AV.bool r30.2),.map (yK (AV.int .i64) AV.bool l18),.cells 0 [.str y23.fName,.int .i64 y23.fN]]:zi)) ?_ ?_
   · refine yz (b:=((decide (y23.fN<0))||(decide (2147483647<y23.fN)))) 63 rfl (fun hg63=>?_) (fun hg63=>?_)
     · refine zd tok 5 ?_;simp only[go_sem,qe,qb,qa,qc,qd,qf,reduceIte,reduceCtorEq,XA,q2,if_false,if_true,t6,hz12,hz23,hw23];refine zm ⟨rfl,_,_,⟨rfl,rfl⟩,.b hg63⟩
     have f34:=fun (o0:Yt) (o1:Yt) (x:zi)=>vaX (T:=tab) (t:=265) (ek:=(AV.int .i64)) (ev:=AV.bool) (z:=false) (vc8.int rfl rfl rfl rfl) rfl rfl rfl rfl l18 y23.fN false (o0::o1::.map (yK (AV.int .i64) AV.bool l18)::x) 2 rfl
     refine zd tok 5 ?_;simp only[go_sem,qe,qb,qa,qc,qd,qf,reduceIte,reduceCtorEq,XA,q2,if_false,if_true,t6,hz12,hz23,hw23,f34];refine zm ⟨rfl,_,_,⟨rfl,rfl⟩,.b hg63⟩
   rintro _ _ ⟨rfl,rfl⟩;refine zd tok 1 ?_;simp only[go_sem,qe,qb,qa,qc,qd,qf,reduceIte,reduceCtorEq,t6,hz12,hz23,hw23];refine nkN hK ?_;refine zY (b:=(((decide (y23.fN<0))||(decide (2147483647<y23.fN)))||((XZ l18 y23.fN).getD false))) rfl (fun hc35=>?_) (fun hc35=>?_)
   · rw[if_pos hc35] at h
     refine rg tok [4] fun K hK=>?_
     simp only[go_sem,qe,qb,qa,qc,qd,qf,reduceIte,reduceCtorEq,t6,hz12,hz23,hw23];apply hK
     apply yk;cases h;simp only[ZA,yT,yY,xR,exists_eq_left',go_sem,qe,qb,qa,qc,qd,qf,reduceIte,reduceCtorEq];refine⟨by decide,by simp,?_,?_⟩
     · first|rfl|(simp only[go_sem,qe,qb,qa,qc,qd,qf,reduceIte,reduceCtorEq,push_cast,if_true,qq,ql,qt,qr,qs,qv,qy,qo,qx,qw,qn,zx]<;>rfl)
     first|rfl|(simp only[go_sem,qe,qb,qa,qc,qd,qf,reduceIte,reduceCtorEq,push_cast,if_true,qq,ql,qt,qr,qs,qv,qy,qo,qx,qw,qn,zx]<;>rfl)
   rw[Zg hc35] at h;apply zp;apply hZ29
   have f36:=fun (o0:Yt) (o1:Yt) (x:zi)=>vb5 (T:=tab) (t:=265) (ek:=(AV.int .i64)) (ev:=AV.bool) (vc8.int rfl rfl rfl rfl) rfl rfl l18 y23.fN true (o0::o1::.map (yK (AV.int .i64) AV.bool l18)::x) 2 rfl
   refine rgE tok [8,9,42,43,44] fun K hK=>?_
   simp only[go_sem,qe,qb,qa,qc,qd,qf,reduceIte,reduceCtorEq,t6,hz12,hz23,hw23,f36];apply hK
   apply hZ26
   refine rgE tok [8,9,42,43,44] fun K hK=>?_
   simp only[go_sem,qe,qb,qa,qc,qd,qf,reduceIte,reduceCtorEq,zV,t6,hz12,hz23,hw23];apply hK
   exact⟨_,_,_,qH q23.length,⟨p23++[y23],q23,x19+1,r30.2,setM l18 y23.fN true,rfl,rfl,rfl,hE'23,hi'23,h⟩,(.t [0,1,2] false)⟩
 obtain⟨hz12,hw12,hx12,hE'12,hi'12⟩:=yZ hE12 hi12 hb12;simp only[w7.l12] at h
 refine rg tok [3,5,24,25,26,27] fun K hK=>?_
 simp only[go_sem,qe,qb,qa,qc,qd,qf,reduceIte,reduceCtorEq,zV,t6,hz12,hw12];apply hK
 refine ze fun Z37 hZ37=>?_
 refine zQ rfl ?_;apply zp;apply hZ37
 refine ze fun Z38 hZ38=>?_
 apply zt;have f39:=E140.idxS hx12;have f40:=E140.loadS rfl rfl hx12
 refine rg tok [3,5,7,24,25,26] fun K hK=>?_
 simp only[go_sem,qe,qb,qa,qc,qd,qf,reduceIte,reduceCtorEq,Zr,t6,hz12,hw12,f39,f40];apply hK
 refine rcE [3,5,24,25,26] fun K hK=>?_
 refine zd tok 2 ?_;simp only[go_sem,qe,qb,qa,qc,qd,qf,reduceIte,reduceCtorEq,t6,hz12,hw12];refine zI 4 (fun L τ=>L=[(3,.op 1 0 0),(5,.bool x8),(24,.ds true (qh Zr a1.fValues) (qg a1.fValues) false),(25,.int .i64 (qg a1.fValues:Int)),(26,.int .i64 x9),(35,.bool (x8||(decide (y12.fN=0))))]∧τ=([.map (yK AV.str AV.bool r2.2),.cells 0 (zj a1),.cells 0 [.str y12.fName,.int .i64 y12.fN]]:zi)) ?_ ?_
 · refine yz (b:=x8) 31 rfl (fun hg31=>?_) (fun hg31=>?_)
   · refine zd tok 4 ?_;simp only[go_sem,qe,qb,qa,qc,qd,qf,reduceIte,reduceCtorEq,zV,t6,hz12,hw12];refine zm ⟨rfl,_,_,⟨rfl,rfl⟩,.b hg31⟩
   refine zd tok 4 ?_;simp only[go_sem,qe,qb,qa,qc,qd,qf,reduceIte,reduceCtorEq,zV,t6,hz12,hw12];refine zm ⟨rfl,_,_,⟨rfl,rfl⟩,.b hg31⟩
 rintro _ _ ⟨rfl,rfl⟩;refine zd tok 1 ?_;simp only[go_sem,qe,qb,qa,qc,qd,qf,reduceIte,reduceCtorEq,t6,hz12,hw12];refine nkN hK ?_;apply hZ38
 refine rgE tok [3,5,24,25,26] fun K hK=>?_
 simp only[go_sem,qe,qb,qa,qc,qd,qf,reduceIte,reduceCtorEq,zV,t6,hz12,hw12];apply hK
 exact⟨_,_,_,qH q12.length,⟨p12++[y12],q12,x9+1,(x8||(decide (y12.fN=0))),rfl,rfl,rfl,hE'12,hi'12,h⟩,(.t [0,1] false)⟩
end
end Go.Proofs.YtaahlckibpiphaaGreatDoor
