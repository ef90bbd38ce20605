/- Parts of the proof, cut down to what it needs. -/
import Derived.Test.YtaahlckibpiphaaGreatDoorGU
import Derived.Shelf.Spec.SlicesInsert
import Derived.Lib.AppendZerosOnto
set_option linter.constructorNameAsVariable false
set_option linter.unusedSimpArgs false
set_option linter.unusedVariables false
namespace Go.Proofs.YtaahlckibpiphaaGreatDoor
open _root_.List renaming length → qb, flatMap → qd, length_append → qj, length_cons → qk, map_nil → qm, map_cons → qp, length_nil → qr, append_assoc → qv, mem_cons_self → qA, mem_cons_of_mem → qB, drop_zero → qC, map_append → qE, length_eq_zero_iff → qF, getD_eq_getElem?_getD → qG, append_nil → qH, nil_append → qK, cons_append → qM, replicate → qP, length_singleton → qQ, getElem?_append_left → qR, flatMap_cons → qS, range_zero → qT, mem_cons → qU, getElem?_eq_some_iff → qW, all_cons → qZ, range_succ → q1, getElem?_eq_getElem → q3, flatMap_append → q5, all_eq_true → q7, all_nil → uc, getElem?_set_ne → ud, take_of_length_le → uf, length_map → uh, getElem?_append_right → ui, flatMap_nil → uj, getElem?_eq_none → uk, take_length → ul, pairwise_cons → un, take_append_drop → uo, getElem?_set_self → ur, set_cons_zero → uu, mem_map → uw, filter_cons → ux, getElem?_cons_zero → uA, getElem?_cons_succ → uB, range → uC, length_take → uF, set_cons_succ → uG, mem_append_right → uI, mem_append → uM, mem_singleton → uP, mem_of_getElem? → uS, mem_append_left → uT, eq_nil_of_length_eq_zero → uU, drop_drop → uV
open _root_.Option renaming bind_some → qh, map_some → uy, getD_some → uK
open _root_.Nat renaming reduceEqDiff → qa, reduceLT → qc, reduceAdd → qe, reduceLeDiff → qf, reduceMul → ql, zero_add → qn, reduceSub → qs, le_refl → qx, lt_succ_self → qy, mul_le_mul_right → qY, reduceMod → ub, lt_of_lt_of_le → ug, zero_le → ut, zero_mul → uz, sub_self → uD, le_trans → uE, add_mul → uL, sub_zero → uN, add_zero → uO, succ_mul → uR, lt_or_ge → uY
open _root_.Bool renaming or_true → qq, not_true → qt, and_false → qu, not_false → qw, and_eq_true → qz, and_true → qJ, or_false → qN, and_self → qO, false_eq_true → q2, or_eq_true → ua, true_and → uq, false_or → uH, not_eq_true' → uW
open _root_.Int renaming toNat → qI, toNat_natCast → qV
open _root_.BitVec renaming ofInt → qD, toNat → um
open _root_.Array renaming length_toList → ue, getD_eq_getD_getElem? → uv, getElem?_eq_getElem → uJ, getElem?_setIfInBounds_ne → uQ, replicate → uX, getElem?_modify → uZ
open _root_.UInt8 renaming ofNat → qX
open Result renaming andThen_ok → qi
open Sem renaming run_bind → qo, run_pure → qL
open _root_.Go.Proofs.Tryz renaming prog → qg
section
set_option maxRecDepth 4000
set_option maxHeartbeats 1000000
open AM
def w5 (a0:List UInt8)(a1:Int):Option (Int×Int×Bool):=
 (if ((decide (a1<0))||(decide ((qb a0:Int)≤a1)))=true then some (0,0,false) else (grd ((0:Int)≤a1∧a1≤(qb a0:Int)∧(qb a0:Int)≤(qb a0:Int))).bind fun _u5=>bnd (Xe (vaK a0 a1 (qb a0:Int))) fun r7=>(if ((decide (r7.1=65533))&&(decide (r7.2<2)))=true then some (0,0,false) else some (r7.1,r7.2,true)))
theorem w5.ok (a0:List UInt8)(a1:Int)(r:Int×Int×Bool)(h:w5 a0 a1=some r):ACalls qg 224 [.str a0,.int .i64 a1] [] (fun r' _=>r'=.tup [.int .i32 r.1,.int .i64 r.2.1,.bool r.2.2]):=by
 refine zh (rs:=[.tmp 4,.tmp 5,.tmp 6]) tok Tryz.func224 rfl Tryz.ntmps224 rfl Tryz.call224 (by simp) ?_;refine zl [(0,.str a0),(1,.int .i64 a1)] ⟨rfl,rfl,trivial⟩ ?_;unfold w5 at h;refine rgN [0,1] ?_
 refine za fun Z1 hZ1=>?_
 refine rc [0,1,16] fun K hK=>?_
 refine rnN 3 ?_;refine zq 5 (fun L τ=>L=[(0,.str a0),(1,.int .i64 a1),(16,.bool ((decide (a1<0))||(decide ((qb a0:Int)≤a1))))]∧τ=[]) ?_ ?_
 · refine yW 11 rfl (fun hg11=>?_) (fun hg11=>?_)
   · have t2:=eq_true hg11;refine rnN 5 ?_;refine zb ⟨rfl,_,_,⟨rfl,rfl⟩,.p t2⟩
   have t3:=eq_false hg11;refine rnN 5 ?_;refine zb ⟨rfl,_,_,⟨rfl,rfl⟩,.p t3⟩
 rintro _ _ ⟨rfl,rfl⟩;refine nkN hK ?_;refine zv (b:=((decide (a1<0))||(decide ((qb a0:Int)≤a1)))) rfl (fun hc4=>?_) (fun hc4=>?_)
 · rw[if_pos hc4] at h;refine rgN [4,5,6] ?_;cases h;exact rtA
 rw[wb hc4] at h;apply zd;apply hZ1
 refine rc [7,8] fun K hK=>?_
 obtain⟨_u5,hu5,h⟩:=bind_some h;have gu5:=Zn hu5;have f6:=str_lo (T:=tab) (t:=9) rfl rfl gu5;obtain⟨r7,hr7,h⟩:=zD h;refine zj tok 3 ?_;simp only[go_sem,qc,qa,reduceCtorEq,f6];refine clN rfl rfl rfl (Xe.ev (vaK a0 a1 (qb a0:Int)) r7 hr7 _) ?_;refine rnN 5 ?_;refine nkN hK ?_
 refine za fun Z8 hZ8=>?_
 refine rc [7,8,29] fun K hK=>?_
 refine rnN 3 ?_;refine zq 3 (fun L τ=>L=[(7,.int .i32 r7.1),(8,.int .i64 r7.2),(29,.bool ((decide (r7.1=65533))&&(decide (r7.2<2))))]∧τ=[]) ?_ ?_
 · refine yW 26 rfl (fun hg26=>?_) (fun hg26=>?_)
   · have t9:=eq_true hg26;refine rnN 3 ?_;refine zb ⟨rfl,_,_,⟨rfl,rfl⟩,.p t9⟩
   have t10:=eq_false hg26;refine rnN 3 ?_;refine zb ⟨rfl,_,_,⟨rfl,rfl⟩,.p t10⟩
 rintro _ _ ⟨rfl,rfl⟩;refine nkN hK ?_;refine zv (b:=((decide (r7.1=65533))&&(decide (r7.2<2)))) rfl (fun hc11=>?_) (fun hc11=>?_)
 · rw[if_pos hc11] at h;refine rgN [4,5,6] ?_;cases h;exact rtA
 rw[wb hc11] at h;apply zd;apply hZ8;refine rgN [4,5,6] ?_;cases h;exact rtA
theorem w5.ev (a0:List UInt8)(a1:Int)(r:Int×Int×Bool)(h:w5 a0 a1=some r)(σ:Store):ACalls qg 224 [.str a0,.int .i64 a1] σ (fun r' σ'=>r'=.tup [.int .i32 r.1,.int .i64 r.2.1,.bool r.2.2]∧σ'=σ):=
 (w5.ok a0 a1 r h).c σ
def yR.l4 (a0:List UInt8):Nat→Nat→Option Bool
 |0,_=>none
 |k4+1,p2=>(if p2<qb a0 then (if ((vbr a0 p2).1:Int)=65533 then (w5 a0 ((p2:Nat):Int)).bind fun r12=>(if (!r12.2.2)=true then some false else ((yR.l4 a0 k4) (p2+(vbr a0 p2).2))) else ((yR.l4 a0 k4) (p2+(vbr a0 p2).2))) else some true)
def yR (a0:List UInt8):Option Bool:=
 (yR.l4 a0 rounds 0)
theorem yR.ok (a0:List UInt8)(r:Bool)(h:yR a0=some r):ACalls qg 184 [.str a0] [] (fun r' _=>r'=.bool r):=by
 refine zh (rs:=[.tmp 2]) tok Tryz.func184 rfl Tryz.ntmps184 rfl Tryz.call184 (by simp) ?_;refine zl [(0,.str a0)] ⟨rfl,trivial⟩ ?_;unfold yR at h;refine rgN [0] ?_
 refine za fun Z1 hZ1=>?_
 refine rgN [0,9] ?_;apply ze;refine zF (fun m L τ=>∃ (k4:Nat) (p2:Nat),m=0+k4∧L=[(0,.str a0),(9,.it 0)]∧τ=[.iter a0 p2]∧yR.l4 a0 k4 p2=some r) _ ⟨rounds,0,rfl,rfl,rfl,h⟩ .s ?_;rintro m L τ ⟨k4,p2,rfl,rfl,rfl,h⟩
 rcases k4 with _|k4
 · cases h
 simp only[yR.l4] at h
 by_cases hn5:p2<qb a0
 · rw[if_pos hn5] at h;have t6:=eq_true hn5
   refine rg tok [0,9,10,11] fun K hK=>?_
   simp only[go_sem,qc,qa,qe,reduceCtorEq,vaw,if_true,if_false,t6];apply hK
   refine za fun Z7 hZ7=>?_
   refine zs rfl ?_;apply zd;apply hZ7;apply ze;refine rgN [0,3,4,9] ?_
   refine za fun Z8 hZ8=>?_
   refine rgN [0,3,9,15] ?_;refine zL rfl (fun hc9=>?_) (fun hc9=>?_)
   · rw[if_neg hc9] at h;have t10:=eq_false hc9;apply zA;exact⟨_,_,_,qy (0+k4),⟨k4,p2+(vbr a0 p2).2,rfl,rfl,rfl,h⟩,.s⟩
   rw[if_pos hc9] at h;have t11:=eq_true hc9;apply zd;apply hZ8
   refine rc [0,7,9] fun K hK=>?_
   obtain⟨r12,hr12,h⟩:=bind_some h;refine zj tok 2 ?_;simp only[go_sem,qc,qa,reduceCtorEq,t11];refine clN rfl rfl rfl (w5.ev a0 ((p2:Nat):Int) r12 hr12 _) ?_;refine rnN 7 ?_;refine nkN hK ?_;refine rgN [0,9,24] ?_;refine zv (b:=(!r12.2.2)) rfl (fun hc13=>?_) (fun hc13=>?_)
   · rw[if_pos hc13] at h;refine rgN [2] ?_;cases h;exact rtA
   rw[wb hc13] at h;apply zd;exact⟨_,_,_,qy (0+k4),⟨k4,p2+(vbr a0 p2).2,rfl,rfl,rfl,h⟩,.s⟩
 rw[if_neg hn5] at h;have t14:=eq_false hn5
 refine rg tok [0,9,10,11] fun K hK=>?_
 simp only[go_sem,qc,qa,reduceCtorEq,vaw,if_true,if_false,t14];apply hK
 refine za fun Z15 hZ15=>?_
 refine zp rfl ?_;apply zA;apply hZ1;refine rgN [2] ?_;cases h;exact rtA
theorem yR.ev (a0:List UInt8)(r:Bool)(h:yR a0=some r)(σ:Store):ACalls qg 184 [.str a0] σ (fun r' σ'=>r'=.bool r∧σ'=σ):=
 (yR.ok a0 r h).c σ
def zG.l4 (a1:List UInt8):List GMessage→Int→GMessage×Bool
 |[],x2=>((⟨[],([]:List GField),([]:List Int)⟩:GMessage),false)
 |y4::q4,x2=>(if y4.fName=a1 then (y4,true) else ((zG.l4 a1 q4) (x2+1)))
def zG (a0:GSchema)(a1:List UInt8):GMessage×Bool:=
 (zG.l4 a1 a0.fMessages 0)
theorem zG.ok (a0:GSchema)(a1:List UInt8)(r:GMessage×Bool)(h:zG a0 a1=r):ACalls qg 92 [.agg (encGSchema a0),.str a1] [] (fun r' _=>r'=.tup [.agg (encGMessage r.1),.bool r.2]):=by
 refine zh (rs:=[.cell 4 129,.tmp 5]) tok Tryz.func92 rfl Tryz.ntmps92 rfl Tryz.call92 (by simp) ?_;refine zl [(0,.agg (encGSchema a0)),(1,.str a1)] ⟨rfl,rfl,trivial⟩ ?_;unfold zG at h
 refine rg tok [1,2,4] fun K hK=>?_
 simp only[go_sem,qc,qa,qe,reduceCtorEq,encGSchema];apply hK
 refine za fun Z1 hZ1=>?_
 refine rgN [1,4,9,10,11] ?_;apply ze
 refine yD 9 fun hb4=>?_
 replace hb4:qb a0.fMessages≤9223372036854775807:=hb4.1;refine zF (fun m L τ=>∃ (p4 q4:List GMessage) (x2:Int),m=qb q4∧L=[(1,.str a1),(4,.op 0 0 0),(9,.ds true (qd encGMessage a0.fMessages) (qb a0.fMessages) false),(10,.int .i64 (qb a0.fMessages:Int)),(11,.int .i64 x2)]∧τ=[.cells 0 [.str [],.ds true [] 0 true,.ds true [] 0 true]]∧a0.fMessages=p4++q4∧x2=(qb p4:Int)∧zG.l4 a1 q4 x2=r) _ ⟨[],a0.fMessages,0,rfl,rfl,rfl,rfl,rfl,h⟩ (.t [1] false) ?_;rintro m L τ ⟨p4,q4,x2,rfl,rfl,rfl,hE4,hi4,h⟩
 rcases q4 with _|⟨y4,q4⟩
 · have hz4:=yH hE4 hi4;simp only[zG.l4] at h
   refine rg tok [1,4,9,10,11,12] fun K hK=>?_
   simp only[go_sem,qc,qa,hz4];apply hK
   refine za fun Z5 hZ5=>?_
   refine zp rfl ?_;apply zA;apply hZ1;refine rgN [4,5] ?_;cases h;exact rtA
 obtain⟨hz4,hw4,hx4,hE'4,hi'4⟩:=ya hE4 hi4 hb4;simp only[zG.l4] at h
 refine rg tok [1,4,9,10,11,12] fun K hK=>?_
 simp only[go_sem,qc,qa,hz4];apply hK
 refine za fun Z6 hZ6=>?_
 refine zs rfl ?_;apply zd;apply hZ6
 refine za fun Z7 hZ7=>?_
 apply ze;have f8:=E27.idxS hx4;have f9:=E27.loadS rfl rfl hx4
 refine rg tok [1,4,7,9,10,11] fun K hK=>?_
 simp only[go_sem,qc,qf,qa,qe,encGMessage,f8,f9];apply hK
 refine rgN [1,4,7,9,10,11,18] ?_;refine zL rfl (fun hc10=>?_) (fun hc10=>?_)
 · rw[if_pos hc10] at h;have t11:=eq_true hc10
   refine rg tok [4,5] fun K hK=>?_
   simp only[go_sem,qc,qf,qa,qe,t11];apply hK
   cases h;exact rtA
 rw[if_neg hc10] at h;have t12:=eq_false hc10;apply zd;apply hZ7
 refine rgE tok [1,4,9,10,11] fun K hK=>?_
 simp only[go_sem,qc,qa,hw4,t12];apply hK
 exact⟨_,_,_,qy q4.length,⟨p4++[y4],q4,x2+1,rfl,rfl,rfl,hE'4,hi'4,h⟩,(.t [0] false)⟩
theorem zG.ev (a0:GSchema)(a1:List UInt8)(r:GMessage×Bool)(h:zG a0 a1=r)(σ:Store):ACalls qg 92 [.agg (encGSchema a0),.str a1] σ (fun r' σ'=>r'=.tup [.agg (encGMessage r.1),.bool r.2]∧σ'=σ):=
 (zG.ok a0 a1 r h).c σ
def zk.l4 (a1:Int):List GField→Int→GField×Bool
 |[],x2=>((⟨[],0,0,(⟨0,[]⟩:GType)⟩:GField),false)
 |y4::q4,x2=>(if y4.fTag=a1 then (y4,true) else ((zk.l4 a1 q4) (x2+1)))
def zk (a0:GMessage)(a1:Int):GField×Bool:=
 (zk.l4 a1 a0.fFields 0)
theorem zk.ok (a0:GMessage)(a1:Int)(r:GField×Bool)(h:zk a0 a1=r):ACalls qg 141 [.agg (encGMessage a0),.int .i64 a1] [] (fun r' _=>r'=.tup [.agg (encGField r.1),.bool r.2]):=by
 refine zh (rs:=[.cell 4 126,.tmp 5]) tok Tryz.func141 rfl Tryz.ntmps141 rfl Tryz.call141 (by simp) ?_;refine zl [(0,.agg (encGMessage a0)),(1,.int .i64 a1)] ⟨rfl,rfl,trivial⟩ ?_;unfold zk at h
 refine rg tok [1,2,4] fun K hK=>?_
 simp only[go_sem,qc,qa,qe,reduceCtorEq,encGMessage];apply hK
 refine za fun Z1 hZ1=>?_
 refine rgN [1,4,9,10,11] ?_;apply ze
 refine yD 9 fun hb4=>?_
 replace hb4:qb a0.fFields≤9223372036854775807:=hb4.1;refine zF (fun m L τ=>∃ (p4 q4:List GField) (x2:Int),m=qb q4∧L=[(1,.int .i64 a1),(4,.op 0 0 0),(9,.ds true (qd encGField a0.fFields) (qb a0.fFields) false),(10,.int .i64 (qb a0.fFields:Int)),(11,.int .i64 x2)]∧τ=[.cells 0 [.str [],.int .i64 0,.int .i64 0,.int .i64 0,.str []]]∧a0.fFields=p4++q4∧x2=(qb p4:Int)∧zk.l4 a1 q4 x2=r) _ ⟨[],a0.fFields,0,rfl,rfl,rfl,rfl,rfl,h⟩ (.t [1] false) ?_;rintro m L τ ⟨p4,q4,x2,rfl,rfl,rfl,hE4,hi4,h⟩
 rcases q4 with _|⟨y4,q4⟩
 · have hz4:=yH hE4 hi4;simp only[zk.l4] at h
   refine rg tok [1,4,9,10,11,12] fun K hK=>?_
   simp only[go_sem,qc,qa,hz4];apply hK
   refine za fun Z5 hZ5=>?_
   refine zp rfl ?_;apply zA;apply hZ1;refine rgN [4,5] ?_;cases h;exact rtA
 obtain⟨hz4,hw4,hx4,hE'4,hi'4⟩:=ya hE4 hi4 hb4;simp only[zk.l4] at h
 refine rg tok [1,4,9,10,11,12] fun K hK=>?_
 simp only[go_sem,qc,qa,hz4];apply hK
 refine za fun Z6 hZ6=>?_
 refine zs rfl ?_;apply zd;apply hZ6
 refine za fun Z7 hZ7=>?_
 apply ze;have f8:=E127.idxS hx4;have f9:=E127.loadS rfl rfl hx4
 refine rg tok [1,4,7,9,10,11] fun K hK=>?_
 simp only[go_sem,qc,qf,qa,qe,encGField,f8,f9];apply hK
 refine rgN [1,4,7,9,10,11,18] ?_;refine zL rfl (fun hc10=>?_) (fun hc10=>?_)
 · rw[if_pos hc10] at h;have t11:=eq_true hc10
   refine rg tok [4,5] fun K hK=>?_
   simp only[go_sem,qc,qf,qa,qe,t11];apply hK
   cases h;exact rtA
 rw[if_neg hc10] at h;have t12:=eq_false hc10;apply zd;apply hZ7
 refine rgE tok [1,4,9,10,11] fun K hK=>?_
 simp only[go_sem,qc,qa,hw4,t12];apply hK
 exact⟨_,_,_,qy q4.length,⟨p4++[y4],q4,x2+1,rfl,rfl,rfl,hE'4,hi'4,h⟩,(.t [0] false)⟩
theorem zk.ev (a0:GMessage)(a1:Int)(r:GField×Bool)(h:zk a0 a1=r)(σ:Store):ACalls qg 141 [.agg (encGMessage a0),.int .i64 a1] σ (fun r' σ'=>r'=.tup [.agg (encGField r.1),.bool r.2]∧σ'=σ):=
 (zk.ok a0 a1 r h).c σ
def xH (a0:GType)(a1:Int):Bool:=
 (if a0.fKind=1 then ((decide ((-2147483648)≤a1))&&(decide (a1≤2147483647))) else (if a0.fKind=3 then ((decide (a1=0))||(decide (a1=1))) else (if a0.fKind=6 then ((decide (0≤a1))&&(decide (a1≤2147483647))) else decide (a0.fKind=2))))
theorem xH.ok (a0:GType)(a1:Int)(r:Bool)(h:xH a0 a1=r):ACalls qg 183 [.agg (encGType a0),.int .i64 a1] [] (fun r' _=>r'=.bool r):=by
 refine zh (rs:=[.tmp 4]) tok Tryz.func183 rfl Tryz.ntmps183 rfl Tryz.call183 (by simp) ?_;refine zl [(0,.agg (encGType a0)),(1,.int .i64 a1)] ⟨rfl,rfl,trivial⟩ ?_;unfold xH at h
 refine rg tok [1,2] fun K hK=>?_
 simp only[go_sem,qc,qa,qe,reduceCtorEq,encGType];apply hK
 refine za fun Z1 hZ1=>?_
 refine rgN [1,2,6] ?_;apply ze;refine rgN [1,2,6,7] ?_;refine zL rfl (fun hc2=>?_) (fun hc2=>?_)
 · rw[if_pos hc2] at h;have t3:=eq_true hc2
   refine rc [4] fun K hK=>?_
   refine zj tok 3 ?_;simp only[go_sem,qc,qa,t3];refine zq 3 (fun L τ=>L=[(14,.bool ((decide ((-2147483648)≤a1))&&(decide (a1≤2147483647))))]∧τ=[.cells 0 [.int .i64 a0.fKind,.str a0.fName]]) ?_ ?_
   · refine yW 11 rfl (fun hg11=>?_) (fun hg11=>?_)
     · have t4:=eq_true hg11;refine rnN 3 ?_;refine zb ⟨rfl,_,_,⟨rfl,rfl⟩,.p t4⟩
     have t5:=eq_false hg11;refine rnN 3 ?_;refine zb ⟨rfl,_,_,⟨rfl,rfl⟩,.p t5⟩
   rintro _ _ ⟨rfl,rfl⟩;refine rnN 1 ?_;refine nkN hK ?_;cases h;exact rtA
 rw[if_neg hc2] at h;have t6:=eq_false hc2
 refine rg tok [1,2,6,15] fun K hK=>?_
 simp only[go_sem,qc,qa,t6];apply hK
 refine zL rfl (fun hc7=>?_) (fun hc7=>?_)
 · rw[if_pos hc7] at h;have t8:=eq_true hc7
   refine rc [4] fun K hK=>?_
   refine zj tok 3 ?_;simp only[go_sem,qc,qa,t8];refine zq 3 (fun L τ=>L=[(22,.bool ((decide (a1=0))||(decide (a1=1))))]∧τ=[.cells 0 [.int .i64 a0.fKind,.str a0.fName]]) ?_ ?_
   · refine yW 19 rfl (fun hg19=>?_) (fun hg19=>?_)
     · have t9:=eq_true hg19;refine rnN 3 ?_;refine zb ⟨rfl,_,_,⟨rfl,rfl⟩,.p t9⟩
     have t10:=eq_false hg19;refine rnN 3 ?_;refine zb ⟨rfl,_,_,⟨rfl,rfl⟩,.p t10⟩
   rintro _ _ ⟨rfl,rfl⟩;refine rnN 1 ?_;refine nkN hK ?_;cases h;exact rtA
 rw[if_neg hc7] at h;have t11:=eq_false hc7
 refine rg tok [1,2,23] fun K hK=>?_
 simp only[go_sem,qc,qa,t11];apply hK
 refine zL rfl (fun hc12=>?_) (fun hc12=>?_)
 · rw[if_pos hc12] at h;have t13:=eq_true hc12
   refine rc [4] fun K hK=>?_
   refine zj tok 3 ?_;simp only[go_sem,qc,qa,t13];refine zq 3 (fun L τ=>L=[(30,.bool ((decide (0≤a1))&&(decide (a1≤2147483647))))]∧τ=[.cells 0 [.int .i64 a0.fKind,.str a0.fName]]) ?_ ?_
   · refine yW 27 rfl (fun hg27=>?_) (fun hg27=>?_)
     · have t14:=eq_true hg27;refine rnN 3 ?_;refine zb ⟨rfl,_,_,⟨rfl,rfl⟩,.p t14⟩
     have t15:=eq_false hg27;refine rnN 3 ?_;refine zb ⟨rfl,_,_,⟨rfl,rfl⟩,.p t15⟩
   rintro _ _ ⟨rfl,rfl⟩;refine rnN 1 ?_;refine nkN hK ?_;cases h;exact rtA
 rw[if_neg hc12] at h;have t16:=eq_false hc12;apply zd;apply hZ1
 refine rg tok [4] fun K hK=>?_
 simp only[go_sem,qc,qa,qe,t16];apply hK
 cases h;exact rtA
theorem xH.ev (a0:GType)(a1:Int)(r:Bool)(h:xH a0 a1=r)(σ:Store):ACalls qg 183 [.agg (encGType a0),.int .i64 a1] σ (fun r' σ'=>r'=.bool r∧σ'=σ):=
 (xH.ok a0 a1 r h).c σ
def xQ (a0:GTree):Bool:=
 ((((((decide (1≤a0.fKind))&&(decide (a0.fKind≤3)))&&(decide (a0.fN=0)))&&(decide (a0.fS=[])))&&(decide ((qb a0.fEntries:Int)=0)))&&(decide ((qb a0.fRest:Int)=0)))
theorem xQ.ok (a0:GTree)(r:Bool)(h:xQ a0=r):ACalls qg 143 [.agg (cellsGTree a0)] [] (fun r' _=>r'=.bool r):=by
 refine zh (rs:=[.tmp 2]) tok Tryz.func143 rfl Tryz.ntmps143 rfl Tryz.call143 (by simp) ?_;refine zl [(0,.agg (cellsGTree a0))] ⟨rfl,trivial⟩ ?_;unfold xQ at h
 refine rg tok [1] fun K hK=>?_
 simp only[go_sem,qc,qa,qe,reduceCtorEq,cellsGTree];apply hK
 refine rc [2] fun K hK=>?_
 refine rnN 4 ?_;refine zq 4 (fun L τ=>L=[(1,.op 0 0 0),(10,.bool ((decide (1≤a0.fKind))&&(decide (a0.fKind≤3))))]∧τ=[.cells 0 (cellsGTree a0)]) ?_ ?_
 · refine yW 6 rfl (fun hg6=>?_) (fun hg6=>?_)
   · have t1:=eq_true hg6;refine rnN 4 ?_;refine zb ⟨rfl,_,_,⟨rfl,rfl⟩,.p t1⟩
   have t2:=eq_false hg6;refine rnN 4 ?_;refine zb ⟨rfl,_,_,⟨rfl,rfl⟩,.p t2⟩
 rintro _ _ ⟨rfl,rfl⟩;refine rnN 1 ?_;refine zq 4 (fun L τ=>L=[(1,.op 0 0 0),(15,.bool (((decide (1≤a0.fKind))&&(decide (a0.fKind≤3)))&&(decide (a0.fN=0))))]∧τ=[.cells 0 (cellsGTree a0)]) ?_ ?_
 · refine yf (b:=((decide (1≤a0.fKind))&&(decide (a0.fKind≤3)))) 11 rfl (fun hg11=>?_) (fun hg11=>?_)
   · refine rnN 4 ?_;refine zb ⟨rfl,_,_,⟨rfl,rfl⟩,.b hg11⟩
   refine rnN 4 ?_;refine zb ⟨rfl,_,_,⟨rfl,rfl⟩,.b hg11⟩
 rintro _ _ ⟨rfl,rfl⟩;refine rnN 1 ?_;refine zq 4 (fun L τ=>L=[(1,.op 0 0 0),(20,.bool ((((decide (1≤a0.fKind))&&(decide (a0.fKind≤3)))&&(decide (a0.fN=0)))&&(decide (a0.fS=[]))))]∧τ=[.cells 0 (cellsGTree a0)]) ?_ ?_
 · refine yf (b:=(((decide (1≤a0.fKind))&&(decide (a0.fKind≤3)))&&(decide (a0.fN=0)))) 16 rfl (fun hg16=>?_) (fun hg16=>?_)
   · refine rnN 4 ?_;refine zb ⟨rfl,_,_,⟨rfl,rfl⟩,.b hg16⟩
   refine rnN 4 ?_;refine zb ⟨rfl,_,_,⟨rfl,rfl⟩,.b hg16⟩
 rintro _ _ ⟨rfl,rfl⟩;refine rnN 1 ?_;refine zq 5 (fun L τ=>L=[(1,.op 0 0 0),(26,.bool (((((decide (1≤a0.fKind))&&(decide (a0.fKind≤3)))&&(decide (a0.fN=0)))&&(decide (a0.fS=[])))&&(decide ((qb a0.fEntries:Int)=0))))]∧τ=[.cells 0 (cellsGTree a0)]) ?_ ?_
 · refine yf (b:=((((decide (1≤a0.fKind))&&(decide (a0.fKind≤3)))&&(decide (a0.fN=0)))&&(decide (a0.fS=[])))) 21 rfl (fun hg21=>?_) (fun hg21=>?_)
   · refine rnN 5 ?_;refine zb ⟨rfl,_,_,⟨rfl,rfl⟩,.b hg21⟩
   refine rnN 5 ?_;refine zb ⟨rfl,_,_,⟨rfl,rfl⟩,.b hg21⟩
 rintro _ _ ⟨rfl,rfl⟩;refine rnN 1 ?_;refine zq 5 (fun L τ=>L=[(32,.bool ((((((decide (1≤a0.fKind))&&(decide (a0.fKind≤3)))&&(decide (a0.fN=0)))&&(decide (a0.fS=[])))&&(decide ((qb a0.fEntries:Int)=0)))&&(decide ((qb a0.fRest:Int)=0))))]∧τ=[.cells 0 (cellsGTree a0)]) ?_ ?_
 · refine yf (b:=(((((decide (1≤a0.fKind))&&(decide (a0.fKind≤3)))&&(decide (a0.fN=0)))&&(decide (a0.fS=[])))&&(decide ((qb a0.fEntries:Int)=0)))) 27 rfl (fun hg27=>?_) (fun hg27=>?_)
   · refine rnN 5 ?_;refine zb ⟨rfl,_,_,⟨rfl,rfl⟩,.b hg27⟩
   refine rnN 5 ?_;refine zb ⟨rfl,_,_,⟨rfl,rfl⟩,.b hg27⟩
 rintro _ _ ⟨rfl,rfl⟩;refine rnN 1 ?_;refine nkN hK ?_;cases h;exact rtA
theorem xQ.ev (a0:GTree)(r:Bool)(h:xQ a0=r)(σ:Store):ACalls qg 143 [.agg (cellsGTree a0)] σ (fun r' σ'=>r'=.bool r∧σ'=σ):=
 (xQ.ok a0 r h).c σ
def zP.j20 (x5:Int)(l4:List GRaw)(rec8:Int→List GRaw→Option (List GRaw))(y8:GRaw)(x15:Int)(rec17:Int→Option (List GRaw))(x19:Bool):Option (List GRaw):=
 (if x19=true then (rec17 (IntKind.i64.wrap (x15-1))) else (grd ((0:Int)≤IntKind.i64.wrap (x15+1)∧IntKind.i64.wrap (x15+1)≤x5+1∧x5+1≤(qb l4:Int))).bind fun _u22=>(grd ((0:Int)≤x15∧x15≤x5∧x5≤(qb l4:Int))).bind fun _u24=>(Zb (X0 l4 (qI (IntKind.i64.wrap (x15+1))) (qI x15) (min (qI x5-qI x15) (qI (x5+1)-qI (IntKind.i64.wrap (x15+1))))) x15).bind fun y28=>(rec8 (x5+1) (setI (X0 l4 (qI (IntKind.i64.wrap (x15+1))) (qI x15) (min (qI x5-qI x15) (qI (x5+1)-qI (IntKind.i64.wrap (x15+1))))) x15 y8)))
def zP.l17 (x5:Int)(l4:List GRaw)(rec8:Int→List GRaw→Option (List GRaw))(y8:GRaw):Nat→Int→Option (List GRaw)
 |0,_=>none
 |k17+1,x15=>(if 0<x15 then (Zb l4 (IntKind.i64.wrap (x15-1))).bind fun y33=>(zP.j20 x5 l4 rec8 y8 x15 (zP.l17 x5 l4 rec8 y8 k17) (decide (y8.fTag<y33.fTag))) else (zP.j20 x5 l4 rec8 y8 x15 (zP.l17 x5 l4 rec8 y8 k17) false))
def zP.l8 : List GRaw→Int→List GRaw→Option (List GRaw)
 |[],x5,l4=>some l4
 |y8::q8,x5,l4=>(zP.l17 x5 l4 (zP.l8 q8) y8 rounds x5)
def zP (a0:List GRaw):Option (List GRaw):=
 (grd ((0:Int)≤(qb a0:Int)∧(40:Int)*(qb a0:Int)≤281474976710656∧(qb a0:Int)<9223372036854775807)).bind fun _u1=>(zP.l8 a0 0 (qP (qI (qb a0:Int)) ((⟨0,0,0,[]⟩:GRaw):GRaw)))
theorem zP.ok (a0:List GRaw)(r:List GRaw)(h:zP a0=some r):ACalls qg 190 [.ds true (qd encGRaw a0) (qb a0) false] [] (fun r' _=>r'=.ds true (qd encGRaw r) (qb r) false):=by
 refine zh (rs:=[.tmp 2]) tok Tryz.func190 rfl Tryz.ntmps190 rfl Tryz.call190 (by simp) ?_;refine zl [(0,.ds true (qd encGRaw a0) (qb a0) false)] ⟨rfl,trivial⟩ ?_;unfold zP at h;refine rgN [0] ?_;obtain⟨_u1,hu1,h⟩:=bind_some h;have gu1:=Zn hu1;have f2:=E35.mk0 rfl (z:=((⟨0,0,0,[]⟩:GRaw):GRaw)) rfl rfl gu1 .i64 .i64
 refine rg tok [0,3] fun K hK=>?_
 simp only[go_sem,qc,qa,reduceCtorEq,f2];apply hK
 refine yn (L:=[(0,.ds true (qd encGRaw a0) (qb a0) false),(3,.os true 4 0 0 0 (qb (qP (qI (qb a0:Int)) ((⟨0,0,0,[]⟩:GRaw):GRaw))) true)]) (τ:=[.cells 0 (qd encGRaw (qP (qI (qb a0:Int)) ((⟨0,0,0,[]⟩:GRaw):GRaw)))]) .s ?_
 refine za fun Z3 hZ3=>?_
 refine rgN [3,10,11,12] ?_;apply ze
 refine yD 10 fun hb8=>?_
 replace hb8:qb a0≤9223372036854775807:=hb8.1;refine zF (fun m L τ=>∃ (p8 q8:List GRaw) (x5:Int) (l4:List GRaw),m=qb q8∧L=[(3,.os true 4 0 0 0 (qb l4) true),(10,.ds true (qd encGRaw a0) (qb a0) false),(11,.int .i64 (qb a0:Int)),(12,.int .i64 x5)]∧τ=[.cells 0 (qd encGRaw l4)]∧a0=p8++q8∧x5=(qb p8:Int)∧zP.l8 q8 x5 l4=some r) _ ⟨[],a0,0,qP (qI (qb a0:Int)) ((⟨0,0,0,[]⟩:GRaw):GRaw),rfl,rfl,rfl,rfl,rfl,h⟩ .s ?_;rintro m L τ ⟨p8,q8,x5,l4,rfl,rfl,rfl,hE8,hi8,h⟩
 rcases q8 with _|⟨y8,q8⟩
 · have hz8:=yH hE8 hi8;simp only[zP.l8] at h
   refine rg tok [3,10,11,12,13] fun K hK=>?_
   simp only[go_sem,qc,qa,hz8];apply hK
   refine za fun Z9 hZ9=>?_
   refine zp rfl ?_;apply zA;apply hZ3;refine rgN [2] ?_;cases h;exact rtA
 obtain⟨hz8,hw8,hx8,hE'8,hi'8⟩:=ya hE8 hi8 hb8;simp only[zP.l8] at h
 refine rg tok [3,10,11,12,13] fun K hK=>?_
 simp only[go_sem,qc,qa,hz8];apply hK
 refine za fun Z10 hZ10=>?_
 refine zs rfl ?_;apply zd;apply hZ10
 refine za fun Z11 hZ11=>?_
 apply ze;have f12:=E35.idxS hx8;have f13:=E35.loadS rfl rfl hx8
 refine rg tok [3,4,5,10,11,12] fun K hK=>?_
 simp only[go_sem,qc,qf,qa,qe,encGRaw,f12,f13];apply hK
 refine rgN [3,4,5,6,10,11,12] ?_
 refine za fun Z14 hZ14=>?_
 apply ze;refine zF (fun m L τ=>∃ (k17:Nat) (x15:Int),m=0+k17∧L=[(3,.os true 4 0 0 0 (qb l4) true),(4,.int .i64 x5),(5,.op 1 0 0),(6,.int .i64 x15),(10,.ds true (qd encGRaw a0) (qb a0) false),(11,.int .i64 (qb a0:Int)),(12,.int .i64 x5)]∧τ=[.cells 0 (qd encGRaw l4),.cells 0 [.int .i64 y8.fTag,.int .i64 y8.fWire,.int .i64 y8.fN,.str y8.fB]]∧zP.l17 x5 l4 (zP.l8 q8) y8 k17 x15=some r) _ ⟨rounds,x5,rfl,rfl,rfl,h⟩ .s ?_;rintro m L τ ⟨k17,x15,rfl,rfl,rfl,h⟩
 rcases k17 with _|k17
 · cases h
 simp only[zP.l17] at h
 refine za fun Z18 hZ18=>?_
 refine yU (fun L τ=>∃ (x19:Bool),L=[(3,.os true 4 0 0 0 (qb l4) true),(4,.int .i64 x5),(5,.op 1 0 0),(6,.int .i64 x15),(10,.ds true (qd encGRaw a0) (qb a0) false),(11,.int .i64 (qb a0:Int)),(12,.int .i64 x5),(30,.bool x19)]∧τ=[.cells 0 (qd encGRaw l4),.cells 0 [.int .i64 y8.fTag,.int .i64 y8.fWire,.int .i64 y8.fN,.str y8.fB]]∧zP.j20 x5 l4 (zP.l8 q8) y8 x15 (zP.l17 x5 l4 (zP.l8 q8) y8 k17) x19=some r) ?_ ?_
 · refine rdE [3,4,5,6,10,11,12,30] fun K hK=>?_
   refine DW.start (T:=tab) [.any,.any,.any,.any,.any,.any,.any,.any,.at [],.any,.at [],.any,.any] [] ?_;refine DW.runN tok 3 ?_;simp only[go_sem,qc,qa]
   refine DW.if 20 rfl (fun hg20=>?_) (fun hg20=>?_)
   · rw[if_pos hg20] at h;have t32:=eq_true hg20;obtain⟨y33,hy33,h⟩:=bind_some h;have f34:=E35.idxO hy33;have f35:=E35.rdfO0 hy33;refine DW.runN tok 8 ?_;simp only[go_sem,qc,qa,qe,encGRaw,t32,f34,f35];refine DW.runN tok 2 ?_;simp only[go_sem,qc,qa];refine DW.fin tok (by decide +kernel) rfl ?_;simp only[zf,upd,qa,reduceIte,zV,yz];apply hK
     exact⟨_,_,⟨decide (y8.fTag<y33.fTag),rfl,rfl,h⟩,.s⟩
   rw[if_neg hg20] at h;have t36:=eq_false hg20;refine DW.runN tok 8 ?_;simp only[go_sem,qc,qa,t36];refine DW.runN tok 2 ?_;simp only[go_sem,qc,qa];refine DW.fin tok (by decide +kernel) rfl ?_;simp only[zf,upd,qa,reduceIte,zV,yz];apply hK
   exact⟨_,_,⟨false,rfl,rfl,h⟩,.s⟩
 rintro _ _ ⟨x19,rfl,rfl,h⟩;unfold zP.j20 at h;refine zv (b:=x19) rfl (fun hc21=>?_) (fun hc21=>?_)
 · rw[if_pos hc21] at h;apply zd;apply hZ18;apply ze
   refine rgE tok [3,4,5,6,10,11,12] fun K hK=>?_
   simp only[go_sem,qc,qa];apply hK
   exact⟨_,_,_,qy (0+k17),⟨k17,IntKind.i64.wrap (x15-1),rfl,rfl,rfl,h⟩,.s⟩
 rw[wb hc21] at h;apply zA;apply hZ14;obtain⟨_u22,hu22,h⟩:=bind_some h;have gu22:=Zn hu22
 have f23:=fun id ver=>E35.slO gu22 .i64 .i64 id ver true
 obtain⟨_u24,hu24,h⟩:=bind_some h;have gu24:=Zn hu24
 have f25:=fun id ver=>E35.slO gu24 .i64 .i64 id ver true
 have f26:=fun (τ:Store) (t1 t2:Bool)=>E35.cpO YQ.h gu22 gu24 t1 t2 (.cells 0 (qd encGRaw l4)::τ) 0 0 (by simp only[Store.at_hd,if_true]) rfl
 have f27:qb (X0 l4 (qI (IntKind.i64.wrap (x15+1))) (qI x15) (min (qI x5-qI x15) (qI (x5+1)-qI (IntKind.i64.wrap (x15+1)))))=qb l4:=copyI_length (by omega) (by omega)
 refine rd [3,5,6,10,11,12] fun K hK=>?_
 refine DW.start (T:=tab) [.any,.any,.any,.any,.any,.any,.any,.any,.any,.any,.eff] [] ?_;refine DW.runN tok 8 ?_;simp only[go_sem,qc,qa,hw8,f23];refine DW.runN tok 3 ?_;simp only[go_sem,qc,qa,f25,f26];refine DW.fin tok (by decide +kernel) rfl ?_;simp only[zf,upd,qa,reduceIte,zV,yz];apply hK
 refine yn (L:=[(3,.os true 4 0 0 0 (qb (X0 l4 (qI (IntKind.i64.wrap (x15+1))) (qI x15) (min (qI x5-qI x15) (qI (x5+1)-qI (IntKind.i64.wrap (x15+1)))))) true),(5,.op 1 0 0),(6,.int .i64 x15),(10,.ds true (qd encGRaw a0) (qb a0) false),(11,.int .i64 (qb a0:Int)),(12,.int .i64 x5)]) (τ:=[.cells 0 (qd encGRaw (X0 l4 (qI (IntKind.i64.wrap (x15+1))) (qI x15) (min (qI x5-qI x15) (qI (x5+1)-qI (IntKind.i64.wrap (x15+1)))))),.cells 0 [.int .i64 y8.fTag,.int .i64 y8.fWire,.int .i64 y8.fN,.str y8.fB]]) (.same (by first|exact⟨rfl,rfl,rfl,rfl,rfl,rfl,trivial⟩|rfl|(simp only[go_sem,qa,Fits,f27,and_self]<;>rfl)) (by first|exact⟨rfl,rfl,rfl,rfl,rfl,rfl,trivial⟩|rfl|(simp only[go_sem,qc,qf,qa,qe,ql,qs,reduceIte,reduceCtorEq,Fits,encB,encI,encS,encK,ZM,q5,qS,uj,qH,qK,qj,qk,qr,qn,qv,qM,Nat.add_assoc,encGRaw,f27,and_self]<;>rfl))) ?_;obtain⟨y28,hy28,h⟩:=bind_some h;have f29:=E35.idxO hy28;have f30:=E35.stOc hy28;have f31:=E35.stOr hy28 (y:=y8) (cs:=[.int .i64 y8.fTag,.int .i64 y8.fWire,.int .i64 y8.fN,.str y8.fB]) rfl;simp only[xm] at f31
 refine rgE tok [3,10,11,12] fun K hK=>?_
 simp only[go_sem,qc,qf,qa,qe,f29,f30,f31];apply hK
 apply hZ11
 refine rgE tok [3,10,11,12] fun K hK=>?_
 simp only[go_sem,qc,qa,hw8];apply hK
 exact⟨_,_,_,qy q8.length,⟨p8++[y8],q8,x5+1,setI (X0 l4 (qI (IntKind.i64.wrap (x15+1))) (qI x15) (min (qI x5-qI x15) (qI (x5+1)-qI (IntKind.i64.wrap (x15+1))))) x15 y8,rfl,rfl,rfl,hE'8,hi'8,h⟩,(.t [0] false)⟩
theorem zP.ev (a0:List GRaw)(r:List GRaw)(h:zP a0=some r)(σ:Store):ACalls qg 190 [.ds true (qd encGRaw a0) (qb a0) false] σ (fun r' σ'=>r'=.ds true (qd encGRaw r) (qb r) false∧σ'=σ):=
 (zP.ok a0 r h).c σ
def xG.l12 (a1:Int):List UInt8→Int→Int→Option (Int×Int×Int)
 |[],x9,x8=>some (0,0,2)
 |y12::q12,x9,x8=>(if ((decide (x9=9))&&(decide (1<(y12.toNat:Int))))=true then some (0,0,3) else (grd (0≤IntKind.i64.wrap (7*x9))).bind fun _u23=>(if 128≤(y12.toNat:Int) then ((xG.l12 a1 q12) (x9+1) (IntKind.u64.wrap ((um (qD 64 x8 ||| qD 64 (IntKind.u64.wrap ((IntKind.u64.wrap (IntKind.u8.wrap ((um (qD 8 (y12.toNat:Int) &&& ~~~(qD 8 128)):Nat):Int)))*2^(min (qI (IntKind.i64.wrap (7*x9))) 64)))):Nat):Int))) else (if ((decide ((y12.toNat:Int)=0))&&(decide (0<x9)))=true then some (0,0,3) else some (IntKind.u64.wrap ((um (qD 64 x8 ||| qD 64 (IntKind.u64.wrap ((IntKind.u64.wrap (IntKind.u8.wrap ((um (qD 8 (y12.toNat:Int) &&& ~~~(qD 8 128)):Nat):Int)))*2^(min (qI (IntKind.i64.wrap (7*x9))) 64)))):Nat):Int),IntKind.i64.wrap ((IntKind.i64.wrap (a1+x9))+1),0))))
def xG (a0:List UInt8)(a1:Int):Option (Int×Int×Int):=
 (if ((decide (a1<0))||(decide ((qb a0:Int)<a1)))=true then some (0,0,1) else (grd ((0:Int)≤a1∧a1≤IntKind.i64.wrap (a1+(if 10<IntKind.i64.wrap ((qb a0:Int)-a1) then 10 else IntKind.i64.wrap ((qb a0:Int)-a1)))∧IntKind.i64.wrap (a1+(if 10<IntKind.i64.wrap ((qb a0:Int)-a1) then 10 else IntKind.i64.wrap ((qb a0:Int)-a1)))≤(qb a0:Int))).bind fun _u6=>(xG.l12 a1 (vaK a0 a1 (IntKind.i64.wrap (a1+(if 10<IntKind.i64.wrap ((qb a0:Int)-a1) then 10 else IntKind.i64.wrap ((qb a0:Int)-a1))))) 0 0))
theorem xG.ok (a0:List UInt8)(a1:Int)(r:Int×Int×Int)(h:xG a0 a1=some r):ACalls qg 245 [.ds true (qd encB a0) (qb a0) false,.int .i64 a1] [] (fun r' _=>r'=.tup [.int .u64 r.1,.int .i64 r.2.1,.int .i64 r.2.2]):=by
 refine zh (rs:=[.tmp 4,.tmp 5,.tmp 6]) tok Tryz.func245 rfl Tryz.ntmps245 rfl Tryz.call245 (by simp) ?_;refine zl [(0,.ds true (qd encB a0) (qb a0) false),(1,.int .i64 a1)] ⟨rfl,rfl,trivial⟩ ?_;unfold xG at h;refine rgN [0,1] ?_
 refine za fun Z1 hZ1=>?_
 refine rc [0,1,17] fun K hK=>?_
 refine rnN 3 ?_;refine zq 5 (fun L τ=>L=[(0,.ds true (qd encB a0) (qb a0) false),(1,.int .i64 a1),(17,.bool ((decide (a1<0))||(decide ((qb a0:Int)<a1))))]∧τ=[]) ?_ ?_
 · refine yW 12 rfl (fun hg12=>?_) (fun hg12=>?_)
   · have t2:=eq_true hg12;refine rnN 5 ?_;refine zb ⟨rfl,_,_,⟨rfl,rfl⟩,.p t2⟩
   have t3:=eq_false hg12;refine rnN 5 ?_;refine zb ⟨rfl,_,_,⟨rfl,rfl⟩,.p t3⟩
 rintro _ _ ⟨rfl,rfl⟩;refine nkN hK ?_;refine zv (b:=((decide (a1<0))||(decide ((qb a0:Int)<a1)))) rfl (fun hc4=>?_) (fun hc4=>?_)
 · rw[if_pos hc4] at h;refine rgN [4,5,6] ?_;cases h;exact rtA
 rw[wb hc4] at h;apply zd;apply hZ1;refine rgN [0,1,7] ?_
 refine za fun Z5 hZ5=>?_
 obtain⟨_u6,hu6,h⟩:=bind_some h;have gu6:=Zn hu6;have f7:=E48.sl_lh gu6
 refine rg tok [1,7,27,28,29] fun K hK=>?_
 simp only[go_sem,qc,qa,reduceCtorEq,XL,vb7,vax,f7];apply hK
 apply ze
 refine yD 27 fun hb12=>?_
 replace hb12:qb (vaK a0 a1 (IntKind.i64.wrap (a1+(if 10<IntKind.i64.wrap ((qb a0:Int)-a1) then 10 else IntKind.i64.wrap ((qb a0:Int)-a1)))))≤9223372036854775807:=hb12.1;refine zF (fun m L τ=>∃ (p12 q12:List UInt8) (x9:Int) (x8:Int),m=qb q12∧L=[(1,.int .i64 a1),(7,.int .u64 x8),(27,.ds true (qd encB (vaK a0 a1 (IntKind.i64.wrap (a1+(if 10<IntKind.i64.wrap ((qb a0:Int)-a1) then 10 else IntKind.i64.wrap ((qb a0:Int)-a1)))))) (qb (vaK a0 a1 (IntKind.i64.wrap (a1+(if 10<IntKind.i64.wrap ((qb a0:Int)-a1) then 10 else IntKind.i64.wrap ((qb a0:Int)-a1)))))) false),(28,.int .i64 (qb (vaK a0 a1 (IntKind.i64.wrap (a1+(if 10<IntKind.i64.wrap ((qb a0:Int)-a1) then 10 else IntKind.i64.wrap ((qb a0:Int)-a1))))):Int)),(29,.int .i64 x9)]∧τ=[]∧vaK a0 a1 (IntKind.i64.wrap (a1+(if 10<IntKind.i64.wrap ((qb a0:Int)-a1) then 10 else IntKind.i64.wrap ((qb a0:Int)-a1))))=p12++q12∧x9=(qb p12:Int)∧xG.l12 a1 q12 x9 x8=some r) _ ⟨[],vaK a0 a1 (IntKind.i64.wrap (a1+(if 10<IntKind.i64.wrap ((qb a0:Int)-a1) then 10 else IntKind.i64.wrap ((qb a0:Int)-a1)))),0,0,rfl,rfl,rfl,rfl,rfl,h⟩ .s ?_;rintro m L τ ⟨p12,q12,x9,x8,rfl,rfl,rfl,hE12,hi12,h⟩
 rcases q12 with _|⟨y12,q12⟩
 · have hz12:=yH hE12 hi12;simp only[xG.l12] at h
   refine rg tok [1,7,27,28,29,30] fun K hK=>?_
   simp only[go_sem,qc,qa,hz12];apply hK
   refine za fun Z13 hZ13=>?_
   refine zp rfl ?_;apply zA;apply hZ5;refine rgN [4,5,6] ?_;cases h;exact rtA
 obtain⟨hz12,hw12,hx12,hE'12,hi'12⟩:=ya hE12 hi12 hb12;simp only[xG.l12] at h
 refine rg tok [1,7,27,28,29,30] fun K hK=>?_
 simp only[go_sem,qc,qa,hz12];apply hK
 refine za fun Z14 hZ14=>?_
 refine zs rfl ?_;apply zd;apply hZ14
 refine za fun Z15 hZ15=>?_
 apply ze;have f16:=E48.idxS hx12;have f17:=E48.fldS0 (f:=5) rfl rfl hx12
 refine rg tok [1,7,8,9,27,28,29] fun K hK=>?_
 simp only[go_sem,qc,qa,encB,f16,f17];apply hK
 refine za fun Z18 hZ18=>?_
 refine rc [1,7,8,9,27,28,29,39] fun K hK=>?_
 refine rnN 3 ?_;refine zq 3 (fun L τ=>L=[(1,.int .i64 a1),(7,.int .u64 x8),(8,.int .i64 x9),(9,.int .u8 (y12.toNat:Int)),(27,.ds true (qd encB (vaK a0 a1 (IntKind.i64.wrap (a1+(if 10<IntKind.i64.wrap ((qb a0:Int)-a1) then 10 else IntKind.i64.wrap ((qb a0:Int)-a1)))))) (qb (vaK a0 a1 (IntKind.i64.wrap (a1+(if 10<IntKind.i64.wrap ((qb a0:Int)-a1) then 10 else IntKind.i64.wrap ((qb a0:Int)-a1)))))) false),(28,.int .i64 (qb (vaK a0 a1 (IntKind.i64.wrap (a1+(if 10<IntKind.i64.wrap ((qb a0:Int)-a1) then 10 else IntKind.i64.wrap ((qb a0:Int)-a1))))):Int)),(29,.int .i64 x9),(39,.bool ((decide (x9=9))&&(decide (1<(y12.toNat:Int)))))]∧τ=[]) ?_ ?_
 · refine yW 36 rfl (fun hg36=>?_) (fun hg36=>?_)
   · have t19:=eq_true hg36;refine rnN 3 ?_;refine zb ⟨rfl,_,_,⟨rfl,rfl⟩,.p t19⟩
   have t20:=eq_false hg36;refine rnN 3 ?_;refine zb ⟨rfl,_,_,⟨rfl,rfl⟩,.p t20⟩
 rintro _ _ ⟨rfl,rfl⟩;refine nkN hK ?_;refine zv (b:=((decide (x9=9))&&(decide (1<(y12.toNat:Int))))) rfl (fun hc21=>?_) (fun hc21=>?_)
 · rw[if_pos hc21] at h;refine rgN [4,5,6] ?_;cases h;exact rtA
 rw[wb hc21] at h;apply zd;apply hZ18;have f22:=xU (T:=tab) (src:=5) (dst:=287) rfl rfl rfl;obtain⟨_u23,hu23,h⟩:=bind_some h;have gu23:=Zn hu23;have gu23n:(IntKind.i64.wrap (7*x9)<0)=False:=eq_false (by omega)
 refine rg tok [1,7,8,9,27,28,29] fun K hK=>?_
 simp only[go_sem,qc,qa,f22,gu23n,YP];apply hK
 refine za fun Z24 hZ24=>?_
 refine rgN [1,7,8,9,27,28,29,49] ?_;refine zL rfl (fun hc25=>?_) (fun hc25=>?_)
 · rw[if_pos hc25] at h;have t26:=eq_true hc25;apply zA;apply hZ15
   refine rgE tok [1,7,27,28,29] fun K hK=>?_
   simp only[go_sem,qc,qa,hw12,t26];apply hK
   exact⟨_,_,_,qy q12.length,⟨p12++[y12],q12,x9+1,IntKind.u64.wrap ((um (qD 64 x8 ||| qD 64 (IntKind.u64.wrap ((IntKind.u64.wrap (IntKind.u8.wrap ((um (qD 8 (y12.toNat:Int) &&& ~~~(qD 8 128)):Nat):Int)))*2^(min (qI (IntKind.i64.wrap (7*x9))) 64)))):Nat):Int),rfl,rfl,rfl,hE'12,hi'12,h⟩,.s⟩
 rw[if_neg hc25] at h;have t27:=eq_false hc25;apply zd;apply hZ24
 refine za fun Z28 hZ28=>?_
 refine rc [1,7,8,55] fun K hK=>?_
 refine zj tok 3 ?_;simp only[go_sem,qc,qa,t27];refine zq 3 (fun L τ=>L=[(1,.int .i64 a1),(7,.int .u64 (IntKind.u64.wrap ((um (qD 64 x8 ||| qD 64 (IntKind.u64.wrap ((IntKind.u64.wrap (IntKind.u8.wrap ((um (qD 8 (y12.toNat:Int) &&& ~~~(qD 8 128)):Nat):Int)))*2^(min (qI (IntKind.i64.wrap (7*x9))) 64)))):Nat):Int))),(8,.int .i64 x9),(55,.bool ((decide ((y12.toNat:Int)=0))&&(decide (0<x9))))]∧τ=[]) ?_ ?_
 · refine yW 52 rfl (fun hg52=>?_) (fun hg52=>?_)
   · have t29:=eq_true hg52;refine rnN 3 ?_;refine zb ⟨rfl,_,_,⟨rfl,rfl⟩,.p t29⟩
   have t30:=eq_false hg52;refine rnN 3 ?_;refine zb ⟨rfl,_,_,⟨rfl,rfl⟩,.p t30⟩
 rintro _ _ ⟨rfl,rfl⟩;refine nkN hK ?_;refine zv (b:=((decide ((y12.toNat:Int)=0))&&(decide (0<x9)))) rfl (fun hc31=>?_) (fun hc31=>?_)
 · rw[if_pos hc31] at h;refine rgN [4,5,6] ?_;cases h;exact rtA
 rw[wb hc31] at h;apply zd;apply hZ28;refine rgN [4,5,6] ?_;cases h;exact rtA
end
section
set_option maxRecDepth 4000
set_option maxHeartbeats 1000000
open AM
theorem xG.ev (a0:List UInt8)(a1:Int)(r:Int×Int×Int)(h:xG a0 a1=some r)(σ:Store):ACalls qg 245 [.ds true (qd encB a0) (qb a0) false,.int .i64 a1] σ (fun r' σ'=>r'=.tup [.int .u64 r.1,.int .i64 r.2.1,.int .i64 r.2.2]∧σ'=σ):=
 (xG.ok a0 a1 r h).c σ
def ZT (a0:Int):Int:=
 IntKind.i64.wrap ((um (qD 64 (IntKind.i64.wrap (Int.fdiv a0 (2^(min (qI 1) 64)))) ^^^ qD 64 (IntKind.i64.wrap (0-(IntKind.i64.wrap (IntKind.u64.wrap ((um (qD 64 a0 &&& qD 64 1):Nat):Int)))))):Nat):Int)
theorem ZT.ok (a0:Int)(r:Int)(h:ZT a0=r):ACalls qg 246 [.int .u64 a0] [] (fun r' _=>r'=.int .i64 r):=by
 refine zh (rs:=[.tmp 2]) tok Tryz.func246 rfl Tryz.ntmps246 rfl Tryz.call246 (by simp) ?_;refine zl [(0,.int .u64 a0)] ⟨rfl,trivial⟩ ?_;unfold ZT at h;refine rgN [0] ?_;have f1:=xU (T:=tab) (src:=287) (dst:=3) rfl rfl rfl;have f2:=xU (T:=tab) (src:=287) (dst:=3) rfl rfl rfl
 refine rg tok [2] fun K hK=>?_
 simp only[go_sem,qc,qa,reduceCtorEq,f1,YP,Int.reduceLT];apply hK
 cases h;exact rtA
theorem ZT.ev (a0:Int)(r:Int)(h:ZT a0=r)(σ:Store):ACalls qg 246 [.int .u64 a0] σ (fun r' σ'=>r'=.int .i64 r∧σ'=σ):=
 (ZT.ok a0 r h).c σ
def wU (a0:List UInt8)(a1:Int):Option (GRaw×Int×Int):=
 (xG a0 a1).bind fun r1=>(if r1.2.2=0 then (if ((decide (r1.1<2))||(decide (500<IntKind.u64.wrap ((r1.1).tdiv 2))))=true then some ((⟨0,0,0,[]⟩:GRaw),0,7) else (xG a0 r1.2.1).bind fun r11=>(if r11.2.2=0 then (if IntKind.i64.wrap ((r1.1).tmod 2)=0 then bnd (ZT r11.1) fun r18=>some ((⟨IntKind.i64.wrap (IntKind.u64.wrap ((r1.1).tdiv 2)),IntKind.i64.wrap ((r1.1).tmod 2),r18,[]⟩:GRaw),r11.2.1,0) else (if IntKind.u64.wrap (IntKind.i64.wrap ((qb a0:Int)-r11.2.1))<r11.1 then some ((⟨0,0,0,[]⟩:GRaw),0,2) else (grd ((0:Int)≤r11.2.1∧r11.2.1≤IntKind.i64.wrap (r11.2.1+(IntKind.i64.wrap r11.1))∧IntKind.i64.wrap (r11.2.1+(IntKind.i64.wrap r11.1))≤(qb a0:Int))).bind fun _u25=>some ((⟨IntKind.i64.wrap (IntKind.u64.wrap ((r1.1).tdiv 2)),IntKind.i64.wrap ((r1.1).tmod 2),0,vaK a0 r11.2.1 (IntKind.i64.wrap (r11.2.1+(IntKind.i64.wrap r11.1)))⟩:GRaw),IntKind.i64.wrap (r11.2.1+(IntKind.i64.wrap r11.1)),0))) else some ((⟨0,0,0,[]⟩:GRaw),0,r11.2.2))) else some ((⟨0,0,0,[]⟩:GRaw),0,r1.2.2))
theorem wU.ok (a0:List UInt8)(a1:Int)(r:GRaw×Int×Int)(h:wU a0 a1=some r):ACalls qg 231 [.ds true (qd encB a0) (qb a0) false,.int .i64 a1] [] (fun r' _=>r'=.tup [.agg (encGRaw r.1),.int .i64 r.2.1,.int .i64 r.2.2]):=by
 refine zh (rs:=[.cell 4 139,.tmp 5,.tmp 6]) tok Tryz.func231 rfl Tryz.ntmps231 rfl Tryz.call231 (by simp) ?_;refine zl [(0,.ds true (qd encB a0) (qb a0) false),(1,.int .i64 a1)] ⟨rfl,rfl,trivial⟩ ?_;unfold wU at h;refine rgN [0,1,4] ?_
 refine rc [0,1,4,7,8] fun K hK=>?_
 obtain⟨r1,hr1,h⟩:=bind_some h;refine rnN 2 ?_;refine clN rfl rfl rfl (xG.ev a0 a1 r1 hr1 _) ?_;refine rnN 7 ?_;refine nkN hK ?_
 refine za fun Z2 hZ2=>?_
 apply ze;refine rgN [0,1,4,7,8,19] ?_;refine zL rfl (fun hc3=>?_) (fun hc3=>?_)
 · rw[if_neg hc3] at h;have t4:=eq_false hc3
   refine rg tok [4,5,6] fun K hK=>?_
   simp only[go_sem,qc,qf,qa,qe,reduceCtorEq,t4];apply hK
   cases h;exact rtA
 rw[if_pos hc3] at h;have t5:=eq_true hc3
 refine rc [0,1,4,7,24] fun K hK=>?_
 refine zj tok 3 ?_;simp only[go_sem,qc,qa,reduceCtorEq,t5];refine zq 4 (fun L τ=>L=[(0,.ds true (qd encB a0) (qb a0) false),(1,.int .i64 r1.2.1),(4,.op 0 0 0),(7,.int .u64 r1.1),(31,.bool ((decide (r1.1<2))||(decide (500<IntKind.u64.wrap ((r1.1).tdiv 2)))))]∧τ=[.cells 0 [.int .i64 0,.int .i64 0,.int .i64 0,.str []]]) ?_ ?_
 · refine yW 27 rfl (fun hg27=>?_) (fun hg27=>?_)
   · have t6:=eq_true hg27;refine rnN 4 ?_;refine zb ⟨rfl,_,_,⟨rfl,rfl⟩,.p t6⟩
   have t7:=eq_false hg27;refine zj tok 4 ?_;simp only[go_sem,qc,qa,reduceCtorEq,Int.reduceEq];refine zb ⟨rfl,_,_,⟨rfl,rfl⟩,.p t7⟩
 rintro _ _ ⟨rfl,rfl⟩;refine rnN 1 ?_;refine nkN hK ?_;refine zv (b:=((decide (r1.1<2))||(decide (500<IntKind.u64.wrap ((r1.1).tdiv 2))))) rfl (fun hc8=>?_) (fun hc8=>?_)
 · rw[if_pos hc8] at h;refine rgN [4,5,6] ?_;cases h;exact rtA
 rw[wb hc8] at h;apply zd;apply hZ2;have f9:=xU (T:=tab) (src:=287) (dst:=3) rfl rfl rfl;have f10:=xU (T:=tab) (src:=287) (dst:=3) rfl rfl rfl
 refine rg tok [0,1,4,9] fun K hK=>?_
 simp only[go_sem,qc,qf,qa,qe,reduceCtorEq,f9,Int.reduceEq];apply hK
 refine rc [0,1,4,8,9,10] fun K hK=>?_
 obtain⟨r11,hr11,h⟩:=bind_some h;refine rnN 2 ?_;refine clN rfl rfl rfl (xG.ev a0 r1.2.1 r11 hr11 _) ?_;refine rnN 7 ?_;refine nkN hK ?_
 refine za fun Z12 hZ12=>?_
 apply ze;refine rgN [0,1,4,8,9,10,47] ?_;refine zL rfl (fun hc13=>?_) (fun hc13=>?_)
 · rw[if_neg hc13] at h;have t14:=eq_false hc13
   refine rg tok [4,5,6] fun K hK=>?_
   simp only[go_sem,qc,qf,qa,qe,reduceCtorEq,t14];apply hK
   cases h;exact rtA
 rw[if_pos hc13] at h;have t15:=eq_true hc13
 refine rg tok [0,1,4,9,10,52] fun K hK=>?_
 simp only[go_sem,qc,qa,qe,reduceCtorEq,t15];apply hK
 refine zL rfl (fun hc16=>?_) (fun hc16=>?_)
 · rw[if_pos hc16] at h;have t17:=eq_true hc16
   refine rc [1,4,9] fun K hK=>?_
   obtain⟨r18,hr18,h⟩:=zD h;refine zj tok 1 ?_;simp only[go_sem,qc,qa,reduceCtorEq,t17];refine clN rfl rfl rfl (ZT.ev r11.1 r18 hr18 _) ?_;refine zj tok 2 ?_;simp only[go_sem,qc,qf,qa,qe,reduceCtorEq,encGRaw];refine nkN hK ?_;refine rgN [4,5,6] ?_;cases h;exact rtA
 rw[if_neg hc16] at h;have t19:=eq_false hc16;have f20:=xU (T:=tab) (src:=3) (dst:=287) rfl rfl rfl
 refine rg tok [0,1,4,9,10,61] fun K hK=>?_
 simp only[go_sem,qc,qa,reduceCtorEq,t19,f20];apply hK
 refine zL rfl (fun hc21=>?_) (fun hc21=>?_)
 · rw[if_pos hc21] at h;have t22:=eq_true hc21
   refine rg tok [4,5,6] fun K hK=>?_
   simp only[go_sem,qc,qf,qa,qe,reduceCtorEq,t22];apply hK
   cases h;exact rtA
 rw[if_neg hc21] at h;have t23:=eq_false hc21;apply zd;apply hZ12;have f24:=xU (T:=tab) (src:=287) (dst:=3) rfl rfl rfl
 refine rg tok [0,1,4,9,11] fun K hK=>?_
 simp only[go_sem,qc,qa,reduceCtorEq,t23,f24];apply hK
 obtain⟨_u25,hu25,h⟩:=bind_some h;have gu25:=Zn hu25;have f26:=E48.sl_lh gu25;have f27:=XW (T:=tab) (src:=48) (dst:=9) rfl rfl rfl rfl rfl rfl (vaK a0 r11.2.1 (IntKind.i64.wrap (r11.2.1+(IntKind.i64.wrap r11.1))))
 refine rg tok [4,9,11] fun K hK=>?_
 simp only[go_sem,qc,qf,qa,qe,reduceCtorEq,f26,f27];apply hK
 refine rgN [4,5,6] ?_;cases h;exact rtA
theorem wU.ev (a0:List UInt8)(a1:Int)(r:GRaw×Int×Int)(h:wU a0 a1=some r)(σ:Store):ACalls qg 231 [.ds true (qd encB a0) (qb a0) false,.int .i64 a1] σ (fun r' σ'=>r'=.tup [.agg (encGRaw r.1),.int .i64 r.2.1,.int .i64 r.2.2]∧σ'=σ):=
 (wU.ok a0 a1 r h).c σ
def xE.l12 (a0:List UInt8):Nat→List GRaw→Int→Option (List GRaw×Int)
 |0,_,_=>none
 |k12+1,l6,x8=>(if x8<(qb a0:Int) then (wU a0 x8).bind fun r16=>(if r16.2.2=0 then (YJ (qb l6+1) 40).bind fun _u21=>((xE.l12 a0 k12) (l6++[r16.1]) r16.2.1) else some (([]:List GRaw),r16.2.2)) else some (l6,0))
def xE (a0:List UInt8):Option (List GRaw×Int):=
 (if 4096<(qb a0:Int) then some (([]:List GRaw),4) else (xE.l12 a0 rounds ([]:List GRaw) 0))
theorem xE.ok (a0:List UInt8)(r:List GRaw×Int)(h:xE a0=some r):ACalls qg 193 [.ds true (qd encB a0) (qb a0) false] [] (fun r' _=>r'=.tup [.ds true (qd encGRaw r.1) (qb r.1) false,.int .i64 r.2]):=by
 refine zh (rs:=[.tmp 2,.tmp 3]) tok Tryz.func193 rfl Tryz.ntmps193 rfl Tryz.call193 (by simp) ?_;refine zl [(0,.ds true (qd encB a0) (qb a0) false)] ⟨rfl,trivial⟩ ?_;unfold xE at h;refine rgN [0] ?_
 refine za fun Z1 hZ1=>?_
 refine rgN [0,11] ?_;refine zL rfl (fun hc2=>?_) (fun hc2=>?_)
 · rw[if_pos hc2] at h;have t3:=eq_true hc2
   refine rg tok [2,3] fun K hK=>?_
   simp only[go_sem,qc,qa,reduceCtorEq,t3];apply hK
   cases h;exact rtA
 rw[if_neg hc2] at h;have t4:=eq_false hc2;apply zd;apply hZ1
 refine rg tok [0,4] fun K hK=>?_
 simp only[go_sem,qc,qa,reduceCtorEq,t4];apply hK
 refine Zt 4 4 rfl ?_;refine yn (L:=[(0,.ds true (qd encB a0) (qb a0) false),(4,.os true 4 0 0 0 (qb ([]:List GRaw)) false)]) (τ:=[.cells 0 (qd encGRaw ([]:List GRaw))]) .s ?_
 refine za fun Z5 hZ5=>?_
 refine rgN [0,4,5] ?_;apply ze;refine zF (fun m L τ=>∃ (k12:Nat) (l6:List GRaw) (x8:Int) (v7:Nat),m=0+k12∧L=[(0,.ds true (qd encB a0) (qb a0) false),(4,.os true 4 0 v7 0 (qb l6) false),(5,.int .i64 x8)]∧τ=[.cells v7 (qd encGRaw l6)]∧xE.l12 a0 k12 l6 x8=some r) _ ⟨rounds,([]:List GRaw),0,0,rfl,rfl,rfl,h⟩ .s ?_;rintro m L τ ⟨k12,l6,x8,v7,rfl,rfl,rfl,h⟩
 rcases k12 with _|k12
 · cases h
 simp only[xE.l12] at h
 refine za fun Z13 hZ13=>?_
 refine rgN [0,4,5,15] ?_;refine zL rfl (fun hc14=>?_) (fun hc14=>?_)
 · rw[if_pos hc14] at h;have t15:=eq_true hc14;apply zd;apply hZ13;apply ze
   refine rc [0,4,6,7,8] fun K hK=>?_
   obtain⟨r16,hr16,h⟩:=bind_some h;refine zj tok 2 ?_;simp only[go_sem,qc,qa,reduceCtorEq,t15];refine clN rfl rfl rfl (wU.ev a0 x8 r16 hr16 _) ?_;refine zj tok 8 ?_;simp only[go_sem,qc,qf,qa,qe,reduceCtorEq,encGRaw];refine nkN hK ?_
   refine za fun Z17 hZ17=>?_
   refine rgN [0,4,6,7,8,24] ?_;refine zL rfl (fun hc18=>?_) (fun hc18=>?_)
   · rw[if_neg hc18] at h;have t19:=eq_false hc18
     refine rg tok [2,3] fun K hK=>?_
     simp only[go_sem,qc,qa,reduceCtorEq,t19];apply hK
     cases h;exact rtA
   rw[if_pos hc18] at h;have t20:=eq_true hc18;apply zd;apply hZ17;obtain⟨_u21,hu21,h⟩:=bind_some h;have gu21:=yF hu21;have f22:=(zy E35.len l6)
   refine rg tok [0,4,7] fun K hK=>?_
   simp only[go_sem,qc,qf,qa,qe,ql,reduceCtorEq,zM,z8,q1,qT,true_and,ub,yx,zY,yC,t20,gu21,f22,yS,uc,qZ,AV.one,qO,qK,qk,qr,qn,qM];apply hK
   refine yn (L:=[(0,.ds true (qd encB a0) (qb a0) false),(4,.os true 4 0 (v7+1) 0 (qb (l6++[r16.1])) false),(7,.int .i64 r16.2.1)]) (τ:=[.cells (v7+1) (qd encGRaw (l6++[r16.1])),.cells 0 [.int .i64 r16.1.fTag,.int .i64 r16.1.fWire,.int .i64 r16.1.fN,.str r16.1.fB],.cells 0 [.int .i64 r16.1.fTag,.int .i64 r16.1.fWire,.int .i64 r16.1.fN,.str r16.1.fB]]) .s ?_
   refine rgE tok [0,4,5] fun K hK=>?_
   simp only[go_sem,qc,qa,reduceCtorEq];apply hK
   exact⟨_,_,_,qy (0+k12),⟨k12,l6++[r16.1],r16.2.1,v7+1,rfl,rfl,rfl,h⟩,(.t [0] false)⟩
 rw[if_neg hc14] at h;have t23:=eq_false hc14;apply zA;apply hZ5
 refine rg tok [2,3] fun K hK=>?_
 simp only[go_sem,qc,qa,reduceCtorEq,t23];apply hK
 cases h;exact rtA
theorem xE.ev (a0:List UInt8)(r:List GRaw×Int)(h:xE a0=some r)(σ:Store):ACalls qg 193 [.ds true (qd encB a0) (qb a0) false] σ (fun r' σ'=>r'=.tup [.ds true (qd encGRaw r.1) (qb r.1) false,.int .i64 r.2]∧σ'=σ):=
 (xE.ok a0 r h).c σ
def xZ (a0:GEntry)(a1:Int):Int:=
 IntKind.i64.wrap (a0.fTag-a1)
theorem xZ.ok (a0:GEntry)(a1:Int)(r:Int)(h:xZ a0 a1=r):ACalls qg 233 [.agg (cellsGEntry a0),.int .i64 a1] [] (fun r' _=>r'=.int .i64 r):=by
 refine zh (rs:=[.tmp 4]) tok Tryz.func233 rfl Tryz.ntmps233 rfl Tryz.call233 (by simp) ?_;refine zl [(0,.agg (cellsGEntry a0)),(1,.int .i64 a1)] ⟨rfl,rfl,trivial⟩ ?_;unfold xZ at h
 refine rg tok [1,2] fun K hK=>?_
 simp only[go_sem,qc,qa,qe,reduceCtorEq,cellsGEntry];apply hK
 refine rgN [4] ?_;cases h;exact rtA
theorem xZ.ev (a0:GEntry)(a1:Int)(r:Int)(h:xZ a0 a1=r)(σ:Store):ACalls qg 233 [.agg (cellsGEntry a0),.int .i64 a1] σ (fun r' σ'=>r'=.int .i64 r∧σ'=σ):=
 (xZ.ok a0 a1 r h).c σ
def zn.l6 (a0:List GEntry)(a1:Int):Nat→Int→Int→Option (Int×Bool)
 |0,_,_=>none
 |k6+1,x2,x3=>(if x2<x3 then (Zb a0 (IntKind.i64.wrap (Int.fdiv (IntKind.u64.wrap (IntKind.i64.wrap (x2+x3))) (2^(min (qI 1) 64))))).bind fun y12=>bnd (xZ y12 a1) fun r15=>(if r15<0 then ((zn.l6 a0 a1 k6) (IntKind.i64.wrap ((IntKind.i64.wrap (Int.fdiv (IntKind.u64.wrap (IntKind.i64.wrap (x2+x3))) (2^(min (qI 1) 64))))+1)) x3) else ((zn.l6 a0 a1 k6) x2 (IntKind.i64.wrap (Int.fdiv (IntKind.u64.wrap (IntKind.i64.wrap (x2+x3))) (2^(min (qI 1) 64)))))) else (if x2<(qb a0:Int) then (Zb a0 x2).bind fun y20=>bnd (xZ y20 a1) fun r23=>some (decide (r23=0)) else some false).bind fun c20=>some (x2,c20))
def zn (a0:List GEntry)(a1:Int):Option (Int×Bool):=
 (zn.l6 a0 a1 rounds 0 (qb a0:Int))
theorem zn.ok (a0:List GEntry)(a1:Int)(r:Int×Bool)(h:zn a0 a1=some r):ACalls qg 232 [.ds true (qd encGEntry a0) (qb a0) false,.int .i64 a1,.fn (.func 233) [] []] [] (fun r' _=>r'=.tup [.int .i64 r.1,.bool r.2]):=by
 refine zh (rs:=[.tmp 6,.tmp 7]) tok Tryz.func232 rfl Tryz.ntmps232 rfl Tryz.call232 (by simp) ?_;refine zl [(0,.ds true (qd encGEntry a0) (qb a0) false),(1,.int .i64 a1),(2,.fn (.func 233) [] [])] ⟨rfl,rfl,rfl,trivial⟩ ?_;unfold zn at h;refine rgN [0,1,2] ?_;refine rgN [0,1,2,8] ?_;refine rgN [0,1,2,8,9,10] ?_
 refine za fun Z1 hZ1=>?_
 apply ze;refine zF (fun m L τ=>∃ (k6:Nat) (x2:Int) (x3:Int),m=0+k6∧L=[(0,.ds true (qd encGEntry a0) (qb a0) false),(1,.int .i64 a1),(2,.fn (.func 233) [] []),(8,.int .i64 (qb a0:Int)),(9,.int .i64 x2),(10,.int .i64 x3)]∧τ=[]∧zn.l6 a0 a1 k6 x2 x3=some r) _ ⟨rounds,0,(qb a0:Int),rfl,rfl,rfl,h⟩ .s ?_;rintro m L τ ⟨k6,x2,x3,rfl,rfl,rfl,h⟩
 rcases k6 with _|k6
 · cases h
 simp only[zn.l6] at h
 refine za fun Z7 hZ7=>?_
 refine rgN [0,1,2,8,9,10,17] ?_;refine zL rfl (fun hc8=>?_) (fun hc8=>?_)
 · rw[if_pos hc8] at h;have t9:=eq_true hc8;apply zd;apply hZ7;apply ze;have f10:=xU (T:=tab) (src:=3) (dst:=100) rfl rfl rfl;have f11:=xU (T:=tab) (src:=100) (dst:=3) rfl rfl rfl
   refine rg tok [0,1,2,8,9,10,11] fun K hK=>?_
   simp only[go_sem,qc,qa,reduceCtorEq,t9,f10,f11,YP,Int.reduceLT];apply hK
   refine rc [0,1,2,8,9,10,11,31] fun K hK=>?_
   obtain⟨y12,hy12,h⟩:=bind_some h;have f13:=E34.idxS hy12;have f14:=E34.loadS rfl rfl hy12;obtain⟨r15,hr15,h⟩:=zD h;refine zj tok 6 ?_;simp only[go_sem,qc,qa,reduceCtorEq,cellsGEntry,zZ,f13,f14];refine clN rfl rfl rfl (xZ.ev y12 a1 r15 hr15 _) ?_;refine rnN 1 ?_;refine nkN hK ?_;refine zL rfl (fun hc16=>?_) (fun hc16=>?_)
   · rw[if_pos hc16] at h;have t17:=eq_true hc16
     refine rgE tok [0,1,2,8,9,10] fun K hK=>?_
     simp only[go_sem,qc,qa,reduceCtorEq,t17];apply hK
     exact⟨_,_,_,qy (0+k6),⟨k6,IntKind.i64.wrap ((IntKind.i64.wrap (Int.fdiv (IntKind.u64.wrap (IntKind.i64.wrap (x2+x3))) (2^(min (qI 1) 64))))+1),x3,rfl,rfl,rfl,h⟩,.s⟩
   rw[if_neg hc16] at h;have t18:=eq_false hc16
   refine rgE tok [0,1,2,8,9,10] fun K hK=>?_
   simp only[go_sem,qc,qa,reduceCtorEq,t18];apply hK
   exact⟨_,_,_,qy (0+k6),⟨k6,x2,IntKind.i64.wrap (Int.fdiv (IntKind.u64.wrap (IntKind.i64.wrap (x2+x3))) (2^(min (qI 1) 64))),rfl,rfl,rfl,h⟩,.s⟩
 rw[if_neg hc8] at h;have t19:=eq_false hc8;apply zA;apply hZ1
 refine rc [6,7] fun K hK=>?_
 refine zj tok 5 ?_;simp only[go_sem,qc,qa,reduceCtorEq,t19];obtain⟨c20,hc20,h⟩:=bind_some h;refine zq 9 (fun L τ=>L=[(35,.int .i64 x2),(48,.bool c20)]∧τ=[]) ?_ ?_
 · refine yW 39 rfl (fun hg39=>?_) (fun hg39=>?_)
   · have t21:=eq_true hg39;rw[if_pos hg39] at hc20;obtain⟨y22,hy22,hc20⟩:=bind_some hc20;have f23:=E34.idxS hy22;have f24:=E34.loadS rfl rfl hy22;obtain⟨r25,hr25,hc20⟩:=zD hc20;refine zj tok 6 ?_;simp only[go_sem,qc,qa,reduceCtorEq,cellsGEntry,zZ,f23,f24];refine clN rfl rfl rfl (xZ.ev y22 a1 r25 hr25 _) ?_;refine rnN 2 ?_;cases hc20;refine zb ⟨rfl,_,_,⟨rfl,rfl⟩,.p t21⟩
   have t26:=eq_false hg39;rw[if_neg hg39] at hc20;refine rnN 9 ?_;cases hc20;refine zb ⟨rfl,_,_,⟨rfl,rfl⟩,.p t26⟩
 rintro _ _ ⟨rfl,rfl⟩;refine rnN 2 ?_;refine nkN hK ?_;cases h;exact rtA
def xq (a0:GEntry)(a1:GMessage):Option Bool:=
 bnd (zk a1 a0.fTag) fun r1=>(if r1.1.fLabel=1 then (Zb a0.fTrees 0).bind fun y2=>bnd (xQ y2) fun r5=>some r5 else some false).bind fun c2=>some c2
theorem xq.ok (a0:GEntry)(a1:GMessage)(r:Bool)(h:xq a0 a1=some r):ACalls qg 197 [.agg (cellsGEntry a0),.dp (encGMessage a1) 0] [] (fun r' _=>r'=.bool r):=by
 refine zh (rs:=[.tmp 3]) tok Tryz.func197 rfl Tryz.ntmps197 rfl Tryz.call197 (by simp) ?_;refine zl [(0,.agg (cellsGEntry a0)),(1,.dp (encGMessage a1) 0)] ⟨rfl,rfl,trivial⟩ ?_;unfold xq at h
 refine rg tok [1,2] fun K hK=>?_
 simp only[go_sem,qc,qa,qe,reduceCtorEq,cellsGEntry];apply hK
 refine rc [2,4] fun K hK=>?_
 obtain⟨r1,hr1,h⟩:=zD h;refine zj tok 3 ?_;simp only[go_sem,qc,qf,qa,qe,encGMessage,Z0];refine clN rfl rfl rfl (zk.ev a1 a0.fTag r1 hr1 _) ?_;refine zj tok 6 ?_;simp only[go_sem,qc,qf,qa,qe,encGField];refine nkN hK ?_
 refine rc [3] fun K hK=>?_
 refine rnN 4 ?_;obtain⟨c2,hc2,h⟩:=bind_some h;refine zq 6 (fun L τ=>L=[(22,.bool c2)]∧τ=[.cells 0 (cellsGEntry a0),.cells 0 (encGField r1.1)]) ?_ ?_
 · refine yW 16 rfl (fun hg16=>?_) (fun hg16=>?_)
   · have t3:=eq_true hg16;rw[if_pos hg16] at hc2;obtain⟨y4,hy4,hc2⟩:=bind_some hc2;have f5:=E38.idxS hy4;have f6:=E38.loadS rfl rfl hy4;obtain⟨r7,hr7,hc2⟩:=zD hc2;refine zj tok 4 ?_;simp only[go_sem,qc,qa,qe,cellsGTree,zH,f5,f6];refine clN rfl rfl rfl (xQ.ev y4 r7 hr7 _) ?_;refine rnN 1 ?_;cases hc2;refine zb ⟨rfl,_,_,⟨rfl,rfl⟩,.p t3⟩
   have t8:=eq_false hg16;rw[if_neg hg16] at hc2;refine rnN 6 ?_;cases hc2;refine zb ⟨rfl,_,_,⟨rfl,rfl⟩,.p t8⟩
 rintro _ _ ⟨rfl,rfl⟩;refine rnN 1 ?_;refine nkN hK ?_;cases h;exact rtA
theorem xq.ev (a0:GEntry)(a1:GMessage)(r:Bool)(h:xq a0 a1=some r)(σ:Store):ACalls qg 197 [.agg (cellsGEntry a0),.dp (encGMessage a1) 0] σ (fun r' σ'=>r'=.bool r∧σ'=σ):=
 (xq.ok a0 a1 r h).c σ
def zx.l4 (a1_0:GMessage):List GEntry→Int→Option Int
 |[],x2=>some (-1)
 |y4::q4,x2=>(xq y4 a1_0).bind fun r10=>(if r10=true then some x2 else ((zx.l4 a1_0 q4) (x2+1)))
def zx (a0:List GEntry)(a1_0:GMessage):Option Int:=
 (zx.l4 a1_0 a0 0)
theorem zx.ok (a0:List GEntry)(a1_0:GMessage)(r:Int)(h:zx a0 a1_0=some r):ACalls qg 235 [.ds true (qd encGEntry a0) (qb a0) false,.fn (.func 197) [] [.dp (encGMessage a1_0) 0]] [] (fun r' _=>r'=.int .i64 r):=by
 refine zh (rs:=[.tmp 4]) tok Tryz.func235 rfl Tryz.ntmps235 rfl Tryz.call235 (by simp) ?_;refine zl [(0,.ds true (qd encGEntry a0) (qb a0) false),(1,.fn (.func 197) [] [.dp (encGMessage a1_0) 0])] ⟨rfl,rfl,trivial⟩ ?_;unfold zx at h;refine rgN [0,1] ?_
 refine za fun Z1 hZ1=>?_
 refine rgN [0,1,7,8] ?_;apply ze
 refine yD 0 fun hb4=>?_
 replace hb4:qb a0≤9223372036854775807:=hb4.1;refine zF (fun m L τ=>∃ (p4 q4:List GEntry) (x2:Int),m=qb q4∧L=[(0,.ds true (qd encGEntry a0) (qb a0) false),(1,.fn (.func 197) [] [.dp (encGMessage a1_0) 0]),(7,.int .i64 (qb a0:Int)),(8,.int .i64 x2)]∧τ=[]∧a0=p4++q4∧x2=(qb p4:Int)∧zx.l4 a1_0 q4 x2=some r) _ ⟨[],a0,0,rfl,rfl,rfl,rfl,rfl,h⟩ .s ?_;rintro m L τ ⟨p4,q4,x2,rfl,rfl,rfl,hE4,hi4,h⟩
 rcases q4 with _|⟨y4,q4⟩
 · have hz4:=yH hE4 hi4;simp only[zx.l4] at h
   refine rg tok [0,1,7,8,9] fun K hK=>?_
   simp only[go_sem,qc,qa,reduceCtorEq,hz4];apply hK
   refine za fun Z5 hZ5=>?_
   refine zp rfl ?_;apply zA;apply hZ1;refine rgN [4] ?_;cases h;exact rtA
 obtain⟨hz4,hw4,hx4,hE'4,hi'4⟩:=ya hE4 hi4 hb4;simp only[zx.l4] at h
 refine rg tok [0,1,7,8,9] fun K hK=>?_
 simp only[go_sem,qc,qa,reduceCtorEq,hz4];apply hK
 refine za fun Z6 hZ6=>?_
 refine zs rfl ?_;apply zd;apply hZ6
 refine za fun Z7 hZ7=>?_
 apply ze;refine rgN [0,1,5,7,8] ?_
 refine rc [0,1,5,7,8,16] fun K hK=>?_
 have f8:=E34.idxS hx4;have f9:=E34.loadS rfl rfl hx4;obtain⟨r10,hr10,h⟩:=bind_some h;refine zj tok 5 ?_;simp only[go_sem,qc,qa,reduceCtorEq,cellsGEntry,zZ,f8,f9];refine clN rfl rfl rfl (xq.ev y4 a1_0 r10 hr10 _) ?_;refine nkN hK ?_;refine zv (b:=r10) rfl (fun hc11=>?_) (fun hc11=>?_)
 · rw[if_pos hc11] at h;refine rgN [4] ?_;cases h;exact rtA
 rw[wb hc11] at h;apply zd;apply hZ7
 refine rgE tok [0,1,7,8] fun K hK=>?_
 simp only[go_sem,qc,qa,reduceCtorEq,hw4];apply hK
 exact⟨_,_,_,qy q4.length,⟨p4++[y4],q4,x2+1,rfl,rfl,rfl,hE'4,hi'4,h⟩,.s⟩
def zS.j4 (m4_1:GTree):Option (GTree×Int):=
 some (m4_1,0)
def zS.j6 (zI:GSchema→GMessage→(List UInt8)→Int→Option (GTree×Int))(a0:GSchema)(a1:GType)(a2:GRaw)(a3:Int)(m4_1:GTree)(x5:Bool):Option (GTree×Int):=
 (if x5=true then bnd (xH a1 a2.fN) fun r8=>(if (!r8)=true then some ((⟨0,0,[],([]:List GEntry),([]:List GRaw)⟩:GTree),11) else (zS.j4 m4_1)) else (if a1.fKind=4 then (yR a2.fB).bind fun r12=>(if (!r12)=true then some ((⟨0,0,[],([]:List GEntry),([]:List GRaw)⟩:GTree),9) else (zS.j4 m4_1)) else (if a1.fKind=7 then bnd (zG a0 a1.fName) fun r17=>(grd (qb a2.fB≤9223372036854775807)).bind fun _u18=>(zI a0 r17.1 a2.fB (IntKind.i64.wrap (a3+1))).bind fun r20=>some (r20.1,r20.2) else (zS.j4 m4_1))))
def zS.j3 (zI:GSchema→GMessage→(List UInt8)→Int→Option (GTree×Int))(a0:GSchema)(a1:GType)(a2:GRaw)(a3:Int)(m4_1:GTree):Option (GTree×Int):=
 (if a1.fKind=3 then (zS.j6 zI a0 a1 a2 a3 m4_1 (decide (a1.fKind=3))) else (zS.j6 zI a0 a1 a2 a3 m4_1 (decide (a1.fKind=6))))
def zS.j26 (zI:GSchema→GMessage→(List UInt8)→Int→Option (GTree×Int))(a0:GSchema)(a1:GType)(a2:GRaw)(a3:Int)(m4_1:GTree)(x25:Bool):Option (GTree×Int):=
 (if x25=true then (if a2.fWire=1 then (zS.j3 zI a0 a1 a2 a3 m4_1) else some ((⟨0,0,[],([]:List GEntry),([]:List GRaw)⟩:GTree),8)) else (if a2.fWire=0 then (zS.j3 zI a0 a1 a2 a3 m4_1) else some ((⟨0,0,[],([]:List GEntry),([]:List GRaw)⟩:GTree),8)))
def zS.j2 (zI:GSchema→GMessage→(List UInt8)→Int→Option (GTree×Int))(a0:GSchema)(a1:GType)(a2:GRaw)(a3:Int)(m4_1:GTree):Option (GTree×Int):=
 (if a1.fKind=4 then (zS.j26 zI a0 a1 a2 a3 m4_1 (decide (a1.fKind=4))) else (if a1.fKind=5 then (zS.j26 zI a0 a1 a2 a3 m4_1 (decide (a1.fKind=5))) else (zS.j26 zI a0 a1 a2 a3 m4_1 (decide (a1.fKind=7)))))
def zS.body (zI:GSchema→GMessage→(List UInt8)→Int→Option (GTree×Int))(y7:GSchema→GType→GRaw→Int→Option (GTree×Int))(a0:GSchema)(a1:GType)(a2:GRaw)(a3:Int):Option (GTree×Int):=
 (if a2.fWire=1 then (zS.j2 zI a0 a1 a2 a3 (⟨2,0,a2.fB,([]:List GEntry),([]:List GRaw)⟩:GTree)) else (zS.j2 zI a0 a1 a2 a3 (⟨1,a2.fN,[],([]:List GEntry),([]:List GRaw)⟩:GTree)))
theorem zS.step (zI:GSchema→GMessage→(List UInt8)→Int→Option (GTree×Int))(y7:GSchema→GType→GRaw→Int→Option (GTree×Int))(vaZ:∀ (a0:GSchema) (a1:GMessage) (a2:List UInt8) (a3:Int) (r:GTree×Int),zI a0 a1 a2 a3=some r→ACalls qg 149 [.agg (encGSchema a0),.agg (encGMessage a1),.ds true (qd encB a2) (qb a2) false,.int .i64 a3] [] (fun r' _=>r'=.tup [.agg (cellsGTree r.1),.int .i64 r.2]))(Xk:∀ (a0:GSchema) (a1:GType) (a2:GRaw) (a3:Int) (r:GTree×Int),y7 a0 a1 a2 a3=some r→ACalls qg 194 [.agg (encGSchema a0),.agg (encGType a1),.agg (encGRaw a2),.int .i64 a3] [] (fun r' _=>r'=.tup [.agg (cellsGTree r.1),.int .i64 r.2]))(a0:GSchema)(a1:GType)(a2:GRaw)(a3:Int)(r:GTree×Int)(h:zS.body zI y7 a0 a1 a2 a3=some r):ACalls qg 194 [.agg (encGSchema a0),.agg (encGType a1),.agg (encGRaw a2),.int .i64 a3] [] (fun r' _=>r'=.tup [.agg (cellsGTree r.1),.int .i64 r.2]):=by
 have ev_decode_message:=fun a0 a1 a2 a3 r h σ=>(vaZ a0 a1 a2 a3 r h).c σ
 have ev_decode_one:=fun a0 a1 a2 a3 r h σ=>(Xk a0 a1 a2 a3 r h).c σ
 refine zh (rs:=[.cell 8 37,.tmp 9]) tok Tryz.func194 rfl Tryz.ntmps194 rfl Tryz.call194 (by simp) ?_;refine zl [(0,.agg (encGSchema a0)),(1,.agg (encGType a1)),(2,.agg (encGRaw a2)),(3,.int .i64 a3)] ⟨rfl,rfl,rfl,rfl,trivial⟩ ?_;unfold zS.body at h
 refine rg tok [3,4,5,6,8] fun K hK=>?_
 simp only[go_sem,qc,qa,qe,reduceCtorEq,encGRaw,encGSchema,encGType];apply hK
 refine rgN [3,4,5,6,8,10] ?_;refine yU (fun L τ=>∃ (m4_1:GTree),L=[(3,.int .i64 a3),(4,.op 0 0 0),(5,.op 1 0 0),(6,.op 2 0 0),(8,.op 3 0 0),(10,.op 4 0 0)]∧τ=[.cells 0 (encGSchema a0),.cells 0 [.int .i64 a1.fKind,.str a1.fName],.cells 0 [.int .i64 a2.fTag,.int .i64 a2.fWire,.int .i64 a2.fN,.str a2.fB],.cells 0 [.int .i64 0,.int .i64 0,.str [],.ds true (qd encGEntry ([]:List GEntry)) (qb ([]:List GEntry)) false,.ds true (qd encGRaw ([]:List GRaw)) (qb ([]:List GRaw)) false],.cells 0 (cellsGTree m4_1)]∧zS.j2 zI a0 a1 a2 a3 m4_1=some r) ?_ ?_
 · refine rgN [3,4,5,6,8,10,18] ?_;refine zL rfl (fun hc40=>?_) (fun hc40=>?_)
   · rw[if_pos hc40] at h;have t41:=eq_true hc40
     refine rgE tok [3,4,5,6,8,10] fun K hK=>?_
     simp only[go_sem,qc,qf,qa,qe,t41];apply hK
     exact⟨_,_,⟨(⟨2,0,a2.fB,([]:List GEntry),([]:List GRaw)⟩:GTree),rfl,rfl,h⟩,(.t [0,1,2,3,4] true)⟩
   rw[if_neg hc40] at h;have t42:=eq_false hc40;apply zd;exact⟨_,_,⟨(⟨1,a2.fN,[],([]:List GEntry),([]:List GRaw)⟩:GTree),rfl,rfl,h⟩,(.t [0,1,2,3,4] true)⟩
 rintro _ _ ⟨m4_1,rfl,rfl,h⟩;unfold zS.j2 at h;refine yU (fun L τ=>L=[(3,.int .i64 a3),(4,.op 0 0 0),(5,.op 1 0 0),(6,.op 2 0 0),(8,.op 3 0 0),(10,.op 4 0 0)]∧τ=[.cells 0 (encGSchema a0),.cells 0 [.int .i64 a1.fKind,.str a1.fName],.cells 0 [.int .i64 a2.fTag,.int .i64 a2.fWire,.int .i64 a2.fN,.str a2.fB],.cells 0 [.int .i64 0,.int .i64 0,.str [],.ds true (qd encGEntry ([]:List GEntry)) (qb ([]:List GEntry)) false,.ds true (qd encGRaw ([]:List GRaw)) (qb ([]:List GRaw)) false],.cells 0 (cellsGTree m4_1)]∧zS.j3 zI a0 a1 a2 a3 m4_1=some r) ?_ ?_
 · refine rgN [3,4,5,6,8,10,23] ?_;apply ze;refine yU (fun L τ=>∃ (x25:Bool),L=[(3,.int .i64 a3),(4,.op 0 0 0),(5,.op 1 0 0),(6,.op 2 0 0),(8,.op 3 0 0),(10,.op 4 0 0),(28,.bool x25)]∧τ=[.cells 0 (encGSchema a0),.cells 0 [.int .i64 a1.fKind,.str a1.fName],.cells 0 [.int .i64 a2.fTag,.int .i64 a2.fWire,.int .i64 a2.fN,.str a2.fB],.cells 0 [.int .i64 0,.int .i64 0,.str [],.ds true (qd encGEntry ([]:List GEntry)) (qb ([]:List GEntry)) false,.ds true (qd encGRaw ([]:List GRaw)) (qb ([]:List GRaw)) false],.cells 0 (cellsGTree m4_1)]∧zS.j26 zI a0 a1 a2 a3 m4_1 x25=some r) ?_ ?_
   · refine rgN [3,4,5,6,8,10,23,28] ?_;refine zL rfl (fun hc34=>?_) (fun hc34=>?_)
     · rw[if_pos hc34] at h;have t35:=eq_true hc34;apply zd;exact⟨_,_,⟨decide (a1.fKind=4),rfl,rfl,h⟩,.s⟩
     rw[if_neg hc34] at h;have t36:=eq_false hc34
     refine rg tok [3,4,5,6,8,10,23,28] fun K hK=>?_
     simp only[go_sem,qc,qa,t36];apply hK
     refine zL rfl (fun hc37=>?_) (fun hc37=>?_)
     · rw[if_pos hc37] at h;have t38:=eq_true hc37;apply zd;exact⟨_,_,⟨decide (a1.fKind=5),rfl,rfl,h⟩,.s⟩
     rw[if_neg hc37] at h;have t39:=eq_false hc37
     refine rgE tok [3,4,5,6,8,10,28] fun K hK=>?_
     simp only[go_sem,qc,qa,t39];apply hK
     exact⟨_,_,⟨decide (a1.fKind=7),rfl,rfl,h⟩,.s⟩
   rintro _ _ ⟨x25,rfl,rfl,h⟩;unfold zS.j26 at h;refine zv (b:=x25) rfl (fun hc27=>?_) (fun hc27=>?_)
   · rw[if_pos hc27] at h;refine rgN [3,4,5,6,8,10,34] ?_;refine zL rfl (fun hc28=>?_) (fun hc28=>?_)
     · rw[if_neg hc28] at h;have t29:=eq_false hc28
       refine rg tok [8,9] fun K hK=>?_
       simp only[go_sem,qc,qf,qa,qe,t29];apply hK
       cases h;exact rtA
     rw[if_pos hc28] at h;have t30:=eq_true hc28;apply zd;exact⟨_,_,⟨rfl,rfl,h⟩,.s⟩
   rw[wb hc27] at h;refine rgN [3,4,5,6,8,10,26] ?_;refine zL rfl (fun hc31=>?_) (fun hc31=>?_)
   · rw[if_neg hc31] at h;have t32:=eq_false hc31
     refine rg tok [8,9] fun K hK=>?_
     simp only[go_sem,qc,qf,qa,qe,t32];apply hK
     cases h;exact rtA
   rw[if_pos hc31] at h;have t33:=eq_true hc31;apply zd;exact⟨_,_,⟨rfl,rfl,h⟩,.s⟩
 rintro _ _ ⟨rfl,rfl,h⟩;unfold zS.j3 at h;refine yU (fun L τ=>L=[(8,.op 0 0 0),(10,.op 1 0 0)]∧τ=[.cells 0 [.int .i64 0,.int .i64 0,.str [],.ds true (qd encGEntry ([]:List GEntry)) (qb ([]:List GEntry)) false,.ds true (qd encGRaw ([]:List GRaw)) (qb ([]:List GRaw)) false],.cells 0 (cellsGTree m4_1)]∧zS.j4 m4_1=some r) ?_ ?_
 · refine rgN [3,4,5,6,8,10,37] ?_;apply ze;refine yU (fun L τ=>∃ (x5:Bool),L=[(3,.int .i64 a3),(4,.op 0 0 0),(5,.op 1 0 0),(6,.op 2 0 0),(8,.op 3 0 0),(10,.op 4 0 0),(37,.int .i64 a1.fKind),(38,.bool x5)]∧τ=[.cells 0 (encGSchema a0),.cells 0 [.int .i64 a1.fKind,.str a1.fName],.cells 0 [.int .i64 a2.fTag,.int .i64 a2.fWire,.int .i64 a2.fN,.str a2.fB],.cells 0 [.int .i64 0,.int .i64 0,.str [],.ds true (qd encGEntry ([]:List GEntry)) (qb ([]:List GEntry)) false,.ds true (qd encGRaw ([]:List GRaw)) (qb ([]:List GRaw)) false],.cells 0 (cellsGTree m4_1)]∧zS.j6 zI a0 a1 a2 a3 m4_1 x5=some r) ?_ ?_
   · refine rgN [3,4,5,6,8,10,37,38] ?_;refine zL rfl (fun hc22=>?_) (fun hc22=>?_)
     · rw[if_pos hc22] at h;have t23:=eq_true hc22;apply zd;exact⟨_,_,⟨decide (a1.fKind=3),rfl,rfl,h⟩,.s⟩
     rw[if_neg hc22] at h;have t24:=eq_false hc22
     refine rgE tok [3,4,5,6,8,10,37,38] fun K hK=>?_
     simp only[go_sem,qc,qa,t24];apply hK
     exact⟨_,_,⟨decide (a1.fKind=6),rfl,rfl,h⟩,.s⟩
   rintro _ _ ⟨x5,rfl,rfl,h⟩;unfold zS.j6 at h;refine zv (b:=x5) rfl (fun hc7=>?_) (fun hc7=>?_)
   · rw[if_pos hc7] at h
     refine rc [8,10,45] fun K hK=>?_
     obtain⟨r8,hr8,h⟩:=zD h;refine rnN 3 ?_;refine clN rfl rfl rfl (xH.ev a1 a2.fN r8 hr8 _) ?_;refine rnN 1 ?_;refine nkN hK ?_;refine zv (b:=(!r8)) rfl (fun hc9=>?_) (fun hc9=>?_)
     · rw[if_pos hc9] at h;refine rgN [8,9] ?_;cases h;exact rtA
     rw[wb hc9] at h;apply zd;exact⟨_,_,⟨rfl,rfl,h⟩,(.t [3,4] false)⟩
   rw[wb hc7] at h;refine rgN [3,4,5,6,8,10,37,47] ?_;refine zL rfl (fun hc10=>?_) (fun hc10=>?_)
   · rw[if_pos hc10] at h;have t11:=eq_true hc10
     refine rc [8,10,52] fun K hK=>?_
     obtain⟨r12,hr12,h⟩:=bind_some h;refine zj tok 2 ?_;simp only[go_sem,qc,qa,qe,t11];refine clN rfl rfl rfl (yR.ev a2.fB r12 hr12 _) ?_;refine rnN 1 ?_;refine nkN hK ?_;refine zv (b:=(!r12)) rfl (fun hc13=>?_) (fun hc13=>?_)
     · rw[if_pos hc13] at h;refine rgN [8,9] ?_;cases h;exact rtA
     rw[wb hc13] at h;apply zd;exact⟨_,_,⟨rfl,rfl,h⟩,(.t [3,4] false)⟩
   rw[if_neg hc10] at h;have t14:=eq_false hc10
   refine rg tok [3,4,5,6,8,10,54] fun K hK=>?_
   simp only[go_sem,qc,qa,t14];apply hK
   refine zL rfl (fun hc15=>?_) (fun hc15=>?_)
   · rw[if_pos hc15] at h;have t16:=eq_true hc15
     refine rc [3,4,6,8,11] fun K hK=>?_
     obtain⟨r17,hr17,h⟩:=zD h;refine zj tok 3 ?_;simp only[go_sem,qc,qf,qa,qe,t16];refine clN rfl rfl rfl (zG.ev a0 a1.fName r17 hr17 _) ?_;refine zj tok 6 ?_;simp only[go_sem,qc,qf,qa,qe,encGMessage];refine nkN hK ?_
     refine rc [8,9] fun K hK=>?_
     obtain⟨_u18,hu18,h⟩:=bind_some h;have gu18:=Zn hu18;have gu18t:=eq_true gu18;have f19:=conv_s2b (T:=tab) (src:=9) (dst:=48) rfl rfl rfl rfl rfl rfl (Zn hu18);obtain⟨r20,hr20,h⟩:=bind_some h;refine zj tok 7 ?_;simp only[go_sem,qc,qf,qa,qe,f19];refine YZ (L:=[(8,.op 0 0 0),(63,.agg (encGSchema a0)),(64,.agg (encGMessage r17.1)),(67,.ds true (qd encB a2.fB) (qb a2.fB) false),(69,.int .i64 (IntKind.i64.wrap (a3+1)))]) (τ:=[.cells 0 [.int .i64 0,.int .i64 0,.str [],.ds true (qd encGEntry ([]:List GEntry)) (qb ([]:List GEntry)) false,.ds true (qd encGRaw ([]:List GRaw)) (qb ([]:List GRaw)) false]]) (.t [3] false) ?_;refine clN rfl rfl rfl (ev_decode_message a0 r17.1 a2.fB (IntKind.i64.wrap (a3+1)) r20 hr20 _) ?_;refine zj tok 4 ?_;simp only[go_sem,qc,qf,qa,qe,cellsGTree,encGMessage,encGSchema];refine nkN hK ?_;cases h;exact rtA
   rw[if_neg hc15] at h;have t21:=eq_false hc15;apply zd;exact⟨_,_,⟨rfl,rfl,h⟩,(.t [3,4] false)⟩
 rintro _ _ ⟨rfl,rfl,h⟩;unfold zS.j4 at h;refine rgN [8,9] ?_;cases h;exact rtA
end
section
open Go.RowKit AM
theorem setRun_ins (cs new:List AV)(k:Nat)(hk:k≤cs.length)(hn:new.length=2):
 xm (xm (cs++[.u,.u]) (k+2) (cs.drop k)) k new=cs.take k++(new++cs.drop k):=by
 have e0:cs++[AV.u,.u]=(cs.take k++((cs.drop k++[AV.u,.u]).take 2))++(((cs.drop k++[AV.u,.u]).drop 2)++[]):=by
  rw[qH,qv,uo,← qv,uo]
 have l1:((cs.drop k++[AV.u,.u]).take 2).length=2:=by simp
 have l2:(cs.take k++((cs.drop k++[AV.u,.u]).take 2)).length=k+2:=by rw[qj,l1,uF,Nat.min_eq_left hk]
 have e1:xm (cs++[.u,.u]) (k+2) (cs.drop k)=(cs.take k++((cs.drop k++[AV.u,.u]).take 2))++(cs.drop k++[]):=by
  rw[e0,← l2];exact ZL (cs.drop k) _ _ [] (by simp)
 rw[e1,qH,qv]
 have l3:(cs.take k).length=k:=by rw[uF,Nat.min_eq_left hk]
 have:=ZL new (cs.take k) ((cs.drop k++[AV.u,.u]).take 2) (cs.drop k) (by rw[l1,hn]);rw[l3] at this;exact this
theorem all_drop {l:List AV}{k:Nat}(h:l.all AV.one=true):(l.drop k).all AV.one=true:=by
 rw[q7] at *
 exact fun x hx=>h x (List.mem_of_mem_drop hx)
theorem frozen_end {E:Env}{b:Nat}{cs:List AV}(h:Blk E b cs){t:TypeId}{m:Nat}(hs:E.w.shape? b=some (t,m))(ht:tsize t=2)(o:Nat):E.w.frozen? ⟨b,o,none⟩=false:=by
 obtain⟨conc,t',fr,a1,a2,a3,a4⟩:=h.blk
 have:t'=t:=by simp only[World.shape?,a1,Option.some.injEq,Prod.mk.injEq] at hs; exact hs.1
 subst this
 have he:fr.1=fr.2:=by
  rcases a2 with h|⟨_,h⟩
  · exact h
  omega
 obtain⟨lo,hi⟩:=fr;simp only[World.frozen?,a1];simp only at he;simp only[Bool.and_eq_false_iff,decide_eq_false_iff_not]
 omega
set_option maxHeartbeats 4000000 in
set_option maxRecDepth 100000 in
theorem ins_shift {E:Env}{σ:Store}(hS:SR E σ){id ver n i b cap vid vver vb:Nat}{cells new:List AV}(hcs:Store.at σ id ver=some cells)(hlen:cells.length=n*2)(hone:cells.all AV.one=true)(hi:i<n)
 (hloc:E.loc id=some (ver,some b)) (hok:E.ok id ver) {t m:Nat} (hsh:E.w.shape? b=some (t,m)) (hts:tsize t=2) (hm:cap*2≤m) (hroom:n+1≤cap) (hn:(n+1)*32≤140737488355328)
 (hv:Store.at σ vid vver=some new) (hnew:new.length=2) (honev:new.all AV.one=true) (hvid:vid≠id) (hvloc:E.loc vid=some (vver,some vb)) (hvok:E.ok vid vver) {tv mv:Nat} (hvsh:E.w.shape? vb=some (tv,mv)) (hvts:tsize tv=2) (hvc:2≤mv):
 Calls qg 234 #[.slice (some ⟨b,0,none⟩) n cap,.int .i64 i,.slice (some ⟨vb,0,none⟩) 1 1] E.w fun e w'=>
  ∃ E',e=.returned (.slice (some ⟨b,0,none⟩) (n+1) cap)∧w'=E'.w∧VR E' (.os true 2 id ver 0 (n+1) false) (.slice (some ⟨b,0,none⟩) (n+1) cap)∧SR E' (σ.set id (.cells ver (cells.take (i*2)++(new++cells.drop (i*2)))))∧Ext E E':=by
 have hvb:vb≠b:=fun e=>hvid (hS.inj _ _ _ _ b (e▸hvloc) hloc)
 have hB1:Blk E b cells:=by
  rcases hS.at hcs with ⟨b',h1,h2⟩|⟨_,h1⟩
  · rw[hloc] at h1; cases h1; exact h2
  rw[hloc] at h1; cases h1
 have hB2:Blk E vb new:=by
  rcases hS.at hv with ⟨b',h1,h2⟩|⟨_,h1⟩
  · rw[hvloc] at h1; cases h1; exact h2
  rw[hvloc] at h1; cases h1
 have hSw:=hS.widen hcs hloc hsh 2 (by omega);obtain⟨hS1,hx1⟩:=hSw.grew (Yx.drew E.w);have hcsw:Store.at (σ.set id (.cells ver (cells++qP 2 AV.u))) id ver=some (cells++qP 2 AV.u):=Store.at_set hcs;have hlt:=Store.at_lt hcs
 have hvw:Store.at (σ.set id (.cells ver (cells++qP 2 AV.u))) vid vver=some new:=by
  unfold Store.at at hv ⊢; rw[ud (fun e=>hvid e.symm)]; exact hv
 have os1:∀ {E':Env} (hx:Ext E E') (k:Nat),k≤n→VR E' (.os true 2 id ver (k*2) (n+1-k) false) (.slice (some ⟨b,k*2,none⟩) (n+1-k) (cap-k)):=by
  intro E' hx k hk
  refine VR.ext hx (.os _ _ _ _ _ _ _ _ _ hok (by omega) (fun h=>by cases h) (by omega) fun ob hob=>?_)
  rw[hloc] at hob; cases hob
  exact⟨b,rfl,.inr rfl,t,m,hsh,hts,by omega⟩
 have osv:∀ {E':Env} (hx:Ext E E'),VR E' (.os true 2 vid vver 0 1 true) (.slice (some ⟨vb,0,none⟩) 1 1):=by
  intro E' hx
  refine VR.ext hx (.os _ _ _ _ _ _ _ _ _ hvok (by omega) (fun _=>rfl) (by omega) fun ob hob=>?_)
  rw[hvloc] at hob; cases hob
  exact⟨vb,rfl,.inr rfl,tv,mv,hvsh,hvts,by omega⟩
 have hov:∀ lb cb,(callFunc 247 #[.slice (some ⟨vb,0,none⟩) 1 1,.slice (some ⟨b,(i+1)*2,none⟩) lb cb]).run qg E.w=.ok (.value (.bool false)) E.w:=fun lb cb=>by
  rw[run_callFunc_extern Tryz.func247 (by kernel_rfl) (by kernel_rfl) (by kernel_rfl) (e:=Extern.SlicesOverlaps.overlaps #[34,34] #[4]) (by kernel_rfl),
   Lib.run_overlaps_apart E.w 34 4 40 (tok _ _ Xu).desc 2 (fun w=>xT w (tok _ _ Xt)) ⟨vb,0,none⟩ ⟨b,(i+1)*2,none⟩ 1 1 lb cb hvb tv t mv m hvsh hsh (by omega) (frozen_end hB2 hvsh hvts _) (frozen_end hB2 hvsh hvts _)]
  rfl
 have hdl:(cells.drop (i*2)).length=(n-i)*2:=by rw[List.length_drop,hlen,Nat.sub_mul]
 have hlw:(cells++qP 2 AV.u).length=(n+1)*2:=by rw[qj,hlen,List.length_replicate,uL]
 have hW:∀ ty,∃ v E2,(Builtin.copy_ #[34,34] ty #[.slice (some ⟨b,(i+1)*2,none⟩) (n+1-(i+1)) (cap-(i+1)),.slice (some ⟨b,i*2,none⟩) (n+1-i) (cap-i)]).run qg E.w.drew=.ok v E2.w∧
  SR E2 (σ.set id (.cells ver (xm (cells++[.u,.u]) (i*2+2) (cells.drop (i*2)))))∧Ext E E2:=by
  intro ty
  have hx0:Ext E { E with w:=E.w.drew }:=hx1;have hd:=os1 hx0 (i+1) (by omega);have hs:=os1 hx0 i (by omega)
  have hev:Y4 tab 34 (.os true 2 id ver ((i+1)*2) (n+1-(i+1)) false) (.os true 2 id ver (i*2) (n+1-i) false) (σ.set id (.cells ver (cells++qP 2 AV.u)))=
   some (.int .i64 ((min (n+1-i) (n+1-(i+1)):Nat):Int),(σ.set id (.cells ver (cells++qP 2 AV.u))).set id (.cells ver (xm (cells++qP 2 AV.u) ((i+1)*2) (cells.drop (i*2))))):=by
   have e1:yu (σ.set id (.cells ver (cells++qP 2 AV.u))) 2 (.os true 2 id ver (i*2) (n+1-i) false)=some (n+1-i,((cells++qP 2 AV.u).drop (i*2)).take ((n+1-i)*2)):=by
    simp only[yu,hcsw];rw[if_pos (by rw[hlw,← uL]; exact qY _ (by omega))]
   have e2:min (n+1-i) (n+1-(i+1))=n-i:=by omega
   have e3:(((cells++qP 2 AV.u).drop (i*2)).take ((n+1-i)*2)).take ((n-i)*2)=cells.drop (i*2):=by
    rw[List.take_take,Nat.min_eq_left (qY _ (by omega)),List.drop_append_of_le_length (by rw[hlen]; exact qY _ (by omega)),List.take_append_of_le_length (by rw[hdl]; exact qx _),← hdl,ul]
   have hp:w8 (σ.set id (.cells ver (cells++qP 2 AV.u))) (.os true 2 id ver ((i+1)*2) (n+1-(i+1)) false) (n-i) 2 (cells.drop (i*2))=some ((σ.set id (.cells ver (cells++qP 2 AV.u))).set id (.cells ver (xm (cells++qP 2 AV.u) ((i+1)*2) (cells.drop (i*2))))):=by
    unfold w8;rw[if_neg (by omega)];simp only[hcsw];rw[if_pos ⟨trivial,by rw[hlw,hdl,← uL]; exact qY _ (by omega),all_drop hone⟩]
   simp only[Y4,Xu,Xt,e1,e2,e3,hp]
  obtain⟨v,E2,h1,h2,h3,h4⟩:=YW (P:=qg) (st:=34) (ty:=ty) tok hS1 hd hs hev;refine⟨v,E2,h1,?_,hx0.trans h4⟩;rw[List.set_set] at h3
  have e:(i+1)*2=i*2+2:=by omega
  rw[e] at h3;exact h3
 obtain⟨v1,E2,hc1,hS2,hx2⟩:=hW 3;rw[show n+1-(i+1)=n-i by omega] at hc1;have hcs2:Store.at (σ.set id (.cells ver (xm (cells++[.u,.u]) (i*2+2) (cells.drop (i*2))))) id ver=some (xm (cells++[.u,.u]) (i*2+2) (cells.drop (i*2))):=Store.at_set hcs
 have hv2:Store.at (σ.set id (.cells ver (xm (cells++[.u,.u]) (i*2+2) (cells.drop (i*2))))) vid vver=some new:=by
  unfold Store.at at hv ⊢; rw[ud (fun e=>hvid e.symm)]; exact hv
 have hW2:∃ v E3,(Builtin.copy_ #[34,34] 3 #[.slice (some ⟨b,i*2,none⟩) (n+1-i) (cap-i),.slice (some ⟨vb,0,none⟩) 1 1]).run qg E2.w=.ok v E3.w∧
  SR E3 (σ.set id (.cells ver (cells.take (i*2)++(new++cells.drop (i*2)))))∧Ext E E3:=by
  have hd:=os1 hx2 i (by omega);have hs:=osv hx2
  have hev:Y4 tab 34 (.os true 2 id ver (i*2) (n+1-i) false) (.os true 2 vid vver 0 1 true) (σ.set id (.cells ver (xm (cells++[.u,.u]) (i*2+2) (cells.drop (i*2)))))=
   some (.int .i64 ((min 1 (n+1-i):Nat):Int),(σ.set id (.cells ver (xm (cells++[.u,.u]) (i*2+2) (cells.drop (i*2))))).set id (.cells ver (xm (xm (cells++[.u,.u]) (i*2+2) (cells.drop (i*2))) (i*2) new))):=by
   have e1:yu (σ.set id (.cells ver (xm (cells++[.u,.u]) (i*2+2) (cells.drop (i*2))))) 2 (.os true 2 vid vver 0 1 true)=some (1,new):=by
    simp only[yu,hv2];rw[if_pos (by omega),qC,← hnew,Nat.one_mul] ;rw[show new.length=new.length from rfl,ul]
   have e2:min 1 (n+1-i)=1:=by omega
   have e3:new.take (1*2)=new:=by rw[Nat.one_mul,← hnew,ul]
   have hp:w8 (σ.set id (.cells ver (xm (cells++[.u,.u]) (i*2+2) (cells.drop (i*2))))) (.os true 2 id ver (i*2) (n+1-i) false) 1 2 new=some ((σ.set id (.cells ver (xm (cells++[.u,.u]) (i*2+2) (cells.drop (i*2))))).set id (.cells ver (xm (xm (cells++[.u,.u]) (i*2+2) (cells.drop (i*2))) (i*2) new))):=by
    unfold w8;rw[if_neg (by omega)];simp only[hcs2];rw[if_pos ⟨trivial,by rw[Xi,hnew]; simp only[qj,qk,qr,hlen]; omega,honev⟩]
   simp only[Y4,Xu,Xt,e1,e2,e3,hp]
  obtain⟨v,E3,h1,h2,h3,h4⟩:=YW (P:=qg) (st:=34) (ty:=3) tok hS2 hd hs hev;refine⟨v,E3,h1,?_,hx2.trans h4⟩;rw[List.set_set,setRun_ins _ _ _ (by omega) hnew] at h3;exact h3
 obtain⟨v2,E3,hc2,hS3,hx3⟩:=hW2;have hfin:=os1 hx3 0 (ut _);rw[uz,uN,uN] at hfin
 have hz1:¬ ((i:Int)=(n:Int)):=by omega
 have hw1:IntKind.i64.wrap ((i:Int)+1)=(i:Int)+1:=by rw[IntKind.wrap_i64]; omega
 have hw2:IntKind.i64.wrap ((n:Int)+1)=(n:Int)+1:=by rw[IntKind.wrap_i64]; omega
 have hb1:(0:Int)≤(i:Int)+1:=by omega
 have hin:i≤n:=by omega
 have htn:((i:Int)+1).toNat=i+1:=by omega
 have hb2:¬ (cap=i+1):=by omega
 have hb3:(i:Int)≤(n:Int)+1:=by omega
 have hb4:¬ (cap=i):=by omega
 have mixed:Tryz.prog.follows .mixedOrders=true:=by kernel_rfl
 clear hS hcs hcsw hvw hcs2 hv2 hS1 hSw os1 osv hB1 hB2 hW
 go_enter Tryz.func234,Tryz.ntmps234
 go_wp2_with (simp only[hov])
 go_region_law_o (refine step_copy_runI rfl _ _ 34 34 rfl _ _ (by simp[Act.eval,Act.put]) (by simp[Act.eval,Act.put]) hc1 ?_)
 go_wp2_with (at_builtin; refine wpList_copy_runI _ rfl _ _ 34 34 rfl _ _ rfl rfl hc2 ?_)
 go_ret
 exact⟨E3,rfl,rfl,hfin,hS3,hx3⟩
theorem setRun_ins2 (cs new:List AV)(k:Nat)(hk:k≤cs.length)(hn:new.length=2)(q:Nat)(hq:q=cs.length-k+2):
 xm (xm (cs.take k++qP q AV.u) k new) (k+2) (cs.drop k)=cs.take k++(new++cs.drop k):=by
 have l3:(cs.take k).length=k:=by rw[uF,Nat.min_eq_left hk]
 have e0:cs.take k++qP q AV.u=cs.take k++(qP 2 AV.u++qP (cs.length-k) AV.u):=by
  rw[List.replicate_append_replicate,hq,Nat.add_comm]
 have e1:xm (cs.take k++qP q AV.u) k new=cs.take k++(new++qP (cs.length-k) AV.u):=by
  rw[e0];have:=ZL new (cs.take k) (qP 2 AV.u) (qP (cs.length-k) AV.u) (by simp[hn])
  rw[l3] at this; exact this
 have l4:(cs.take k++new).length=k+2:=by rw[qj,l3,hn]
 rw[e1,← qv,← l4];have:=ZL (cs.drop k) (cs.take k++new) (qP (cs.length-k) AV.u) [] (by simp);rw[qH,qH] at this;rw[this,qv]
set_option maxHeartbeats 4000000 in
set_option maxRecDepth 100000 in
theorem ins_grow {E:Env}{σ:Store}(hS:SR E σ){id ver n i b vid vver vb:Nat}{cells new:List AV}(hcs:Store.at σ id ver=some cells)(hlen:cells.length=n*2)(hone:cells.all AV.one=true)(hi:i<n)
 (hloc:E.loc id=some (ver,some b)) (hok:E.ok id ver) {t m:Nat} (hsh:E.w.shape? b=some (t,m)) (hts:tsize t=2) (hm:n*2≤m) (hn:(n+1)*32≤140737488355328)
 (hv:Store.at σ vid vver=some new) (hnew:new.length=2) (honev:new.all AV.one=true) (hvid:vid≠id) (hvloc:E.loc vid=some (vver,some vb)) (hvok:E.ok vid vver) {tv mv:Nat} (hvsh:E.w.shape? vb=some (tv,mv)) (hvts:tsize tv=2) (hvc:2≤mv):
 Calls qg 234 #[.slice (some ⟨b,0,none⟩) n n,.int .i64 i,.slice (some ⟨vb,0,none⟩) 1 1] E.w fun e w'=>
  ∃ E' v,e=.returned v∧w'=E'.w∧VR E' (.os true 2 σ.length 0 0 (n+1) false) v∧SR E' (σ++[.cells 0 (cells.take (i*2)++(new++cells.drop (i*2)))])∧Ext E E'∧∀ i2 v2 nb,E.loc i2=some (v2,some nb)→E'.loc σ.length=some (0,some nb)→False:=by
 have hvb:vb≠b:=fun e=>hvid (hS.inj _ _ _ _ b (e▸hvloc) hloc)
 have hlt:=Store.at_lt hcs;have hltv:=Store.at_lt hv;obtain⟨hS1,hx1⟩:=hS.grew (Yx.drew E.w)
 have os1:∀ {E':Env} (hx:Ext E E') (k q:Nat),k+q≤n→VR E' (.os true 2 id ver (k*2) q false) (.slice (some ⟨b,k*2,none⟩) q (n-k)):=by
  intro E' hx k q hk
  refine VR.ext hx (.os _ _ _ _ _ _ _ _ _ hok (by omega) (fun h=>by cases h) (by omega) fun ob hob=>?_)
  rw[hloc] at hob; cases hob
  exact⟨b,rfl,.inr rfl,t,m,hsh,hts,by omega⟩
 have osv:∀ {E':Env} (hx:Ext E E'),VR E' (.os true 2 vid vver 0 1 true) (.slice (some ⟨vb,0,none⟩) 1 1):=by
  intro E' hx
  refine VR.ext hx (.os _ _ _ _ _ _ _ _ _ hvok (by omega) (fun h=>rfl) (by omega) fun ob hob=>?_)
  rw[hvloc] at hob; cases hob
  exact⟨vb,rfl,.inr rfl,tv,mv,hvsh,hvts,by omega⟩
 have htl:(cells.take (i*2)).length=i*2:=by rw[uF,hlen]; omega
 have hdl:(cells.drop (i*2)).length=(n-i)*2:=by rw[List.length_drop,hlen,Nat.sub_mul]
 -- what is copied by append
 have hold0:=os1 hx1 0 i (by omega);rw[uz] at hold0
 obtain⟨_,_,hrd⟩:=Xz (P:=qg) hS1 hold0 (size:=2) (n:=i) (cs:=cells.take (i*2)) (by
  simp only[yu,hcs]
  rw[if_pos (by omega),qC])
 obtain⟨os,hos,hto⟩:=hrd i (qx _);rw[show (cells.take (i*2)).take (i*2)=cells.take (i*2) by rw[List.take_take,Nat.min_self]] at hto
 obtain⟨G,hG⟩:∃ G,G=grownCap E.w (n+1) n 40:=⟨_,rfl⟩
 have hGn:n+1≤G:=by rw[hG]; unfold grownCap; simp only[Question.cut]; omega
 obtain⟨conc,hconc⟩:∃ conc:Array Value,conc=os++Builtin.zeroCells (Value.agg #[Value.int IntKind.i64 0,Value.slice none 0 0]).cells (n+1-i)++Builtin.zeroCells (Value.agg #[Value.int IntKind.i64 0,Value.slice none 0 0]).cells (G-(n+1)):=⟨_,rfl⟩
 have hrz:∀ ty,(Builtin.append_ #[34,3] ty #[.slice (some ⟨b,0,none⟩) i n,.int .i64 ((n:Int)+1-(i:Int))]).run qg E.w=
  .ok (.slice (some ⟨E.w.heap.size,0,none⟩) (n+1) G) (E.w.drew.alloc (.cells conc 40)):=fun ty=>by
  have h:=Lib.run_append_grow_zeros (P:=qg) E.w 34 3 ty 40 Tryz.t40 _ .i64 .i64 Tryz.underlying34 Tryz.underlying3 Tryz.type40 rfl (some ⟨b,0,none⟩) i n os.toList (by rw[Array.toArray_toList]; exact hos) (n+1-i) (by omega) (by decide) (by omega) (by omega) (by show (n+1-i)*32≤_; omega) (by
   rw[show i+(n+1-i)=n+1 by omega]
   exact growslice_fits (by omega) (by show (n+1)*32≤_; omega))
  rw[show i+(n+1-i)=n+1 by omega,← hG,Array.toArray_toList,← hconc] at h;rw[show (n:Int)+1-(i:Int)=((n+1-i:Nat):Int) by omega];exact h
 have hsz1:os.size=i*2:=by rw[hto.1,htl]
 have hcsz:G*2≤conc.size:=by
  rw[hconc];simp only[Array.size_append,hsz1,Builtin.zeroCells,Value.cells]
  simp
  omega
 have hnr:=hS1.newRow conc 40 (cells.take (i*2)++qP ((n+1-i)*2) AV.u) (by rw[qj,htl,List.length_replicate]; omega) (by
  intro k hk
  by_cases hki:k<i*2
  · rw[YO _ _ _ (by rw[htl]; exact hki)];have:=hto.2 k (by rw[htl]; exact hki)
    have e:conc.getD k undef=os.getD k undef:=by
     rw[hconc,Array.append_assoc]
     simp[Array.getElem?_append_left (show k<os.size by omega)]
    rw[e]; exact this
  rw[ZJ _ _ _ (by rw[htl]; omega)]
  have:gc (qP ((n+1-i)*2) AV.u) (k-(cells.take (i*2)).length)=.u:=by
   unfold gc;rw[qG,List.getElem?_replicate]
   split<;>rfl
  rw[this]; exact .u _)
 obtain⟨hS2,hx2⟩:=hnr
 obtain⟨E2,hE2⟩:∃ E2,E2=Env.new { E with w:=E.w.drew } (E.w.drew.alloc (.cells conc 40)) (some E.w.drew.heap.size):=⟨_,rfl⟩
 have hloc2:E2.loc σ.length=some (0,some E.w.heap.size):=by rw[hE2]; exact Env.loc_new hS1 _ _
 have hok2:E2.ok σ.length 0:=by rw[hE2]; exact Env.ok_new hS1 _ _
 have hE2w:E2.w=E.w.drew.alloc (.cells conc 40):=by rw[hE2]; rfl
 rw[← hE2] at hS2 hx2;have hx02:Ext E E2:=Ext.trans hx1 hx2
 have hsh2:E2.w.shape? E.w.heap.size=some (40,conc.size):=by
  rw[hE2w];have:=xx E.w.drew (.cells conc 40);simp only[World.shape?];rw[show E.w.heap.size=E.w.drew.heap.size from rfl,this]
 have osn:∀ {E':Env} (hx:Ext E2 E') (k q:Nat),k+q≤n+1→VR E' (.os true 2 σ.length 0 (k*2) q false) (.slice (some ⟨E.w.heap.size,k*2,none⟩) q (G-k)):=by
  intro E' hx k q hk
  refine VR.ext hx (.os _ _ _ _ _ _ _ _ _ hok2 (by omega) (fun h=>by cases h) (by omega) fun ob hob=>?_)
  rw[hloc2] at hob; cases hob
  exact⟨_,rfl,.inr rfl,_,_,hsh2,rfl,by omega⟩
 have hat2:∀ cs,Store.at (σ++[.cells 0 cs]) σ.length 0=some cs:=fun cs=>Store.at_new σ 0 cs
 have hset2:∀ cs cs',(σ++[AObj.cells 0 cs]).set σ.length (.cells 0 cs')=σ++[.cells 0 cs']:=fun cs cs'=>by
  rw[List.set_append_right _ _ (qx _),uD]; rfl
 have hold2:∀ {id ver:Nat} {c cs:List AV},Store.at σ id ver=some c→Store.at (σ++[AObj.cells 0 cs]) id ver=some c:=by
  intro id ver c cs h
  have:=Store.at_lt h
  unfold Store.at at h ⊢; rw[qR this]; exact h
 -- the first copy
 have hW2:∃ v E3,(Builtin.copy_ #[34,34] 3 #[.slice (some ⟨E.w.heap.size,i*2,none⟩) (n+1-i) (G-i),.slice (some ⟨vb,0,none⟩) 1 1]).run qg E2.w=.ok v E3.w∧
  SR E3 (σ++[.cells 0 (xm (cells.take (i*2)++qP ((n+1-i)*2) AV.u) (i*2) new)])∧Ext E2 E3:=by
  have hd:=osn (Ext.refl E2) i (n+1-i) (by omega);have hs:=osv hx02
  have hev:Y4 tab 34 (.os true 2 σ.length 0 (i*2) (n+1-i) false) (.os true 2 vid vver 0 1 true) (σ++[.cells 0 (cells.take (i*2)++qP ((n+1-i)*2) AV.u)])=
   some (.int .i64 ((min 1 (n+1-i):Nat):Int),σ++[.cells 0 (xm (cells.take (i*2)++qP ((n+1-i)*2) AV.u) (i*2) new)]):=by
   have e1:yu (σ++[.cells 0 (cells.take (i*2)++qP ((n+1-i)*2) AV.u)]) 2 (.os true 2 vid vver 0 1 true)=some (1,new):=by
    simp only[yu,hold2 hv];rw[if_pos (by omega),qC,Nat.one_mul,← hnew,ul]
   have e2:min 1 (n+1-i)=1:=by omega
   have e3:new.take (1*2)=new:=by rw[Nat.one_mul,← hnew,ul]
   have hp:w8 (σ++[.cells 0 (cells.take (i*2)++qP ((n+1-i)*2) AV.u)]) (.os true 2 σ.length 0 (i*2) (n+1-i) false) 1 2 new=some (σ++[.cells 0 (xm (cells.take (i*2)++qP ((n+1-i)*2) AV.u) (i*2) new)]):=by
    unfold w8;rw[if_neg (by omega)];simp only[hat2,hset2];rw[if_pos ⟨trivial,by rw[hnew,qj,htl,List.length_replicate]; omega,honev⟩]
   simp only[Y4,Xu,Xt,e1,e2,e3,hp]
  obtain⟨v,E3,h1,h2,h3,h4⟩:=YW (P:=qg) (st:=34) (ty:=3) tok hS2 hd hs hev;exact⟨v,E3,h1,h3,h4⟩
 obtain⟨v1,E3,hc1,hS3,hx3⟩:=hW2;obtain⟨hS4,hx4⟩:=hS3.grew (Yx.drew E3.w)
 -- the second copy
 have hW3:∀ ty,∃ v E4,(Builtin.copy_ #[34,34] ty #[.slice (some ⟨E.w.heap.size,(i+1)*2,none⟩) (n-i) (G-(i+1)),.slice (some ⟨b,i*2,none⟩) (n-i) (n-i)]).run qg E3.w.drew=.ok v E4.w∧
  SR E4 (σ++[.cells 0 (cells.take (i*2)++(new++cells.drop (i*2)))])∧Ext E2 E4:=by
  intro ty
  have hx24:Ext E2 { E3 with w:=E3.w.drew }:=Ext.trans hx3 hx4;have hd:=osn hx24 (i+1) (n-i) (by omega);have hs:=os1 (hx02.trans hx24) i (n-i) (by omega)
  have hev:Y4 tab 34 (.os true 2 σ.length 0 ((i+1)*2) (n-i) false) (.os true 2 id ver (i*2) (n-i) false) (σ++[.cells 0 (xm (cells.take (i*2)++qP ((n+1-i)*2) AV.u) (i*2) new)])=
   some (.int .i64 ((min (n-i) (n-i):Nat):Int),σ++[.cells 0 (cells.take (i*2)++(new++cells.drop (i*2)))]):=by
   have e1:yu (σ++[.cells 0 (xm (cells.take (i*2)++qP ((n+1-i)*2) AV.u) (i*2) new)]) 2 (.os true 2 id ver (i*2) (n-i) false)=some (n-i,cells.drop (i*2)):=by
    simp only[yu,hold2 hcs];rw[if_pos (by rw[hlen,← uL]; exact qY _ (by omega)),← hdl,ul]
   have e2:min (n-i) (n-i)=n-i:=by omega
   have e3:(cells.drop (i*2)).take ((n-i)*2)=cells.drop (i*2):=by rw[← hdl,ul]
   have hp:w8 (σ++[.cells 0 (xm (cells.take (i*2)++qP ((n+1-i)*2) AV.u) (i*2) new)]) (.os true 2 σ.length 0 ((i+1)*2) (n-i) false) (n-i) 2 (cells.drop (i*2))=some (σ++[.cells 0 (cells.take (i*2)++(new++cells.drop (i*2)))]):=by
    unfold w8;rw[if_neg (by omega)];simp only[hat2,hset2];rw[if_pos ⟨trivial,by rw[hdl,Xi,qj,htl,List.length_replicate]; omega,all_drop hone⟩];rw[show (i+1)*2=i*2+2 by omega,setRun_ins2 _ _ _ (by omega) hnew _ (by rw[hlen]; omega)]
   simp only[Y4,Xu,Xt,e1,e2,e3,hp]
  obtain⟨v,E4,h1,h2,h3,h4⟩:=YW (P:=qg) (st:=34) (ty:=ty) tok hS4 hd hs hev;exact⟨v,E4,h1,h3,hx24.trans h4⟩
 obtain⟨v2,E4,hc2,hS5,hx5⟩:=hW3 3
 have hfin:VR E4 (.os true 2 σ.length 0 0 (n+1) false) (.slice (some ⟨E.w.heap.size,0,none⟩) (n+1) G):=by
  have:=osn hx5 0 (n+1) (by omega)
  rwa [uz,uN] at this
 have hxf:Ext E E4:=hx02.trans hx5
 have hnew':∀ i2 v2 nb,E.loc i2=some (v2,some nb)→E4.loc σ.length=some (0,some nb)→False:=by
  intro i2 v2 nb h1 h2
  have h3:=hx5.back hok2 h2
  rw[hloc2] at h3; cases h3
  have:=(hS.blk _ _ _ h1).1
  omega
 have hz1:¬ ((i:Int)=(n:Int)):=by omega
 have hw1:IntKind.i64.wrap ((i:Int)+1)=(i:Int)+1:=by rw[IntKind.wrap_i64]; omega
 have hw2:IntKind.i64.wrap ((n:Int)+1)=(n:Int)+1:=by rw[IntKind.wrap_i64]; omega
 have hw3:IntKind.i64.wrap ((n:Int)+1-(i:Int))=(n:Int)+1-(i:Int):=by rw[IntKind.wrap_i64]; omega
 have hb1:(0:Int)≤(i:Int)+1:=by omega
 have hin:i≤n:=by omega
 have htn:((i:Int)+1).toNat=i+1:=by omega
 have hb2:¬ (G=i+1):=by omega
 have hb3:(i:Int)≤(n:Int)+1:=by omega
 have hb4:¬ (G=i):=by omega
 have hb5:¬ (n=i):=by omega
 have hz3:(n:Int)<(n:Int)+1:=by omega
 have mixed:Tryz.prog.follows .mixedOrders=true:=by kernel_rfl
 have hrz1:=hrz 34;rw[← hE2w] at hrz1
 clear hS hcs hS1 os1 osv hrz hrd hos hto hS2 hx2 osn hold2 hset2 hat2 hW3 hE2 hE2w hloc2 hok2 hsh2 hx02 hold0 hG hconc hcsz
 go_enter Tryz.func234,Tryz.ntmps234
 go_wp2_with (first
  |(at_builtin; refine Lib.wpList_append_run _ rfl _ _ _ _ rfl _ _ rfl rfl _ _ hrz1 ?_)
  |(at_builtin; refine wpList_copy_runI _ rfl _ _ 34 34 rfl _ _ rfl rfl hc1 ?_))
 go_region_law_o (refine step_copy_runI rfl _ _ 34 34 rfl _ _ (by simp[Act.eval,Act.put]) (by simp[Act.eval,Act.put]) hc2 ?_)
 go_wp2
 go_ret
 exact⟨E4,_,rfl,rfl,hfin,hS5,hxf,hnew'⟩
end
section
set_option maxRecDepth 20000
open Go.RowKit AM
theorem SR.die {E:Env}{σ:Store}(hS:SR E σ):SR { E with n:=E.n+1 } (σ++[.dead])∧Ext E { E with n:=E.n+1 }:=by
 have hx:Ext E { E with n:=E.n+1 } := {
  os:=rfl,tape:=rfl,output:=rfl,size:=qx _,shape:=fun _ _ h=>h,st:=fun _ h=>⟨h,rfl⟩,n:=Nat.le_succ _,
  loc:=fun _ _ v o h=>⟨v,o,h,qx _,fun _=>rfl⟩,old:=fun _ _ _=>rfl,own:=fun id v _ h _=>⟨id,v,h⟩,stn:=fun _ h=>.inl h }
 have hn:E.loc σ.length=none:=by
  have:=hS.obj σ.length;rw[uk (qx _)] at this;exact this
 refine⟨⟨by simp[hS.len],fun id=>?_,hS.inj,hS.blk,hS.stb,hS.glb⟩,hx⟩
 by_cases h1:id<σ.length
 · rw[qR h1]
   exact (hS.obj id).ext hx rfl fun _ _ _=>rfl
 by_cases h2:id=σ.length
 · subst h2;rw[ui (qx _),uD];exact hn
 rw[uk (by simp; omega)];have:=hS.obj id;rw[uk (by omega)] at this;exact this
theorem SR.swap {E:Env}{σ:Store}{cs:List AV}(hS:SR E (σ++[.cells 0 cs])){id ver b nb:Nat}(hlt:id<σ.length)(hl:E.loc id=some (ver,some b))(hn:E.loc σ.length=some (0,some nb)):
 let E':Env := { E with loc:=fun i=>if i=id then some (ver+1,some nb) else if i=σ.length then none else E.loc i }
 SR E' (σ.set id (.cells (ver+1) cs)++[.dead])∧ExtV E E'∧∀ sz len v,VR E (.os true sz σ.length 0 0 len false) v→VR E' (.os true sz id (ver+1) 0 len false) v:=by
 intro E'
 have hid:E'.loc id=some (ver+1,some nb):=by simp[E']
 have hlast:E'.loc σ.length=none:=by simp[E']; omega
 have hother:∀ i,i≠id→i≠σ.length→E'.loc i=E.loc i:=fun i h1 h2=>by simp[E',h1,h2]
 have hx:ExtV E E' := {
  shape:=fun _ _ h=>h
  st:=fun _ h=>⟨h,rfl⟩
  n:=qx _
  loc:=fun i _ v o h=>by
   by_cases h1:i=id
   · subst h1; rw[hid] at h; cases h; exact⟨ver,some b,hl,by omega,fun e=>by omega⟩
   by_cases h2:i=σ.length
   · subst h2; rw[hlast] at h; cases h
   rw[hother i h1 h2] at h; exact⟨v,o,h,qx _,fun _=>rfl⟩ }
 have hnE:E.n=σ.length+1:=by have:=hS.len; simp at this; omega
 have hold:∀ i v c,E'.loc i=some (v,some c)→(i=id∧c=nb)∨(i≠id∧i≠σ.length∧E.loc i=some (v,some c)):=by
  intro i v c h
  by_cases h1:i=id
  · subst h1; rw[hid] at h; cases h; exact .inl ⟨rfl,rfl⟩
  by_cases h2:i=σ.length
  · subst h2; rw[hlast] at h; cases h
  rw[hother i h1 h2] at h; exact .inr ⟨h1,h2,h⟩
 refine⟨⟨by simp[hnE,E'],fun i=>?_,fun i i' v v' c h1 h2=>?_,fun i v c h=>?_,hS.stb,hS.glb⟩,hx,fun sz len v h=>?_⟩
 · by_cases h1:i=id
   · subst h1;rw[qR (by simpa using hlt),ur hlt];have:=hS.obj σ.length;rw[ui (qx _),uD] at this
     rcases this with ⟨c,e1,e2⟩|⟨_,e1⟩
     · rw[hn] at e1; cases e1
       refine .inl ⟨nb,hid,?_⟩;obtain⟨conc,t,fr,a1,a2,a3,a4⟩:=e2.blk;exact⟨conc,t,fr,a1,a2,a3,fun k hk=>(a4 k hk).extV hx⟩
     rw[hn] at e1; cases e1
   by_cases h2:i=σ.length
   · subst h2;rw[ui (by simp)];simp only[List.length_set,uD,uA];exact hlast
   have ho:=hS.obj i
   by_cases h3:i<σ.length
   · rw[qR (by simpa using h3),ud (fun e=>h1 e.symm)];rw[qR h3] at ho
     exact ho.extV hx (hother i h1 h2) fun _ _ _=>rfl
   rw[uk (by simp; omega)] at ho ⊢;exact (hother i h1 h2).trans ho
 · rcases hold _ _ _ h1 with ⟨e1,e2⟩|⟨e1,e2,e3⟩
   · subst e1; subst e2
     rcases hold _ _ _ h2 with ⟨f1,f2⟩|⟨f1,f2,f3⟩
     · exact f1.symm
     exact absurd (hS.inj _ _ _ _ _ f3 hn) f2
   rcases hold _ _ _ h2 with ⟨f1,f2⟩|⟨f1,f2,f3⟩
   · subst f2; exact absurd (hS.inj _ _ _ _ _ e3 hn) e2
   exact hS.inj _ _ _ _ _ e3 f3
 · rcases hold _ _ _ h with ⟨e1,e2⟩|⟨e1,e2,e3⟩
   · subst e2; exact hS.blk _ _ _ hn
   exact hS.blk _ _ _ e3
 have hok:E'.ok id (ver+1):=⟨by show id<E.n; omega,fun v o h=>by rw[hid] at h; cases h; exact qx _⟩
 cases h with
 |osn _ _ _ _ _ a hk h=>
  have:=h _ hn; cases this
 |os _ _ _ _ _ _ _ a cap hk hc ht hB h=>
  refine .os _ _ _ _ _ _ _ a cap hok hc ht hB fun ob hob=>?_
  rw[hid] at hob; cases hob
  exact h _ hn
theorem Ext.swap {E0 E:Env}(hx:Ext E0 E){σ0:Store}(h0:SR E0 σ0){id ver b nb:Nat}(hl:E.loc id=some (ver,some b))(hn:E.loc σ0.length=some (0,some nb))(hnb:E0.w.heap.size≤nb)(hlt:id<σ0.length):
 Ext E0 { E with loc:=fun i=>if i=id then some (ver+1,some nb) else if i=σ0.length then none else E.loc i }:=by
 refine { hx with loc:=fun i hi v o h=>?_,own:=fun i v c h hc=>?_,n:=hx.n,st:=hx.st }
 · by_cases h1:i=id
   · subst h1;simp only[if_true,Option.some.injEq,Prod.mk.injEq] at h;obtain⟨v0,o0,e1,e2,e3⟩:=hx.loc _ hi _ _ hl;exact⟨v0,o0,e1,by omega,fun e=>by omega⟩
   simp only[if_neg h1] at h
   split at h
   · cases h
   exact hx.loc i hi v o h
 by_cases h1:i=id
 · subst h1;simp only[if_true,Option.some.injEq,Prod.mk.injEq] at h
   omega
 simp only[if_neg h1] at h
 split at h
 · cases h
 exact hx.own i v c h hc
theorem ACalls.dies {P:Program}{f:FuncId}{args:List AV}{σ:Store}{x:AV}{τ:Store}(h:ACalls P f args σ fun r σ'=>r=x∧σ'=τ):ACalls P f args σ fun r σ'=>r=x∧σ'=τ++[.dead]:=by
 refine⟨h.1,fun E vs hS hl=>(h.2 E vs hS hl).mono ?_⟩;rintro e w ⟨v,r,σ',E',rfl,rfl,h3,h4,h5,rfl,rfl⟩;obtain⟨g1,g2⟩:=SR.die h4;exact⟨_,_,_,{ E' with n:=E'.n+1 },rfl,rfl,h3.ext g2,g1,h5.trans g2,rfl,rfl⟩
theorem bump {E E':Env}{σ:Store}(hS:SR E σ){id ver b:Nat}{cs cs':List AV}(hcs:Store.at σ id ver=some cs)(hk:E.ok id ver)(hloc:E.loc id=some (ver,some b))(hne:cs.length≠0)(hlen:cs'.length≠0)(h4:SR E' (σ.set id (.cells ver cs')))(h5:Ext E E'){sz len:Nat}{v:Value}
 (h3:VR E' (.os true sz id ver 0 len false) v):
 ∃ E2:Env,E2.w=E'.w∧SR E2 (σ.set id (.cells (ver+1) cs'))∧VR E2 (.os true sz id (ver+1) 0 len false) v∧Ext E E2:=by
 have hat:=Store.at_set (ver':=ver) (cs':=cs') hcs
 have hl':E'.loc id=some (ver,some b):=by
  rcases h4.at hat with ⟨b',e1,_⟩|⟨e1,_⟩
  · have:=h5.back hk e1; rw[hloc] at this; cases this; exact e1
  rw[e1] at hlen; exact absurd rfl hlen
 obtain⟨hS3,hx3⟩:=h4.move (Yx.refl E'.w) hat hl' (ob:=some b) (fun b hb=>by cases hb; exact⟨.inr rfl,(h4.blk _ _ _ hl').1⟩) (cs:=cs') (.inl ⟨b,by simp[Env.move],by
  rcases h4.at hat with ⟨b1,h1,hblk1⟩|⟨_,h1⟩
  · rw[hl'] at h1; cases h1
    obtain⟨conc,t,fr,a1,a2,a3,a4⟩:=hblk1.blk;exact⟨conc,t,fr,a1,a2,a3,fun k hk=>(a4 k hk).ext (Ext.move h4.stb (Yx.refl _) hl' _ fun b hb=>by cases hb; exact .inr rfl)⟩
  rw[hl'] at h1; cases h1⟩)
 rw[List.set_set] at hS3;refine⟨E'.move E'.w id (ver+1) (some b),rfl,hS3,?_,h5.trans hx3⟩;have hok:(E'.move E'.w id (ver+1) (some b)).ok id (ver+1):=⟨ug hk.1 h5.n,fun v o hvo=>by simp[Env.move] at hvo; omega⟩
 cases h3 with
 |osn _ _ _ _ _ a hk h=>have:=h _ hl'; cases this
 |os _ _ _ _ _ _ _ a cap hk hc ht hB h=>
  refine .os _ _ _ _ _ _ _ a cap hok hc ht hB fun ob hob=>?_
  simp only[Env.move,if_true,Option.some.injEq,Prod.mk.injEq,true_and] at hob;subst hob;exact h _ hl'
theorem Insert_at {σ:Store}{id ver n i vid vver:Nat}{nl:Bool}{cells new:List AV}(hcs:Store.at σ id ver=some cells)(hlen:cells.length=n*2)(hone:cells.all AV.one=true)(hi:i≤n)(hn:(n+1)*32≤140737488355328)
 (hv:Store.at σ vid vver=some new) (hnew:new.length=2) (honev:new.all AV.one=true) (hvid:vid≠id):
 ACalls qg 234 [.os nl 2 id ver 0 n false,.int .i64 (i:Int),.os true 2 vid vver 0 1 true] σ (fun r σ'=>r=.os true 2 id (ver+1) 0 (n+1) false∧
  σ'=σ.set id (.cells (ver+1) (cells.take (i*2)++(new++cells.drop (i*2))))++[.dead]):=by
 have hlt:=Store.at_lt hcs
 by_cases hin:i=n
 · subst hin;refine ACalls.dies ?_;refine Zh (rs:=[.tmp 6]) tok Tryz.func234 rfl Tryz.ntmps234 rfl Tryz.call234 (by simp) ?_
   have hap:yx tab 34 34 (.os nl 2 id ver 0 i false) (.os true 2 vid vver 0 1 true) σ=some (.os true 2 id (ver+1) 0 (i+1) false,σ.set id (.cells (ver+1) (cells++new))):=by
    have e1:yu σ 2 (.os true 2 vid vver 0 1 true)=some (1,new):=by
     simp only[yu,hv];rw[if_pos (by omega),qC,Nat.one_mul,← hnew,ul]
    have hg:((i+1)*32≤140737488355328)=True:=eq_true (by omega);simp only[yx,Xu,Xt,e1,yC,hg,honev,qc,and_self,if_true,zY,hcs,hlen]
   have hsl:wY tab 34 (.os nl 2 id ver 0 i false) (some (.int .i64 (i:Int))) none none=some (.os nl 2 id ver (i*2) (i-i) false):=by
    simp only[wY,Xu,Xt,vbl]
    simp
   refine zl [(0,.os nl 2 id ver 0 i false),(1,.int .i64 (i:Int)),(2,.os true 2 vid vver 0 1 true)] ⟨rfl,rfl,rfl,trivial⟩ ?_
   refine rg tok [0,1,2,6] fun K hK=>?_
   simp only[go_sem,qc,qa,reduceCtorEq];apply hK
   clear hK K
   refine rg tok [0,1,2,6] fun K hK=>?_
   simp only[go_sem,qc,qa,reduceCtorEq,hsl];apply hK
   clear hK K
   refine rg tok [0,1,2,6,7] fun K hK=>?_
   simp only[go_sem,qc,qa,reduceCtorEq];apply hK
   clear hK K
   refine za fun Z hZ=>?_
   refine rg tok [0,1,2,6,7,16] fun K hK=>?_
   simp only[go_sem,qc,qa,reduceCtorEq];apply hK
   clear hK K
   refine zL rfl (fun h=>absurd h (by decide)) (fun _=>?_);refine zd ?_;refine hZ _ _ ?_
   clear hZ Z
   refine rg tok [0,1,2,6,7,8] fun K hK=>?_
   simp only[go_sem,qc,qa,reduceCtorEq];apply hK
   clear hK K
   refine za fun Z hZ=>?_
   refine rg tok [0,1,2,6,7,8,22] fun K hK=>?_
   simp only[go_sem,qc,qa,reduceCtorEq,decide_true];apply hK
   clear hK K
   refine zs rfl ?_
   refine rg tok [6] fun K hK=>?_
   simp only[go_sem,qc,qa,reduceCtorEq,hap];apply hK
   clear hK K
   refine zR ?_;simp only[wN,ym,yy,xo,exists_eq_left',go_sem];rw[← hlen,ul,List.drop_length,qH]
 have hi':i<n:=by omega
 refine⟨Tryz.call234,fun E vs hS hl=>?_⟩;obtain⟨l1,l2⟩:=hl.arr
 rcases vs with ⟨_|⟨v0,_|⟨v1,_|⟨v2,_|⟨v3,l⟩⟩⟩⟩⟩<;>simp only[List.size_toArray,qk,qr,qe,reduceCtorEq,qa] at l1
 have h0:VR E (.os nl 2 id ver 0 n false) v0:=l2 0 (by simp);have h1:VR E (.int .i64 (i:Int)) v1:=l2 1 (by simp);have h2:VR E (.os true 2 vid vver 0 1 true) v2:=l2 2 (by simp)
 clear l2 hl
 cases h1
 cases h0 with
 |osn=>omega
 |os _ _ _ _ _ _ _ a cap hk hc ht hB hp=>
 cases h2 with
 |os _ _ _ _ _ _ _ av capv hkv hcv htv hBv hpv=>
 have:=htv rfl; subst this
 obtain⟨b,hloc,_⟩:=hS.block_of hcs (show 0<cells.length by omega);obtain⟨vb,hvloc,_⟩:=hS.block_of hv (show 0<new.length by omega);obtain⟨b',e1,e2,t,m,hsh,hts,hm⟩:=hp _ hloc;cases e1
 have:=e2.resolve_left (by omega); subst this
 obtain⟨b',e1,e2,tv,mv,hvsh,hvts,hmv⟩:=hpv _ hvloc;cases e1
 have:=e2.resolve_left (by omega); subst this
 by_cases hroom:n+1≤cap
 · refine (ins_shift hS hcs hlen hone hi' hloc hk hsh hts (by omega) hroom hn hv hnew honev hvid hvloc hkv hvsh hvts (by omega)).mono ?_;rintro e w ⟨E',rfl,rfl,h3,h4,h5⟩;obtain⟨E2,g1,g2,g3,g4⟩:=bump hS hcs hk hloc (by omega) (by simp only[qj,hnew]; omega) h4 h5 h3;obtain⟨hS3,hx3⟩:=SR.die g2;exact⟨_,_,_,{ E2 with n:=E2.n+1 },rfl,g1,g3.ext hx3,hS3,g4.trans hx3,rfl,rfl⟩
 have hcn:cap=n:=by omega
 subst hcn;refine (ins_grow hS hcs hlen hone hi' hloc hk hsh hts (by omega) hn hv hnew honev hvid hvloc hkv hvsh hvts (by omega)).mono ?_;rintro e w ⟨E',v,rfl,rfl,h3,h4,h5,hnew'⟩
 have hl':E'.loc id=some (ver,some b):=by
  have:=(h4.at (id:=id) (ver:=ver) (cs:=cells) (by
   have:=Store.at_lt hcs
   unfold Store.at at hcs ⊢; rw[qR this]; exact hcs))
  rcases this with ⟨b',e1,_⟩|⟨e1,_⟩
  · have:=h5.back hk e1; rw[hloc] at this; cases this; exact e1
  rw[e1] at hlen; simp at hlen; omega
 have hn':∃ nb,E'.loc σ.length=some (0,some nb)∧E.w.heap.size≤nb:=by
  rcases h4.at (Store.at_new σ 0 _) with ⟨nb,e1,_⟩|⟨e1,_⟩
  · refine⟨nb,e1,Nat.le_of_not_lt fun hlt'=>?_⟩;obtain⟨i2,v2,e2⟩:=h5.own _ _ _ e1 hlt';exact hnew' i2 v2 nb e2 e1
  have:(cells.take (i*2)++(new++cells.drop (i*2))).length=0:=by rw[e1]; rfl
  simp only[qj,hnew] at this; omega
 obtain⟨nb,hn1,hn2⟩:=hn';obtain⟨g1,g2,g3⟩:=SR.swap h4 hlt hl' hn1;exact⟨_,_,_,{ E' with loc:=fun i=>if i=id then some (ver+1,some nb) else if i=σ.length then none else E'.loc i },rfl,rfl,g3 _ _ _ h3,g1,Ext.swap h5 hS hl' hn1 hn2 hlt,rfl,rfl⟩
end
section
set_option maxRecDepth 8000
set_option maxHeartbeats 1000000
open Go.RowKit AM
structure Ent where
 tag:Int
 id:Nat
 ver:Nat
 trees:List GTree
def Ent.cells (e:Ent):List AV:=[.int .i64 e.tag,.os true 5 e.id e.ver 0 e.trees.length false]
def Ent.val (e:Ent):GEntry:=⟨e.tag,e.trees⟩
structure Rep (σ:Store)(tid eid ever:Nat)(L:List Ent):Prop where
 t:Store.at σ tid 0=some [.int .i64 3,.int .i64 0,.str [],.os true 2 eid ever 0 L.length false,.ds true [] 0 true]
 e:Store.at σ eid ever=some (L.flatMap Ent.cells)
 tr:∀ x∈L,Store.at σ x.id x.ver=some (x.trees.flatMap encGTree)
 nd:(tid::eid::L.map Ent.id).Nodup
def Y6 (es:List GEntry)(f:GField)(x:GTree):Option (List GEntry×Bool):=
 (zn es f.fTag).bind fun p=>
 (if p.2=true then some es else (grd (0≤p.1∧p.1≤(es.length:Int))).bind fun _=>(YJ (es.length+1) 32).bind fun _=>some (es.take p.1.toNat++⟨f.fTag,[]⟩::es.drop p.1.toNat)).bind fun es1=>
 (Zb es1 p.1).bind fun e=>
 (YJ ((if f.fLabel=3 then e.fTrees.length else 0)+1) 80).bind fun _=>
 some (es1.set p.1.toNat ⟨e.fTag,(if f.fLabel=3 then e.fTrees else [])++[x]⟩,decide ((((if f.fLabel=3 then e.fTrees else [])++[x]).length:Int)≤64))
theorem wZ {σ:Store}{id ver:Nat}{cs:List AV}(h:Store.at σ id ver=some cs)(l:Store):Store.at (σ++l) id ver=some cs:=by
 have:=Store.at_lt h
 unfold Store.at at h ⊢; rw[qR this]; exact h
theorem wa {σ:Store}{id id' ver:Nat}{cs:List AV}(h:Store.at σ id ver=some cs)(hne:id≠id')(o:AObj):Store.at (σ.set id' o) id ver=some cs:=by
 unfold Store.at at h ⊢; rw[ud (fun e=>hne e.symm)]; exact h
theorem vaG (σ:Store)(cs:List AV)(l:Store):Store.at (σ++.cells 0 cs::l) σ.length 0=some cs:=by
 unfold Store.at; rw[ui (qx _),uD]; rfl
theorem at_end1 (σ:Store)(o:AObj)(cs:List AV)(l:Store):Store.at (σ++o::.cells 0 cs::l) (σ.length+1) 0=some cs:=by
 unfold Store.at; rw[ui (by omega)]; simp
theorem Rep.app {σ:Store}{tid eid ever:Nat}{L:List Ent}(h:Rep σ tid eid ever L)(l:Store):Rep (σ++l) tid eid ever L:=
 ⟨wZ h.t l,wZ h.e l,fun x hx=>wZ (h.tr x hx) l,h.nd⟩
theorem Rep.toldC {σ:Store}{tid eid ever:Nat}{L:List Ent}(h:Rep σ tid eid ever L)(keep:List Nat)(ls:Bool)(f:Nat)(hk:∀ y∈L,idxOf keep y.id 0=none):(L.flatMap Ent.cells).map (tell σ keep ls (f+2))=(L.map Ent.val).flatMap encGEntry:=by
 have key:∀ l:List Ent,(∀ x∈l,x∈L)→(l.flatMap Ent.cells).map (tell σ keep ls (f+2))=(l.map Ent.val).flatMap encGEntry:=by
  intro l
  induction l with
  |nil=>intro _; rfl
  |cons a l ih=>
   intro hl
   have h1:=h.tr a (hl a (qA ..));have h2:=hk a (hl a (qA ..));simp only[qS,qE,qp,ih fun x hx=>hl x (qB _ hx)]
   congr 1
   simp only[Ent.cells,Ent.val,qp,qm,XS,ZD,h2,h1,zZ,cellsGEntry,GEntry.fTag,GEntry.fTrees];have hl:(a.trees.flatMap encGTree).length=a.trees.length*5:=zy E38.len a.trees;rw[if_pos (by rw[hl]; omega),qC,← hl,ul,zi]
 exact key L (fun _ h=>h)
theorem Rep.told {σ:Store}{tid eid ever:Nat}{L:List Ent}(h:Rep σ tid eid ever L)(nl:Bool):tell σ [] true 12 (.os nl 2 eid ever 0 L.length false)=.ds true ((L.map Ent.val).flatMap encGEntry) (L.map Ent.val).length false:=by
 have hl:(L.flatMap Ent.cells).length=L.length*2:=by
  clear h
  induction L with
  |nil=>rfl
  |cons a l ih=>rw[qS,qj,ih]; simp[Ent.cells]; omega
 simp only[ZD,Za,h.e];rw[if_pos (by rw[hl]; omega),qC,← hl,ul,h.toldC [] true 9 (fun _ _=>rfl),uh]
theorem Rep.set_ne {σ:Store}{tid eid ever:Nat}{L:List Ent}(h:Rep σ tid eid ever L){j:Nat}(hj:j∉tid::eid::L.map Ent.id)(o:AObj):Rep (σ.set j o) tid eid ever L:=by
 refine⟨wa h.t (fun e=>hj (by rw[← e]; simp)) o,wa h.e (fun e=>hj (by rw[← e]; simp)) o,fun x hx=>wa (h.tr x hx) (fun e=>hj ?_) o,h.nd⟩;rw[← e];exact qB _ (qB _ (uw.2 ⟨x,hx,rfl⟩))
structure Mid (σ τ:Store)(tid eid ever:Nat)(ids:List Nat)(pre post:List Ent)(tag:Int)(av:AV)(trees:List GTree):Prop where
 t:Store.at τ tid 0=some [.int .i64 3,.int .i64 0,.str [],.os true 2 eid ever 0 (pre.length+(1+post.length)) false,.ds true [] 0 true]
 e:Store.at τ eid ever=some (pre.flatMap Ent.cells++([.int .i64 tag,av]++post.flatMap Ent.cells))
 tr:∀ y∈pre++post,Store.at τ y.id y.ver=some (y.trees.flatMap encGTree)
 nd:(tid::eid::(pre++post).map Ent.id).Nodup
 c:(av=.ds true [] 0 true∧trees=[])∨∃ id ver,av=.os true 5 id ver 0 trees.length false∧Store.at τ id ver=some (trees.flatMap encGTree)∧id∉tid::eid::(pre++post).map Ent.id∧id∈ids
 sub:∀ y∈pre++post,y.id∈ids
 len:σ.length+2≤τ.length
 fr:∀ j,j<σ.length→j∉tid::eid::ids→τ[j]?=σ[j]?
 lt:∀ j∈tid::eid::ids,j<σ.length
theorem agr_app {x:List Nat}:∀ {s:Store} {i:Nat} (l:Store),agr x i s s (s++l)=True:=by
 intro s
 induction s with
 |nil=>intro i l; rfl
 |cons a s ih=>intro i l; simp only[qM,agr,ih]; simp
theorem vaE (l:List Ent):(l.flatMap Ent.cells).length=l.length*2:=by
 induction l with
 |nil=>rfl
 |cons a l ih=>rw[qS,qj,ih]; simp[Ent.cells]; omega
theorem cells_one (l:List Ent):(l.flatMap Ent.cells).all AV.one=true:=by
 induction l with
 |nil=>rfl
 |cons a l ih=>rw[qS,List.all_append,ih]; rfl
theorem split_at {α:Type}{l:List α}{k:Nat}(h:k≤l.length):∃ a b,l=a++b∧a.length=k:=⟨l.take k,l.drop k,(uo k l).symm,by simp[h]⟩
theorem split_el {α:Type}{l:List α}{k:Nat}(h:k<l.length):∃ a x b,l=a++x::b∧a.length=k:=by
 refine⟨l.take k,l[k],l.drop (k+1),?_,by simp; omega⟩;rw[← List.drop_eq_getElem_cons h,uo]
theorem set_mid {α:Type}(a:List α)(x y:α)(b:List α):(a++x::b).set a.length y=a++y::b:=by
 rw[List.set_append_right _ _ (qx _),uD]; rfl
theorem gc_mid (a b:List AV)(x y:AV):gc (a++([x,y]++b)) (a.length+1)=y:=by
 rw[ZJ _ _ _ (by omega),Nat.add_sub_cancel_left]; rfl
theorem set_mid1 (a b:List AV)(x y z:AV):(a++([x,y]++b)).set (a.length+1) z=a++([x,z]++b):=by
 rw[List.set_append_right _ _ (by omega),Nat.add_sub_cancel_left]; rfl
theorem put_at {σ:Store}{tid eid ever:Nat}{L:List Ent}(hR:Rep σ tid eid ever L)(f:GField)(x:GTree){es':List GEntry}{b:Bool}(h:Y6 (L.map Ent.val) f x=some (es',b)):
 ACalls qg 195 [.op tid 0 0,.agg (encGField f),.agg (cellsGTree x)] σ (fun r σ'=>∃ ever' L',r=.bool b∧Rep σ' tid eid ever' L'∧L'.map Ent.val=es'∧
  (∀ y∈L',y.id∈L.map Ent.id∨σ.length≤y.id)∧σ.length≤σ'.length∧∀ j,j<σ.length→j∉tid::eid::L.map Ent.id→σ'[j]?=σ[j]?):=by
 refine Zh (rs:=[.tmp 6]) tok Tryz.func195 rfl Tryz.ntmps195 rfl Tryz.call195 (by simp) ?_;refine zl [(0,.op tid 0 0),(1,.agg (encGField f)),(2,.agg (cellsGTree x))] ⟨rfl,rfl,rfl,trivial⟩ ?_
 refine rg tok [0,4,5,6] fun K hK=>?_
 simp only[go_sem,qc,qa,qe,reduceCtorEq,encGField,cellsGTree];apply hK
 clear hK K
 simp only[qv,qM,qK,qj,qk,qr,qn]
 obtain⟨σ1,hσ1⟩:∃ s,s=σ++[.cells 0 [.str f.fName,.int .i64 f.fTag,.int .i64 f.fLabel,.int .i64 f.fType.fKind,.str f.fType.fName],
  .cells 0 [.int .i64 x.fKind,.int .i64 x.fN,.str x.fS,.ds true (qd encGEntry x.fEntries) x.fEntries.length false,.ds true (qd encGRaw x.fRest) x.fRest.length false]]:=⟨_,rfl⟩
 rw[← hσ1];have hR1:Rep σ1 tid eid ever L:=hσ1▸hR.app _;have h4:Store.at σ1 σ.length 0=some [.str f.fName,.int .i64 f.fTag,.int .i64 f.fLabel,.int .i64 f.fType.fKind,.str f.fType.fName]:=hσ1▸vaG _ _ _;have h5:Store.at σ1 (σ.length+1) 0=some [.int .i64 x.fKind,.int .i64 x.fN,.str x.fS,.ds true (qd encGEntry x.fEntries) x.fEntries.length false,.ds true (qd encGRaw x.fRest) x.fRest.length false]:=hσ1▸at_end1 _ _ _ _
 have hn1:σ1.length=σ.length+2:=by rw[hσ1]; simp
 have hfr:∀ j,j<σ.length→σ1[j]?=σ[j]?:=fun j hj=>by rw[hσ1,qR hj]
 have hlt:∀ j∈tid::eid::L.map Ent.id,j<σ.length:=by
  intro j hj
  rcases qU.1 hj with rfl|hj
  · exact Store.at_lt hR.t
  rcases qU.1 hj with rfl|hj
  · exact Store.at_lt hR.e
  obtain⟨y,hy,rfl⟩:=uw.1 hj;exact Store.at_lt (hR.tr y hy)
 clear hσ1
 unfold Y6 at h;obtain⟨p,hp,h⟩:=bind_some h;have ht1:=hR1.t
 refine rd [0,4,5,6,7,8] fun K hK=>?_
 refine DW.start (T:=tab) [.any,.any,.any,.at [],.any,.at [],.eff,.any,.any,.any,.any,.any] [] ?_;refine DW.runN tok 6 ?_;simp only[go_sem,qc,qa,qe,reduceCtorEq,ht1,h4];refine DW.call rfl rfl rfl ((zn.ok _ _ p hp).lend rfl true 12 (by simp only[qp,qm,go_sem,qa,reduceCtorEq,hR1.told true,XS]; rfl)) ?_;refine DW.runN tok 5 ?_;simp only[go_sem,qc,qa,qe,reduceCtorEq];refine DW.fin tok (by decide +kernel) rfl ?_;simp only[zf,upd,qa,reduceIte,zV,yz];apply hK
 clear hK K
 obtain⟨es1,hes1,h⟩:=bind_some h;obtain⟨e,he,h⟩:=bind_some h;obtain⟨u,hu,h⟩:=bind_some h;have hg:=yF hu
 have hidL:∀ l:List Ent,(l.map Ent.val).length=l.length:=fun l=>uh _
 refine yU (fun F τ=>F=[(0,AV.op tid 0 0),(4,.op σ.length 0 0),(5,.op (σ.length+1) 0 0),(6,.bool false),(7,.int .i64 p.1)]∧∃ ever' pre post av,p.1=(pre.length:Int)∧es1=pre.map Ent.val++e::post.map Ent.val∧Mid σ τ tid eid ever' (L.map Ent.id) pre post e.fTag av e.fTrees∧
  Store.at τ σ.length 0=some [.str f.fName,.int .i64 f.fTag,.int .i64 f.fLabel,.int .i64 f.fType.fKind,.str f.fType.fName]∧
  Store.at τ (σ.length+1) 0=some [.int .i64 x.fKind,.int .i64 x.fN,.str x.fS,.ds true (qd encGEntry x.fEntries) x.fEntries.length false,.ds true (qd encGRaw x.fRest) x.fRest.length false]) ?_ ?_
 · refine rg tok [0,4,5,6,7,21] fun K hK=>?_
   simp only[go_sem,qc,qa,reduceCtorEq];apply hK
   clear hK K
   refine zv (b := !p.2) rfl (fun hc=>?_) (fun hc=>?_)
   · have hc':p.2=false:=by simpa using hc
     rw[wb hc'] at hes1;obtain⟨_,h1,hes1⟩:=bind_some hes1;obtain⟨_,h2,hes1⟩:=bind_some hes1;have h1:=Zn h1;have h2:=yF h2;obtain rfl:=Option.some.inj hes1
     obtain⟨k,hk⟩:∃ k:Nat,p.1=k:=⟨p.1.toNat,by omega⟩
     rw[hk] at he h1 ⊢;simp only[qV,hidL] at he h1 h2
     have hkl:k≤L.length:=by omega
     obtain⟨pre,post,rfl,rfl⟩:=split_at hkl;have hl2:(pre++post).length=pre.length+post.length:=qj
     have e1:List.take pre.length ((pre++post).map Ent.val)=pre.map Ent.val:=by rw[qE,← uh (f:=Ent.val),List.take_left]
     have e2:List.drop pre.length ((pre++post).map Ent.val)=post.map Ent.val:=by rw[qE,← uh (f:=Ent.val),List.drop_left]
     rw[e1,e2] at he
     have hee:e=⟨f.fTag,[]⟩:=by
      obtain⟨_,_,_,g3⟩:=wH he
      rw[← g3]; simp
     subst hee;rw[qV,e1,e2]
     have hc1:((pre++post).flatMap Ent.cells).take (pre.length*2)=pre.flatMap Ent.cells:=by rw[q5,← vaE,List.take_left]
     have hc2:((pre++post).flatMap Ent.cells).drop (pre.length*2)=post.flatMap Ent.cells:=by rw[q5,← vaE,List.drop_left]
     have htl:(tid<σ1.length)=True:=eq_true (by have:=hlt tid (by simp); omega);have htl2:(tid<σ.length)=True:=eq_true (hlt tid (by simp));have hel:=hlt eid (by simp)
     have hte:tid≠eid:=by have:=hR1.nd; simp at this; exact this.1.1
     have hins:=Insert_at (σ:=σ1++[AObj.cells 0 [AV.int .i64 f.fTag,AV.ds true [] 0 true]]) (nl:=true) (i:=pre.length) (wZ hR1.e _) (vaE _) (cells_one _) (by omega) (by have:=of_eq_true h2; omega) (vaG σ1 _ []) (new:=[AV.int .i64 f.fTag,AV.ds true [] 0 true]) rfl rfl (by omega);rw[hc1,hc2] at hins
     obtain⟨σ2,hσ2⟩:∃ s,s=List.set (σ1++[AObj.cells 0 [AV.int .i64 f.fTag,AV.ds true [] 0 true]]) eid (AObj.cells (ever+1) (pre.flatMap Ent.cells++([AV.int .i64 f.fTag,AV.ds true [] 0 true]++post.flatMap Ent.cells)))++[AObj.dead]:=⟨_,rfl⟩
     rw[← hσ2] at hins
     have ht2:Store.at σ2 tid 0=some [.int .i64 3,.int .i64 0,.str [],.os true 2 eid ever 0 (pre++post).length false,.ds true [] 0 true]:=by
      rw[hσ2]; exact wZ (wa (wZ hR1.t _) hte _) _
     refine rdE [0,4,5,6,7] fun K hK=>?_
     refine DW.start (T:=tab) [.any,.any,.any,.any,.own 1 [],.any,.any,.at [],.any,.eff,.eff,.any,.any,.eff] [(1,[])] ?_;refine DW.runN tok 6 ?_;simp only[go_sem,qc,qa,qe,reduceCtorEq,ht1,htl];refine DW.runN tok 4 ?_;simp only[go_sem,qc,qf,qa,qe,ql,reduceCtorEq,h4,zM,z8,q1,qT,true_and,ub,agr_app];refine DW.callS rfl rfl rfl hins (fun m x hm hle=>by simp at hm hle; omega) ?_;refine DW.runN tok 3 ?_;simp only[go_sem,qc,qf,qa,qe,reduceCtorEq,ht2];refine DW.fin tok (by decide +kernel) rfl ?_;simp only[zf,upd,qa,reduceIte,zV,yz];apply hK
     clear hK K
     have hnd:=hR1.nd
     have keep:∀ {j v:Nat} {cs:List AV},Store.at σ1 j v=some cs→j≠eid→j≠tid→Store.at (σ2.set tid (.cells 0 [.int .i64 3,.int .i64 0,.str [],.os true 2 eid (ever+1) 0 ((pre++post).length+1) false,.ds true [] 0 true])) j v=some cs:=by
      intro j v cs hj h1 h2
      refine wa ?_ h2 _
      rw[hσ2]; exact wZ (wa (wZ hj _) h1 _) _
     have hnid:∀ y∈pre++post,y.id≠eid∧y.id≠tid:=by
      intro y hy
      have hm:y.id∈(pre++post).map Ent.id:=uw.2 ⟨y,hy,rfl⟩;rw[List.nodup_cons,List.nodup_cons] at hnd;exact⟨fun e=>hnd.2.1 (e▸hm),fun e=>hnd.1 (qB _ (e▸hm))⟩
     simp only[zf];refine⟨_,_,⟨rfl,ever+1,pre,post,.ds true [] 0 true,rfl,rfl,⟨?_,?_,?_,hnd,.inl ⟨rfl,rfl⟩,?_,?_,?_,hlt⟩,keep h4 (by omega) (by have:=of_eq_true htl2; omega),keep h5 (by omega) (by have:=of_eq_true htl2; omega)⟩,.same ⟨rfl,rfl,rfl,rfl,rfl,trivial⟩ rfl⟩
     · have:=Store.at_set (ver':=0) (cs':=[.int .i64 3,.int .i64 0,.str [],.os true 2 eid (ever+1) 0 ((pre++post).length+1) false,.ds true [] 0 true]) ht2;rw[this,hl2];simp only[Option.some.injEq,List.cons.injEq,AV.os.injEq,true_and,and_true]
       omega
     · refine wa ?_ hte.symm _
       rw[hσ2]; exact wZ (Store.at_set (wZ hR1.e _)) _
     · intro y hy; exact keep (hR1.tr y hy) (hnid y hy).1 (hnid y hy).2
     · intro y hy; exact uw.2 ⟨y,hy,rfl⟩
     · rw[hσ2]; simp; omega
     intro j hj hjn
     simp only[qU,not_or] at hjn;rw[ud (fun e=>hjn.1 e.symm),hσ2,qR (by simp; omega),ud (fun e=>hjn.2.1 e.symm),qR (by omega)];exact hfr j hj
   have hc':p.2=true:=by simpa using hc
   rw[if_pos hc'] at hes1;obtain rfl:=Option.some.inj hes1
   obtain⟨k,hk⟩:∃ k:Nat,p.1=k:=⟨p.1.toNat,by have:=(wH he).1; omega⟩
   have he':=he;rw[hk] at he';obtain⟨g0,g1,g2,g3⟩:=wH he';simp only[qV,hidL] at g1 g2 g3;obtain⟨pre,a,post,rfl,rfl⟩:=split_el (show k<L.length by omega)
   have hea:e=a.val:=by
    rw[← g3]; simp
   subst hea;refine zd ?_;simp only[zf];refine⟨_,σ1,⟨rfl,ever,pre,post,.os true 5 a.id a.ver 0 a.trees.length false,hk,by simp,⟨?_,?_,?_,?_,?_,?_,?_,?_,?_⟩,h4,h5⟩,.same ⟨rfl,rfl,rfl,rfl,rfl,trivial⟩ rfl⟩
   · have:=hR1.t
     rw[qj,qk,Nat.add_comm post.length 1] at this; exact this
   · have:=hR1.e
     rw[q5,qS] at this; exact this
   · intro y hy
     refine hR1.tr y ?_
     rcases uM.1 hy with h|h
     · exact uT _ h
     exact uI _ (qB _ h)
   · have:=hR1.nd;refine List.Nodup.sublist ?_ this;refine List.Sublist.cons_cons _ (List.Sublist.cons_cons _ ?_);exact (List.Sublist.append_left (List.sublist_cons_self _ _) _).map _
   · refine .inr ⟨a.id,a.ver,rfl,hR1.tr a (by simp),?_,by simp⟩;have:=hR1.nd;simp only[qE,qp,List.nodup_cons,qU,uM,List.nodup_append,not_or] at this ⊢;obtain⟨⟨h1,h2,h3,h4⟩,⟨h5,h6,h7⟩,h8,⟨h9,h10⟩,h11⟩:=this;exact⟨fun e=>h3 e.symm,fun e=>h6 e.symm,fun hm=>h11 _ hm _ (.inl rfl) rfl,h9⟩
   · intro y hy
     rcases uM.1 hy with h|h
     · exact uw.2 ⟨y,uT _ h,rfl⟩
     exact uw.2 ⟨y,uI _ (qB _ h),rfl⟩
   · omega
   · intro j hj _; exact hfr j hj
   exact hlt
 clear hes1 hp ht1 hR1 h4 h5 hn1 hfr σ1
 rintro _ τ ⟨rfl,ever1,pre,post,av,hp1,rfl,hM,h4,h5⟩;rw[hp1] at he h;simp only[qV] at h
 have hix:wD tab 34 (.os true 2 eid ever1 0 (pre.length+(1+post.length)) false) (.int .i64 p.1)=some (.op eid ever1 (pre.length*2)):=by
  rw[hp1];simp only[wD,Xu,Xt]
  simp
  omega
 have ht:=hM.t
 refine rg tok [4,5,6,9] fun K hK=>?_
 simp only[go_sem,qc,qa,qe,reduceCtorEq,ht,hix];apply hK
 clear hK K
 have hcl:(pre.flatMap Ent.cells).length=pre.length*2:=vaE pre
 refine yU (fun F τ'=>F=[(5,AV.op (σ.length+1) 0 0),(6,.bool false),(9,.op eid ever1 (pre.length*2))]∧∃ av',Mid σ τ' tid eid ever1 (L.map Ent.id) pre post e.fTag av' (if f.fLabel=3 then e.fTrees else [])∧
  Store.at τ' (σ.length+1) 0=some [.int .i64 x.fKind,.int .i64 x.fN,.str x.fS,.ds true (qd encGEntry x.fEntries) x.fEntries.length false,.ds true (qd encGRaw x.fRest) x.fRest.length false]) ?_ ?_
 · refine rg tok [5,6,9,43] fun K hK=>?_
   simp only[go_sem,qc,qa,qe,h4];apply hK
   clear hK K
   refine zL rfl (fun hc=>?_) (fun hc=>?_)
   · obtain⟨cs,hcs⟩:∃ cs,cs=pre.flatMap Ent.cells++([.int .i64 e.fTag,av]++post.flatMap Ent.cells):=⟨_,rfl⟩
     have hMe:=hM.e;rw[← hcs] at hMe;have hle:(pre.length*2+1<cs.length)=True:=eq_true (by rw[hcs]; simp only[qj,hcl,qk,qr]; omega);have hle':(pre.length*2+1+1≤cs.length)=True:=eq_true (by have:=of_eq_true hle; omega)
     refine rgE tok [5,6,9] fun K hK=>?_
     simp only[go_sem,qc,qa,hMe,hle'];apply hK
     clear hK K
     have hset:cs.set (pre.length*2+1) (.ds true [] 0 true)=pre.flatMap Ent.cells++([.int .i64 e.fTag,.ds true [] 0 true]++post.flatMap Ent.cells):=by
      rw[hcs,← hcl,set_mid1]
     rw[hset];simp only[zf];rw[if_neg hc];have hnd:=hM.nd;have hlt:=hM.lt;rw[List.nodup_cons,List.nodup_cons] at hnd
     have hte:tid≠eid:=fun e=>hnd.1 (e▸qA ..)
     refine⟨_,_,⟨rfl,.ds true [] 0 true,⟨wa hM.t hte _,Store.at_set hM.e,?_,hM.nd,.inl ⟨rfl,rfl⟩,hM.sub,?_,?_,hM.lt⟩,wa h5 ?_ _⟩,.same ⟨rfl,rfl,rfl,trivial⟩ rfl⟩
     · intro y hy
       refine wa (hM.tr y hy) ?_ _
       intro e; exact hnd.2.1 (e▸uw.2 ⟨y,hy,rfl⟩)
     · have:=hM.len; simpa using this
     · intro j hj hjn
       rw[ud]
       · exact hM.fr j hj hjn
       intro e; exact hjn (e▸by simp)
     have:=hlt eid (by simp); omega
   refine zd ?_;simp only[zf];rw[if_pos hc];exact⟨_,τ,⟨rfl,av,hM,h5⟩,.same ⟨rfl,rfl,rfl,trivial⟩ rfl⟩
 clear hM h4 h5 hix ht τ av
 rintro _ τ ⟨rfl,av,hM,h5⟩
 obtain⟨cs,hcs⟩:∃ cs,cs=pre.flatMap Ent.cells++([.int .i64 e.fTag,av]++post.flatMap Ent.cells):=⟨_,rfl⟩
 have hMe:=hM.e;rw[← hcs] at hMe;have hle:(pre.length*2+1<cs.length)=True:=eq_true (by rw[hcs]; simp only[qj,hcl,qk,qr]; omega);have hle':(pre.length*2+1+1≤cs.length)=True:=eq_true (by have:=of_eq_true hle; omega)
 have hgc:gc cs (pre.length*2+1)=av:=by rw[hcs,← hcl,gc_mid]
 have heid:(eid<τ.length)=True:=eq_true (Store.at_lt hMe)
 refine rd [6,9] fun K hK=>?_
 refine DW.start (T:=tab) [.any,.any,.any,.any,.own 1 [],.at [],.eff,.eff,.any,.any,.eff] [(1,[])] ?_;refine DW.runN tok 6 ?_;simp only[go_sem,qc,qf,qa,qe,hMe,hle,hgc,heid,h5]
 obtain⟨xc,hxc⟩:∃ xc,xc=[AV.int .i64 x.fKind,.int .i64 x.fN,.str x.fS,.ds true (qd encGEntry x.fEntries) x.fEntries.length false,.ds true (qd encGRaw x.fRest) x.fRest.length false]:=⟨_,rfl⟩
 have hx5:xc.length=5:=by rw[hxc]; rfl
 have hx1:xc.all AV.one=true:=by rw[hxc]; rfl
 have hxe:xc=encGTree x:=by rw[hxc,zH]<;>rfl
 generalize htr:(if f.fLabel=3 then e.fTrees else [])=trees at *
 have key:∃ nid nver τ3,yx tab 38 38 av (.os true 5 τ.length 0 0 1 true) (τ++[.cells 0 xc])=some (.os true 5 nid nver 0 (trees.length+1) false,τ3)∧Store.at τ3 nid nver=some (trees.flatMap encGTree++xc)∧
  (∀ j v cs,Store.at τ j v=some cs→j≠nid→Store.at τ3 j v=some cs)∧nid∉tid::eid::(pre++post).map Ent.id∧(nid∈L.map Ent.id∨σ.length≤nid)∧τ.length≤τ3.length∧∀ j,j<σ.length→j∉tid::eid::L.map Ent.id→τ3[j]?=τ[j]?:=by
  have e1:yu (τ++[.cells 0 xc]) 5 (.os true 5 τ.length 0 0 1 true)=some (1,xc):=by
   simp only[yu,vaG τ xc []];rw[if_pos (by omega),qC,Nat.one_mul,← hx5,ul]
  rcases hM.c with ⟨rfl,h0⟩|⟨id,ver,rfl,h1,h2,h3⟩
  · refine⟨τ.length+1,0,τ++[.cells 0 xc]++[.cells 0 xc],?_,?_,fun j v cs hj _=>wZ (wZ hj _) _,fun hj=>?_,.inr (by have:=hM.len; omega),by simp,fun j hj _=>?_⟩
    · subst h0;simp only[yx,tab_38,tab_37,e1,yC,hx1,zY,if_true,qj,qk,qr]
      simp
    · subst h0;simp only[qv,qM,qK];exact at_end1 _ _ _ _
    · have:τ.length+1<σ.length:=hM.lt _ (by
       rcases qU.1 hj with h|h
       · rw[h]; simp
       rcases qU.1 h with h|h
       · rw[h]; simp
       obtain⟨y,hy,h'⟩:=uw.1 h
       rw[← h']; exact qB _ (qB _ (hM.sub y hy)))
      have:=hM.len; omega
    have:=hM.len;rw[qv,qR (by omega)]
  refine⟨id,ver+1,List.set (τ++[AObj.cells 0 xc]) id (AObj.cells (ver+1) (trees.flatMap encGTree++xc)),?_,Store.at_set (wZ h1 _),fun j v cs hj hne=>wa (wZ hj _) hne _,h2,.inl h3,by simp,fun j hj hjn=>?_⟩
  · have hl:(trees.flatMap encGTree).length=trees.length*5:=zy E38.len trees
    have hg':((trees.length+1)*80≤140737488355328)=True:=by
     rw[← htr]
     by_cases hl3:f.fLabel=3
     · rw[if_pos hl3]; rw[if_pos hl3] at hg; exact hg
     rw[if_neg hl3]; simp
    simp only[yx,tab_38,tab_37,e1,yC,hx1,zY,wZ h1,hl,hg',and_self,qc,if_true]
  have:=hM.len;rw[ud,qR (by omega)]
  intro e; exact hjn (e▸qB _ (qB _ h3))
 obtain⟨nid,nver,τ3,k1,k2,k3,k4,k5,k6,k7⟩:=key
 have hne:eid≠nid:=fun e=>k4 (e▸by simp)
 have hMe3:=k3 _ _ _ hMe hne;refine DW.runN tok 1 ?_;simp only[go_sem,qc,qf,qa,qe,ql,zM,z8,q1,qT,true_and,ub,agr_app];rw[← hxc];refine DW.runN tok 1 ?_;simp only[go_sem,qc,qf,qa,qe,k1];refine DW.runN tok 3 ?_;simp only[go_sem,qc,qf,qa,qe,hMe3,hle'];refine DW.fin tok (by decide +kernel) rfl ?_;simp only[zf,upd,qa,reduceIte,zV,yz];apply hK
 clear hK K
 have hset:cs.set (pre.length*2+1) (.os true 5 nid nver 0 (trees.length+1) false)=pre.flatMap Ent.cells++([.int .i64 e.fTag,.os true 5 nid nver 0 (trees.length+1) false]++post.flatMap Ent.cells):=by
  rw[hcs,← hcl,set_mid1]
 have hat4:=Store.at_set (ver':=ever1) (cs':=cs.set (pre.length*2+1) (.os true 5 nid nver 0 (trees.length+1) false)) hMe3
 generalize cs.set (pre.length*2+1) (.os true 5 nid nver 0 (trees.length+1) false)=cs4 at *
 have hgc4:gc cs4 (pre.length*2+1)=.os true 5 nid nver 0 (trees.length+1) false:=by rw[hset,← hcl,gc_mid]
 have hle4:(pre.length*2+1<cs4.length)=True:=eq_true (by rw[hset]; simp only[qj,hcl,qk,qr]; omega)
 refine rg tok [6] fun K hK=>?_
 simp only[go_sem,qc,qa,hat4,hgc4,hle4];apply hK
 clear hK K
 refine zR ?_;simp only[wN,ym,yy,xo,exists_eq_left',go_sem];have h':=Option.some.inj h;obtain⟨h1,h2⟩:=Prod.mk.inj h';have hnd:=hM.nd;have hlt:=hM.lt;rw[List.nodup_cons,List.nodup_cons] at hnd
 have hte:tid≠eid:=fun e=>hnd.1 (e▸qA ..)
 have htn:tid≠nid:=fun e=>k4 (e▸by simp)
 have hll:(trees++[x]).length=trees.length+1:=by simp
 refine⟨ever1,pre++⟨e.fTag,nid,nver,trees++[x]⟩::post,?_,⟨?_,?_,?_,?_⟩,?_,?_,?_,?_⟩
 · rw[← h2,hll]
 · refine wa ?_ hte _;have:=k3 _ _ _ hM.t htn;rw[this];simp only[Option.some.injEq,List.cons.injEq,AV.os.injEq,true_and,and_true,qj,qk]
   omega
 · rw[hat4,hset]
   simp[Ent.cells]
 · intro y hy
   rcases uM.1 hy with hy|hy
   · refine wa (k3 _ _ _ (hM.tr y (uT _ hy)) ?_) ?_ _
     · intro e'; exact k4 (e'▸qB _ (qB _ (uw.2 ⟨y,uT _ hy,rfl⟩)))
     intro e'; exact hnd.2.1 (e'▸uw.2 ⟨y,uT _ hy,rfl⟩)
   rcases qU.1 hy with rfl|hy
   · refine wa ?_ hne.symm _
     show Store.at τ3 nid nver=some ((trees++[x]).flatMap encGTree)
     rw[k2,q5,hxe]; simp
   refine wa (k3 _ _ _ (hM.tr y (uI _ hy)) ?_) ?_ _
   · intro e'; exact k4 (e'▸qB _ (qB _ (uw.2 ⟨y,uI _ hy,rfl⟩)))
   intro e'; exact hnd.2.1 (e'▸uw.2 ⟨y,uI _ hy,rfl⟩)
 · have hp:(nid::tid::eid::(pre++post).map Ent.id).Nodup:=List.nodup_cons.2 ⟨k4,hM.nd⟩;refine (List.Perm.nodup_iff ?_).1 hp;refine (List.Perm.swap _ _ _).trans (List.Perm.cons _ ((List.Perm.swap _ _ _).trans (List.Perm.cons _ ?_)));rw[qE,qE,qp];exact (List.perm_middle).symm
 · rw[← h1,← hidL pre,set_mid]
   simp[Ent.val]
 · intro y hy
   rcases uM.1 hy with hy|hy
   · exact .inl (hM.sub y (uT _ hy))
   rcases qU.1 hy with rfl|hy
   · exact k5
   exact .inl (hM.sub y (uI _ hy))
 · have:=hM.len; simp; omega
 intro j hj hjn
 rw[ud (fun e=>hjn (by rw[← e]; simp)),k7 j hj hjn];exact hM.fr j hj hjn
end
section
set_option maxRecDepth 8000
set_option maxHeartbeats 1000000
open Go.RowKit AM
def wS (m:GMessage):List GEntry→Option (List GEntry)
 |[]=>some []
 |e::l=>(xq e m).bind fun b=>(wS m l).bind fun l'=>some (if b=true then l' else e::l')
theorem idx_del (m:GMessage):∀ (es:List GEntry) (x:Int) (es':List GEntry),wS m es=some es'→
 ∃ r,zx.l4 m es x=some r∧((r = -1∧es'=es)∨∃ pre e post post',es=pre++e::post∧r=x+pre.length∧wS m post=some post'∧es'=pre++post'):=by
 intro es
 induction es with
 |nil=>intro x es' h; cases h; exact⟨-1,rfl,.inl ⟨rfl,rfl⟩⟩
 |cons e l ih=>
  intro x es' h
  simp only[wS] at h;obtain⟨b,hb,h⟩:=bind_some h;obtain⟨l',hl,h⟩:=bind_some h;obtain rfl:=Option.some.inj h;simp only[zx.l4,hb,qh]
  cases b with
  |true=>exact⟨x,rfl,.inr ⟨[],e,l,l',rfl,by simp,hl,rfl⟩⟩
  |false=>
   obtain⟨r,h1,h2⟩:=ih (x+1) l' hl;refine⟨r,h1,?_⟩
   rcases h2 with ⟨rfl,rfl⟩|⟨pre,e2,post,post',rfl,rfl,h3,rfl⟩
   · exact .inl ⟨rfl,rfl⟩
   exact .inr ⟨e::pre,e2,post,post',rfl,by simp; omega,h3,rfl⟩
theorem tell_fn {σ:Store}{keep:List Nat}{ls:Bool}{f:Nat}{g:Fn}{a b:List AV}:tell σ keep ls (f+1) (.fn g a b)=.fn g (a.map (tell σ keep ls f)) (b.map (tell σ keep ls f)):=rfl
theorem tell_msg {σ:Store}{keep:List Nat}{f:Nat}{g:Fn}{m:GMessage}:tell σ keep true (f+1+1+1) (.fn g [] [.dp (encGMessage m) 0])=.fn g [] [.dp (encGMessage m) 0]:=by
 simp only[tell_fn,qm,qp,tell_dp,encGMessage,XR,Xf,zi,qq,qt,qu]
theorem vbD (n:Nat):(z8 [AV.int .i64 0,.ds true [] 0 true] n).all AV.one=true:=by
 rw[q7]
 intro x hx
 obtain⟨k,_,rfl⟩:=uw.1 hx
 have:k % 2=0∨k % 2=1:=by omega
 rcases this with h|h<;>simp[h,AV.one,gc]
theorem DeleteFunc_at {σ:Store}{id ver:Nat}{nl:Bool}{es es':List GEntry}(m:GMessage)(hcs:Store.at σ id ver=some (es.flatMap encGEntry))(h:wS m es=some es')(hB:es.length≤1000000000000000):
 ACalls qg 196 [.os nl 2 id ver 0 es.length false,.fn (.func 197) [] [.dp (encGMessage m) 0]] σ (fun r σ'=>∃ cs g,r=.os nl 2 id ver 0 es'.length false∧σ'=List.set σ id (.cells ver (es'.flatMap encGEntry++cs))++g):=by
 obtain⟨r,hr,hcase⟩:=idx_del m es 0 es' h;refine Zh (rs:=[.tmp 4]) tok Tryz.func196 rfl Tryz.ntmps196 rfl Tryz.call196 (by simp) ?_;refine zl [(0,.os nl 2 id ver 0 es.length false),(1,.fn (.func 197) [] [.dp (encGMessage m) 0])] ⟨rfl,rfl,trivial⟩ ?_
 refine rg tok [0,1] fun K hK=>?_
 simp only[go_sem,qc,qa,reduceCtorEq];apply hK
 clear hK K
 have htold:tell σ [] true 12 (.os nl 2 id ver 0 es.length false)=.ds true (es.flatMap encGEntry) es.length false:=by
  have hl:(es.flatMap encGEntry).length=es.length*2:=zy E34.len es;simp only[ZD,Za,hcs];rw[if_pos (by rw[hl]; omega),qC,← hl,ul,zi]
 refine rc [0,1,5] fun K hK=>?_
 refine zj tok 2 ?_;simp only[go_sem,qc,qa,reduceCtorEq];refine wL rfl rfl rfl ((zx.ok es m r hr).lend rfl true 12 (by simp only[qp,qm,go_sem,qa,reduceCtorEq,htold,tell_msg])) ?_;rintro _ _ ⟨rfl,hσ⟩
 rw[hσ]; clear hσ
 refine zj tok 1 ?_;simp only[go_sem,qc,qa,reduceCtorEq];refine zb ?_;simp only[zf,upd,qa,reduceIte,zV,yz];apply hK
 clear hK K
 refine za fun Z hZ=>?_
 refine rg tok [0,1,5,12] fun K hK=>?_
 simp only[go_sem,qc,qa,reduceCtorEq];apply hK
 clear hK K
 refine zL rfl (fun hc=>?_) (fun hc=>?_)
 · have he:es'=es:=by
    rcases hcase with ⟨_,h⟩|⟨pre,e,post,post',_,h2,_⟩
    · exact h
    omega
   subst he
   refine rg tok [4] fun K hK=>?_
   simp only[go_sem,qc,qa,reduceCtorEq];apply hK
   clear hK K
   refine zR ?_;simp only[wN,ym,yy,xo,exists_eq_left',go_sem];exact⟨[],[],by rw[qH,qH,Store.set_at hcs]⟩
 obtain⟨pre,e,post,post',he,h2,h3,h4⟩:∃ pre e post post',es=pre++e::post∧r=0+(pre.length:Int)∧wS m post=some post'∧es'=pre++post':=by
  rcases hcase with ⟨h,_⟩|h
  · exact absurd h hc
  exact h
 rw[Int.zero_add] at h2;subst h2
 have hl0:es.length=pre.length+(post.length+1):=by rw[he]; simp
 refine zd ?_;refine hZ _ _ ?_
 clear hZ Z
 have hw1:IntKind.i64.wrap ((pre.length:Int)+1)=(pre.length:Int)+1:=by rw[IntKind.wrap_i64]; omega
 refine za fun Z hZ=>?_
 refine rg tok [0,1,5,6] fun K hK=>?_
 simp only[go_sem,qc,qa,reduceCtorEq,hw1];apply hK
 clear hK K
 refine ze ?_
 refine zF (fun k F τ=>∃ (cur kept rest rest':List GEntry) (j:Nat) (g:Store),k=rest.length∧F=[(0,AV.os nl 2 id ver 0 es.length false),(1,.fn (.func 197) [] [.dp (encGMessage m) 0]),(5,.int .i64 (kept.length:Int)),(6,.int .i64 (j:Int))]∧
  τ=List.set σ id (.cells ver (cur.flatMap encGEntry))++g∧cur.length=es.length∧cur.take kept.length=kept∧cur.drop j=rest∧j+rest.length=es.length∧kept.length<j∧wS m rest=some rest'∧es'=kept++rest') post.length
  ⟨es,pre,post,post',pre.length+1,[],rfl,rfl,by rw[Store.set_at hcs,qH],rfl,by rw[he,List.take_left],by rw[he,← uV,List.drop_left]; rfl,by omega,by omega,h3,h4⟩ (.same ⟨rfl,rfl,rfl,rfl,trivial⟩ rfl) ?_
 rintro k _ _ ⟨cur,kept,rest,rest',j,g,rfl,rfl,rfl,c1,c2,c3,c4,c5,c6,c7⟩;have hat:Store.at (List.set σ id (.cells ver (cur.flatMap encGEntry))++g) id ver=some (cur.flatMap encGEntry):=wZ (Store.at_set hcs) _
 obtain⟨τ,hτ⟩:∃ τ,τ=List.set σ id (.cells ver (cur.flatMap encGEntry))++g:=⟨_,rfl⟩
 rw[← hτ] at hat ⊢
 refine za fun Y hY=>?_
 refine rg tok [0,1,5,6,19] fun K hK=>?_
 simp only[go_sem,qc,qa,reduceCtorEq];apply hK
 clear hK K
 refine zL rfl (fun hc=>?_) (fun hc=>?_)
 · refine zd ?_;refine hY _ _ ?_
   clear hY Y
   rcases rest with _|⟨e2,rest⟩
   · simp only[qr] at c4; omega
   simp only[wS] at c6;obtain⟨b,hb,c6⟩:=bind_some c6;obtain⟨l',hl',c6⟩:=bind_some c6;obtain rfl:=Option.some.inj c6;simp only[qk] at c4
   have hx:Zb cur (j:Int)=some e2:=by
    unfold Zb;rw[if_pos (by omega),qV]
    have:(cur.drop j)[0]?=some e2:=by rw[c3]; rfl
    rwa [List.getElem?_drop,uO] at this
   have hcd:cur.drop (j+1)=rest:=by rw[← uV,c3]; rfl
   have hw6:IntKind.i64.wrap ((j:Int)+1)=((j+1:Nat):Int):=by rw[IntKind.wrap_i64]; omega
   have hix:=E34.idxO hx nl false .i64 2 id ver;rw[c1] at hix;have hrd:=E34.rdO hx
   refine za fun X hX=>?_
   have fin:∀ (cur' kept':List GEntry) (F:Fr) (τ':Store),Fits F [(0,AV.os nl 2 id ver 0 es.length false),(1,.fn (.func 197) [] [.dp (encGMessage m) 0]),(5,.int .i64 (kept'.length:Int)),(6,.int .i64 (j:Int))]→(∃ g',τ'=List.set σ id (.cells ver (cur'.flatMap encGEntry))++g')→cur'.length=es.length→cur'.take kept'.length=kept'→cur'.drop (j+1)=rest→kept'.length<j+1→es'=kept'++l'→
    X F τ':=by
    rintro cur' kept' F _ hF ⟨g',rfl⟩ d1 d2 d3 d4 d5;refine hX _ _ (yn (.same hF rfl) ?_)
    refine rgE tok [0,1,5,6] fun K hK=>?_
    simp only[go_sem,qc,qa,reduceCtorEq,hw6];apply hK
    clear hK K
    simp only[zf];exact⟨rest.length,_,_,by simp,⟨cur',kept',rest,l',j+1,g',rfl,rfl,rfl,d1,d2,d3,by omega,by omega,hl',d5⟩,.same ⟨rfl,rfl,rfl,rfl,trivial⟩ rfl⟩
   clear hX
   have hae:∀ cs,Store.at (τ++[.cells 0 cs]) τ.length 0=some cs:=fun cs=>vaG τ cs []
   have hse:∀ cs cs',(τ++[AObj.cells 0 cs]).set τ.length (.cells 0 cs')=τ++[.cells 0 cs']:=fun cs cs'=>set_mid τ _ _ []
   have hw5:IntKind.i64.wrap ((kept.length:Int)+1)=((kept.length+1:Nat):Int):=by rw[IntKind.wrap_i64]; omega
   refine ze ?_
   refine rg tok [0,1,5,6,7] fun K hK=>?_
   simp only[go_sem,qc,qf,qa,qe,reduceCtorEq,hat,hix,hrd,zZ,cellsGEntry,hae,hse,qk,qr,uu,uG];apply hK
   clear hK K
   refine rc [0,5,6,7,1,29] fun K hK=>?_
   refine zj tok 2 ?_;simp only[go_sem,qc,qf,qa,qe,reduceCtorEq,hae,qk,qr];refine wL rfl rfl rfl (xq.ev e2 m b hb _) ?_;rintro _ _ ⟨rfl,hσ⟩
   rw[hσ]; clear hσ
   refine zj tok 1 ?_;simp only[go_sem,qc,qa,reduceCtorEq];refine zb ?_;simp only[zf,upd,qa,reduceIte,zV,yz];apply hK
   clear hK K
   cases b with
   |true=>
    refine zp rfl ?_;refine zd ?_;simp only[Yl,zf];exact fin cur kept _ _ ⟨rfl,rfl,rfl,rfl,trivial⟩ ⟨g++[.cells 0 [.int .i64 e2.fTag,.ds true (qd encGTree e2.fTrees) e2.fTrees.length false]],by rw[hτ,qv]⟩ c1 c2 hcd (by omega) c7
   |false=>
    refine zs rfl ?_
    have hkl:kept.length<cur.length:=by omega
    have hx2:Zb cur (kept.length:Int)=some cur[kept.length]:=by
     unfold Zb;rw[if_pos (by omega),qV,q3 hkl]
    have hix2:=E34.idxO hx2 nl false .i64 2 id ver;rw[c1] at hix2;have hsc:=E34.stOc hx2;have hsr:=E34.stOr hx2 (y:=e2) (cs:=[.int .i64 e2.fTag,.ds true (qd encGTree e2.fTrees) e2.fTrees.length false]) (by rw[zZ]<;>rfl);simp only[xm] at hsr;have hat1:Store.at (τ++[.cells 0 [.int .i64 e2.fTag,.ds true (qd encGTree e2.fTrees) e2.fTrees.length false]]) id ver=some (cur.flatMap encGEntry):=wZ hat _
    refine rg tok [0,1,5,6] fun K hK=>?_
    simp only[go_sem,qc,qf,qa,qe,reduceCtorEq,hae,hix2,hsc,hsr,hat1,qk,qr];apply hK
    clear hK K
    refine rgE tok [0,1,5,6] fun K hK=>?_
    simp only[go_sem,qc,qa,reduceCtorEq,hw5];apply hK
    clear hK K
    simp only[Yl,zf]
    have hlen:(kept++[e2]).length=kept.length+1:=by simp
    refine fin (setI cur (kept.length:Int) e2) (kept++[e2]) _ _ ⟨rfl,rfl,by rw[hlen]; rfl,rfl,trivial⟩ ⟨g++[.cells 0 [.int .i64 e2.fTag,.ds true (qd encGTree e2.fTrees) e2.fTrees.length false]],?_⟩ ?_ ?_ ?_ (by rw[hlen]; omega) (by rw[c7]; simp)
    · rw[hτ,qv,List.set_append_left _ _ (by simpa using Store.at_lt hcs),List.set_set]
    · rw[ZM]; exact c1
    · rw[hlen];unfold setI;rw[qV,List.take_set,List.take_add_one,c2,q3 hkl]
      simp
    unfold setI;rw[qV,List.drop_set_of_lt (by omega)];exact hcd
 refine zA ?_;simp only[go_sem];have hr0:rest=[]:=qF.1 (by omega);subst hr0;cases c6;rw[qH] at c7;subst c7;simp only[qr,uO] at c4
 have hkn:es'.length<es.length:=by omega
 have hsl1:wY tab 34 (.os nl 2 id ver 0 es.length false) (some (.int .i64 (es'.length:Int))) none none=some (.os nl 2 id ver (es'.length*2) (es.length-es'.length) false):=by
  simp only[wY,Xu,Xt,vbl]
  simp
  omega
 have hsl2:wY tab 34 (.os nl 2 id ver 0 es.length false) none (some (.int .i64 (es'.length:Int))) none=some (.os nl 2 id ver 0 es'.length false):=by
  simp only[wY,Xu,Xt,vbl]
  simp
  omega
 have hcl:(cur.flatMap encGEntry).length=es.length*2:=by rw[← c1]; exact zy E34.len cur
 have hzl:∀ n,(z8 [AV.int .i64 0,.ds true [] 0 true] n).length=n:=fun n=>by simp[z8]
 have hsr:xm (cur.flatMap encGEntry) (es'.length*2) (z8 [AV.int .i64 0,.ds true [] 0 true] ((es.length-es'.length)*2))=es'.flatMap encGEntry++z8 [AV.int .i64 0,.ds true [] 0 true] ((es.length-es'.length)*2):=by
  have e0:cur.flatMap encGEntry=es'.flatMap encGEntry++((cur.drop es'.length).flatMap encGEntry++[]):=by
   rw[qH,← q5]
   congr 1
   conv=>lhs; rw[← uo es'.length cur,c2]
  have l1:(es'.flatMap encGEntry).length=es'.length*2:=zy E34.len _;rw[e0,← l1,ZL _ _ _ _ (by rw[hzl,zy E34.len,List.length_drop,c1]),qH]
 have hclr:vca tab 34 (.os nl 2 id ver (es'.length*2) (es.length-es'.length) false) τ=some (.tup [],τ.set id (.cells ver (es'.flatMap encGEntry++z8 [AV.int .i64 0,.ds true [] 0 true] ((es.length-es'.length)*2)))):=by
  have hp:w8 τ (.os nl 2 id ver (es'.length*2) (es.length-es'.length) false) (es.length-es'.length) 2 (z8 [AV.int .i64 0,.ds true [] 0 true] ((es.length-es'.length)*2))=some (τ.set id (.cells ver (es'.flatMap encGEntry++z8 [AV.int .i64 0,.ds true [] 0 true] ((es.length-es'.length)*2)))):=by
   unfold w8;rw[if_neg (by omega)];simp only[hat];rw[if_pos ⟨trivial,by rw[hzl,hcl,← uL]; exact qY _ (by omega),vbD _⟩,hsr]
  simp only[vca,Xu,Xt,AV.cells,hp]
  simp[AV.okc,AV.one]
 refine hZ _ _ ?_
 refine rg tok [0,5] fun K hK=>?_
 simp only[go_sem,qc,qa,reduceCtorEq,hsl1,hclr];apply hK
 clear hK K
 refine rg tok [4] fun K hK=>?_
 simp only[go_sem,qc,qa,reduceCtorEq,hsl2];apply hK
 clear hK K
 refine zR ?_;simp only[wN,ym,yy,xo,exists_eq_left',go_sem];refine⟨z8 [AV.int .i64 0,.ds true [] 0 true] ((es.length-es'.length)*2),g,?_⟩;rw[hτ,List.set_append_left _ _ (by simpa using Store.at_lt hcs),List.set_set]
end
section
set_option maxRecDepth 8000
set_option maxHeartbeats 1000000
open Go.RowKit AM
def zB.l (y7:GSchema→GType→GRaw→Int→Option (GTree×Int))(a0:GSchema)(a1:GMessage)(a3:Int):List GRaw→List GEntry→List GRaw→Option (GTree×Int)
 |[],es,rest=>(YJ es.length 32).bind fun _=>(wS a1 es).bind fun es'=>(zP rest).bind fun r=>some ((⟨3,0,[],es',r⟩:GTree),0)
 |r::q,es,rest=>bnd (zk a1 r.fTag) fun f=>(if f.2=true then (y7 a0 f.1.fType r a3).bind fun x=>(if x.2=0 then (Y6 es f.1 x.1).bind fun p=>(if p.2=true then zB.l y7 a0 a1 a3 q p.1 rest else some ((⟨0,0,[],[],[]⟩:GTree),4)) else some ((⟨0,0,[],[],[]⟩:GTree),x.2))
  else (YJ (rest.length+1) 40).bind fun _=>zB.l y7 a0 a1 a3 q es (rest++[r]))
def zB.body (zI:GSchema→GMessage→List UInt8→Int→Option (GTree×Int))(y7:GSchema→GType→GRaw→Int→Option (GTree×Int))(a0:GSchema)(a1:GMessage)(a2:List UInt8)(a3:Int):Option (GTree×Int):=
 if 10<a3 then some ((⟨0,0,[],[],[]⟩:GTree),10) else (xE a2).bind fun g=>if g.2=0 then zB.l y7 a0 a1 a3 g.1 [] [] else some ((⟨0,0,[],[],[]⟩:GTree),g.2)
structure Loop (τ:Store)(a0:GSchema)(a1:GMessage)(ever rver:Nat)(L:List Ent)(rest:List GRaw):Prop where
 h0:Store.at τ 0 0=some (encGSchema a0)
 h1:Store.at τ 1 0=some (encGMessage a1)
 h2:Store.at τ 2 0=some [.int .i64 0,.int .i64 0,.str [],.ds true [] 0 true,.ds true [] 0 true]
 rep:Rep τ 3 4 ever L
 h5:Store.at τ 5 rver=some (rest.flatMap encGRaw)
 ids:∀ y∈L,6≤y.id
theorem Loop.app {τ:Store}{a0:GSchema}{a1:GMessage}{ever rver:Nat}{L:List Ent}{rest:List GRaw}(h:Loop τ a0 a1 ever rver L rest)(l:Store):Loop (τ++l) a0 a1 ever rver L rest:=
 ⟨wZ h.h0 l,wZ h.h1 l,wZ h.h2 l,h.rep.app l,wZ h.h5 l,h.ids⟩
theorem van {σ:Store}{keep:List Nat}{e:Int}:tell σ keep true 12 (.tup [.agg [.int .i64 0,.int .i64 0,.str [],.ds true [] 0 true,.ds true [] 0 true],.int .i64 e])=.tup [.agg (cellsGTree ⟨0,0,[],[],[]⟩),.int .i64 e]:=by
 simp only[tell_tup,qp,qm,tell_agg,XS,XR,Xf]
 rfl
theorem zB.step (zI:GSchema→GMessage→List UInt8→Int→Option (GTree×Int))(y7:GSchema→GType→GRaw→Int→Option (GTree×Int))
 (Xk:∀ (a0:GSchema) (a1:GType) (a2:GRaw) (a3:Int) (r:GTree×Int),y7 a0 a1 a2 a3=some r→ACalls qg 194 [.agg (encGSchema a0),.agg (encGType a1),.agg (encGRaw a2),.int .i64 a3] [] (fun r' _=>r'=.tup [.agg (cellsGTree r.1),.int .i64 r.2]))
 (a0:GSchema) (a1:GMessage) (a2:List UInt8) (a3:Int) (r:GTree×Int) (h:zB.body zI y7 a0 a1 a2 a3=some r):
 ACalls qg 149 [.agg (encGSchema a0),.agg (encGMessage a1),.ds true (qd encB a2) (qb a2) false,.int .i64 a3] [] (fun r' _=>r'=.tup [.agg (cellsGTree r.1),.int .i64 r.2]):=by
 have ev_one:=fun a0 a1 a2 a3 r h σ=>(Xk a0 a1 a2 a3 r h).pureAt (by simp only[AV.canon,canonL,canon_all,qO,qw,qq,encGRaw,encGSchema,encGType]) (by simp only[AV.canon,canonL,canon_all,qO,qw,qq,cellsGTree]) σ
 refine zh (rs:=[.cell 8 37,.tmp 9]) tok Tryz.func149 rfl Tryz.ntmps149 rfl Tryz.call149 (by simp) ?_;refine zl [(0,.agg (encGSchema a0)),(1,.agg (encGMessage a1)),(2,.ds true (qd encB a2) (qb a2) false),(3,.int .i64 a3)] ⟨rfl,rfl,rfl,rfl,trivial⟩ ?_;unfold zB.body at h
 refine rg tok [2,3,4,5,8,9] fun K hK=>?_
 simp only[go_sem,qc,qa,qe,reduceCtorEq,encGSchema,encGMessage];apply hK
 clear hK K
 refine za fun Z hZ=>?_
 refine rg tok [2,3,4,5,8,9,21] fun K hK=>?_
 simp only[go_sem,qc,qa];apply hK
 clear hK K
 refine zL rfl (fun hc=>?_) (fun hc=>?_)
 · rw[if_pos hc] at h;obtain rfl:=Option.some.inj h
   refine rg tok [8,9] fun K hK=>?_
   simp only[go_sem,qc,qf,qa,qe];apply hK
   clear hK K
   refine zR ?_;simp only[wN,ym,yy,xo,exists_eq_left',go_sem,qf,qa,qe];exact van
 rw[if_neg hc] at h;obtain⟨g,hg,h⟩:=bind_some h;refine zd ?_;refine hZ _ _ ?_
 clear hZ Z
 refine rc [3,4,5,8,9,10,11] fun K hK=>?_
 refine zj tok 1 ?_;simp only[go_sem,qc,qa];refine wL rfl rfl rfl (xE.ev a2 g hg _) ?_;rintro _ _ ⟨rfl,hσ⟩
 rw[hσ]; clear hσ
 refine zj tok 5 ?_;simp only[go_sem,qc,qa,qe];refine zb ?_;simp only[zf,upd,qa,reduceIte,zV,yz];apply hK
 clear hK K
 refine za fun Z hZ=>?_
 refine rg tok [3,4,5,8,9,10,11,29] fun K hK=>?_
 simp only[go_sem,qc,qa];apply hK
 clear hK K
 refine zL rfl (fun hc2=>?_) (fun hc2=>?_)
 · rw[if_neg hc2] at h;obtain rfl:=Option.some.inj h
   refine rg tok [8,9] fun K hK=>?_
   simp only[go_sem,qc,qf,qa,qe];apply hK
   clear hK K
   refine zR ?_;simp only[wN,ym,yy,xo,exists_eq_left',go_sem,qf,qa,qe];exact van
 rw[if_pos hc2] at h;refine zd ?_;refine hZ _ _ ?_
 clear hZ Z
 refine rg tok [3,4,5,8,9,10,12] fun K hK=>?_
 simp only[go_sem,qc,qf,qa,qe];apply hK
 clear hK K
 refine Zg 3 3 2 rfl (by simp) rfl (L:=[(3,.int .i64 a3),(4,.op 0 0 0),(5,.op 1 0 0),(8,.op 2 0 0),(9,.int .i64 0),(10,.ds true (qd encGRaw g.1) (qb g.1) false),(12,.op 3 0 0)]) (.same ⟨rfl,rfl,rfl,rfl,rfl,rfl,rfl,trivial⟩ rfl) ?_
 refine rg tok [3,4,5,8,9,10,12,13] fun K hK=>?_
 simp only[go_sem,qc,qa,qe];apply hK
 clear hK K
 refine Zt 13 4 rfl ?_;refine yn (L:=[(3,.int .i64 a3),(4,.op 0 0 0),(5,.op 1 0 0),(8,.op 2 0 0),(9,.int .i64 0),(10,.ds true (qd encGRaw g.1) (qb g.1) false),(12,.op 3 0 0),(13,.os true 4 5 0 0 0 false)]) (.same ⟨rfl,rfl,rfl,rfl,rfl,rfl,rfl,rfl,trivial⟩ rfl) ?_
 refine za fun Z hZ=>?_
 refine yD 10 fun hb=>?_
 replace hb:qb g.1≤9223372036854775807:=hb.1
 refine rg tok [3,4,5,8,9,12,13,33,34,35] fun K hK=>?_
 simp only[go_sem,qc,qa];apply hK
 clear hK K
 refine ze ?_
 refine zF (fun k F τ=>∃ (p q:List GRaw) (i:Int) (L:List Ent) (rest:List GRaw) (ever rver:Nat),k=q.length∧F=[(3,AV.int .i64 a3),(4,.op 0 0 0),(5,.op 1 0 0),(8,.op 2 0 0),(9,.int .i64 0),(12,.op 3 0 0),(13,.os true 4 5 rver 0 rest.length false),(33,.ds true (qd encGRaw g.1) (qb g.1) false),(34,.int .i64 (qb g.1:Int)),(35,.int .i64 i)]∧Loop τ a0 a1 ever rver L rest∧g.1=p++q∧i=(p.length:Int)∧zB.l y7 a0 a1 a3 q (L.map Ent.val) rest=some r) g.1.length
  ⟨[],g.1,0,[],[],0,0,rfl,rfl,⟨rfl,rfl,rfl,⟨rfl,rfl,fun _ h=>(by cases h),by simp⟩,rfl,fun _ h=>(by cases h)⟩,rfl,rfl,h⟩ (.same ⟨rfl,rfl,rfl,rfl,rfl,rfl,rfl,rfl,rfl,rfl,trivial⟩ rfl) ?_
 clear h
 rintro k _ τ ⟨p,q,i,L,rest,ever,rver,rfl,rfl,hL,hE,hi,h⟩
 refine rg tok [3,4,5,8,9,12,13,33,34,35,36] fun K hK=>?_
 simp only[go_sem,qc,qa];apply hK
 clear hK K
 refine za fun Y hY=>?_
 rcases q with _|⟨y,q⟩
 · have hz:=yH hE hi;refine zL rfl (fun hc=>absurd hc (by rw[hz]; exact id)) (fun _=>?_);refine zA ?_;simp only[zf,go_sem];simp only[zB.l] at h;obtain⟨u,hu,h⟩:=bind_some h;have hrm:=of_eq_true (yF hu);obtain⟨es',hes,h⟩:=bind_some h;obtain⟨rr,hrr,h⟩:=bind_some h;obtain rfl:=Option.some.inj h
   have hid:∀ y∈L,idxOf [2,3,4] y.id 0=none:=by
    intro y hy
    have:=hL.ids y hy;simp only[Zl,Za];rw[if_neg (by omega),if_neg (by omega),if_neg (by omega)]
   have hget:∀ {j v:Nat} {cs:List AV},Store.at τ j v=some cs→τ.getD j .dead=.cells v cs:=by
    intro j v cs hj
    rw[qG,Store.at_some hj]; rfl
   have hl4:(rest.flatMap encGRaw).length=rest.length*4:=zy E35.len rest;have hcells:=hL.rep.toldC [2,3,4] false 10 hid
   have htS:tellS τ [2,3,4] false 12=[.cells 0 [.int .i64 0,.int .i64 0,.str [],.ds true [] 0 true,.ds true [] 0 true],.cells 0 [.int .i64 3,.int .i64 0,.str [],.os true 2 2 ever 0 (L.map Ent.val).length false,.ds true [] 0 true],.cells ever ((L.map Ent.val).flatMap encGEntry)]:=by
    simp only[tellS,qp,qm,hget hL.h2,hget hL.rep.t,hget hL.rep.e,Xy,XS,XR,Xf,ZD,Zl,Za,qa,if_true,if_false,hcells,uh,qN,qw,qJ,qe]
   have hrest:tell τ [2,3,4] false 12 (.os true 4 5 rver 0 rest.length false)=.ds true (rest.flatMap encGRaw) rest.length false:=by
    simp only[ZD,Zl,Za,qa,if_false,hL.h5];rw[if_pos (by rw[hl4]; omega),qC,← hl4,ul,zi]
   have hmsg:tell τ [2,3,4] false 12 (.op 1 0 0)=.dp (encGMessage a1) 0:=by
    simp only[tell_op,Zl,Za,qa,if_false,hL.h1,encGMessage,qp,qm,XR,Xf,zi,qN,qw,qJ]
   have hk3:[2,3,4].Nodup:=by decide
   have hlt5:=Store.at_lt hL.h5;refine hZ _ _ ?_;refine yn (L:=[(5,.dp (encGMessage a1) 0),(8,.op 0 0 0),(12,.op 1 0 0),(13,.ds true (rest.flatMap encGRaw) rest.length false)]) (.told [2,3,4] false hk3 (by intro id hid'; simp at hid'; omega) rfl htS ⟨hmsg,rfl,rfl,hrest,trivial⟩) ?_
   refine rc [8,12,13] fun K hK=>?_
   refine zj tok 3 ?_;simp only[go_sem,qc,qa,qe,uh];have hdel:=DeleteFunc_at (σ:=[.cells 0 [.int .i64 0,.int .i64 0,.str [],.ds true [] 0 true,.ds true [] 0 true],.cells 0 [.int .i64 3,.int .i64 0,.str [],.os true 2 2 ever 0 L.length false,.ds true [] 0 true],.cells ever ((L.map Ent.val).flatMap encGEntry)]) (id:=2) (ver:=ever) (nl:=true) a1 (by simp only[Store.at_hd,Store.at_tl,if_true]) hes (by omega);rw[uh] at hdel;refine wL rfl rfl rfl hdel ?_;rintro _ _ ⟨cs,g',rfl,rfl⟩;refine zj tok 2 ?_;simp only[go_sem,qc,qf,qa,qe,qM,qK,uG,uu];refine zb ?_;simp only[zf,upd,qa,reduceIte,zV,yz];apply hK
   clear hK K
   refine rc [8,12] fun K hK=>?_
   refine zj tok 1 ?_;simp only[go_sem,qc,qa];refine wL rfl rfl rfl (zP.ev rest rr hrr _) ?_;rintro _ _ ⟨rfl,hσ⟩
   rw[hσ]; clear hσ
   refine zj tok 2 ?_;simp only[go_sem,qc,qf,qa,qe,uG,uu];refine zb ?_;simp only[zf,upd,qa,reduceIte,zV,yz];apply hK
   clear hK K
   refine rg tok [8,9] fun K hK=>?_
   simp only[go_sem,qc,qf,qa,qe,uG,uu];apply hK
   clear hK K
   refine zR ?_;simp only[wN,ym,yy,xo,exists_eq_left',go_sem,qf,qa,qe];have hle:(es'.flatMap encGEntry).length=es'.length*2:=zy E34.len es';simp only[tell_tup,qp,qm,tell_agg,XS,XR,Xf,ZD,Za,Store.at_hd,Store.at_tl,if_true,zi,cellsGTree,GTree.fKind,GTree.fN,GTree.fS,GTree.fEntries,GTree.fRest];rw[if_pos (by rw[qj,hle]; omega),qC,← hle,List.take_left,zi]
   rfl
 obtain⟨hz,hw,hx,hE',hi'⟩:=ya hE hi hb;refine zL rfl (fun _=>?_) (fun hc=>absurd (of_eq_true hz) hc);refine zd ?_;refine hY _ _ ?_
 clear hY Y
 refine za fun X hX=>?_
 have fin:∀ (F:Fr) (τ':Store) (L':List Ent) (rest':List GRaw) (ever' rver':Nat),Fits F [(3,AV.int .i64 a3),(4,.op 0 0 0),(5,.op 1 0 0),(8,.op 2 0 0),(9,.int .i64 0),(12,.op 3 0 0),(13,.os true 4 5 rver' 0 rest'.length false),(33,.ds true (qd encGRaw g.1) (qb g.1) false),(34,.int .i64 (qb g.1:Int)),(35,.int .i64 i)]→Loop τ' a0 a1 ever' rver' L' rest'→zB.l y7 a0 a1 a3 q (L'.map Ent.val) rest'=some r→X F τ':=by
  intro F τ' L' rest' ever' rver' hF hL' h'
  refine hX _ _ (yn (.same hF rfl) ?_)
  refine rgE tok [3,4,5,8,9,12,13,33,34,35] fun K hK=>?_
  simp only[go_sem,qc,qa,hw];apply hK
  clear hK K
  simp only[zf];exact⟨q.length,_,_,by simp,⟨p++[y],q,i+1,L',rest',ever',rver',rfl,rfl,hL',hE',hi',h'⟩,.same ⟨rfl,rfl,rfl,rfl,rfl,rfl,rfl,rfl,rfl,rfl,trivial⟩ rfl⟩
 clear hX
 refine ze ?_;have hix:=E35.idxS hx;have hld:=E35.loadS rfl rfl hx
 have hae:∀ (τ:Store) cs,Store.at (τ++[.cells 0 cs]) τ.length 0=some cs:=fun τ cs=>vaG τ cs []
 have hse:∀ (τ:Store) cs cs',(τ++[AObj.cells 0 cs]).set τ.length (.cells 0 cs')=τ++[.cells 0 cs']:=fun τ cs cs'=>set_mid τ _ _ []
 refine rg tok [3,4,5,8,9,12,13,15,33,34,35] fun K hK=>?_
 simp only[go_sem,qc,qf,qa,qe,hix,hld,encGRaw,hae,hse,qk,qr,uu,uG];apply hK
 clear hK K
 simp only[zB.l] at h;obtain⟨f,hf,h⟩:=zD h;have hL1:=hL.app [.cells 0 [.int .i64 y.fTag,.int .i64 y.fWire,.int .i64 y.fN,.str y.fB]];have hr1:=vaG τ [.int .i64 y.fTag,.int .i64 y.fWire,.int .i64 y.fN,.str y.fB] []
 generalize τ.length=k1 at *
 generalize τ++[.cells 0 [.int .i64 y.fTag,.int .i64 y.fWire,.int .i64 y.fN,.str y.fB]]=τ1 at *
 have hm1:=hL1.h1;have hs1:=hL1.h0;simp only[encGMessage] at hm1;simp only[encGSchema] at hs1
 refine rc [3,4,5,8,9,12,13,15,16,17,33,34,35] fun K hK=>?_
 refine zj tok 3 ?_;simp only[go_sem,qc,qf,qa,qe,hm1,hr1,qk,qr];refine wL rfl rfl rfl (zk.ev a1 y.fTag f hf _) ?_;rintro _ _ ⟨rfl,hσ⟩
 rw[hσ]; clear hσ
 refine zj tok 6 ?_;simp only[go_sem,qc,qf,qa,qe,encGField,hae,hse,qk,qr,uu,uG];refine zb ?_;simp only[zf,upd,qa,reduceIte,zV,yz];apply hK
 clear hK K
 have hL2:=hL1.app [.cells 0 [.str f.1.fName,.int .i64 f.1.fTag,.int .i64 f.1.fLabel,.int .i64 f.1.fType.fKind,.str f.1.fType.fName]];have hr2:=wZ hr1 [.cells 0 [.str f.1.fName,.int .i64 f.1.fTag,.int .i64 f.1.fLabel,.int .i64 f.1.fType.fKind,.str f.1.fType.fName]];have hm2:=wZ hs1 [.cells 0 [.str f.1.fName,.int .i64 f.1.fTag,.int .i64 f.1.fLabel,.int .i64 f.1.fType.fKind,.str f.1.fType.fName]];have hf2:=vaG τ1 [.str f.1.fName,.int .i64 f.1.fTag,.int .i64 f.1.fLabel,.int .i64 f.1.fType.fKind,.str f.1.fType.fName] []
 clear hm1 hs1 hr1
 generalize τ1.length=k2 at *
 generalize τ1++[.cells 0 [.str f.1.fName,.int .i64 f.1.fTag,.int .i64 f.1.fLabel,.int .i64 f.1.fType.fKind,.str f.1.fType.fName]]=τ2 at *
 refine za fun Y hY=>?_
 refine rg tok [3,4,5,8,9,12,13,15,16,17,33,34,35,47] fun K hK=>?_
 simp only[go_sem,qc,qa];apply hK
 clear hK K
 have hb2:∀ (b:Bool),(!b)=true→b=false:=by decide
 refine zv (b := !f.2) rfl (fun hc3=>?_) (fun hc3=>?_)
 · have hc4:f.2=false:=by simpa using hc3
   rw[wb hc4] at h;obtain⟨u,hu,h⟩:=bind_some h;have hrm:=yF hu;have hL5:=hL2.h5;have hl4:(rest.flatMap encGRaw).length=rest.length*4:=zy E35.len rest
   refine rg tok [3,4,5,8,9,12,13,33,34,35] fun K hK=>?_
   have hlit:=vaG τ2 [.int .i64 y.fTag,.int .i64 y.fWire,.int .i64 y.fN,.str y.fB] [];have hat5:=wZ hL5 [.cells 0 [.int .i64 y.fTag,.int .i64 y.fWire,.int .i64 y.fN,.str y.fB]]
   have hap:yx tab 35 35 (.os true 4 5 rver 0 rest.length false) (.os true 4 τ2.length 0 0 1 true) (τ2++[.cells 0 [.int .i64 y.fTag,.int .i64 y.fWire,.int .i64 y.fN,.str y.fB]])=
    some (.os true 4 5 (rver+1) 0 (rest.length+1) false,List.set (τ2++[.cells 0 [.int .i64 y.fTag,.int .i64 y.fWire,.int .i64 y.fN,.str y.fB]]) 5 (.cells (rver+1) (rest.flatMap encGRaw++[.int .i64 y.fTag,.int .i64 y.fWire,.int .i64 y.fN,.str y.fB]))):=by
    have e1:yu (τ2++[.cells 0 [.int .i64 y.fTag,.int .i64 y.fWire,.int .i64 y.fN,.str y.fB]]) 4 (.os true 4 τ2.length 0 0 1 true)=some (1,[.int .i64 y.fTag,.int .i64 y.fWire,.int .i64 y.fN,.str y.fB]):=by
     simp only[yu,hlit]; simp
    simp only[yx,tab_35,tab_139,e1,yC,zY,hat5,hl4,hrm]
    simp[AV.one]
   simp only[go_sem,qc,qf,qa,qe,ql,hr2,zM,z8,q1,qT,true_and,ub,qk,qr,hap];apply hK
   clear hK K
   refine zA ?_;simp only[go_sem,reduceCtorEq]
   have hLs:Loop (List.set (τ2++[.cells 0 [.int .i64 y.fTag,.int .i64 y.fWire,.int .i64 y.fN,.str y.fB]]) 5 (.cells (rver+1) (rest.flatMap encGRaw++[.int .i64 y.fTag,.int .i64 y.fWire,.int .i64 y.fN,.str y.fB]))) a0 a1 ever (rver+1) L (rest++[y]):=by
    have hL3:=hL2.app [.cells 0 [.int .i64 y.fTag,.int .i64 y.fWire,.int .i64 y.fN,.str y.fB]];refine⟨wa hL3.h0 (by decide) _,wa hL3.h1 (by decide) _,wa hL3.h2 (by decide) _,hL3.rep.set_ne (fun hm=>?_) _,?_,hL3.ids⟩
    · simp only[qU,uw] at hm
      rcases hm with h|h|⟨z,hz,h⟩
      · cases h
      · cases h
      have:=hL3.ids z hz; omega
    rw[Store.at_set hL3.h5,q5]
    simp[encGRaw]
   exact fin _ _ L (rest++[y]) ever (rver+1) ⟨rfl,rfl,rfl,rfl,rfl,rfl,by rw[qj]; rfl,rfl,rfl,rfl,trivial⟩ hLs h
 have hc4:f.2=true:=by simpa using hc3
 rw[if_pos hc4] at h;refine zd ?_;refine hY _ _ ?_
 clear hY Y
 obtain⟨x,hx1,h⟩:=bind_some h;have hty:AV.agg (encGType f.1.fType)=.agg [.int .i64 f.1.fType.fKind,.str f.1.fType.fName]:=rfl
 refine rc [3,4,5,8,9,12,13,16,18,19,33,34,35] fun K hK=>?_
 refine zj tok 5 ?_;simp only[go_sem,qc,qf,qa,qe,hm2,hr2,hf2,qk,qr,List.drop_succ_cons,qC,List.take_succ_cons,List.take_zero];refine wL rfl rfl rfl (ev_one a0 f.1.fType y a3 x hx1 _) ?_;rintro _ _ ⟨rfl,hσ⟩
 rw[hσ]; clear hσ
 refine zj tok 6 ?_;simp only[go_sem,qc,qf,qa,qe,cellsGTree,hae,hse,qk,qr,uu,uG];refine zb ?_;simp only[zf,upd,qa,reduceIte,zV,yz];apply hK
 clear hK K hr2 hm2
 obtain⟨xc,hxc⟩:∃ xc,xc=[AV.int .i64 x.1.fKind,.int .i64 x.1.fN,.str x.1.fS,.ds true (qd encGEntry x.1.fEntries) x.1.fEntries.length false,.ds true (qd encGRaw x.1.fRest) x.1.fRest.length false]:=⟨_,rfl⟩
 rw[← hxc];have hL3:=hL2.app [.cells 0 xc];have hf3:=wZ hf2 [.cells 0 xc];have hx3:=vaG τ2 xc []
 clear hf2 hL2
 generalize τ2.length=k3 at *
 generalize τ2++[.cells 0 xc]=τ3 at *
 subst hxc
 refine za fun Y hY=>?_
 refine rg tok [3,4,5,8,9,12,13,16,18,19,33,34,35,62] fun K hK=>?_
 simp only[go_sem,qc,qa];apply hK
 clear hK K
 have h23:=hL3.h2;have h24:=Store.at_set (ver':=0) (cs':=[.int .i64 0,.int .i64 0,.str [],.ds true [] 0 true,.ds true [] 0 true]) h23;refine zL rfl (fun hc5=>?_) (fun hc5=>?_)
 · rw[if_neg hc5] at h;obtain rfl:=Option.some.inj h
   refine rg tok [8,9] fun K hK=>?_
   simp only[go_sem,qc,qf,qa,qe,h23,qk,qr,uu,uG];apply hK
   clear hK K
   refine zR ?_;simp only[vch,wN,ym,yy,xo,exists_eq_left',go_sem,qf,qa,qe,h24,qk,qr];exact van
 rw[if_pos hc5] at h;obtain⟨pp,hp,h⟩:=bind_some h;refine zd ?_;refine hY _ _ ?_
 clear hY Y
 refine rc [3,4,5,8,9,12,13,33,34,35,68] fun K hK=>?_
 refine zj tok 2 ?_;simp only[go_sem,qc,qf,qa,qe,hf3,hx3,qk,qr];refine wL rfl rfl rfl (put_at hL3.rep f.1 x.1 (es':=pp.1) (b:=pp.2) hp) ?_;rintro _ τ4 ⟨ever',L',rfl,hR4,he4,hid4,hle4,hfr4⟩;refine zj tok 1 ?_;simp only[go_sem,qc,qa];refine zb ?_;simp only[zf,upd,qa,reduceIte,zV,yz];apply hK
 clear hK K
 have hkeep:∀ {j v:Nat} {cs:List AV},Store.at τ3 j v=some cs→j<6→j≠3→j≠4→Store.at τ4 j v=some cs:=by
  intro j v cs hj h6 h3 h4
  have hlt:=Store.at_lt hj;unfold Store.at at hj ⊢;rw[hfr4 j hlt (fun hm=>?_)]
  · exact hj
  simp only[qU,uw] at hm
  rcases hm with h|h|⟨z,hz,h⟩
  · exact h3 h
  · exact h4 h
  have:=hL3.ids z hz; omega
 have h45:6≤τ3.length:=by
  have:=Store.at_lt hL3.h5; omega
 have hL4:Loop τ4 a0 a1 ever' rver L' rest:=by
  refine⟨hkeep hL3.h0 (by decide) (by decide) (by decide),hkeep hL3.h1 (by decide) (by decide) (by decide),hkeep hL3.h2 (by decide) (by decide) (by decide),hR4,hkeep hL3.h5 (by decide) (by decide) (by decide),fun z hz=>?_⟩
  rcases hid4 z hz with h|h
  · obtain⟨w,hw,h'⟩:=uw.1 h
    have:=hL3.ids w hw; omega
  omega
 have h43:=hL4.h2;have h44:=Store.at_set (ver':=0) (cs':=[.int .i64 0,.int .i64 0,.str [],.ds true [] 0 true,.ds true [] 0 true]) h43;refine zv (b := !pp.2) rfl (fun hc6=>?_) (fun hc6=>?_)
 · have hc7:pp.2=false:=by simpa using hc6
   rw[wb hc7] at h;obtain rfl:=Option.some.inj h
   refine rg tok [8,9] fun K hK=>?_
   simp only[go_sem,qc,qf,qa,qe,h43,qk,qr,uu,uG];apply hK
   clear hK K
   refine zR ?_;simp only[vch,wN,ym,yy,xo,exists_eq_left',go_sem,qf,qa,qe,h44,qk,qr];exact van
 have hc7:pp.2=true:=by simpa using hc6
 rw[if_pos hc7] at h;refine zd ?_;simp only[Yl,zf];exact fin _ _ L' rest ever' rver ⟨rfl,rfl,rfl,rfl,rfl,rfl,rfl,rfl,rfl,rfl,trivial⟩ hL4 (by rw[he4]; exact h)
end
section
set_option maxRecDepth 8000
open Go.RowKit AM
mutual
def zB : Nat→GSchema→GMessage→List UInt8→Int→Option (GTree×Int)
 |0,_,_,_,_=>none
 |k+1,a0,a1,a2,a3=>zB.body (zB k) (zS k) a0 a1 a2 a3
def zS : Nat→GSchema→GType→GRaw→Int→Option (GTree×Int)
 |0,_,_,_,_=>none
 |k+1,a0,a1,a2,a3=>zS.body (zB k) (zS k) a0 a1 a2 a3
end
theorem zB.all (k:Nat):
 (∀ (a0:GSchema) (a1:GMessage) (a2:List UInt8) (a3:Int) (r:GTree×Int),zB k a0 a1 a2 a3=some r→ACalls qg 149 [.agg (encGSchema a0),.agg (encGMessage a1),.ds true (qd encB a2) (qb a2) false,.int .i64 a3] [] (fun r' _=>r'=.tup [.agg (cellsGTree r.1),.int .i64 r.2]))∧
 (∀ (a0:GSchema) (a1:GType) (a2:GRaw) (a3:Int) (r:GTree×Int),zS k a0 a1 a2 a3=some r→ACalls qg 194 [.agg (encGSchema a0),.agg (encGType a1),.agg (encGRaw a2),.int .i64 a3] [] (fun r' _=>r'=.tup [.agg (cellsGTree r.1),.int .i64 r.2])):=by
 induction k with
 |zero=>exact⟨fun a0 a1 a2 a3 r h=>(by simp only[zB] at h; cases h),fun a0 a1 a2 a3 r h=>(by simp only[zS] at h; cases h)⟩
 |succ k ih=>
  exact⟨fun a0 a1 a2 a3 r h=>zB.step (zB k) (zS k) ih.2 a0 a1 a2 a3 r (by simpa only [zB] using h),
   fun a0 a1 a2 a3 r h=>zS.step (zB k) (zS k) ih.1 ih.2 a0 a1 a2 a3 r (by simpa only [zS] using h)⟩
theorem zB.ok (k:Nat)(a0:GSchema)(a1:GMessage)(a2:List UInt8)(a3:Int)(r:GTree×Int)(h:zB k a0 a1 a2 a3=some r):ACalls qg 149 [.agg (encGSchema a0),.agg (encGMessage a1),.ds true (qd encB a2) (qb a2) false,.int .i64 a3] [] (fun r' _=>r'=.tup [.agg (cellsGTree r.1),.int .i64 r.2]):=
 (zB.all k).1 a0 a1 a2 a3 r h
theorem zB.ev (k:Nat)(a0:GSchema)(a1:GMessage)(a2:List UInt8)(a3:Int)(r:GTree×Int)(h:zB k a0 a1 a2 a3=some r)(σ:Store):ACalls qg 149 [.agg (encGSchema a0),.agg (encGMessage a1),.ds true (qd encB a2) (qb a2) false,.int .i64 a3] σ (fun r' σ'=>r'=.tup [.agg (cellsGTree r.1),.int .i64 r.2]∧σ'=σ):=
 (zB.ok k a0 a1 a2 a3 r h).pureAt (by simp only[AV.canon,canonL,canon_all,qO,qJ,uq,qw,qt,qq,uH,Bool.true_or,cellsGTree,encGMessage,encGSchema]) (by simp only[AV.canon,canonL,canon_all,qO,qJ,uq,qw,qt,qq,uH,Bool.true_or,cellsGTree,zH]) σ
end
section
namespace AM
open Go.RowKit
def renumb (π:Nat→Nat)(o:Oper):Oper := { o with after:=o.after.map fun e => { e with on:=π e.on } }
theorem vav (π:Nat→Nat)(o:Oper)(ρ:Operand→Value):execOp ρ (renumb π o)=execOp ρ o:=by
 cases o; rfl
theorem wp_renumb {P:Program}(π:Nat→Nat)(o:Oper){a:Act}{w:World}{K:Act→World→Prop}{Q:Exit→Act→World→Prop}:(renumb π o).wp P a w K Q=o.wp P a w K Q:=by
 unfold Oper.wp
 rw[vav]; rfl
theorem asks_renumb {P:Program}(π:Nat→Nat)(o:Oper){a:Act}{w:World}:(renumb π o).asks P a w=o.asks P a w:=by
 unfold Oper.asks;rw[vav]
structure Permd (ops ops':List Oper)(π:Nat→Nat):Prop where
 len:ops'.length=ops.length
 inj:∀ i j,i<ops.length→j<ops.length→π i=π j→i=j
 lt:∀ i,i<ops.length→π i<ops.length
 onto:∀ k,k<ops.length→∃ i,i<ops.length∧π i=k
 get:∀ (i:Nat) (o:Oper),ops[i]?=some o→ops'[π i]?=some (renumb π o)
 guard:∀ (i:Nat) (o:Oper),ops[i]?=some o→o.guard=none
 edge:∀ (i:Nat) (o:Oper),ops[i]?=some o→∀ e∈o.after,e.on<ops.length
theorem vaQ {ops ops':List Oper}{π:Nat→Nat}(hp:Permd ops ops' π){md:Region.Mode}{l l':Array Bool}(hl:l.size=ops.length)(hl':l'.size=ops.length)(h:∀ i,i<ops.length→l'.getD (π i) false=l.getD i false){i:Nat}(hi:i<ops.length):
 i∈Region.ready md ops.toArray l↔π i∈Region.ready md ops'.toArray l':=by
 obtain⟨o,ho⟩:∃ o,ops[i]?=some o:=⟨_,q3 hi⟩
 have ho':=hp.get i o ho
 have hb:∀ e:Edge,Region.binds md { e with on:=π e.on }=Region.binds md e:=fun e=>rfl
 have h1:∀ (l:Array Bool) (i:Nat),i<l.size→l.getD i true=l.getD i false:=by
  intro l i hi
  simp[hi]
 simp only[mem_ready];rw[h1 l i (by omega),h1 l' (π i) (by have:=hp.lt i hi; omega),h i hi]
 constructor
 · rintro ⟨a,o2,b,c⟩
   have:o2=o:=by
    have e:ops[i]?=some o2:=by simpa using b
    rw[ho] at e; exact (Option.some.inj e).symm
   subst this;refine⟨a,renumb π o2,by simpa using ho',fun e he hbd=>?_⟩;simp only[renumb,Array.mem_map] at he;obtain⟨e0,he0,rfl⟩:=he;rw[h e0.on (hp.edge i o2 ho e0 he0)];exact c e0 he0 hbd
 rintro ⟨a,o2,b,c⟩
 have:o2=renumb π o:=by
  have e:ops'[π i]?=some o2:=by simpa using b
  rw[ho'] at e; exact (Option.some.inj e).symm
 subst this;refine⟨a,o,by simpa using ho,fun e he hbd=>?_⟩;have:=c { e with on:=π e.on } (by simp only[renumb,Array.mem_map]; exact⟨e,he,rfl⟩) hbd
 rw[← h e.on (hp.edge i o ho e he)]; exact this
theorem set_perm {N:Nat}{π:Nat→Nat}(inj:∀ i j,i<N→j<N→π i=π j→i=j)(lt:∀ i,i<N→π i<N){l l':Array Bool}(hl:l.size=N)(hl':l'.size=N)(h:∀ i,i<N→l'.getD (π i) false=l.getD i false){j:Nat}(hj:j<N):
 ∀ i,i<N→(l'.setIfInBounds (π j) true).getD (π i) false=(l.setIfInBounds j true).getD i false:=by
 intro i hi
 rw[wz (by have:=lt j hj; omega),wz (by omega),h i hi]
 congr 1
 exact decide_eq_decide.2 ⟨fun e=>inj i j hi hj e,fun e=>by rw[e]⟩
theorem wpAny_perm {P:Program}{ops ops':List Oper}{π:Nat→Nat}(hp:Permd ops ops' π){md:Region.Mode}{Q:Exit→Act→World→Prop}:
 ∀ (fuel:Nat) (l l':Array Bool) (a:Act) (w:World),l.size=ops.length→l'.size=ops.length→(∀ i,i<ops.length→l'.getD (π i) false=l.getD i false)→
  wpAny P md ops'.toArray Q fuel l' a w→wpAny P md ops.toArray Q fuel l a w:=by
 have lt_of:∀ {l:Array Bool} {i:Nat} {q:List Oper},i∈Region.ready md q.toArray l→i<q.length:=fun h=>by
  obtain⟨_,o,ho,_⟩:=mem_ready.1 h
  simpa using (Array.getElem?_eq_some_iff.1 ho).1
 have nil:∀ {l l':Array Bool},l.size=ops.length→l'.size=ops.length→(∀ i,i<ops.length→l'.getD (π i) false=l.getD i false)→Region.ready md ops.toArray l=[]→Region.ready md ops'.toArray l'=[]:=by
  intro l l' hl hl' h hr
  cases hr':Region.ready md ops'.toArray l' with
  |nil=>rfl
  |cons k q=>
   have hk:k∈Region.ready md ops'.toArray l':=by rw[hr']; exact qA ..
   obtain⟨i,hi,rfl⟩:=hp.onto k (by have:=lt_of hk; rw[hp.len] at this; exact this);have:=(vaQ hp hl hl' h hi).2 hk
   rw[hr] at this; cases this
 have nil':∀ {l l':Array Bool},l.size=ops.length→l'.size=ops.length→(∀ i,i<ops.length→l'.getD (π i) false=l.getD i false)→Region.ready md ops'.toArray l'=[]→Region.ready md ops.toArray l=[]:=by
  intro l l' hl hl' h hr
  cases hr':Region.ready md ops.toArray l with
  |nil=>rfl
  |cons k q=>
   have hk:k∈Region.ready md ops.toArray l:=by rw[hr']; exact qA ..
   have:=(vaQ hp hl hl' h (lt_of hk)).1 hk
   rw[hr] at this; cases this
 intro fuel
 induction fuel with
 |zero=>
  intro l l' a w hl hl' h hw
  exact⟨nil' hl hl' h hw.1,hw.2⟩
 |succ fuel ih=>
  intro l l' a w hl hl' h hw
  refine⟨fun hr=>hw.1 (nil hl hl' h hr),fun i hi=>?_⟩;have hil:=lt_of hi
  obtain⟨o,ho⟩:∃ o,ops[i]?=some o:=⟨_,q3 hil⟩
  have ho':=hp.get i o ho;have h1:=hw.2 (π i) ((vaQ hp hl hl' h hil).1 hi)
  have hk:∀ a w,wpAny P md ops'.toArray Q fuel (l'.setIfInBounds (π i) true) a w→wpAny P md ops.toArray Q fuel (l.setIfInBounds i true) a w:=
   fun a w hh=>ih _ _ a w (by simpa using hl) (by simpa using hl') (set_perm hp.inj hp.lt hl hl' h hil) hh
  have h2:=wpOp_mono hk h1;unfold wpOp at h2 ⊢
  have e1:ops.toArray[i]?=some o:=by simpa using ho
  have e2:ops'.toArray[π i]?=some (renumb π o):=by simpa using ho'
  rw[e2] at h2;rw[e1];have g1:=hp.guard i o ho
  have g2:∀ y,Region.wanted o y=true:=fun y=>by simp[Region.wanted,g1]
  have g3:∀ y,Region.wanted (renumb π o) y=true:=fun y=>by simp[Region.wanted,renumb,g1]
  simp only[g2,g3,if_true] at h2 ⊢;rw[wp_renumb,asks_renumb] at h2;exact h2
theorem AnyW.perm {P:Program}{n k0:Nat}{ops ops':List Oper}{π:Nat→Nat}{Q:Exit→Fr→Store→Prop}{F:Fr}{σ:Store}(hp:Permd ops ops' π)(h:AnyW P n k0 ops' Q F σ):AnyW P n k0 ops Q F σ:=by
 intro E a hk hS hF md
 have h1:=h E a hk hS hF md
 have e:ops'.toArray.size=ops.toArray.size:=by simp[hp.len]
 rw[e] at h1
 have hf:∀ (N i:Nat),(uX N false).getD i false=false:=by
  intro N i; by_cases h:i<N<;>simp[h]
 exact wpAny_perm hp _ _ _ a _ (by simp) (by simp) (fun i _=>by rw[hf,hf]) h1
def noOp : Oper := { dst:=none,op:=.alloc 0,type:=0,pos := "",after := #[],guard:=none }
def posOf (ord:List Nat)(i:Nat):Nat:=if i<ord.length then ord.idxOf i else i
def vad (ops:List Oper)(ord:List Nat):List Oper:=ord.map fun i=>renumb (posOf ord) (ops.getD i noOp)
def chkPerm (ops:List Oper)(ord:List Nat):Bool:=
 decide (ord.length=ops.length)&&(uC ops.length).all (fun i=>decide (posOf ord i<ops.length)&&decide (ord[posOf ord i]?=some i)&&decide (ord.getD i ops.length<ops.length)&&decide (posOf ord (ord.getD i ops.length)=i)) &&
  ops.all fun o=>o.guard.isNone&&o.after.all fun e=>decide (e.on<ops.length)
theorem permd_of {ops:List Oper}{ord:List Nat}(h:chkPerm ops ord=true):Permd ops (vad ops ord) (posOf ord):=by
 simp only[chkPerm,qz,decide_eq_true_eq,q7,List.mem_range] at h;obtain⟨⟨h1,h2⟩,h3⟩:=h;refine⟨by rw[vad,uh,h1],fun i j hi hj e=>?_,fun i hi=>(h2 i hi).1.1.1,fun k hk=>⟨_,(h2 k hk).1.2,(h2 k hk).2⟩,fun i o ho=>?_,fun i o ho=>?_,fun i o ho e he=>?_⟩
 · have a:=(h2 i hi).1.1.2;have b:=(h2 j hj).1.1.2;rw[e,b] at a;exact (Option.some.inj a).symm
 · have hi:i<ops.length:=(qW.1 ho).1
   rw[vad,List.getElem?_map,(h2 i hi).1.1.2,uy,qG,ho]; rfl
 · have:=(h3 o (uS ho)).1
   simpa using this
 have:=(h3 o (uS ho)).2;have:=Array.all_eq_true_iff_forall_mem.1 this e he
 simpa using this
theorem DW.startP {P:Program}{n k0:Nat}{Q:Exit→Fr→Store→Prop}{T:TT}{id:Nat}{ops:List Oper}(ord:List Nat)(hc:chkPerm ops ord=true)(es:List EK)(ex:List (Nat×List Nat)){F0:Fr}{σ0:Store}(h:DW P n k0 T id (vad ops ord) es F0 σ0 ex Q (vad ops ord) es F0 [σ0] []):awp P n k0 (.region id ops.toArray true) Q F0 σ0:=
 awp_of_any (AnyW.perm (permd_of hc) (h ⟨0,rfl,rfl,Past.start T (vad ops ord) es F0 σ0 ex⟩))
end AM
end
section
set_option maxRecDepth 8000
open Go.RowKit AM
section
variable {P:Program} {n k:Nat} {Q:Exit→Fr→Store→Prop} {F:Fr} {σ:Store}
theorem AM.opsWp_inil {T:TT}(hT:TOK P T){ops:Array Oper}{o:Oper}{l:List Oper}{x:Operand}{t yt:TypeId}{i:TI}{e:Array (String×TypeId)}(hg:Zc ops F o=some true)(ho:o.op=.binOp .eql t x (.const .nilIface) yt)(hi:T t=some i)(hd:i.desc=.interface e)
 (hs:ev F x=.nilI) (hdst:dstOk n o.dst=true) (h:wR P n k ops l Q (Yz F o.dst (.bool true)) σ):wR P n k ops (o::l) Q F σ:=by
 intro E a hk hS hF
 unfold wpList;rw[if_pos (wy hF hg)];refine .inl ?_;have hx:=hF.ev x;rw[hs] at hx
 have hv:a.eval x=.nilIface:=by
  generalize a.eval x=v at hx
  cases hx; rfl
 unfold Oper.wp
 have hrun:(execOp a.eval o).run P E.w=.ok (.value (.bool true)) E.w:=by
  obtain⟨dst,op,ty,pos,after,guard⟩:=o;simp only at ho;subst ho
  show (do pure (.value (← (do eqGuard .eql t x (.const .nilIface) (a.eval x) .nilIface; Go.binOp .eql t (a.eval x) .nilIface:Sem Value))):Sem Next).run P E.w=_
  have h3:∀ d,(Op.equalIn (d+1) t .nilIface .nilIface).run P E.w=.ok true E.w:=by
   intro d
   simp only[Op.equalIn,qo,zN _ (hT _ _ hi),qi,hd]; rfl
  have h2:(Op.equal t .nilIface .nilIface).run P E.w=.ok true E.w:=h3 9999
  have h1:(do eqGuard .eql t x (.const .nilIface) .nilIface .nilIface; Go.binOp .eql t .nilIface .nilIface:Sem Value).run P E.w=.ok (.bool true) E.w:=by
   have hgd:(eqGuard .eql t x (.const .nilIface) .nilIface .nilIface).run P E.w=.ok () E.w:=by
    unfold eqGuard
    cases x<;>rfl
   rw[qo,hgd,qi];simp only[Go.binOp,qo,h2,qi,qL]
  rw[hv,qo,h1,qi]; rfl
 rw[hrun];exact h E _ hk hS (hF.put (Yk hdst) (.bool true))
end
theorem kind_num (m:Int)(σ:Store):ACalls qg 275 [.int .i64 m] σ (fun r' σ'=>r'=.int .i64 1∧σ'=σ):=by
 refine ACalls.c (x:=.int .i64 1) ?_ σ;refine zh (rs:=[.tmp 2]) tok Tryz.func275 rfl Tryz.ntmps275 rfl Tryz.call275 (by simp) ?_;refine zl [(0,.int .i64 m)] ⟨rfl,trivial⟩ ?_
 refine rg tok [2] fun K hK=>?_
 simp only[go_sem,qc,qf,qa,qe,ql,qs,reduceIte,reduceCtorEq];apply hK
 clear hK K
 refine rg tok [2] fun K hK=>?_
 simp only[go_sem,qc,qf,qa,qe,ql,qs,reduceIte,reduceCtorEq];apply hK
 clear hK K
 refine zR ?_;exact retA
theorem kind_str (m:List UInt8)(σ:Store):ACalls qg 276 [.str m] σ (fun r' σ'=>r'=.int .i64 2∧σ'=σ):=by
 refine ACalls.c (x:=.int .i64 2) ?_ σ;refine zh (rs:=[.tmp 2]) tok Tryz.func276 rfl Tryz.ntmps276 rfl Tryz.call276 (by simp) ?_;refine zl [(0,.str m)] ⟨rfl,trivial⟩ ?_
 refine rg tok [2] fun K hK=>?_
 simp only[go_sem,qc,qf,qa,qe,ql,qs,reduceIte,reduceCtorEq];apply hK
 clear hK K
 refine rg tok [2] fun K hK=>?_
 simp only[go_sem,qc,qf,qa,qe,ql,qs,reduceIte,reduceCtorEq];apply hK
 clear hK K
 refine zR ?_;exact retA
theorem kind_node (m:GValueNode)(σ:Store):ACalls qg 274 [.dp (encGValueNode m) 0] σ (fun r' σ'=>r'=.int .i64 3∧σ'=σ):=by
 refine ACalls.c (x:=.int .i64 3) ?_ σ;refine zh (rs:=[.tmp 2]) tok Tryz.func274 rfl Tryz.ntmps274 rfl Tryz.call274 (by simp) ?_;refine zl [(0,.dp (encGValueNode m) 0)] ⟨rfl,trivial⟩ ?_
 refine rg tok [2] fun K hK=>?_
 simp only[go_sem,qc,qf,qa,qe,ql,qs,reduceIte,reduceCtorEq];apply hK
 clear hK K
 refine rg tok [2] fun K hK=>?_
 simp only[go_sem,qc,qf,qa,qe,ql,qs,reduceIte,reduceCtorEq];apply hK
 clear hK K
 refine zR ?_;exact retA
theorem has_num : vaI qg 348 "concordat/value.kind" 275:=by intro v w; kernel_rfl
theorem has_str : vaI qg 349 "concordat/value.kind" 276:=by intro v w; kernel_rfl
theorem has_node : vaI qg 232 "concordat/value.kind" 274:=by intro v w; kernel_rfl
def xY (a0:GValueValue):Int:=
 match a0 with|.nil=>0|.num _=>1|.str _=>2|.node _ _=>3
theorem xY.ok (a0:GValueValue)(r:Int)(h:xY a0=r):ACalls qg 253 [.agg (encGValueValue a0)] [] (fun r' _=>r'=.int .i64 r):=by
 refine zh (rs:=[.tmp 2]) tok Tryz.func253 rfl Tryz.ntmps253 rfl Tryz.call253 (by simp) ?_;refine zl [(0,.agg (encGValueValue a0))] ⟨rfl,trivial⟩ ?_;unfold xY at h;have f1:=wW a0;unfold AV.one at f1
 refine rg tok [1] fun K hK=>?_
 simp only[go_sem,qc,qf,qa,qe,ql,qs,reduceIte,reduceCtorEq,encGValueValue,f1];apply hK
 clear hK K
 rcases a0 with _|n2|s2|⟨e2,r2⟩
 · dsimp only at h
   try simp only[Xn]
   refine za fun Z hZ=>?_
   refine rc [1,5] fun K hK=>?_
   refine zj tok 2 ?_;simp only[go_sem,qc,qf,qa,qe,ql,qs,reduceIte,reduceCtorEq];refine opsWp_inil tok rfl rfl rfl rfl rfl rfl ?_;refine zb ?_;simp only[zf,Ym,Y1,Yz,upd,qa,reduceIte,zV,yz];apply hK
   clear hK K
   refine zs rfl ?_
   refine rg tok [2] fun K hK=>?_
   simp only[go_sem,qc,qf,qa,qe,ql,qs,reduceIte,reduceCtorEq];apply hK
   clear hK K
   refine zR ?_;obtain rfl:=h;exact retA
 · dsimp only at h
   try simp only[Xm]
   refine za fun Z hZ=>?_
   refine rg tok [1,5] fun K hK=>?_
   simp only[go_sem,qc,qf,qa,qe,ql,qs,reduceIte,reduceCtorEq,evEq];apply hK
   clear hK K
   refine zp rfl ?_;refine zd ?_;refine hZ _ _ ?_
   clear hZ Z
   refine rc [2] fun K hK=>?_
   refine zj tok 2 ?_;simp only[go_sem,qc,qf,qa,qe,ql,qs,reduceIte,reduceCtorEq];refine XI rfl rfl rfl has_num rfl (kind_num n2 _) ?_;rintro _ _ ⟨rfl,rfl⟩;refine zj tok 1 ?_;simp only[go_sem,qc,qf,qa,qe,ql,qs,reduceIte,reduceCtorEq];refine zb ?_;simp only[zf,Ym,Y1,Yz,upd,qa,reduceIte,zV,yz];apply hK
   clear hK K
   refine zR ?_;obtain rfl:=h;exact retA
 · dsimp only at h
   try simp only[Xl]
   refine za fun Z hZ=>?_
   refine rg tok [1,5] fun K hK=>?_
   simp only[go_sem,qc,qf,qa,qe,ql,qs,reduceIte,reduceCtorEq,evEq];apply hK
   clear hK K
   refine zp rfl ?_;refine zd ?_;refine hZ _ _ ?_
   clear hZ Z
   refine rc [2] fun K hK=>?_
   refine zj tok 2 ?_;simp only[go_sem,qc,qf,qa,qe,ql,qs,reduceIte,reduceCtorEq];refine XI rfl rfl rfl has_str rfl (kind_str s2 _) ?_;rintro _ _ ⟨rfl,rfl⟩;refine zj tok 1 ?_;simp only[go_sem,qc,qf,qa,qe,ql,qs,reduceIte,reduceCtorEq];refine zb ?_;simp only[zf,Ym,Y1,Yz,upd,qa,reduceIte,zV,yz];apply hK
   clear hK K
   refine zR ?_;obtain rfl:=h;exact retA
 dsimp only at h
 try simp only[ZZ]
 refine za fun Z hZ=>?_
 refine rg tok [1,5] fun K hK=>?_
 simp only[go_sem,qc,qf,qa,qe,ql,qs,reduceIte,reduceCtorEq,evEq];apply hK
 clear hK K
 refine zp rfl ?_;refine zd ?_;refine hZ _ _ ?_
 clear hZ Z
 refine rc [2] fun K hK=>?_
 refine zj tok 2 ?_;simp only[go_sem,qc,qf,qa,qe,ql,qs,reduceIte,reduceCtorEq];refine XI rfl rfl rfl has_node rfl (kind_node ⟨e2,r2⟩ _) ?_;rintro _ _ ⟨rfl,rfl⟩;refine zj tok 1 ?_;simp only[go_sem,qc,qf,qa,qe,ql,qs,reduceIte,reduceCtorEq];refine zb ?_;simp only[zf,Ym,Y1,Yz,upd,qa,reduceIte,zV,yz];apply hK
 clear hK K
 refine zR ?_;obtain rfl:=h;exact retA
theorem xY.ev (a0:GValueValue)(r:Int)(h:xY a0=r)(σ:Store):ACalls qg 253 [.agg (encGValueValue a0)] σ (fun r' σ'=>r'=.int .i64 r∧σ'=σ):=
 (xY.ok a0 r h).c σ
theorem asNode_nil (σ:Store):ACalls qg 254 [.agg ([.nilI])] σ (fun r' σ'=>r'=.tup [.nilp,.bool false]∧σ'=σ):=by
 refine ACalls.c (x:=.tup [.nilp,.bool false]) ?_ σ;refine zh (rs:=[.tmp 2,.tmp 3]) tok Tryz.func254 rfl Tryz.ntmps254 rfl Tryz.call254 (by simp) ?_;refine zl [(0,.agg ([.nilI]))] ⟨rfl,trivial⟩ ?_
 refine rg tok [1] fun K hK=>?_
 simp only[go_sem,qc,qf,qa,qe,ql,qs,reduceIte,reduceCtorEq];apply hK
 clear hK K
 refine rg tok [4,5] fun K hK=>?_
 simp only[go_sem,qc,qf,qa,qe,ql,qs,reduceIte,reduceCtorEq,yK,yL,TypeDesc.isIface];apply hK
 clear hK K
 refine rg tok [2,3] fun K hK=>?_
 simp only[go_sem,qc,qf,qa,qe,ql,qs,reduceIte,reduceCtorEq];apply hK
 clear hK K
 refine zR ?_;exact retA
theorem asNode_num (n:Int)(σ:Store):ACalls qg 254 [.agg ([.ifc 348 (.int .i64 n)])] σ (fun r' σ'=>r'=.tup [.nilp,.bool false]∧σ'=σ):=by
 refine ACalls.c (x:=.tup [.nilp,.bool false]) ?_ σ;refine zh (rs:=[.tmp 2,.tmp 3]) tok Tryz.func254 rfl Tryz.ntmps254 rfl Tryz.call254 (by simp) ?_;refine zl [(0,.agg ([.ifc 348 (.int .i64 n)]))] ⟨rfl,trivial⟩ ?_
 refine rg tok [1] fun K hK=>?_
 simp only[go_sem,qc,qf,qa,qe,ql,qs,reduceIte,reduceCtorEq];apply hK
 clear hK K
 refine rg tok [4,5] fun K hK=>?_
 simp only[go_sem,qc,qf,qa,qe,ql,qs,reduceIte,reduceCtorEq,yK,yL,TypeDesc.isIface];apply hK
 clear hK K
 refine rg tok [2,3] fun K hK=>?_
 simp only[go_sem,qc,qf,qa,qe,ql,qs,reduceIte,reduceCtorEq];apply hK
 clear hK K
 refine zR ?_;exact retA
theorem asNode_str (s:List UInt8)(σ:Store):ACalls qg 254 [.agg ([.ifc 349 (.str s)])] σ (fun r' σ'=>r'=.tup [.nilp,.bool false]∧σ'=σ):=by
 refine ACalls.c (x:=.tup [.nilp,.bool false]) ?_ σ;refine zh (rs:=[.tmp 2,.tmp 3]) tok Tryz.func254 rfl Tryz.ntmps254 rfl Tryz.call254 (by simp) ?_;refine zl [(0,.agg ([.ifc 349 (.str s)]))] ⟨rfl,trivial⟩ ?_
 refine rg tok [1] fun K hK=>?_
 simp only[go_sem,qc,qf,qa,qe,ql,qs,reduceIte,reduceCtorEq];apply hK
 clear hK K
 refine rg tok [4,5] fun K hK=>?_
 simp only[go_sem,qc,qf,qa,qe,ql,qs,reduceIte,reduceCtorEq,yK,yL,TypeDesc.isIface];apply hK
 clear hK K
 refine rg tok [2,3] fun K hK=>?_
 simp only[go_sem,qc,qf,qa,qe,ql,qs,reduceIte,reduceCtorEq];apply hK
 clear hK K
 refine zR ?_;exact retA
theorem asNode_node (e:List GValueEntry)(q:List GRaw)(σ:Store):ACalls qg 254 [.agg ([.ifc 232 (.dp [.ds true (qd encGValueEntry e) (qb e) false,.ds true (qd encGRaw q) (qb q) false] 0)])] σ (fun r' σ'=>r'=.tup [.dp (encGValueNode ⟨e,q⟩) 0,.bool true]∧σ'=σ):=by
 refine ACalls.c (x:=.tup [.dp (encGValueNode ⟨e,q⟩) 0,.bool true]) ?_ σ;refine zh (rs:=[.tmp 2,.tmp 3]) tok Tryz.func254 rfl Tryz.ntmps254 rfl Tryz.call254 (by simp) ?_;refine zl [(0,.agg ([.ifc 232 (.dp [.ds true (qd encGValueEntry e) (qb e) false,.ds true (qd encGRaw q) (qb q) false] 0)]))] ⟨rfl,trivial⟩ ?_
 refine rg tok [1] fun K hK=>?_
 simp only[go_sem,qc,qf,qa,qe,ql,qs,reduceIte,reduceCtorEq];apply hK
 clear hK K
 refine rg tok [4,5] fun K hK=>?_
 simp only[go_sem,qc,qf,qa,qe,ql,qs,reduceIte,reduceCtorEq,yK,yL,TypeDesc.isIface];apply hK
 clear hK K
 refine rg tok [2,3] fun K hK=>?_
 simp only[go_sem,qc,qf,qa,qe,ql,qs,reduceIte,reduceCtorEq];apply hK
 clear hK K
 refine zR ?_;exact retA
end
section
set_option maxRecDepth 4000
set_option maxHeartbeats 1000000
open AM
def wv (a0:Int):GSchema:=
 (⟨[97],[(⟨[109],[(⟨[120],1,1,(⟨a0,[]⟩:GType)⟩:GField)],([]:List Int)⟩:GMessage)],([]:List GEnumeration),[(⟨[99],[109],[109]⟩:GMethod)]⟩:GSchema)
theorem wv.ok (a0:Int)(r:GSchema)(h:wv a0=r):ACalls qg 16 [.int .i64 a0] [] (fun r' _=>r'=.agg (encGSchema r)):=by
 refine zh (rs:=[.cell 2 31]) tok Tryz.func16 rfl Tryz.ntmps16 rfl Tryz.call16 (by simp) ?_;refine zl [(0,.int .i64 a0)] ⟨rfl,trivial⟩ ?_;unfold wv at h;refine rgN [0,2] ?_
 refine rg tok [2] fun K hK=>?_
 simp only[go_sem,qc,qf,qa,qe,ql,reduceCtorEq,zM,z8,q1,qT,true_and,ub];apply hK
 cases h;exact rtA
theorem wv.ev (a0:Int)(r:GSchema)(h:wv a0=r)(σ:Store):ACalls qg 16 [.int .i64 a0] σ (fun r' σ'=>r'=.agg (encGSchema r)∧σ'=σ):=
 (wv.ok a0 r h).c σ
def we.l9 (a0:List UInt8):Nat→Nat→Int→Option Int
 |0,_,_=>none
 |k9+1,p5,x6=>(if p5<qb a0 then ((we.l9 a0 k9) (p5+(vbr a0 p5).2) (IntKind.i64.wrap (x6+1))) else some x6)
def we (a0:List UInt8):Option Int:=
 (yR a0).bind fun r2=>(if (!r2)=true then some 0 else (we.l9 a0 rounds 0 0))
theorem we.ok (a0:List UInt8)(r:Int)(h:we a0=some r):ACalls qg 167 [.str a0] [] (fun r' _=>r'=.int .i64 r):=by
 refine zh (rs:=[.tmp 2]) tok Tryz.func167 rfl Tryz.ntmps167 rfl Tryz.call167 (by simp) ?_;refine zl [(0,.str a0)] ⟨rfl,trivial⟩ ?_;unfold we at h;refine rgN [0] ?_
 refine za fun Z1 hZ1=>?_
 refine rc [0,6] fun K hK=>?_
 obtain⟨r2,hr2,h⟩:=bind_some h;refine rnN 1 ?_;refine clN rfl rfl rfl (yR.ev a0 r2 hr2 _) ?_;refine rnN 1 ?_;refine nkN hK ?_;refine zv (b:=(!r2)) rfl (fun hc3=>?_) (fun hc3=>?_)
 · rw[if_pos hc3] at h;refine rgN [2] ?_;cases h;exact rtA
 rw[wb hc3] at h;apply zd;apply hZ1;refine rgN [0,3] ?_
 refine za fun Z4 hZ4=>?_
 refine rgN [3,8] ?_;apply ze;refine zF (fun m L τ=>∃ (k9:Nat) (p5:Nat) (x6:Int),m=0+k9∧L=[(3,.int .i64 x6),(8,.it 0)]∧τ=[.iter a0 p5]∧we.l9 a0 k9 p5 x6=some r) _ ⟨rounds,0,0,rfl,rfl,rfl,h⟩ .s ?_;rintro m L τ ⟨k9,p5,x6,rfl,rfl,rfl,h⟩
 rcases k9 with _|k9
 · cases h
 simp only[we.l9] at h
 by_cases hn10:p5<qb a0
 · rw[if_pos hn10] at h;have t11:=eq_true hn10
   refine rg tok [3,8,10] fun K hK=>?_
   simp only[go_sem,qc,qa,qe,vaw,if_true,if_false,t11];apply hK
   refine za fun Z12 hZ12=>?_
   refine zs rfl ?_;apply zd;apply hZ12;apply ze
   refine rgE tok [3,8] fun K hK=>?_
   simp only[go_sem,qc,qa];apply hK
   exact⟨_,_,_,qy (0+k9),⟨k9,p5+(vbr a0 p5).2,IntKind.i64.wrap (x6+1),rfl,rfl,rfl,h⟩,.s⟩
 rw[if_neg hn10] at h;have t13:=eq_false hn10
 refine rg tok [3,8,10] fun K hK=>?_
 simp only[go_sem,qc,qa,vaw,if_true,if_false,t13];apply hK
 refine za fun Z14 hZ14=>?_
 refine zp rfl ?_;apply zA;apply hZ4;refine rgN [2] ?_;cases h;exact rtA
theorem we.ev (a0:List UInt8)(r:Int)(h:we a0=some r)(σ:Store):ACalls qg 167 [.str a0] σ (fun r' σ'=>r'=.int .i64 r∧σ'=σ):=
 (we.ok a0 r h).c σ
def xw.j3 (x2:Bool):Bool:=
 (if x2=true then true else false)
def xw (a0:List UInt8):Bool:=
 (if a0=[115,99,104,101,109,97] then (xw.j3 (decide (a0=[115,99,104,101,109,97]))) else (if a0=[109,101,115,115,97,103,101] then (xw.j3 (decide (a0=[109,101,115,115,97,103,101]))) else (if a0=[101,110,117,109] then (xw.j3 (decide (a0=[101,110,117,109]))) else (if a0=[99,97,108,108] then (xw.j3 (decide (a0=[99,97,108,108]))) else (if a0=[114,101,116,117,114,110,115] then (xw.j3 (decide (a0=[114,101,116,117,114,110,115]))) else (if a0=[114,101,115,101,114,118,101,100] then (xw.j3 (decide (a0=[114,101,115,101,114,118,101,100]))) else (if a0=[111,112,116,105,111,110,97,108] then (xw.j3 (decide (a0=[111,112,116,105,111,110,97,108]))) else (if a0=[114,101,112,101,97,116,101,100] then (xw.j3 (decide (a0=[114,101,112,101,97,116,101,100]))) else (if a0=[105,110,116,51,50] then (xw.j3 (decide (a0=[105,110,116,51,50]))) else (if a0=[105,110,116,54,52] then (xw.j3 (decide (a0=[105,110,116,54,52]))) else (if a0=[98,111,111,108] then (xw.j3 (decide (a0=[98,111,111,108]))) else (if a0=[116,101,120,116] then (xw.j3 (decide (a0=[116,101,120,116]))) else (xw.j3 (decide (a0=[98,121,116,101,115])))))))))))))))
theorem xw.ok (a0:List UInt8)(r:Bool)(h:xw a0=r):ACalls qg 168 [.str a0] [] (fun r' _=>r'=.bool r):=by
 refine zh (rs:=[.tmp 2]) tok Tryz.func168 rfl Tryz.ntmps168 rfl Tryz.call168 (by simp) ?_;refine zl [(0,.str a0)] ⟨rfl,trivial⟩ ?_;unfold xw at h;refine rgN [0] ?_
 refine za fun Z1 hZ1=>?_
 refine rgN [3] ?_;apply ze;refine yU (fun L τ=>∃ (x2:Bool),L=[(4,.bool x2)]∧τ=[]∧xw.j3 x2=r) ?_ ?_
 · refine rgN [3,4] ?_;refine zL rfl (fun hc5=>?_) (fun hc5=>?_)
   · rw[if_pos hc5] at h;have t6:=eq_true hc5;apply zd;exact⟨_,_,⟨decide (a0=[115,99,104,101,109,97]),rfl,rfl,h⟩,.s⟩
   rw[if_neg hc5] at h;have t7:=eq_false hc5
   refine rg tok [3,4] fun K hK=>?_
   simp only[go_sem,qc,qa,t7];apply hK
   refine zL rfl (fun hc8=>?_) (fun hc8=>?_)
   · rw[if_pos hc8] at h;have t9:=eq_true hc8;apply zd;exact⟨_,_,⟨decide (a0=[109,101,115,115,97,103,101]),rfl,rfl,h⟩,.s⟩
   rw[if_neg hc8] at h;have t10:=eq_false hc8
   refine rg tok [3,4] fun K hK=>?_
   simp only[go_sem,qc,qa,t10];apply hK
   refine zL rfl (fun hc11=>?_) (fun hc11=>?_)
   · rw[if_pos hc11] at h;have t12:=eq_true hc11;apply zd;exact⟨_,_,⟨decide (a0=[101,110,117,109]),rfl,rfl,h⟩,.s⟩
   rw[if_neg hc11] at h;have t13:=eq_false hc11
   refine rg tok [3,4] fun K hK=>?_
   simp only[go_sem,qc,qa,t13];apply hK
   refine zL rfl (fun hc14=>?_) (fun hc14=>?_)
   · rw[if_pos hc14] at h;have t15:=eq_true hc14;apply zd;exact⟨_,_,⟨decide (a0=[99,97,108,108]),rfl,rfl,h⟩,.s⟩
   rw[if_neg hc14] at h;have t16:=eq_false hc14
   refine rg tok [3,4] fun K hK=>?_
   simp only[go_sem,qc,qa,t16];apply hK
   refine zL rfl (fun hc17=>?_) (fun hc17=>?_)
   · rw[if_pos hc17] at h;have t18:=eq_true hc17;apply zd;exact⟨_,_,⟨decide (a0=[114,101,116,117,114,110,115]),rfl,rfl,h⟩,.s⟩
   rw[if_neg hc17] at h;have t19:=eq_false hc17
   refine rg tok [3,4] fun K hK=>?_
   simp only[go_sem,qc,qa,t19];apply hK
   refine zL rfl (fun hc20=>?_) (fun hc20=>?_)
   · rw[if_pos hc20] at h;have t21:=eq_true hc20;apply zd;exact⟨_,_,⟨decide (a0=[114,101,115,101,114,118,101,100]),rfl,rfl,h⟩,.s⟩
   rw[if_neg hc20] at h;have t22:=eq_false hc20
   refine rg tok [3,4] fun K hK=>?_
   simp only[go_sem,qc,qa,t22];apply hK
   refine zL rfl (fun hc23=>?_) (fun hc23=>?_)
   · rw[if_pos hc23] at h;have t24:=eq_true hc23;apply zd;exact⟨_,_,⟨decide (a0=[111,112,116,105,111,110,97,108]),rfl,rfl,h⟩,.s⟩
   rw[if_neg hc23] at h;have t25:=eq_false hc23
   refine rg tok [3,4] fun K hK=>?_
   simp only[go_sem,qc,qa,t25];apply hK
   refine zL rfl (fun hc26=>?_) (fun hc26=>?_)
   · rw[if_pos hc26] at h;have t27:=eq_true hc26;apply zd;exact⟨_,_,⟨decide (a0=[114,101,112,101,97,116,101,100]),rfl,rfl,h⟩,.s⟩
   rw[if_neg hc26] at h;have t28:=eq_false hc26
   refine rg tok [3,4] fun K hK=>?_
   simp only[go_sem,qc,qa,t28];apply hK
   refine zL rfl (fun hc29=>?_) (fun hc29=>?_)
   · rw[if_pos hc29] at h;have t30:=eq_true hc29;apply zd;exact⟨_,_,⟨decide (a0=[105,110,116,51,50]),rfl,rfl,h⟩,.s⟩
   rw[if_neg hc29] at h;have t31:=eq_false hc29
   refine rg tok [3,4] fun K hK=>?_
   simp only[go_sem,qc,qa,t31];apply hK
   refine zL rfl (fun hc32=>?_) (fun hc32=>?_)
   · rw[if_pos hc32] at h;have t33:=eq_true hc32;apply zd;exact⟨_,_,⟨decide (a0=[105,110,116,54,52]),rfl,rfl,h⟩,.s⟩
   rw[if_neg hc32] at h;have t34:=eq_false hc32
   refine rg tok [3,4] fun K hK=>?_
   simp only[go_sem,qc,qa,t34];apply hK
   refine zL rfl (fun hc35=>?_) (fun hc35=>?_)
   · rw[if_pos hc35] at h;have t36:=eq_true hc35;apply zd;exact⟨_,_,⟨decide (a0=[98,111,111,108]),rfl,rfl,h⟩,.s⟩
   rw[if_neg hc35] at h;have t37:=eq_false hc35
   refine rg tok [3,4] fun K hK=>?_
   simp only[go_sem,qc,qa,t37];apply hK
   refine zL rfl (fun hc38=>?_) (fun hc38=>?_)
   · rw[if_pos hc38] at h;have t39:=eq_true hc38;apply zd;exact⟨_,_,⟨decide (a0=[116,101,120,116]),rfl,rfl,h⟩,.s⟩
   rw[if_neg hc38] at h;have t40:=eq_false hc38
   refine rgE tok [4] fun K hK=>?_
   simp only[go_sem,qc,qa,t40];apply hK
   exact⟨_,_,⟨decide (a0=[98,121,116,101,115]),rfl,rfl,h⟩,.s⟩
 rintro _ _ ⟨x2,rfl,rfl,h⟩;unfold xw.j3 at h;refine zv (b:=x2) rfl (fun hc4=>?_) (fun hc4=>?_)
 · rw[if_pos hc4] at h;refine rgN [2] ?_;cases h;exact rtA
 rw[wb hc4] at h;apply zd;apply hZ1;refine rgN [2] ?_;cases h;exact rtA
theorem xw.ev (a0:List UInt8)(r:Bool)(h:xw a0=r)(σ:Store):ACalls qg 168 [.str a0] σ (fun r' σ'=>r'=.bool r∧σ'=σ):=
 (xw.ok a0 r h).c σ
def wO (a0:Int)(a1:Int)(a2:Int):Bool:=
 ((decide (a1≤a0))&&(decide (a0≤a2)))
theorem wO.ok (a0:Int)(a1:Int)(a2:Int)(r:Bool)(h:wO a0 a1 a2=r):ACalls qg 212 [.int .i32 a0,.int .i32 a1,.int .i32 a2] [] (fun r' _=>r'=.bool r):=by
 refine zh (rs:=[.tmp 6]) tok Tryz.func212 rfl Tryz.ntmps212 rfl Tryz.call212 (by simp) ?_;refine zl [(0,.int .i32 a0),(1,.int .i32 a1),(2,.int .i32 a2)] ⟨rfl,rfl,rfl,trivial⟩ ?_;unfold wO at h;refine rgN [0,1,2] ?_
 refine rc [6] fun K hK=>?_
 refine rnN 4 ?_;refine zq 4 (fun L τ=>L=[(14,.bool ((decide (a1≤a0))&&(decide (a0≤a2))))]∧τ=[]) ?_ ?_
 · refine yW 10 rfl (fun hg10=>?_) (fun hg10=>?_)
   · have t1:=eq_true hg10;refine rnN 4 ?_;refine zb ⟨rfl,_,_,⟨rfl,rfl⟩,.p t1⟩
   have t2:=eq_false hg10;refine rnN 4 ?_;refine zb ⟨rfl,_,_,⟨rfl,rfl⟩,.p t2⟩
 rintro _ _ ⟨rfl,rfl⟩;refine rnN 1 ?_;refine nkN hK ?_;cases h;exact rtA
theorem wO.ev (a0:Int)(a1:Int)(a2:Int)(r:Bool)(h:wO a0 a1 a2=r)(σ:Store):ACalls qg 212 [.int .i32 a0,.int .i32 a1,.int .i32 a2] σ (fun r' σ'=>r'=.bool r∧σ'=σ):=
 (wO.ok a0 a1 a2 r h).c σ
def xK.j6 (a0:Int)(x5:Bool):Bool:=
 (if x5=true then false else bnd (wO a0 97 122) fun r8=>bnd (if r8=true then true else bnd (wO a0 65 90) fun r9=>r9) fun c9=>bnd (if c9=true then true else bnd (wO a0 192 591) fun r11=>r11) fun c11=>bnd (if c11=true then true else bnd (wO a0 913 969) fun r13=>r13) fun c13=>c13)
def xK (a0:Int):Bool:=
 (if a0=95 then true else (if a0=215 then (xK.j6 a0 (decide (a0=215))) else (if a0=247 then (xK.j6 a0 (decide (a0=247))) else (xK.j6 a0 (decide (a0=930))))))
theorem xK.ok (a0:Int)(r:Bool)(h:xK a0=r):ACalls qg 169 [.int .i32 a0] [] (fun r' _=>r'=.bool r):=by
 refine zh (rs:=[.tmp 2]) tok Tryz.func169 rfl Tryz.ntmps169 rfl Tryz.call169 (by simp) ?_;refine zl [(0,.int .i32 a0)] ⟨rfl,trivial⟩ ?_;unfold xK at h;refine rgN [0] ?_
 refine za fun Z1 hZ1=>?_
 refine rgN [0,3] ?_;apply ze;refine rgN [0,3,4] ?_;refine zL rfl (fun hc2=>?_) (fun hc2=>?_)
 · rw[if_pos hc2] at h;have t3:=eq_true hc2
   refine rg tok [2] fun K hK=>?_
   simp only[go_sem,qc,qa,reduceCtorEq,t3];apply hK
   cases h;exact rtA
 rw[if_neg hc2] at h;have t4:=eq_false hc2;refine yU (fun L τ=>∃ (x5:Bool),L=[(0,.int .i32 a0),(6,.bool x5)]∧τ=[]∧xK.j6 a0 x5=r) ?_ ?_
 · refine rg tok [0,3,6] fun K hK=>?_
   simp only[go_sem,qc,qa,reduceCtorEq,t4];apply hK
   refine zL rfl (fun hc15=>?_) (fun hc15=>?_)
   · rw[if_pos hc15] at h;have t16:=eq_true hc15;apply zd;exact⟨_,_,⟨decide (a0=215),rfl,rfl,h⟩,.s⟩
   rw[if_neg hc15] at h;have t17:=eq_false hc15
   refine rg tok [0,3,6] fun K hK=>?_
   simp only[go_sem,qc,qa,reduceCtorEq,t17];apply hK
   refine zL rfl (fun hc18=>?_) (fun hc18=>?_)
   · rw[if_pos hc18] at h;have t19:=eq_true hc18;apply zd;exact⟨_,_,⟨decide (a0=247),rfl,rfl,h⟩,.s⟩
   rw[if_neg hc18] at h;have t20:=eq_false hc18
   refine rgE tok [0,6] fun K hK=>?_
   simp only[go_sem,qc,qa,reduceCtorEq,t20];apply hK
   exact⟨_,_,⟨decide (a0=930),rfl,rfl,h⟩,.s⟩
 rintro _ _ ⟨x5,rfl,rfl,h⟩;unfold xK.j6 at h;refine zv (b:=x5) rfl (fun hc7=>?_) (fun hc7=>?_)
 · rw[if_pos hc7] at h;refine rgN [2] ?_;cases h;exact rtA
 rw[wb hc7] at h;apply zd;apply hZ1
 refine rc [2] fun K hK=>?_
 obtain⟨r8,hr8,h⟩:=zD h;refine rnN 1 ?_;refine clN rfl rfl rfl (wO.ev a0 97 122 r8 hr8 _) ?_;refine rnN 1 ?_;obtain⟨c9,hc9,h⟩:=zD h;refine zq 3 (fun L τ=>L=[(0,.int .i32 a0),(15,.bool c9)]∧τ=[]) ?_ ?_
 · refine yf (b:=r8) 12 rfl (fun hg12=>?_) (fun hg12=>?_)
   · rw[if_pos hg12] at hc9;refine rnN 3 ?_;subst hc9;refine zb ⟨rfl,_,_,⟨rfl,rfl⟩,.b hg12⟩
   rw[wb hg12] at hc9;obtain⟨r10,hr10,hc9⟩:=zD hc9;refine rnN 1 ?_;refine clN rfl rfl rfl (wO.ev a0 65 90 r10 hr10 _) ?_;refine rnN 1 ?_;subst hc9;refine zb ⟨rfl,_,_,⟨rfl,rfl⟩,.b hg12⟩
 rintro _ _ ⟨rfl,rfl⟩;refine rnN 1 ?_;obtain⟨c11,hc11,h⟩:=zD h;refine zq 3 (fun L τ=>L=[(0,.int .i32 a0),(19,.bool c11)]∧τ=[]) ?_ ?_
 · refine yf (b:=c9) 16 rfl (fun hg16=>?_) (fun hg16=>?_)
   · rw[if_pos hg16] at hc11;refine rnN 3 ?_;subst hc11;refine zb ⟨rfl,_,_,⟨rfl,rfl⟩,.b hg16⟩
   rw[wb hg16] at hc11;obtain⟨r12,hr12,hc11⟩:=zD hc11;refine rnN 1 ?_;refine clN rfl rfl rfl (wO.ev a0 192 591 r12 hr12 _) ?_;refine rnN 1 ?_;subst hc11;refine zb ⟨rfl,_,_,⟨rfl,rfl⟩,.b hg16⟩
 rintro _ _ ⟨rfl,rfl⟩;refine rnN 1 ?_;obtain⟨c13,hc13,h⟩:=zD h;refine zq 3 (fun L τ=>L=[(23,.bool c13)]∧τ=[]) ?_ ?_
 · refine yf (b:=c11) 20 rfl (fun hg20=>?_) (fun hg20=>?_)
   · rw[if_pos hg20] at hc13;refine rnN 3 ?_;subst hc13;refine zb ⟨rfl,_,_,⟨rfl,rfl⟩,.b hg20⟩
   rw[wb hg20] at hc13;obtain⟨r14,hr14,hc13⟩:=zD hc13;refine rnN 1 ?_;refine clN rfl rfl rfl (wO.ev a0 913 969 r14 hr14 _) ?_;refine rnN 1 ?_;subst hc13;refine zb ⟨rfl,_,_,⟨rfl,rfl⟩,.b hg20⟩
 rintro _ _ ⟨rfl,rfl⟩;refine rnN 1 ?_;refine nkN hK ?_;cases h;exact rtA
theorem xK.ev (a0:Int)(r:Bool)(h:xK a0=r)(σ:Store):ACalls qg 169 [.int .i32 a0] σ (fun r' σ'=>r'=.bool r∧σ'=σ):=
 (xK.ok a0 r h).c σ
def w7 (a0:Int):Bool:=
 bnd (wO a0 48 57) fun r1=>r1
theorem w7.ok (a0:Int)(r:Bool)(h:w7 a0=r):ACalls qg 170 [.int .i32 a0] [] (fun r' _=>r'=.bool r):=by
 refine zh (rs:=[.tmp 2]) tok Tryz.func170 rfl Tryz.ntmps170 rfl Tryz.call170 (by simp) ?_;refine zl [(0,.int .i32 a0)] ⟨rfl,trivial⟩ ?_;unfold w7 at h;refine rgN [0] ?_
 refine rc [2] fun K hK=>?_
 obtain⟨r1,hr1,h⟩:=zD h;refine rnN 1 ?_;refine clN rfl rfl rfl (wO.ev a0 48 57 r1 hr1 _) ?_;refine rnN 1 ?_;refine nkN hK ?_;cases h;exact rtA
theorem w7.ev (a0:Int)(r:Bool)(h:w7 a0=r)(σ:Store):ACalls qg 170 [.int .i32 a0] σ (fun r' σ'=>r'=.bool r∧σ'=σ):=
 (w7.ok a0 r h).c σ
def wd.l11 (a0:List UInt8):Nat→Nat→Option Bool
 |0,_=>none
 |k11+1,p9=>(if p9<qb a0 then bnd (xK ((vbr a0 p9).1:Int)) fun r15=>bnd (if (!r15)=true then bnd (if ((p9:Nat):Int)=0 then true else bnd (w7 ((vbr a0 p9).1:Int)) fun r16 => !r16) fun c16=>c16 else false) fun c16=>(if c16=true then some false else ((wd.l11 a0 k11) (p9+(vbr a0 p9).2))) else some true)
def wd (a0:List UInt8):Option Bool:=
 (we a0).bind fun r1=>bnd (if ((decide (r1<1))||(decide (20<r1)))=true then true else bnd (xw a0) fun r5=>r5) fun c5=>(if c5=true then some false else (wd.l11 a0 rounds 0))
theorem wd.ok (a0:List UInt8)(r:Bool)(h:wd a0=some r):ACalls qg 125 [.str a0] [] (fun r' _=>r'=.bool r):=by
 refine zh (rs:=[.tmp 2]) tok Tryz.func125 rfl Tryz.ntmps125 rfl Tryz.call125 (by simp) ?_;refine zl [(0,.str a0)] ⟨rfl,trivial⟩ ?_;unfold wd at h;refine rgN [0] ?_
 refine rc [0,3] fun K hK=>?_
 obtain⟨r1,hr1,h⟩:=bind_some h;refine rnN 1 ?_;refine clN rfl rfl rfl (we.ev a0 r1 hr1 _) ?_;refine rnN 1 ?_;refine nkN hK ?_
 refine za fun Z2 hZ2=>?_
 refine rc [0,17] fun K hK=>?_
 refine rnN 3 ?_;refine zq 3 (fun L τ=>L=[(0,.str a0),(13,.bool ((decide (r1<1))||(decide (20<r1))))]∧τ=[]) ?_ ?_
 · refine yW 10 rfl (fun hg10=>?_) (fun hg10=>?_)
   · have t3:=eq_true hg10;refine rnN 3 ?_;refine zb ⟨rfl,_,_,⟨rfl,rfl⟩,.p t3⟩
   have t4:=eq_false hg10;refine rnN 3 ?_;refine zb ⟨rfl,_,_,⟨rfl,rfl⟩,.p t4⟩
 rintro _ _ ⟨rfl,rfl⟩;refine rnN 1 ?_;obtain⟨c5,hc5,h⟩:=zD h;refine zq 3 (fun L τ=>L=[(0,.str a0),(17,.bool c5)]∧τ=[]) ?_ ?_
 · refine yf (b:=((decide (r1<1))||(decide (20<r1)))) 14 rfl (fun hg14=>?_) (fun hg14=>?_)
   · rw[if_pos hg14] at hc5;refine rnN 3 ?_;subst hc5;refine zb ⟨rfl,_,_,⟨rfl,rfl⟩,.b hg14⟩
   rw[wb hg14] at hc5;obtain⟨r6,hr6,hc5⟩:=zD hc5;refine rnN 1 ?_;refine clN rfl rfl rfl (xw.ev a0 r6 hr6 _) ?_;refine rnN 1 ?_;subst hc5;refine zb ⟨rfl,_,_,⟨rfl,rfl⟩,.b hg14⟩
 rintro _ _ ⟨rfl,rfl⟩;refine nkN hK ?_;refine zv (b:=c5) rfl (fun hc7=>?_) (fun hc7=>?_)
 · rw[if_pos hc7] at h;refine rgN [2] ?_;cases h;exact rtA
 rw[wb hc7] at h;apply zd;apply hZ2
 refine za fun Z8 hZ8=>?_
 refine rgN [19] ?_;apply ze;refine zF (fun m L τ=>∃ (k11:Nat) (p9:Nat),m=0+k11∧L=[(19,.it 0)]∧τ=[.iter a0 p9]∧wd.l11 a0 k11 p9=some r) _ ⟨rounds,0,rfl,rfl,rfl,h⟩ .s ?_;rintro m L τ ⟨k11,p9,rfl,rfl,rfl,h⟩
 rcases k11 with _|k11
 · cases h
 simp only[wd.l11] at h
 by_cases hn12:p9<qb a0
 · rw[if_pos hn12] at h;have t13:=eq_true hn12
   refine rg tok [19,20,21] fun K hK=>?_
   simp only[go_sem,qc,qa,qe,vaw,if_true,if_false,t13];apply hK
   refine za fun Z14 hZ14=>?_
   refine zs rfl ?_;apply zd;apply hZ14;apply ze;refine rgN [4,5,19] ?_
   refine rc [19,35] fun K hK=>?_
   obtain⟨r15,hr15,h⟩:=zD h;refine rnN 1 ?_;refine clN rfl rfl rfl (xK.ev ((vbr a0 p9).1:Int) r15 hr15 _) ?_;refine rnN 2 ?_;obtain⟨c16,hc16,h⟩:=zD h;refine zq 8 (fun L τ=>L=[(19,.it 0),(35,.bool c16)]∧τ=[.iter a0 (p9+(vbr a0 p9).2)]) ?_ ?_
   · refine yf (b:=(!r15)) 27 rfl (fun hg27=>?_) (fun hg27=>?_)
     · rw[if_pos hg27] at hc16;refine rnN 3 ?_;obtain⟨c17,hc17,hc16⟩:=zD hc16;refine zq 4 (fun L τ=>L=[(19,.it 0),(27,.bool true),(34,.bool c17)]∧τ=[.iter a0 (p9+(vbr a0 p9).2)]) ?_ ?_
       · refine yW 30 rfl (fun hg30=>?_) (fun hg30=>?_)
         · have t18:=eq_true hg30;rw[if_pos hg30] at hc17;refine rnN 4 ?_;subst hc17;refine zb ⟨rfl,_,_,⟨rfl,rfl⟩,.p t18⟩
         have t19:=eq_false hg30;rw[if_neg hg30] at hc17;obtain⟨r20,hr20,hc17⟩:=zD hc17;refine rnN 1 ?_;refine clN rfl rfl rfl (w7.ev ((vbr a0 p9).1:Int) r20 hr20 _) ?_;refine rnN 2 ?_;subst hc17;refine zb ⟨rfl,_,_,⟨rfl,rfl⟩,.p t19⟩
       rintro _ _ ⟨rfl,rfl⟩;refine rnN 1 ?_;subst hc16;refine zb ⟨rfl,_,_,⟨rfl,rfl⟩,.b hg27⟩
     rw[wb hg27] at hc16;refine rnN 8 ?_;subst hc16;refine zb ⟨rfl,_,_,⟨rfl,rfl⟩,.b hg27⟩
   rintro _ _ ⟨rfl,rfl⟩;refine nkN hK ?_;refine zv (b:=c16) rfl (fun hc21=>?_) (fun hc21=>?_)
   · rw[if_pos hc21] at h;refine rgN [2] ?_;cases h;exact rtA
   rw[wb hc21] at h;apply zd;exact⟨_,_,_,qy (0+k11),⟨k11,p9+(vbr a0 p9).2,rfl,rfl,rfl,h⟩,.s⟩
 rw[if_neg hn12] at h;have t22:=eq_false hn12
 refine rg tok [19,20,21] fun K hK=>?_
 simp only[go_sem,qc,qa,vaw,if_true,if_false,t22];apply hK
 refine za fun Z23 hZ23=>?_
 refine zp rfl ?_;apply zA;apply hZ8;refine rgN [2] ?_;cases h;exact rtA
theorem wd.ev (a0:List UInt8)(r:Bool)(h:wd a0=some r)(σ:Store):ACalls qg 125 [.str a0] σ (fun r' σ'=>r'=.bool r∧σ'=σ):=
 (wd.ok a0 r h).c σ
def yQ (a0:List (List UInt8×Bool))(a1:List UInt8):Option (Bool×List (List UInt8×Bool)):=
 (wd a1).bind fun r2=>(if ((!r2)||((vb5 a0 a1).getD false))=true then some (false,a0) else some (true,setM a0 a1 true))
theorem yQ.ok (a0:List (List UInt8×Bool))(a1:List UInt8)(r:Bool×List (List UInt8×Bool))(h:yQ a0 a1=some r):ACalls qg 128 [.mp 0,.str a1] [.map (xW AV.str AV.bool a0)] (fun r' σ'=>r'=.bool r.1∧σ'=[.map (xW AV.str AV.bool r.2)]):=by
 refine ww [0] (rs:=[.tmp 4]) tok Tryz.func128 rfl Tryz.ntmps128 rfl Tryz.call128 (by simp) rfl ?_;refine zl [(0,.mp 0),(1,.str a1)] ⟨rfl,rfl,trivial⟩ ?_;unfold yQ at h;refine rgN [0,1] ?_
 refine za fun Z1 hZ1=>?_
 refine rc [0,1,12] fun K hK=>?_
 obtain⟨r2,hr2,h⟩:=bind_some h;refine rnN 1 ?_;refine clN rfl rfl rfl (wd.ev a1 r2 hr2 _) ?_;refine rnN 2 ?_;refine zq 4 (fun L τ=>L=[(0,.mp 0),(1,.str a1),(12,.bool ((!r2)||((vb5 a0 a1).getD false)))]∧τ=[.map (xW AV.str AV.bool a0)]) ?_ ?_
 · refine yf (b:=(!r2)) 8 rfl (fun hg8=>?_) (fun hg8=>?_)
   · refine zj tok 4 ?_;simp only[go_sem,qc,qa,reduceCtorEq,if_false,if_true];refine zb ⟨rfl,_,_,⟨rfl,rfl⟩,.b hg8⟩
   have f3:=fun (x:Store)=>vat (T:=tab) (t:=202) (ek:=AV.str) (ev:=AV.bool) (z:=false) (KeyE.str rfl rfl rfl rfl) rfl rfl rfl rfl a0 a1 false (.map (xW AV.str AV.bool a0)::x) 0 rfl
   refine zj tok 4 ?_;simp only[go_sem,qc,qa,reduceCtorEq,XH,q2,if_false,if_true,f3];refine zb ⟨rfl,_,_,⟨rfl,rfl⟩,.b hg8⟩
 rintro _ _ ⟨rfl,rfl⟩;refine nkN hK ?_;refine zv (b:=((!r2)||((vb5 a0 a1).getD false))) rfl (fun hc4=>?_) (fun hc4=>?_)
 · rw[if_pos hc4] at h;refine rgN [4] ?_;apply zR;cases h;simp only[wN,ym,yy,xo,exists_eq_left',go_sem];refine⟨by decide,by simp,?_,?_⟩
   · first|rfl|(simp only[go_sem,qc,qf,qa,qe,ql,qs,reduceIte,reduceCtorEq,push_cast,if_true,qC,qn,qp,qm,qE,qq,qN,qJ,qu,qt,qw,zi]<;>rfl)
   first|rfl|(simp only[go_sem,push_cast,qm]<;>rfl)
 rw[wb hc4] at h;apply zd;apply hZ1
 have f5:=fun (x:Store)=>vam (T:=tab) (t:=202) (ek:=AV.str) (ev:=AV.bool) (KeyE.str rfl rfl rfl rfl) rfl rfl a0 a1 true (.map (xW AV.str AV.bool a0)::x) 0 rfl
 refine rg tok [] fun K hK=>?_
 simp only[go_sem,qc,qa,reduceCtorEq,f5];apply hK
 refine rgN [4] ?_;apply zR;cases h;simp only[wN,ym,yy,xo,exists_eq_left',go_sem];refine⟨by decide,by simp,?_,?_⟩
 · first|rfl|(simp only[go_sem,qc,qf,qa,qe,ql,qs,reduceIte,reduceCtorEq,push_cast,if_true,qC,qn,qp,qm,qE,qq,qN,qJ,qu,qt,qw,zi]<;>rfl)
 first|rfl|(simp only[go_sem,push_cast,qm]<;>rfl)
def Zs (a0:Int):Bool:=
 ((decide (1≤a0))&&(decide (a0≤500)))
theorem Zs.ok (a0:Int)(r:Bool)(h:Zs a0=r):ACalls qg 171 [.int .i64 a0] [] (fun r' _=>r'=.bool r):=by
 refine zh (rs:=[.tmp 2]) tok Tryz.func171 rfl Tryz.ntmps171 rfl Tryz.call171 (by simp) ?_;refine zl [(0,.int .i64 a0)] ⟨rfl,trivial⟩ ?_;unfold Zs at h;refine rgN [0] ?_
 refine rc [2] fun K hK=>?_
 refine rnN 3 ?_;refine zq 3 (fun L τ=>L=[(8,.bool ((decide (1≤a0))&&(decide (a0≤500))))]∧τ=[]) ?_ ?_
 · refine yW 5 rfl (fun hg5=>?_) (fun hg5=>?_)
   · have t1:=eq_true hg5;refine rnN 3 ?_;refine zb ⟨rfl,_,_,⟨rfl,rfl⟩,.p t1⟩
   have t2:=eq_false hg5;refine rnN 3 ?_;refine zb ⟨rfl,_,_,⟨rfl,rfl⟩,.p t2⟩
 rintro _ _ ⟨rfl,rfl⟩;refine rnN 1 ?_;refine nkN hK ?_;cases h;exact rtA
theorem Zs.ev (a0:Int)(r:Bool)(h:Zs a0=r)(σ:Store):ACalls qg 171 [.int .i64 a0] σ (fun r' σ'=>r'=.bool r∧σ'=σ):=
 (Zs.ok a0 r h).c σ
def wo.l4 (a1:List UInt8):List GEnumeration→Int→GEnumeration×Bool
 |[],x2=>((⟨[],([]:List GNamed)⟩:GEnumeration),false)
 |y4::q4,x2=>(if y4.fName=a1 then (y4,true) else ((wo.l4 a1 q4) (x2+1)))
def wo (a0:GSchema)(a1:List UInt8):GEnumeration×Bool:=
 (wo.l4 a1 a0.fEnums 0)
theorem wo.ok (a0:GSchema)(a1:List UInt8)(r:GEnumeration×Bool)(h:wo a0 a1=r):ACalls qg 213 [.agg (encGSchema a0),.str a1] [] (fun r' _=>r'=.tup [.agg (encGEnumeration r.1),.bool r.2]):=by
 refine zh (rs:=[.cell 4 142,.tmp 5]) tok Tryz.func213 rfl Tryz.ntmps213 rfl Tryz.call213 (by simp) ?_;refine zl [(0,.agg (encGSchema a0)),(1,.str a1)] ⟨rfl,rfl,trivial⟩ ?_;unfold wo at h
 refine rg tok [1,2,4] fun K hK=>?_
 simp only[go_sem,qc,qa,qe,reduceCtorEq,encGSchema];apply hK
 refine za fun Z1 hZ1=>?_
 refine rgN [1,4,9,10,11] ?_;apply ze
 refine yD 9 fun hb4=>?_
 replace hb4:qb a0.fEnums≤9223372036854775807:=hb4.1;refine zF (fun m L τ=>∃ (p4 q4:List GEnumeration) (x2:Int),m=qb q4∧L=[(1,.str a1),(4,.op 0 0 0),(9,.ds true (qd encGEnumeration a0.fEnums) (qb a0.fEnums) false),(10,.int .i64 (qb a0.fEnums:Int)),(11,.int .i64 x2)]∧τ=[.cells 0 [.str [],.ds true [] 0 true]]∧a0.fEnums=p4++q4∧x2=(qb p4:Int)∧wo.l4 a1 q4 x2=r) _ ⟨[],a0.fEnums,0,rfl,rfl,rfl,rfl,rfl,h⟩ (.t [1] false) ?_;rintro m L τ ⟨p4,q4,x2,rfl,rfl,rfl,hE4,hi4,h⟩
 rcases q4 with _|⟨y4,q4⟩
 · have hz4:=yH hE4 hi4;simp only[wo.l4] at h
   refine rg tok [1,4,9,10,11,12] fun K hK=>?_
   simp only[go_sem,qc,qa,hz4];apply hK
   refine za fun Z5 hZ5=>?_
   refine zp rfl ?_;apply zA;apply hZ1;refine rgN [4,5] ?_;cases h;exact rtA
 obtain⟨hz4,hw4,hx4,hE'4,hi'4⟩:=ya hE4 hi4 hb4;simp only[wo.l4] at h
 refine rg tok [1,4,9,10,11,12] fun K hK=>?_
 simp only[go_sem,qc,qa,hz4];apply hK
 refine za fun Z6 hZ6=>?_
 refine zs rfl ?_;apply zd;apply hZ6
 refine za fun Z7 hZ7=>?_
 apply ze;have f8:=E28.idxS hx4;have f9:=E28.loadS rfl rfl hx4
 refine rg tok [1,4,7,9,10,11] fun K hK=>?_
 simp only[go_sem,qc,qf,qa,qe,encGEnumeration,f8,f9];apply hK
 refine rgN [1,4,7,9,10,11,18] ?_;refine zL rfl (fun hc10=>?_) (fun hc10=>?_)
 · rw[if_pos hc10] at h;have t11:=eq_true hc10
   refine rg tok [4,5] fun K hK=>?_
   simp only[go_sem,qc,qf,qa,qe,t11];apply hK
   cases h;exact rtA
 rw[if_neg hc10] at h;have t12:=eq_false hc10;apply zd;apply hZ7
 refine rgE tok [1,4,9,10,11] fun K hK=>?_
 simp only[go_sem,qc,qa,hw4,t12];apply hK
 exact⟨_,_,_,qy q4.length,⟨p4++[y4],q4,x2+1,rfl,rfl,rfl,hE'4,hi'4,h⟩,(.t [0] false)⟩
theorem wo.ev (a0:GSchema)(a1:List UInt8)(r:GEnumeration×Bool)(h:wo a0 a1=r)(σ:Store):ACalls qg 213 [.agg (encGSchema a0),.str a1] σ (fun r' σ'=>r'=.tup [.agg (encGEnumeration r.1),.bool r.2]∧σ'=σ):=
 (wo.ok a0 a1 r h).c σ
def Ze (a0:GSchema)(a1:GField):Bool:=
 (if a1.fType.fKind=6 then bnd (wo a0 a1.fType.fName) fun r6=>(((decide (1≤a1.fLabel))&&(decide (a1.fLabel≤3)))&&r6.2) else (if a1.fType.fKind=7 then bnd (zG a0 a1.fType.fName) fun r10=>(((decide (1≤a1.fLabel))&&(decide (a1.fLabel≤3)))&&r10.2) else (((((decide (1≤a1.fLabel))&&(decide (a1.fLabel≤3)))&&(decide (1≤a1.fType.fKind)))&&(decide (a1.fType.fName=[])))&&(decide (a1.fType.fKind<6)))))
theorem Ze.ok (a0:GSchema)(a1:GField)(r:Bool)(h:Ze a0 a1=r):ACalls qg 172 [.agg (encGSchema a0),.agg (encGField a1)] [] (fun r' _=>r'=.bool r):=by
 refine zh (rs:=[.tmp 4]) tok Tryz.func172 rfl Tryz.ntmps172 rfl Tryz.call172 (by simp) ?_;refine zl [(0,.agg (encGSchema a0)),(1,.agg (encGField a1))] ⟨rfl,rfl,trivial⟩ ?_;unfold Ze at h
 refine rg tok [2,3] fun K hK=>?_
 simp only[go_sem,qc,qa,qe,reduceCtorEq,encGField,encGSchema];apply hK
 refine rc [2,3,5] fun K hK=>?_
 refine rnN 4 ?_;refine zq 4 (fun L τ=>L=[(2,.op 0 0 0),(3,.op 1 0 0),(17,.bool ((decide (1≤a1.fLabel))&&(decide (a1.fLabel≤3))))]∧τ=[.cells 0 (encGSchema a0),.cells 0 (encGField a1)]) ?_ ?_
 · refine yW 13 rfl (fun hg13=>?_) (fun hg13=>?_)
   · have t1:=eq_true hg13;refine rnN 4 ?_;refine zb ⟨rfl,_,_,⟨rfl,rfl⟩,.p t1⟩
   have t2:=eq_false hg13;refine rnN 4 ?_;refine zb ⟨rfl,_,_,⟨rfl,rfl⟩,.p t2⟩
 rintro _ _ ⟨rfl,rfl⟩;refine rnN 1 ?_;refine nkN hK ?_
 refine za fun Z3 hZ3=>?_
 refine rgN [2,3,5,20] ?_;apply ze;refine rgN [2,3,5,20,21] ?_;refine zL rfl (fun hc4=>?_) (fun hc4=>?_)
 · rw[if_pos hc4] at h;have t5:=eq_true hc4
   refine rc [5,7] fun K hK=>?_
   obtain⟨r6,hr6,h⟩:=zD h;refine zj tok 4 ?_;simp only[go_sem,qc,qf,qa,qe,t5];refine clN rfl rfl rfl (wo.ev a0 a1.fType.fName r6 hr6 _) ?_;refine zj tok 6 ?_;simp only[go_sem,qc,qf,qa,qe,encGEnumeration];refine nkN hK ?_
   refine rc [4] fun K hK=>?_
   refine rnN 2 ?_;refine zq 2 (fun L τ=>L=[(34,.bool (((decide (1≤a1.fLabel))&&(decide (a1.fLabel≤3)))&&r6.2))]∧τ=[.cells 0 (encGSchema a0),.cells 0 (encGField a1),.cells 0 (encGEnumeration r6.1)]) ?_ ?_
   · refine yf (b:=((decide (1≤a1.fLabel))&&(decide (a1.fLabel≤3)))) 32 rfl (fun hg32=>?_) (fun hg32=>?_)
     · refine rnN 2 ?_;refine zb ⟨rfl,_,_,⟨rfl,rfl⟩,.b hg32⟩
     refine rnN 2 ?_;refine zb ⟨rfl,_,_,⟨rfl,rfl⟩,.b hg32⟩
   rintro _ _ ⟨rfl,rfl⟩;refine rnN 1 ?_;refine nkN hK ?_;cases h;exact rtA
 rw[if_neg hc4] at h;have t7:=eq_false hc4
 refine rg tok [2,3,5,35] fun K hK=>?_
 simp only[go_sem,qc,qa,t7];apply hK
 refine zL rfl (fun hc8=>?_) (fun hc8=>?_)
 · rw[if_pos hc8] at h;have t9:=eq_true hc8
   refine rc [5,9] fun K hK=>?_
   obtain⟨r10,hr10,h⟩:=zD h;refine zj tok 4 ?_;simp only[go_sem,qc,qf,qa,qe,t9];refine clN rfl rfl rfl (zG.ev a0 a1.fType.fName r10 hr10 _) ?_;refine zj tok 6 ?_;simp only[go_sem,qc,qf,qa,qe,encGMessage];refine nkN hK ?_
   refine rc [4] fun K hK=>?_
   refine rnN 2 ?_;refine zq 2 (fun L τ=>L=[(48,.bool (((decide (1≤a1.fLabel))&&(decide (a1.fLabel≤3)))&&r10.2))]∧τ=[.cells 0 (encGSchema a0),.cells 0 (encGField a1),.cells 0 (encGMessage r10.1)]) ?_ ?_
   · refine yf (b:=((decide (1≤a1.fLabel))&&(decide (a1.fLabel≤3)))) 46 rfl (fun hg46=>?_) (fun hg46=>?_)
     · refine rnN 2 ?_;refine zb ⟨rfl,_,_,⟨rfl,rfl⟩,.b hg46⟩
     refine rnN 2 ?_;refine zb ⟨rfl,_,_,⟨rfl,rfl⟩,.b hg46⟩
   rintro _ _ ⟨rfl,rfl⟩;refine rnN 1 ?_;refine nkN hK ?_;cases h;exact rtA
 rw[if_neg hc8] at h;have t11:=eq_false hc8;apply zd;apply hZ3
 refine rc [4] fun K hK=>?_
 refine zj tok 2 ?_;simp only[go_sem,qc,qa,t11];refine zq 5 (fun L τ=>L=[(3,.op 1 0 0),(55,.bool (((decide (1≤a1.fLabel))&&(decide (a1.fLabel≤3)))&&(decide (1≤a1.fType.fKind))))]∧τ=[.cells 0 (encGSchema a0),.cells 0 (encGField a1)]) ?_ ?_
 · refine yf (b:=((decide (1≤a1.fLabel))&&(decide (a1.fLabel≤3)))) 50 rfl (fun hg50=>?_) (fun hg50=>?_)
   · refine rnN 5 ?_;refine zb ⟨rfl,_,_,⟨rfl,rfl⟩,.b hg50⟩
   refine rnN 5 ?_;refine zb ⟨rfl,_,_,⟨rfl,rfl⟩,.b hg50⟩
 rintro _ _ ⟨rfl,rfl⟩;refine rnN 1 ?_;refine zq 8 (fun L τ=>L=[(3,.op 1 0 0),(64,.bool ((((decide (1≤a1.fLabel))&&(decide (a1.fLabel≤3)))&&(decide (1≤a1.fType.fKind)))&&(decide (a1.fType.fName=[]))))]∧τ=[.cells 0 (encGSchema a0),.cells 0 (encGField a1)]) ?_ ?_
 · refine yf (b:=(((decide (1≤a1.fLabel))&&(decide (a1.fLabel≤3)))&&(decide (1≤a1.fType.fKind)))) 56 rfl (fun hg56=>?_) (fun hg56=>?_)
   · refine zj tok 8 ?_;simp only[go_sem,qc,qf,qa,qe,evEqA,ceqL,ceq];refine zb ⟨rfl,_,_,⟨rfl,rfl⟩,.b hg56⟩
   refine rnN 8 ?_;refine zb ⟨rfl,_,_,⟨rfl,rfl⟩,.b hg56⟩
 rintro _ _ ⟨rfl,rfl⟩;refine rnN 1 ?_;refine zq 5 (fun L τ=>L=[(70,.bool (((((decide (1≤a1.fLabel))&&(decide (a1.fLabel≤3)))&&(decide (1≤a1.fType.fKind)))&&(decide (a1.fType.fName=[])))&&(decide (a1.fType.fKind<6))))]∧τ=[.cells 0 (encGSchema a0),.cells 0 (encGField a1)]) ?_ ?_
 · refine yf (b:=((((decide (1≤a1.fLabel))&&(decide (a1.fLabel≤3)))&&(decide (1≤a1.fType.fKind)))&&(decide (a1.fType.fName=[])))) 65 rfl (fun hg65=>?_) (fun hg65=>?_)
   · refine rnN 5 ?_;refine zb ⟨rfl,_,_,⟨rfl,rfl⟩,.b hg65⟩
   refine rnN 5 ?_;refine zb ⟨rfl,_,_,⟨rfl,rfl⟩,.b hg65⟩
 rintro _ _ ⟨rfl,rfl⟩;refine rnN 1 ?_;refine nkN hK ?_;cases h;exact rtA
theorem Ze.ev (a0:GSchema)(a1:GField)(r:Bool)(h:Ze a0 a1=r)(σ:Store):ACalls qg 172 [.agg (encGSchema a0),.agg (encGField a1)] σ (fun r' σ'=>r'=.bool r∧σ'=σ):=
 (Ze.ok a0 a1 r h).c σ
def xb.l21 (a0:GSchema)(r2:Bool×List (List UInt8×Bool)):List GField→Int→List (Int×Bool)→List (List UInt8×Bool)→Option (Int×List (List UInt8×Bool))
 |[],x17,l15,l16=>some (0,r2.2)
 |y21::q21,x17,l15,l16=>(yQ l16 y21.fName).bind fun r28=>(if (!r28.1)=true then some (6,r2.2) else bnd (Zs y21.fTag) fun r30=>(if ((!r30)||((vb5 l15 y21.fTag).getD false))=true then some (7,r2.2) else bnd (Ze a0 y21) fun r33=>(if (!r33)=true then some (8,r2.2) else ((xb.l21 a0 r2 q21) (x17+1) (setM l15 y21.fTag true) r28.2))))
def xb.l12 (a0:GSchema)(a2:GMessage)(r2:Bool×List (List UInt8×Bool)):List Int→Int→List (Int×Bool)→Option (Int×List (List UInt8×Bool))
 |[],x9,l8=>(xb.l21 a0 r2 a2.fFields 0 l8 [])
 |y12::q12,x9,l8=>bnd (Zs y12) fun r41=>(if ((!r41)||((vb5 l8 y12).getD false))=true then some (7,r2.2) else ((xb.l12 a0 a2 r2 q12) (x9+1) (setM l8 y12 true)))
def xb (a0:GSchema)(a1:List (List UInt8×Bool))(a2:GMessage):Option (Int×List (List UInt8×Bool)):=
 (yQ a1 a2.fName).bind fun r2=>(if (!r2.1)=true then some (6,r2.2) else (if ((decide (16<(qb a2.fFields:Int)))||(decide (32<(qb a2.fReserved:Int))))=true then some (4,r2.2) else (xb.l12 a0 a2 r2 a2.fReserved 0 [])))
end
section
set_option maxRecDepth 4000
set_option maxHeartbeats 1000000
open AM
theorem xb.ok (a0:GSchema)(a1:List (List UInt8×Bool))(a2:GMessage)(r:Int×List (List UInt8×Bool))(h:xb a0 a1 a2=some r):ACalls qg 126 [.agg (encGSchema a0),.mp 0,.agg (encGMessage a2)] [.map (xW AV.str AV.bool a1)] (fun r' σ'=>r'=.int .i64 r.1∧σ'=[.map (xW AV.str AV.bool r.2)]):=by
 refine ww [0] (rs:=[.tmp 6]) tok Tryz.func126 rfl Tryz.ntmps126 rfl Tryz.call126 (by simp) rfl ?_;refine zl [(0,.agg (encGSchema a0)),(1,.mp 0),(2,.agg (encGMessage a2))] ⟨rfl,rfl,rfl,trivial⟩ ?_;unfold xb at h
 refine rg tok [1,3,5] fun K hK=>?_
 simp only[go_sem,qc,qa,qe,reduceCtorEq,encGMessage,encGSchema];apply hK
 refine za fun Z1 hZ1=>?_
 apply ze
 refine rc [3,5,13] fun K hK=>?_
 obtain⟨r2,hr2,h⟩:=bind_some h;refine rnN 3 ?_;refine clN rfl rfl rfl (@id (ACalls qg 128 [.mp 0,.str a2.fName] [.map (xW AV.str AV.bool a1),.cells 0 (encGSchema a0),.cells 0 (encGMessage a2)] (fun r' σ'=>r'=.bool r2.1∧σ'=[.map (xW AV.str AV.bool r2.2),.cells 0 (encGSchema a0),.cells 0 (encGMessage a2)])) ((yQ.ok a1 a2.fName r2 hr2).i [0])) ?_;refine rnN 2 ?_;refine nkN hK ?_;refine zv (b:=(!r2.1)) rfl (fun hc3=>?_) (fun hc3=>?_)
 · rw[if_pos hc3] at h;refine rgN [6] ?_;apply zR;cases h;simp only[wN,ym,yy,xo,exists_eq_left',go_sem,qe];refine⟨by decide,by simp,?_,?_⟩
   · first|rfl|(simp only[go_sem,qc,qf,qa,qe,ql,qs,reduceIte,reduceCtorEq,push_cast,if_true,qC,qn,qp,qm,qE,qq,qN,qJ,qu,qt,qw,zi]<;>rfl)
   first|rfl|(simp only[go_sem,push_cast,qm]<;>rfl)
 rw[wb hc3] at h
 refine rc [3,5,19] fun K hK=>?_
 refine rnN 5 ?_;refine zq 5 (fun L τ=>L=[(3,.op 1 0 0),(5,.op 2 0 0),(29,.bool ((decide (16<(qb a2.fFields:Int)))||(decide (32<(qb a2.fReserved:Int)))))]∧τ=[.map (xW AV.str AV.bool r2.2),.cells 0 (encGSchema a0),.cells 0 (encGMessage a2)]) ?_ ?_
 · refine yW 24 rfl (fun hg24=>?_) (fun hg24=>?_)
   · have t4:=eq_true hg24;refine rnN 5 ?_;refine zb ⟨rfl,_,_,⟨rfl,rfl⟩,.p t4⟩
   have t5:=eq_false hg24;refine rnN 5 ?_;refine zb ⟨rfl,_,_,⟨rfl,rfl⟩,.p t5⟩
 rintro _ _ ⟨rfl,rfl⟩;refine rnN 1 ?_;refine nkN hK ?_;refine zv (b:=((decide (16<(qb a2.fFields:Int)))||(decide (32<(qb a2.fReserved:Int))))) rfl (fun hc6=>?_) (fun hc6=>?_)
 · rw[if_pos hc6] at h;refine rgN [6] ?_;apply zR;cases h;simp only[wN,ym,yy,xo,exists_eq_left',go_sem,qe];refine⟨by decide,by simp,?_,?_⟩
   · first|rfl|(simp only[go_sem,qc,qf,qa,qe,ql,qs,reduceIte,reduceCtorEq,push_cast,if_true,qC,qn,qp,qm,qE,qq,qN,qJ,qu,qt,qw,zi]<;>rfl)
   first|rfl|(simp only[go_sem,push_cast,qm]<;>rfl)
 rw[wb hc6] at h;apply zd;apply hZ1;refine rgN [3,5,7] ?_;refine yn (L:=[(3,.op 1 0 0),(5,.op 2 0 0),(7,.mp 3)]) (τ:=[.map (xW AV.str AV.bool r2.2),.cells 0 (encGSchema a0),.cells 0 (encGMessage a2),.map (xW (AV.int .i64) AV.bool [])]) .s ?_
 refine za fun Z7 hZ7=>?_
 refine rgN [3,5,7,32,33,34] ?_;apply ze
 refine yD 32 fun hb12=>?_
 replace hb12:qb a2.fReserved≤9223372036854775807:=hb12.1;refine zF (fun m L τ=>∃ (p12 q12:List Int) (x9:Int) (l8:List (Int×Bool)),m=qb q12∧L=[(3,.op 1 0 0),(5,.op 2 0 0),(7,.mp 3),(32,.ds true (qd encI a2.fReserved) (qb a2.fReserved) false),(33,.int .i64 (qb a2.fReserved:Int)),(34,.int .i64 x9)]∧τ=[.map (xW AV.str AV.bool r2.2),.cells 0 (encGSchema a0),.cells 0 (encGMessage a2),.map (xW (AV.int .i64) AV.bool l8)]∧a2.fReserved=p12++q12∧x9=(qb p12:Int)∧xb.l12 a0 a2 r2 q12 x9 l8=some r) _ ⟨[],a2.fReserved,0,[],rfl,rfl,rfl,rfl,rfl,h⟩ .s ?_;rintro m L τ ⟨p12,q12,x9,l8,rfl,rfl,rfl,hE12,hi12,h⟩
 rcases q12 with _|⟨y12,q12⟩
 · have hz12:=yH hE12 hi12;simp only[xb.l12] at h
   refine rg tok [3,5,7,32,33,34,35] fun K hK=>?_
   simp only[go_sem,qc,qa,hz12];apply hK
   refine za fun Z13 hZ13=>?_
   refine zp rfl ?_;apply zA;apply hZ7;refine rgN [3,5,7,10] ?_;refine yn (L:=[(3,.op 1 0 0),(5,.op 2 0 0),(7,.mp 3),(10,.mp 4)]) (τ:=[.map (xW AV.str AV.bool r2.2),.cells 0 (encGSchema a0),.cells 0 (encGMessage a2),.map (xW (AV.int .i64) AV.bool l8),.map (xW AV.str AV.bool [])]) .s ?_
   refine za fun Z14 hZ14=>?_
   refine rgN [3,7,10,51,52,53] ?_;apply ze
   refine yD 51 fun hb21=>?_
   replace hb21:qb a2.fFields≤9223372036854775807:=hb21.1;refine zF (fun m L τ=>∃ (p21 q21:List GField) (x17:Int) (l15:List (Int×Bool)) (l16:List (List UInt8×Bool)),m=qb q21∧L=[(3,.op 1 0 0),(7,.mp 2),(10,.mp 3),(51,.ds true (qd encGField a2.fFields) (qb a2.fFields) false),(52,.int .i64 (qb a2.fFields:Int)),(53,.int .i64 x17)]∧τ=[.map (xW AV.str AV.bool r2.2),.cells 0 (encGSchema a0),.map (xW (AV.int .i64) AV.bool l15),.map (xW AV.str AV.bool l16)]∧a2.fFields=p21++q21∧x17=(qb p21:Int)∧xb.l21 a0 r2 q21 x17 l15 l16=some r) _ ⟨[],a2.fFields,0,l8,[],rfl,rfl,rfl,rfl,rfl,h⟩ (.t [0,1,3,4] false) ?_;rintro m L τ ⟨p21,q21,x17,l15,l16,rfl,rfl,rfl,hE21,hi21,h⟩
   rcases q21 with _|⟨y21,q21⟩
   · have hz21:=yH hE21 hi21;simp only[xb.l21] at h
     refine rg tok [3,7,10,51,52,53,54] fun K hK=>?_
     simp only[go_sem,qc,qa,hz21];apply hK
     refine za fun Z22 hZ22=>?_
     refine zp rfl ?_;apply zA;apply hZ14;refine rgN [6] ?_;apply zR;cases h;simp only[wN,ym,yy,xo,exists_eq_left',go_sem,qe];refine⟨by decide,by simp,?_,?_⟩
     · first|rfl|(simp only[go_sem,qc,qf,qa,qe,ql,qs,reduceIte,reduceCtorEq,push_cast,if_true,qC,qn,qp,qm,qE,qq,qN,qJ,qu,qt,qw,zi]<;>rfl)
     first|rfl|(simp only[go_sem,push_cast,qm]<;>rfl)
   obtain⟨hz21,hw21,hx21,hE'21,hi'21⟩:=ya hE21 hi21 hb21;simp only[xb.l21] at h
   refine rg tok [3,7,10,51,52,53,54] fun K hK=>?_
   simp only[go_sem,qc,qa,hz21];apply hK
   refine za fun Z23 hZ23=>?_
   refine zs rfl ?_;apply zd;apply hZ23
   refine za fun Z24 hZ24=>?_
   apply ze;have f25:=E127.idxS hx21;have f26:=E127.loadS rfl rfl hx21
   refine rg tok [3,7,10,12,51,52,53] fun K hK=>?_
   simp only[go_sem,qc,qf,qa,qe,encGField,f25,f26];apply hK
   refine za fun Z27 hZ27=>?_
   apply ze
   refine rc [3,7,10,12,51,52,53,57] fun K hK=>?_
   obtain⟨r28,hr28,h⟩:=bind_some h;refine rnN 3 ?_;refine clN rfl rfl rfl (@id (ACalls qg 128 [.mp 3,.str y21.fName] [.map (xW AV.str AV.bool r2.2),.cells 0 (encGSchema a0),.map (xW (AV.int .i64) AV.bool l15),.map (xW AV.str AV.bool l16),.cells 0 (encGField y21)] (fun r' σ'=>r'=.bool r28.1∧σ'=[.map (xW AV.str AV.bool r2.2),.cells 0 (encGSchema a0),.map (xW (AV.int .i64) AV.bool l15),.map (xW AV.str AV.bool r28.2),.cells 0 (encGField y21)])) ((yQ.ok l16 y21.fName r28 hr28).i [3])) ?_;refine rnN 2 ?_;refine nkN hK ?_;refine zv (b:=(!r28.1)) rfl (fun hc29=>?_) (fun hc29=>?_)
   · rw[if_pos hc29] at h;refine rgN [6] ?_;apply zR;cases h;simp only[wN,ym,yy,xo,exists_eq_left',go_sem,qe];refine⟨by decide,by simp,?_,?_⟩
     · first|rfl|(simp only[go_sem,qc,qf,qa,qe,ql,qs,reduceIte,reduceCtorEq,push_cast,if_true,qC,qn,qp,qm,qE,qq,qN,qJ,qu,qt,qw,zi]<;>rfl)
     first|rfl|(simp only[go_sem,push_cast,qm]<;>rfl)
   rw[wb hc29] at h
   refine rc [3,7,10,12,51,52,53,63] fun K hK=>?_
   obtain⟨r30,hr30,h⟩:=zD h;refine rnN 2 ?_;refine clN rfl rfl rfl (Zs.ev y21.fTag r30 hr30 _) ?_;refine rnN 2 ?_;refine zq 5 (fun L τ=>L=[(3,.op 1 0 0),(7,.mp 2),(10,.mp 3),(12,.op 4 0 0),(51,.ds true (qd encGField a2.fFields) (qb a2.fFields) false),(52,.int .i64 (qb a2.fFields:Int)),(53,.int .i64 x17),(73,.bool ((!r30)||((vb5 l15 y21.fTag).getD false)))]∧τ=[.map (xW AV.str AV.bool r2.2),.cells 0 (encGSchema a0),.map (xW (AV.int .i64) AV.bool l15),.map (xW AV.str AV.bool r28.2),.cells 0 (encGField y21)]) ?_ ?_
   · refine yf (b:=(!r30)) 68 rfl (fun hg68=>?_) (fun hg68=>?_)
     · refine zj tok 5 ?_;simp only[go_sem,qc,qa,if_false,if_true];refine zb ⟨rfl,_,_,⟨rfl,rfl⟩,.b hg68⟩
     have f31:=fun (o0:AObj) (o1:AObj) (x:Store)=>vat (T:=tab) (t:=265) (ek:=(AV.int .i64)) (ev:=AV.bool) (z:=false) (KeyE.int rfl rfl rfl rfl) rfl rfl rfl rfl l15 y21.fTag false (o0::o1::.map (xW (AV.int .i64) AV.bool l15)::x) 2 rfl
     refine zj tok 5 ?_;simp only[go_sem,qc,qa,qe,XH,q2,if_false,if_true,f31];refine zb ⟨rfl,_,_,⟨rfl,rfl⟩,.b hg68⟩
   rintro _ _ ⟨rfl,rfl⟩;refine rnN 1 ?_;refine nkN hK ?_;refine zv (b:=((!r30)||((vb5 l15 y21.fTag).getD false))) rfl (fun hc32=>?_) (fun hc32=>?_)
   · rw[if_pos hc32] at h;refine rgN [6] ?_;apply zR;cases h;simp only[wN,ym,yy,xo,exists_eq_left',go_sem,qe];refine⟨by decide,by simp,?_,?_⟩
     · first|rfl|(simp only[go_sem,qc,qf,qa,qe,ql,qs,reduceIte,reduceCtorEq,push_cast,if_true,qC,qn,qp,qm,qE,qq,qN,qJ,qu,qt,qw,zi]<;>rfl)
     first|rfl|(simp only[go_sem,push_cast,qm]<;>rfl)
   rw[wb hc32] at h
   refine rc [3,7,10,12,51,52,53,74] fun K hK=>?_
   obtain⟨r33,hr33,h⟩:=zD h;refine rnN 2 ?_;refine clN rfl rfl rfl (Ze.ev a0 y21 r33 hr33 _) ?_;refine rnN 2 ?_;refine nkN hK ?_;refine zv (b:=(!r33)) rfl (fun hc34=>?_) (fun hc34=>?_)
   · rw[if_pos hc34] at h;refine rgN [6] ?_;apply zR;cases h;simp only[wN,ym,yy,xo,exists_eq_left',go_sem,qe];refine⟨by decide,by simp,?_,?_⟩
     · first|rfl|(simp only[go_sem,qc,qf,qa,qe,ql,qs,reduceIte,reduceCtorEq,push_cast,if_true,qC,qn,qp,qm,qE,qq,qN,qJ,qu,qt,qw,zi]<;>rfl)
     first|rfl|(simp only[go_sem,push_cast,qm]<;>rfl)
   rw[wb hc34] at h;apply zd;apply hZ27
   have f35:=fun (o0:AObj) (o1:AObj) (x:Store)=>vam (T:=tab) (t:=265) (ek:=(AV.int .i64)) (ev:=AV.bool) (KeyE.int rfl rfl rfl rfl) rfl rfl l15 y21.fTag true (o0::o1::.map (xW (AV.int .i64) AV.bool l15)::x) 2 rfl
   refine rgE tok [3,7,10,51,52,53] fun K hK=>?_
   simp only[go_sem,qc,qa,qe,f35];apply hK
   apply hZ24
   refine rgE tok [3,7,10,51,52,53] fun K hK=>?_
   simp only[go_sem,qc,qa,hw21];apply hK
   exact⟨_,_,_,qy q21.length,⟨p21++[y21],q21,x17+1,setM l15 y21.fTag true,r28.2,rfl,rfl,rfl,hE'21,hi'21,h⟩,(.t [0,1,2,3] false)⟩
 obtain⟨hz12,hw12,hx12,hE'12,hi'12⟩:=ya hE12 hi12 hb12;simp only[xb.l12] at h
 refine rg tok [3,5,7,32,33,34,35] fun K hK=>?_
 simp only[go_sem,qc,qa,hz12];apply hK
 refine za fun Z36 hZ36=>?_
 refine zs rfl ?_;apply zd;apply hZ36
 refine za fun Z37 hZ37=>?_
 apply ze;have f38:=E26.idxS hx12;have f39:=E26.fldS0 (f:=3) rfl rfl hx12
 refine rg tok [3,5,7,9,32,33,34] fun K hK=>?_
 simp only[go_sem,qc,qa,encI,f38,f39];apply hK
 refine za fun Z40 hZ40=>?_
 refine rc [3,5,7,9,32,33,34,45] fun K hK=>?_
 obtain⟨r41,hr41,h⟩:=zD h;refine rnN 1 ?_;refine clN rfl rfl rfl (Zs.ev y12 r41 hr41 _) ?_;refine rnN 2 ?_;refine zq 4 (fun L τ=>L=[(3,.op 1 0 0),(5,.op 2 0 0),(7,.mp 3),(9,.int .i64 y12),(32,.ds true (qd encI a2.fReserved) (qb a2.fReserved) false),(33,.int .i64 (qb a2.fReserved:Int)),(34,.int .i64 x9),(45,.bool ((!r41)||((vb5 l8 y12).getD false)))]∧τ=[.map (xW AV.str AV.bool r2.2),.cells 0 (encGSchema a0),.cells 0 (encGMessage a2),.map (xW (AV.int .i64) AV.bool l8)]) ?_ ?_
 · refine yf (b:=(!r41)) 41 rfl (fun hg41=>?_) (fun hg41=>?_)
   · refine zj tok 4 ?_;simp only[go_sem,qc,qa,if_false,if_true];refine zb ⟨rfl,_,_,⟨rfl,rfl⟩,.b hg41⟩
   have f42:=fun (o0:AObj) (o1:AObj) (o2:AObj) (x:Store)=>vat (T:=tab) (t:=265) (ek:=(AV.int .i64)) (ev:=AV.bool) (z:=false) (KeyE.int rfl rfl rfl rfl) rfl rfl rfl rfl l8 y12 false (o0::o1::o2::.map (xW (AV.int .i64) AV.bool l8)::x) 3 rfl
   refine zj tok 4 ?_;simp only[go_sem,qc,qa,XH,q2,if_false,if_true,f42];refine zb ⟨rfl,_,_,⟨rfl,rfl⟩,.b hg41⟩
 rintro _ _ ⟨rfl,rfl⟩;refine nkN hK ?_;refine zv (b:=((!r41)||((vb5 l8 y12).getD false))) rfl (fun hc43=>?_) (fun hc43=>?_)
 · rw[if_pos hc43] at h;refine rgN [6] ?_;apply zR;cases h;simp only[wN,ym,yy,xo,exists_eq_left',go_sem,qe];refine⟨by decide,by simp,?_,?_⟩
   · first|rfl|(simp only[go_sem,qc,qf,qa,qe,ql,qs,reduceIte,reduceCtorEq,push_cast,if_true,qC,qn,qp,qm,qE,qq,qN,qJ,qu,qt,qw,zi]<;>rfl)
   first|rfl|(simp only[go_sem,push_cast,qm]<;>rfl)
 rw[wb hc43] at h;apply zd;apply hZ40
 have f44:=fun (o0:AObj) (o1:AObj) (o2:AObj) (x:Store)=>vam (T:=tab) (t:=265) (ek:=(AV.int .i64)) (ev:=AV.bool) (KeyE.int rfl rfl rfl rfl) rfl rfl l8 y12 true (o0::o1::o2::.map (xW (AV.int .i64) AV.bool l8)::x) 3 rfl
 refine rgE tok [3,5,7,32,33,34] fun K hK=>?_
 simp only[go_sem,qc,qa,f44];apply hK
 apply hZ37
 refine rgE tok [3,5,7,32,33,34] fun K hK=>?_
 simp only[go_sem,qc,qa,hw12];apply hK
 exact⟨_,_,_,qy q12.length,⟨p12++[y12],q12,x9+1,setM l8 y12 true,rfl,rfl,rfl,hE'12,hi'12,h⟩,.s⟩
def xS.l23 (r2:Bool×List (List UInt8×Bool)):List GNamed→Int→List (List UInt8×Bool)→List (Int×Bool)→Option (Int×List (List UInt8×Bool))
 |[],x19,l17,l18=>some (0,r2.2)
 |y23::q23,x19,l17,l18=>(yQ l17 y23.fName).bind fun r30=>(if (!r30.1)=true then some (6,r2.2) else (if (((decide (y23.fN<0))||(decide (2147483647<y23.fN)))||((vb5 l18 y23.fN).getD false))=true then some (11,r2.2) else ((xS.l23 r2 q23) (x19+1) r30.2 (setM l18 y23.fN true))))
def xS.l12 (a1:GEnumeration)(r2:Bool×List (List UInt8×Bool)):List GNamed→Int→Bool→Option (Int×List (List UInt8×Bool))
 |[],x9,x8=>(if (!x8)=true then some (12,r2.2) else (xS.l23 r2 a1.fValues 0 [] []))
 |y12::q12,x9,x8=>((xS.l12 a1 r2 q12) (x9+1) (x8||(decide (y12.fN=0))))
def xS (a0:List (List UInt8×Bool))(a1:GEnumeration):Option (Int×List (List UInt8×Bool)):=
 (yQ a0 a1.fName).bind fun r2=>(if (!r2.1)=true then some (6,r2.2) else (if 16<(qb a1.fValues:Int) then some (4,r2.2) else (xS.l12 a1 r2 a1.fValues 0 false)))
theorem xS.ok (a0:List (List UInt8×Bool))(a1:GEnumeration)(r:Int×List (List UInt8×Bool))(h:xS a0 a1=some r):ACalls qg 127 [.mp 0,.agg (encGEnumeration a1)] [.map (xW AV.str AV.bool a0)] (fun r' σ'=>r'=.int .i64 r.1∧σ'=[.map (xW AV.str AV.bool r.2)]):=by
 refine ww [0] (rs:=[.tmp 4]) tok Tryz.func127 rfl Tryz.ntmps127 rfl Tryz.call127 (by simp) rfl ?_;refine zl [(0,.mp 0),(1,.agg (encGEnumeration a1))] ⟨rfl,rfl,trivial⟩ ?_;unfold xS at h
 refine rg tok [0,3] fun K hK=>?_
 simp only[go_sem,qc,qa,qe,reduceCtorEq,encGEnumeration];apply hK
 refine za fun Z1 hZ1=>?_
 apply ze
 refine rc [3,12] fun K hK=>?_
 obtain⟨r2,hr2,h⟩:=bind_some h;refine rnN 3 ?_;refine clN rfl rfl rfl (@id (ACalls qg 128 [.mp 0,.str a1.fName] [.map (xW AV.str AV.bool a0),.cells 0 (encGEnumeration a1)] (fun r' σ'=>r'=.bool r2.1∧σ'=[.map (xW AV.str AV.bool r2.2),.cells 0 (encGEnumeration a1)])) ((yQ.ok a0 a1.fName r2 hr2).i [0])) ?_;refine rnN 2 ?_;refine nkN hK ?_;refine zv (b:=(!r2.1)) rfl (fun hc3=>?_) (fun hc3=>?_)
 · rw[if_pos hc3] at h;refine rgN [4] ?_;apply zR;cases h;simp only[wN,ym,yy,xo,exists_eq_left',go_sem,qe];refine⟨by decide,by simp,?_,?_⟩
   · first|rfl|(simp only[go_sem,qc,qf,qa,qe,ql,qs,reduceIte,reduceCtorEq,push_cast,if_true,qC,qn,qp,qm,qE,qq,qN,qJ,qu,qt,qw,zi]<;>rfl)
   first|rfl|(simp only[go_sem,push_cast,qm]<;>rfl)
 rw[wb hc3] at h;refine rgN [3,18] ?_;refine zL rfl (fun hc4=>?_) (fun hc4=>?_)
 · rw[if_pos hc4] at h;have t5:=eq_true hc4
   refine rg tok [4] fun K hK=>?_
   simp only[go_sem,qc,qa,t5];apply hK
   apply zR;cases h;simp only[wN,ym,yy,xo,exists_eq_left',go_sem,qe];refine⟨by decide,by simp,?_,?_⟩
   · first|rfl|(simp only[go_sem,qc,qf,qa,qe,ql,qs,reduceIte,reduceCtorEq,push_cast,if_true,qC,qn,qp,qm,qE,qq,qN,qJ,qu,qt,qw,zi]<;>rfl)
   first|rfl|(simp only[go_sem,push_cast,qm]<;>rfl)
 rw[if_neg hc4] at h;have t6:=eq_false hc4;apply zd;apply hZ1
 refine rg tok [3,5] fun K hK=>?_
 simp only[go_sem,qc,qa,t6];apply hK
 refine za fun Z7 hZ7=>?_
 refine rgN [3,5,24,25,26] ?_;apply ze
 refine yD 24 fun hb12=>?_
 replace hb12:qb a1.fValues≤9223372036854775807:=hb12.1;refine zF (fun m L τ=>∃ (p12 q12:List GNamed) (x9:Int) (x8:Bool),m=qb q12∧L=[(3,.op 1 0 0),(5,.bool x8),(24,.ds true (qd encGNamed a1.fValues) (qb a1.fValues) false),(25,.int .i64 (qb a1.fValues:Int)),(26,.int .i64 x9)]∧τ=[.map (xW AV.str AV.bool r2.2),.cells 0 (encGEnumeration a1)]∧a1.fValues=p12++q12∧x9=(qb p12:Int)∧xS.l12 a1 r2 q12 x9 x8=some r) _ ⟨[],a1.fValues,0,false,rfl,rfl,rfl,rfl,rfl,h⟩ .s ?_;rintro m L τ ⟨p12,q12,x9,x8,rfl,rfl,rfl,hE12,hi12,h⟩
 rcases q12 with _|⟨y12,q12⟩
 · have hz12:=yH hE12 hi12;simp only[xS.l12] at h
   refine rg tok [3,5,24,25,26,27] fun K hK=>?_
   simp only[go_sem,qc,qa,hz12];apply hK
   refine za fun Z13 hZ13=>?_
   refine zp rfl ?_;apply zA;apply hZ7
   refine za fun Z14 hZ14=>?_
   refine rgN [3,38] ?_;refine zv (b:=(!x8)) rfl (fun hc15=>?_) (fun hc15=>?_)
   · rw[if_pos hc15] at h;refine rgN [4] ?_;apply zR;cases h;simp only[wN,ym,yy,xo,exists_eq_left',go_sem,qe];refine⟨by decide,by simp,?_,?_⟩
     · first|rfl|(simp only[go_sem,qc,qf,qa,qe,ql,qs,reduceIte,reduceCtorEq,push_cast,if_true,qC,qn,qp,qm,qE,qq,qN,qJ,qu,qt,qw,zi]<;>rfl)
     first|rfl|(simp only[go_sem,push_cast,qm]<;>rfl)
   rw[wb hc15] at h;apply zd;apply hZ14;refine rgN [3,8,9] ?_;refine yn (L:=[(3,.op 1 0 0),(8,.mp 2),(9,.mp 3)]) (τ:=[.map (xW AV.str AV.bool r2.2),.cells 0 (encGEnumeration a1),.map (xW AV.str AV.bool []),.map (xW (AV.int .i64) AV.bool [])]) .s ?_
   refine za fun Z16 hZ16=>?_
   refine rgN [8,9,42,43,44] ?_;apply ze
   refine yD 42 fun hb23=>?_
   replace hb23:qb a1.fValues≤9223372036854775807:=hb23.1;refine zF (fun m L τ=>∃ (p23 q23:List GNamed) (x19:Int) (l17:List (List UInt8×Bool)) (l18:List (Int×Bool)),m=qb q23∧L=[(8,.mp 1),(9,.mp 2),(42,.ds true (qd encGNamed a1.fValues) (qb a1.fValues) false),(43,.int .i64 (qb a1.fValues:Int)),(44,.int .i64 x19)]∧τ=[.map (xW AV.str AV.bool r2.2),.map (xW AV.str AV.bool l17),.map (xW (AV.int .i64) AV.bool l18)]∧a1.fValues=p23++q23∧x19=(qb p23:Int)∧xS.l23 r2 q23 x19 l17 l18=some r) _ ⟨[],a1.fValues,0,[],[],rfl,rfl,rfl,rfl,rfl,h⟩ (.t [0,2,3] false) ?_;rintro m L τ ⟨p23,q23,x19,l17,l18,rfl,rfl,rfl,hE23,hi23,h⟩
   rcases q23 with _|⟨y23,q23⟩
   · have hz23:=yH hE23 hi23;simp only[xS.l23] at h
     refine rg tok [8,9,42,43,44,45] fun K hK=>?_
     simp only[go_sem,qc,qa,hz23];apply hK
     refine za fun Z24 hZ24=>?_
     refine zp rfl ?_;apply zA;apply hZ16;refine rgN [4] ?_;apply zR;cases h;simp only[wN,ym,yy,xo,exists_eq_left',go_sem,qe];refine⟨by decide,by simp,?_,?_⟩
     · first|rfl|(simp only[go_sem,qc,qf,qa,qe,ql,qs,reduceIte,reduceCtorEq,push_cast,if_true,qC,qn,qp,qm,qE,qq,qN,qJ,qu,qt,qw,zi]<;>rfl)
     first|rfl|(simp only[go_sem,push_cast,qm]<;>rfl)
   obtain⟨hz23,hw23,hx23,hE'23,hi'23⟩:=ya hE23 hi23 hb23;simp only[xS.l23] at h
   refine rg tok [8,9,42,43,44,45] fun K hK=>?_
   simp only[go_sem,qc,qa,hz23];apply hK
   refine za fun Z25 hZ25=>?_
   refine zs rfl ?_;apply zd;apply hZ25
   refine za fun Z26 hZ26=>?_
   apply ze;have f27:=E140.idxS hx23;have f28:=E140.loadS rfl rfl hx23
   refine rg tok [8,9,11,42,43,44] fun K hK=>?_
   simp only[go_sem,qc,qf,qa,qe,encGNamed,f27,f28];apply hK
   refine za fun Z29 hZ29=>?_
   apply ze
   refine rc [8,9,11,42,43,44,48] fun K hK=>?_
   obtain⟨r30,hr30,h⟩:=bind_some h;refine rnN 3 ?_;refine clN rfl rfl rfl (@id (ACalls qg 128 [.mp 1,.str y23.fName] [.map (xW AV.str AV.bool r2.2),.map (xW AV.str AV.bool l17),.map (xW (AV.int .i64) AV.bool l18),.cells 0 [.str y23.fName,.int .i64 y23.fN]] (fun r' σ'=>r'=.bool r30.1∧σ'=[.map (xW AV.str AV.bool r2.2),.map (xW AV.str AV.bool r30.2),.map (xW (AV.int .i64) AV.bool l18),.cells 0 [.str y23.fName,.int .i64 y23.fN]])) ((yQ.ok l17 y23.fName r30 hr30).i [1])) ?_;refine rnN 2 ?_;refine nkN hK ?_;refine zv (b:=(!r30.1)) rfl (fun hc31=>?_) (fun hc31=>?_)
   · rw[if_pos hc31] at h;refine rgN [4] ?_;apply zR;cases h;simp only[wN,ym,yy,xo,exists_eq_left',go_sem,qe];refine⟨by decide,by simp,?_,?_⟩
     · first|rfl|(simp only[go_sem,qc,qf,qa,qe,ql,qs,reduceIte,reduceCtorEq,push_cast,if_true,qC,qn,qp,qm,qE,qq,qN,qJ,qu,qt,qw,zi]<;>rfl)
     first|rfl|(simp only[go_sem,push_cast,qm]<;>rfl)
   rw[wb hc31] at h
   refine rc [8,9,11,42,43,44,54] fun K hK=>?_
   refine rnN 4 ?_;refine zq 4 (fun L τ=>L=[(8,.mp 1),(9,.mp 2),(11,.op 3 0 0),(42,.ds true (qd encGNamed a1.fValues) (qb a1.fValues) false),(43,.int .i64 (qb a1.fValues:Int)),(44,.int .i64 x19),(62,.bool ((decide (y23.fN<0))||(decide (2147483647<y23.fN))))]∧τ=[.map (xW AV.str AV.bool r2.2),.map (xW AV.str AV.bool r30.2),.map (xW (AV.int .i64) AV.bool l18),.cells 0 [.str y23.fName,.int .i64 y23.fN]]) ?_ ?_
   · refine yW 58 rfl (fun hg58=>?_) (fun hg58=>?_)
     · have t32:=eq_true hg58;refine rnN 4 ?_;refine zb ⟨rfl,_,_,⟨rfl,rfl⟩,.p t32⟩
     have t33:=eq_false hg58;refine rnN 4 ?_;refine zb ⟨rfl,_,_,⟨rfl,rfl⟩,.p t33⟩
   rintro _ _ ⟨rfl,rfl⟩;refine rnN 1 ?_;refine zq 5 (fun L τ=>L=[(8,.mp 1),(9,.mp 2),(11,.op 3 0 0),(42,.ds true (qd encGNamed a1.fValues) (qb a1.fValues) false),(43,.int .i64 (qb a1.fValues:Int)),(44,.int .i64 x19),(68,.bool (((decide (y23.fN<0))||(decide (2147483647<y23.fN)))||((vb5 l18 y23.fN).getD false)))]∧τ=[.map (xW AV.str AV.bool r2.2),.map (xW AV.str AV.bool r30.2),.map (xW (AV.int .i64) AV.bool l18),.cells 0 [.str y23.fName,.int .i64 y23.fN]]) ?_ ?_
   · refine yf (b:=((decide (y23.fN<0))||(decide (2147483647<y23.fN)))) 63 rfl (fun hg63=>?_) (fun hg63=>?_)
     · refine zj tok 5 ?_;simp only[go_sem,qc,qa,if_false,if_true];refine zb ⟨rfl,_,_,⟨rfl,rfl⟩,.b hg63⟩
     have f34:=fun (o0:AObj) (o1:AObj) (x:Store)=>vat (T:=tab) (t:=265) (ek:=(AV.int .i64)) (ev:=AV.bool) (z:=false) (KeyE.int rfl rfl rfl rfl) rfl rfl rfl rfl l18 y23.fN false (o0::o1::.map (xW (AV.int .i64) AV.bool l18)::x) 2 rfl
     refine zj tok 5 ?_;simp only[go_sem,qc,qa,qe,XH,q2,if_false,if_true,f34];refine zb ⟨rfl,_,_,⟨rfl,rfl⟩,.b hg63⟩
   rintro _ _ ⟨rfl,rfl⟩;refine rnN 1 ?_;refine nkN hK ?_;refine zv (b:=(((decide (y23.fN<0))||(decide (2147483647<y23.fN)))||((vb5 l18 y23.fN).getD false))) rfl (fun hc35=>?_) (fun hc35=>?_)
   · rw[if_pos hc35] at h;refine rgN [4] ?_;apply zR;cases h;simp only[wN,ym,yy,xo,exists_eq_left',go_sem,qe];refine⟨by decide,by simp,?_,?_⟩
     · first|rfl|(simp only[go_sem,qc,qf,qa,qe,ql,qs,reduceIte,reduceCtorEq,push_cast,if_true,qC,qn,qp,qm,qE,qq,qN,qJ,qu,qt,qw,zi]<;>rfl)
     first|rfl|(simp only[go_sem,push_cast,qm]<;>rfl)
   rw[wb hc35] at h;apply zd;apply hZ29
   have f36:=fun (o0:AObj) (o1:AObj) (x:Store)=>vam (T:=tab) (t:=265) (ek:=(AV.int .i64)) (ev:=AV.bool) (KeyE.int rfl rfl rfl rfl) rfl rfl l18 y23.fN true (o0::o1::.map (xW (AV.int .i64) AV.bool l18)::x) 2 rfl
   refine rgE tok [8,9,42,43,44] fun K hK=>?_
   simp only[go_sem,qc,qa,qe,f36];apply hK
   apply hZ26
   refine rgE tok [8,9,42,43,44] fun K hK=>?_
   simp only[go_sem,qc,qa,hw23];apply hK
   exact⟨_,_,_,qy q23.length,⟨p23++[y23],q23,x19+1,r30.2,setM l18 y23.fN true,rfl,rfl,rfl,hE'23,hi'23,h⟩,(.t [0,1,2] false)⟩
 obtain⟨hz12,hw12,hx12,hE'12,hi'12⟩:=ya hE12 hi12 hb12;simp only[xS.l12] at h
 refine rg tok [3,5,24,25,26,27] fun K hK=>?_
 simp only[go_sem,qc,qa,hz12];apply hK
 refine za fun Z37 hZ37=>?_
 refine zs rfl ?_;apply zd;apply hZ37
 refine za fun Z38 hZ38=>?_
 apply ze;have f39:=E140.idxS hx12;have f40:=E140.loadS rfl rfl hx12
 refine rg tok [3,5,7,24,25,26] fun K hK=>?_
 simp only[go_sem,qc,qf,qa,qe,encGNamed,f39,f40];apply hK
 refine rcE [3,5,24,25,26] fun K hK=>?_
 refine rnN 2 ?_;refine zq 4 (fun L τ=>L=[(3,.op 1 0 0),(5,.bool x8),(24,.ds true (qd encGNamed a1.fValues) (qb a1.fValues) false),(25,.int .i64 (qb a1.fValues:Int)),(26,.int .i64 x9),(35,.bool (x8||(decide (y12.fN=0))))]∧τ=[.map (xW AV.str AV.bool r2.2),.cells 0 (encGEnumeration a1),.cells 0 [.str y12.fName,.int .i64 y12.fN]]) ?_ ?_
 · refine yf (b:=x8) 31 rfl (fun hg31=>?_) (fun hg31=>?_)
   · refine rnN 4 ?_;refine zb ⟨rfl,_,_,⟨rfl,rfl⟩,.b hg31⟩
   refine rnN 4 ?_;refine zb ⟨rfl,_,_,⟨rfl,rfl⟩,.b hg31⟩
 rintro _ _ ⟨rfl,rfl⟩;refine rnN 1 ?_;refine nkN hK ?_;apply hZ38
 refine rgE tok [3,5,24,25,26] fun K hK=>?_
 simp only[go_sem,qc,qa,hw12];apply hK
 exact⟨_,_,_,qy q12.length,⟨p12++[y12],q12,x9+1,(x8||(decide (y12.fN=0))),rfl,rfl,rfl,hE'12,hi'12,h⟩,(.t [0,1] false)⟩
def z6.l29 (a0:GSchema):List GMethod→Int→List (List UInt8×Bool)→Option Int
 |[],x26,l25=>some 0
 |y29::q29,x26,l25=>bnd (zG a0 y29.fIn) fun r35=>bnd (zG a0 y29.fOut) fun r36=>(yQ l25 y29.fName).bind fun r37=>(if (!r37.1)=true then some 6 else (if ((!r35.2)||(!r36.2))=true then some 8 else ((z6.l29 a0 q29) (x26+1) r37.2)))
def z6.l22 (a0:GSchema):List GEnumeration→Int→List (List UInt8×Bool)→Option Int
 |[],x19,l18=>(z6.l29 a0 a0.fMethods 0 [])
 |y22::q22,x19,l18=>(xS l18 y22).bind fun r44=>(if r44.1=0 then ((z6.l22 a0 q22) (x19+1) r44.2) else some r44.1)
def z6.l15 (a0:GSchema):List GMessage→Int→List (List UInt8×Bool)→Option Int
 |[],x12,l11=>(z6.l22 a0 a0.fEnums 0 l11)
 |y15::q15,x12,l11=>(xb a0 l11 y15).bind fun r52=>(if r52.1=0 then ((z6.l15 a0 q15) (x12+1) r52.2) else some r52.1)
def z6 (a0:GSchema):Option Int:=
 (wd a0.fName).bind fun r2=>(if (!r2)=true then some 6 else (if (qb a0.fMessages:Int)=0 then some 12 else (if (((decide (10<(qb a0.fMessages:Int)))||(decide (6<(qb a0.fEnums:Int))))||(decide (6<(qb a0.fMethods:Int))))=true then some 4 else (z6.l15 a0 a0.fMessages 0 []))))
theorem z6.ok (a0:GSchema)(r:Int)(h:z6 a0=some r):ACalls qg 82 [.agg (encGSchema a0)] [] (fun r' _=>r'=.int .i64 r):=by
 refine zh (rs:=[.tmp 2]) tok Tryz.func82 rfl Tryz.ntmps82 rfl Tryz.call82 (by simp) ?_;refine zl [(0,.agg (encGSchema a0))] ⟨rfl,trivial⟩ ?_;unfold z6 at h
 refine rg tok [1] fun K hK=>?_
 simp only[go_sem,qc,qa,qe,reduceCtorEq,encGSchema];apply hK
 refine za fun Z1 hZ1=>?_
 apply ze
 refine rc [1,17] fun K hK=>?_
 obtain⟨r2,hr2,h⟩:=bind_some h;refine rnN 2 ?_;refine clN rfl rfl rfl (wd.ev a0.fName r2 hr2 _) ?_;refine rnN 2 ?_;refine nkN hK ?_;refine zv (b:=(!r2)) rfl (fun hc3=>?_) (fun hc3=>?_)
 · rw[if_pos hc3] at h;refine rgN [2] ?_;cases h;exact rtA
 rw[wb hc3] at h;refine rgN [1,22] ?_;refine zL rfl (fun hc4=>?_) (fun hc4=>?_)
 · rw[if_pos hc4] at h;have t5:=eq_true hc4
   refine rg tok [2] fun K hK=>?_
   simp only[go_sem,qc,qa,t5];apply hK
   cases h;exact rtA
 rw[if_neg hc4] at h;have t6:=eq_false hc4
 refine rc [1,27] fun K hK=>?_
 refine zj tok 5 ?_;simp only[go_sem,qc,qa,qe,t6];refine zq 5 (fun L τ=>L=[(1,.op 0 0 0),(37,.bool ((decide (10<(qb a0.fMessages:Int)))||(decide (6<(qb a0.fEnums:Int)))))]∧τ=[.cells 0 (encGSchema a0)]) ?_ ?_
 · refine yW 32 rfl (fun hg32=>?_) (fun hg32=>?_)
   · have t7:=eq_true hg32;refine rnN 5 ?_;refine zb ⟨rfl,_,_,⟨rfl,rfl⟩,.p t7⟩
   have t8:=eq_false hg32;refine rnN 5 ?_;refine zb ⟨rfl,_,_,⟨rfl,rfl⟩,.p t8⟩
 rintro _ _ ⟨rfl,rfl⟩;refine rnN 1 ?_;refine zq 5 (fun L τ=>L=[(1,.op 0 0 0),(43,.bool (((decide (10<(qb a0.fMessages:Int)))||(decide (6<(qb a0.fEnums:Int))))||(decide (6<(qb a0.fMethods:Int)))))]∧τ=[.cells 0 (encGSchema a0)]) ?_ ?_
 · refine yf (b:=((decide (10<(qb a0.fMessages:Int)))||(decide (6<(qb a0.fEnums:Int))))) 38 rfl (fun hg38=>?_) (fun hg38=>?_)
   · refine rnN 5 ?_;refine zb ⟨rfl,_,_,⟨rfl,rfl⟩,.b hg38⟩
   refine rnN 5 ?_;refine zb ⟨rfl,_,_,⟨rfl,rfl⟩,.b hg38⟩
 rintro _ _ ⟨rfl,rfl⟩;refine rnN 1 ?_;refine nkN hK ?_;refine zv (b:=(((decide (10<(qb a0.fMessages:Int)))||(decide (6<(qb a0.fEnums:Int))))||(decide (6<(qb a0.fMethods:Int))))) rfl (fun hc9=>?_) (fun hc9=>?_)
 · rw[if_pos hc9] at h;refine rgN [2] ?_;cases h;exact rtA
 rw[wb hc9] at h;apply zd;apply hZ1;refine rgN [1,3] ?_;refine yn (L:=[(1,.op 0 0 0),(3,.mp 1)]) (τ:=[.cells 0 (encGSchema a0),.map (xW AV.str AV.bool [])]) .s ?_
 refine za fun Z10 hZ10=>?_
 refine rgN [1,3,46,47,48] ?_;apply ze
 refine yD 46 fun hb15=>?_
 replace hb15:qb a0.fMessages≤9223372036854775807:=hb15.1;refine zF (fun m L τ=>∃ (p15 q15:List GMessage) (x12:Int) (l11:List (List UInt8×Bool)),m=qb q15∧L=[(1,.op 0 0 0),(3,.mp 1),(46,.ds true (qd encGMessage a0.fMessages) (qb a0.fMessages) false),(47,.int .i64 (qb a0.fMessages:Int)),(48,.int .i64 x12)]∧τ=[.cells 0 (encGSchema a0),.map (xW AV.str AV.bool l11)]∧a0.fMessages=p15++q15∧x12=(qb p15:Int)∧z6.l15 a0 q15 x12 l11=some r) _ ⟨[],a0.fMessages,0,[],rfl,rfl,rfl,rfl,rfl,h⟩ .s ?_;rintro m L τ ⟨p15,q15,x12,l11,rfl,rfl,rfl,hE15,hi15,h⟩
 rcases q15 with _|⟨y15,q15⟩
 · have hz15:=yH hE15 hi15;simp only[z6.l15] at h
   refine rg tok [1,3,46,47,48,49] fun K hK=>?_
   simp only[go_sem,qc,qa,hz15];apply hK
   refine za fun Z16 hZ16=>?_
   refine zp rfl ?_;apply zA;apply hZ10
   refine za fun Z17 hZ17=>?_
   refine rgN [1,3,61,62,63] ?_;apply ze
   refine yD 61 fun hb22=>?_
   replace hb22:qb a0.fEnums≤9223372036854775807:=hb22.1;refine zF (fun m L τ=>∃ (p22 q22:List GEnumeration) (x19:Int) (l18:List (List UInt8×Bool)),m=qb q22∧L=[(1,.op 0 0 0),(3,.mp 1),(61,.ds true (qd encGEnumeration a0.fEnums) (qb a0.fEnums) false),(62,.int .i64 (qb a0.fEnums:Int)),(63,.int .i64 x19)]∧τ=[.cells 0 (encGSchema a0),.map (xW AV.str AV.bool l18)]∧a0.fEnums=p22++q22∧x19=(qb p22:Int)∧z6.l22 a0 q22 x19 l18=some r) _ ⟨[],a0.fEnums,0,l11,rfl,rfl,rfl,rfl,rfl,h⟩ .s ?_;rintro m L τ ⟨p22,q22,x19,l18,rfl,rfl,rfl,hE22,hi22,h⟩
   rcases q22 with _|⟨y22,q22⟩
   · have hz22:=yH hE22 hi22;simp only[z6.l22] at h
     refine rg tok [1,3,61,62,63,64] fun K hK=>?_
     simp only[go_sem,qc,qa,hz22];apply hK
     refine za fun Z23 hZ23=>?_
     refine zp rfl ?_;apply zA;apply hZ17;refine rgN [1,10] ?_;refine yn (L:=[(1,.op 0 0 0),(10,.mp 2)]) (τ:=[.cells 0 (encGSchema a0),.map (xW AV.str AV.bool l18),.map (xW AV.str AV.bool [])]) .s ?_
     refine za fun Z24 hZ24=>?_
     refine rgN [1,10,76,77,78] ?_;apply ze
     refine yD 76 fun hb29=>?_
     replace hb29:qb a0.fMethods≤9223372036854775807:=hb29.1;refine zF (fun m L τ=>∃ (p29 q29:List GMethod) (x26:Int) (l25:List (List UInt8×Bool)),m=qb q29∧L=[(1,.op 0 0 0),(10,.mp 1),(76,.ds true (qd encGMethod a0.fMethods) (qb a0.fMethods) false),(77,.int .i64 (qb a0.fMethods:Int)),(78,.int .i64 x26)]∧τ=[.cells 0 (encGSchema a0),.map (xW AV.str AV.bool l25)]∧a0.fMethods=p29++q29∧x26=(qb p29:Int)∧z6.l29 a0 q29 x26 l25=some r) _ ⟨[],a0.fMethods,0,[],rfl,rfl,rfl,rfl,rfl,h⟩ (.t [0,2] false) ?_;rintro m L τ ⟨p29,q29,x26,l25,rfl,rfl,rfl,hE29,hi29,h⟩
     rcases q29 with _|⟨y29,q29⟩
     · have hz29:=yH hE29 hi29;simp only[z6.l29] at h
       refine rg tok [1,10,76,77,78,79] fun K hK=>?_
       simp only[go_sem,qc,qa,hz29];apply hK
       refine za fun Z30 hZ30=>?_
       refine zp rfl ?_;apply zA;apply hZ24;refine rgN [2] ?_;cases h;exact rtA
     obtain⟨hz29,hw29,hx29,hE'29,hi'29⟩:=ya hE29 hi29 hb29;simp only[z6.l29] at h
     refine rg tok [1,10,76,77,78,79] fun K hK=>?_
     simp only[go_sem,qc,qa,hz29];apply hK
     refine za fun Z31 hZ31=>?_
     refine zs rfl ?_;apply zd;apply hZ31
     refine za fun Z32 hZ32=>?_
     apply ze;have f33:=E29.idxS hx29;have f34:=E29.loadS rfl rfl hx29
     refine rg tok [1,10,12,76,77,78] fun K hK=>?_
     simp only[go_sem,qc,qf,qa,qe,encGMethod,f33,f34];apply hK
     refine rc [1,10,12,14,76,77,78] fun K hK=>?_
     obtain⟨r35,hr35,h⟩:=zD h;refine rnN 3 ?_;refine clN rfl rfl rfl (zG.ev a0 y29.fIn r35 hr35 _) ?_;refine zj tok 6 ?_;simp only[go_sem,qc,qf,qa,qe,encGMessage];refine nkN hK ?_
     refine rc [1,10,12,14,16,76,77,78] fun K hK=>?_
     obtain⟨r36,hr36,h⟩:=zD h;refine rnN 3 ?_;refine clN rfl rfl rfl (zG.ev a0 y29.fOut r36 hr36 _) ?_;refine zj tok 6 ?_;simp only[go_sem,qc,qf,qa,qe,encGMessage];refine nkN hK ?_;apply ze
     refine rc [1,10,14,16,76,77,78,96] fun K hK=>?_
     obtain⟨r37,hr37,h⟩:=bind_some h;refine rnN 3 ?_;refine clN rfl rfl rfl (@id (ACalls qg 128 [.mp 1,.str y29.fName] [.cells 0 (encGSchema a0),.map (xW AV.str AV.bool l25),.cells 0 [.str y29.fName,.str y29.fIn,.str y29.fOut],.cells 0 (encGMessage r35.1),.cells 0 (encGMessage r36.1)] (fun r' σ'=>r'=.bool r37.1∧σ'=[.cells 0 (encGSchema a0),.map (xW AV.str AV.bool r37.2),.cells 0 [.str y29.fName,.str y29.fIn,.str y29.fOut],.cells 0 (encGMessage r35.1),.cells 0 (encGMessage r36.1)])) ((yQ.ok l25 y29.fName r37 hr37).i [1])) ?_;refine rnN 2 ?_;refine nkN hK ?_;refine zv (b:=(!r37.1)) rfl (fun hc38=>?_) (fun hc38=>?_)
     · rw[if_pos hc38] at h;refine rgN [2] ?_;cases h;exact rtA
     rw[wb hc38] at h
     refine rc [1,10,76,77,78,102] fun K hK=>?_
     refine rnN 3 ?_;refine zq 3 (fun L τ=>L=[(1,.op 0 0 0),(10,.mp 1),(76,.ds true (qd encGMethod a0.fMethods) (qb a0.fMethods) false),(77,.int .i64 (qb a0.fMethods:Int)),(78,.int .i64 x26),(108,.bool ((!r35.2)||(!r36.2)))]∧τ=[.cells 0 (encGSchema a0),.map (xW AV.str AV.bool r37.2),.cells 0 [.str y29.fName,.str y29.fIn,.str y29.fOut],.cells 0 (encGMessage r35.1),.cells 0 (encGMessage r36.1)]) ?_ ?_
     · refine yf (b:=(!r35.2)) 105 rfl (fun hg105=>?_) (fun hg105=>?_)
       · refine rnN 3 ?_;refine zb ⟨rfl,_,_,⟨rfl,rfl⟩,.b hg105⟩
       refine rnN 3 ?_;refine zb ⟨rfl,_,_,⟨rfl,rfl⟩,.b hg105⟩
     rintro _ _ ⟨rfl,rfl⟩;refine rnN 1 ?_;refine nkN hK ?_;refine zv (b:=((!r35.2)||(!r36.2))) rfl (fun hc39=>?_) (fun hc39=>?_)
     · rw[if_pos hc39] at h;refine rgN [2] ?_;cases h;exact rtA
     rw[wb hc39] at h;apply zd;apply hZ32
     refine rgE tok [1,10,76,77,78] fun K hK=>?_
     simp only[go_sem,qc,qa,hw29];apply hK
     exact⟨_,_,_,qy q29.length,⟨p29++[y29],q29,x26+1,r37.2,rfl,rfl,rfl,hE'29,hi'29,h⟩,(.t [0,1] false)⟩
   obtain⟨hz22,hw22,hx22,hE'22,hi'22⟩:=ya hE22 hi22 hb22;simp only[z6.l22] at h
   refine rg tok [1,3,61,62,63,64] fun K hK=>?_
   simp only[go_sem,qc,qa,hz22];apply hK
   refine za fun Z40 hZ40=>?_
   refine zs rfl ?_;apply zd;apply hZ40
   refine za fun Z41 hZ41=>?_
   apply ze;have f42:=E28.idxS hx22;have f43:=E28.loadS rfl rfl hx22
   refine rg tok [1,3,8,61,62,63] fun K hK=>?_
   simp only[go_sem,qc,qf,qa,qe,encGEnumeration,f42,f43];apply hK
   refine rc [1,3,9,61,62,63] fun K hK=>?_
   obtain⟨r44,hr44,h⟩:=bind_some h;refine rnN 2 ?_;refine clN rfl rfl rfl (@id (ACalls qg 127 [.mp 1,.agg (encGEnumeration y22)] [.cells 0 (encGSchema a0),.map (xW AV.str AV.bool l18),.cells 0 (encGEnumeration y22)] (fun r' σ'=>r'=.int .i64 r44.1∧σ'=[.cells 0 (encGSchema a0),.map (xW AV.str AV.bool r44.2),.cells 0 (encGEnumeration y22)])) ((xS.ok l18 y22 r44 hr44).i [1])) ?_;refine rnN 1 ?_;refine nkN hK ?_;refine rgN [1,3,9,61,62,63,71] ?_;refine zL rfl (fun hc45=>?_) (fun hc45=>?_)
   · rw[if_neg hc45] at h;have t46:=eq_false hc45
     refine rg tok [2] fun K hK=>?_
     simp only[go_sem,qc,qa,t46];apply hK
     cases h;exact rtA
   rw[if_pos hc45] at h;have t47:=eq_true hc45;apply zd;apply hZ41
   refine rgE tok [1,3,61,62,63] fun K hK=>?_
   simp only[go_sem,qc,qa,hw22,t47];apply hK
   exact⟨_,_,_,qy q22.length,⟨p22++[y22],q22,x19+1,r44.2,rfl,rfl,rfl,hE'22,hi'22,h⟩,(.t [0,1] false)⟩
 obtain⟨hz15,hw15,hx15,hE'15,hi'15⟩:=ya hE15 hi15 hb15;simp only[z6.l15] at h
 refine rg tok [1,3,46,47,48,49] fun K hK=>?_
 simp only[go_sem,qc,qa,hz15];apply hK
 refine za fun Z48 hZ48=>?_
 refine zs rfl ?_;apply zd;apply hZ48
 refine za fun Z49 hZ49=>?_
 apply ze;have f50:=E27.idxS hx15;have f51:=E27.loadS rfl rfl hx15
 refine rg tok [1,3,5,46,47,48] fun K hK=>?_
 simp only[go_sem,qc,qf,qa,qe,encGMessage,f50,f51];apply hK
 refine rc [1,3,6,46,47,48] fun K hK=>?_
 obtain⟨r52,hr52,h⟩:=bind_some h;refine rnN 3 ?_;refine clN rfl rfl rfl (@id (ACalls qg 126 [.agg (encGSchema a0),.mp 1,.agg (encGMessage y15)] [.cells 0 (encGSchema a0),.map (xW AV.str AV.bool l11),.cells 0 (encGMessage y15)] (fun r' σ'=>r'=.int .i64 r52.1∧σ'=[.cells 0 (encGSchema a0),.map (xW AV.str AV.bool r52.2),.cells 0 (encGMessage y15)])) ((xb.ok a0 l11 y15 r52 hr52).i [1])) ?_;refine rnN 1 ?_;refine nkN hK ?_;refine rgN [1,3,6,46,47,48,57] ?_;refine zL rfl (fun hc53=>?_) (fun hc53=>?_)
 · rw[if_neg hc53] at h;have t54:=eq_false hc53
   refine rg tok [2] fun K hK=>?_
   simp only[go_sem,qc,qa,t54];apply hK
   cases h;exact rtA
 rw[if_pos hc53] at h;have t55:=eq_true hc53;apply zd;apply hZ49
 refine rgE tok [1,3,46,47,48] fun K hK=>?_
 simp only[go_sem,qc,qa,hw15,t55];apply hK
 exact⟨_,_,_,qy q15.length,⟨p15++[y15],q15,x12+1,r52.2,rfl,rfl,rfl,hE'15,hi'15,h⟩,(.t [0,1] false)⟩
end
end Go.Proofs.YtaahlckibpiphaaGreatDoor
