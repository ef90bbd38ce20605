/- Parts of the proof, cut down to what it needs. -/
import Derived.Test.YtaahlckibpiphaaGreatDoorDU
import Derived.Shelf.Spec.SlicesInsert
import Derived.Lib.AppendZerosOnto
set_option linter.constructorNameAsVariable false
set_option linter.unusedSimpArgs false
set_option linter.unusedVariables false
namespace Go.Proofs.YtaahlckibpiphaaGreatDoor
open _root_.List renaming length → qg, flatMap → qh, drop_zero → qn, map_append → qo, map_cons → qp, map_nil → qs, length_append → qw, length_cons → qx, length_nil → qz, flatMap_append → qA, flatMap_cons → qB, getD_eq_getElem?_getD → qC, append_assoc → qD, append_nil → qF, cons_append → qH, nil_append → qJ, length_eq_zero_iff → qK, flatMap_nil → qL, replicate → qO, getElem?_append_left → qQ, getElem?_eq_some_iff → qR, range_zero → qS, all_cons → qT, getElem?_eq_getElem → qU, all_nil → qV, range_succ → qY, getElem?_set_ne → qZ, getElem?_append_right → q7, getElem?_eq_none → ua, length_map → ub, take_length → uc, all_eq_true → ud, mem_cons_of_mem → ue, take_of_length_le → ug, getElem?_set_self → uh, take_append_drop → ui, mem_cons → uk, mem_map → um, getElem?_cons_zero → uu, getElem?_cons_succ → uv, range → uw, set_cons_zero → ux, set_cons_succ → uy, length_take → uE, mem_of_getElem? → uL, mem_append_left → uM, eq_nil_of_length_eq_zero → uN, mem_cons_self → uO
open _root_.Option renaming bind_some → un, map_some → uq, getD_some → uB
open _root_.Nat renaming reduceEqDiff → qa, reduceLeDiff → qb, reduceAdd → qc, reduceSub → qd, reduceMul → qe, reduceLT → qf, zero_add → ql, le_refl → qy, lt_succ_self → qE, zero_le → qX, mul_le_mul_right → q2, reduceMod → q3, lt_of_lt_of_le → q5, add_assoc → ur, zero_mul → ut, sub_zero → uC, succ_mul → uH, sub_self → uI, le_trans → uJ, add_zero → uK, lt_or_ge → uQ
open _root_.Bool renaming not_false → qk, and_true → qm, or_true → qq, not_true → qr, and_false → qt, or_false → qv, and_self → qG, and_eq_true → qM, false_eq_true → qW, or_eq_true → uj, true_and → uF, false_or → uG
open _root_.Int renaming toNat → qP, toNat_natCast → uA
open _root_.BitVec renaming ofInt → qN, toNat → uf
open _root_.Array renaming length_toList → q1, getD_eq_getD_getElem? → ul, getElem?_eq_getElem → uz, getElem?_setIfInBounds_ne → uD, replicate → uP, getElem?_modify → uR
open _root_.UInt8 renaming ofNat → uo
open Result renaming andThen_ok → qj
open Sem renaming run_bind → qu, run_pure → qI
open _root_.Go.Proofs.Tryz renaming prog → qi
section
set_option maxRecDepth 4000
set_option maxHeartbeats 1000000
open AM
def wY (a0:List UInt8)(a1:Int):Option (Int×Int×Bool):=
 (if ((decide (a1<0))||(decide ((qg a0:Int)≤a1)))=true then some (0,0,false) else (grd ((0:Int)≤a1∧a1≤(qg a0:Int)∧(qg a0:Int)≤(qg a0:Int))).bind fun _u5=>bnd (Ys (X9 a0 a1 (qg a0:Int))) fun r7=>(if ((decide (r7.1=65533))&&(decide (r7.2<2)))=true then some (0,0,false) else some (r7.1,r7.2,true)))
theorem wY.ok (a0:List UInt8)(a1:Int)(r:Int×Int×Bool)(h:wY a0 a1=some r):ACalls qi 224 [.str a0,.int .i64 a1] [] (fun r' _=>r'=.tup [.int .i32 r.1,.int .i64 r.2.1,.bool r.2.2]):=by
 refine zj (rs:=[.tmp 4,.tmp 5,.tmp 6]) tok Tryz.func224 rfl Tryz.ntmps224 rfl Tryz.call224 (by simp) ?_;refine zm [(0,.str a0),(1,.int .i64 a1)] ⟨rfl,rfl,trivial⟩ ?_;unfold wY at h;refine rgN [0,1] ?_
 refine zd fun Z1 hZ1=>?_
 refine rc [0,1,16] fun K hK=>?_
 refine za tok 3 ?_;simp only[go_sem,qf,qb,qa,qc,qe,qd,reduceIte,reduceCtorEq,zn];refine zl 5 (fun L τ=>L=[(0,.str a0),(1,.int .i64 a1),(16,.bool ((decide (a1<0))||(decide ((qg a0:Int)≤a1))))]∧τ=[]) ?_ ?_
 · refine yQ 11 rfl (fun hg11=>?_) (fun hg11=>?_)
   · have t2:=eq_true hg11;refine za tok 5 ?_;simp only[go_sem,qf,qb,qa,qc,qe,qd,reduceIte,reduceCtorEq,zn];refine ze ⟨rfl,_,_,⟨rfl,rfl⟩,.p t2⟩
   have t3:=eq_false hg11;refine za tok 5 ?_;simp only[go_sem,qf,qb,qa,qc,qe,qd,reduceIte,reduceCtorEq,zn];refine ze ⟨rfl,_,_,⟨rfl,rfl⟩,.p t3⟩
 rintro _ _ ⟨rfl,rfl⟩;refine nkN hK ?_;refine zs (b:=((decide (a1<0))||(decide ((qg a0:Int)≤a1)))) rfl (fun hc4=>?_) (fun hc4=>?_)
 · rw[if_pos hc4] at h;refine rgN [4,5,6] ?_;cases h;exact rtA
 rw[xI hc4] at h;apply zf;apply hZ1
 refine rc [7,8] fun K hK=>?_
 obtain⟨_u5,hu5,h⟩:=bind_some h;have gu5:=wO hu5;have f6:=str_lo (T:=tab) (t:=9) rfl rfl gu5;obtain⟨r7,hr7,h⟩:=zB h;refine za tok 3 ?_;simp only[go_sem,qf,qb,qa,qc,qe,qd,reduceIte,reduceCtorEq,f6];refine clN rfl rfl rfl (Ys.ev (X9 a0 a1 (qg a0:Int)) r7 hr7 _) ?_;refine rnN 5 ?_;refine nkN hK ?_
 refine zd fun Z8 hZ8=>?_
 refine rc [7,8,29] fun K hK=>?_
 refine za tok 3 ?_;simp only[go_sem,qf,qb,qa,qc,qe,qd,reduceIte,reduceCtorEq,zn];refine zl 3 (fun L τ=>L=[(7,.int .i32 r7.1),(8,.int .i64 r7.2),(29,.bool ((decide (r7.1=65533))&&(decide (r7.2<2))))]∧τ=[]) ?_ ?_
 · refine yQ 26 rfl (fun hg26=>?_) (fun hg26=>?_)
   · have t9:=eq_true hg26;refine za tok 3 ?_;simp only[go_sem,qf,qb,qa,qc,qe,qd,reduceIte,reduceCtorEq,zn];refine ze ⟨rfl,_,_,⟨rfl,rfl⟩,.p t9⟩
   have t10:=eq_false hg26;refine za tok 3 ?_;simp only[go_sem,qf,qb,qa,qc,qe,qd,reduceIte,reduceCtorEq,zn];refine ze ⟨rfl,_,_,⟨rfl,rfl⟩,.p t10⟩
 rintro _ _ ⟨rfl,rfl⟩;refine nkN hK ?_;refine zs (b:=((decide (r7.1=65533))&&(decide (r7.2<2)))) rfl (fun hc11=>?_) (fun hc11=>?_)
 · rw[if_pos hc11] at h;refine rgN [4,5,6] ?_;cases h;exact rtA
 rw[xI hc11] at h;apply zf;apply hZ8;refine rgN [4,5,6] ?_;cases h;exact rtA
theorem wY.ev (a0:List UInt8)(a1:Int)(r:Int×Int×Bool)(h:wY a0 a1=some r)(σ:Store):ACalls qi 224 [.str a0,.int .i64 a1] σ (fun r' σ'=>r'=.tup [.int .i32 r.1,.int .i64 r.2.1,.bool r.2.2]∧σ'=σ):=
 (wY.ok a0 a1 r h).c σ
def yY.l4 (a0:List UInt8):Nat→Nat→Option Bool
 |0,_=>none
 |k4+1,p2=>(if p2<qg a0 then (if ((decU a0 p2).1:Int)=65533 then (wY a0 ((p2:Nat):Int)).bind fun r12=>(if (!r12.2.2)=true then some false else ((yY.l4 a0 k4) (p2+(decU a0 p2).2))) else ((yY.l4 a0 k4) (p2+(decU a0 p2).2))) else some true)
def yY (a0:List UInt8):Option Bool:=
 (yY.l4 a0 xl 0)
theorem yY.ok (a0:List UInt8)(r:Bool)(h:yY a0=some r):ACalls qi 184 [.str a0] [] (fun r' _=>r'=.bool r):=by
 refine zj (rs:=[.tmp 2]) tok Tryz.func184 rfl Tryz.ntmps184 rfl Tryz.call184 (by simp) ?_;refine zm [(0,.str a0)] ⟨rfl,trivial⟩ ?_;unfold yY at h;refine rgN [0] ?_
 refine zd fun Z1 hZ1=>?_
 refine rgN [0,9] ?_;apply zg;refine zP (fun m L τ=>∃ (k4:Nat) (p2:Nat),m=0+k4∧L=[(0,.str a0),(9,.it 0)]∧τ=[.iter a0 p2]∧yY.l4 a0 k4 p2=some r) _ ⟨xl,0,rfl,rfl,rfl,h⟩ .s ?_;rintro m L τ ⟨k4,p2,rfl,rfl,rfl,h⟩
 rcases k4 with _|k4
 · cases h
 simp only[yY.l4] at h
 by_cases hn5:p2<qg a0
 · rw[if_pos hn5] at h;have t6:=eq_true hn5
   refine rg tok [0,9,10,11] fun K hK=>?_
   simp only[go_sem,qf,qb,qa,qc,qe,qd,reduceIte,reduceCtorEq,Xu,if_true,if_false,t6];apply hK
   refine zd fun Z7 hZ7=>?_
   refine zu rfl ?_;apply zf;apply hZ7;apply zg
   refine rg tok [0,3,4,9] fun K hK=>?_
   simp only[go_sem,qf,qb,qa,qc,qe,qd,reduceIte,reduceCtorEq,t6];apply hK
   refine zd fun Z8 hZ8=>?_
   refine rg tok [0,3,9,15] fun K hK=>?_
   simp only[go_sem,qf,qb,qa,qc,qe,qd,reduceIte,reduceCtorEq,zn,t6];apply hK
   refine zM rfl (fun hc9=>?_) (fun hc9=>?_)
   · rw[if_neg hc9] at h;have t10:=eq_false hc9;apply zI;exact⟨_,_,_,qE (0+k4),⟨k4,p2+(decU a0 p2).2,rfl,rfl,rfl,h⟩,.s⟩
   rw[if_pos hc9] at h;have t11:=eq_true hc9;apply zf;apply hZ8
   refine rc [0,7,9] fun K hK=>?_
   obtain⟨r12,hr12,h⟩:=bind_some h;refine za tok 2 ?_;simp only[go_sem,qf,qb,qa,qc,qe,qd,reduceIte,reduceCtorEq,t6,t11];refine clN rfl rfl rfl (wY.ev a0 ((p2:Nat):Int) r12 hr12 _) ?_;refine za tok 7 ?_;simp only[go_sem,qf,qb,qa,qc,qe,qd,reduceIte,reduceCtorEq,t6,t11];refine nkN hK ?_
   refine rg tok [0,9,24] fun K hK=>?_
   simp only[go_sem,qf,qb,qa,qc,qe,qd,reduceIte,reduceCtorEq,t6,t11];apply hK
   refine zs (b:=(!r12.2.2)) rfl (fun hc13=>?_) (fun hc13=>?_)
   · rw[if_pos hc13] at h
     refine rg tok [2] fun K hK=>?_
     simp only[go_sem,qf,qb,qa,qc,qe,qd,reduceIte,reduceCtorEq,t6,t11];apply hK
     cases h;exact rtA
   rw[xI hc13] at h;apply zf;exact⟨_,_,_,qE (0+k4),⟨k4,p2+(decU a0 p2).2,rfl,rfl,rfl,h⟩,.s⟩
 rw[if_neg hn5] at h;have t14:=eq_false hn5
 refine rg tok [0,9,10,11] fun K hK=>?_
 simp only[go_sem,qf,qb,qa,qc,qe,qd,reduceIte,reduceCtorEq,Xu,if_true,if_false,t14];apply hK
 refine zd fun Z15 hZ15=>?_
 refine zo rfl ?_;apply zI;apply hZ1
 refine rg tok [2] fun K hK=>?_
 simp only[go_sem,qf,qb,qa,qc,qe,qd,reduceIte,reduceCtorEq,t14];apply hK
 cases h;exact rtA
theorem yY.ev (a0:List UInt8)(r:Bool)(h:yY a0=some r)(σ:Store):ACalls qi 184 [.str a0] σ (fun r' σ'=>r'=.bool r∧σ'=σ):=
 (yY.ok a0 r h).c σ
def zH.l4 (a1:List UInt8):List GMessage→Int→GMessage×Bool
 |[],x2=>((⟨[],([]:List GField),([]:List Int)⟩:GMessage),false)
 |y4::q4,x2=>(if y4.fName=a1 then (y4,true) else ((zH.l4 a1 q4) (x2+1)))
def zH (a0:GSchema)(a1:List UInt8):GMessage×Bool:=
 (zH.l4 a1 a0.fMessages 0)
theorem zH.ok (a0:GSchema)(a1:List UInt8)(r:GMessage×Bool)(h:zH a0 a1=r):ACalls qi 92 [.agg (encGSchema a0),.str a1] [] (fun r' _=>r'=.tup [.agg (encGMessage r.1),.bool r.2]):=by
 refine zj (rs:=[.cell 4 129,.tmp 5]) tok Tryz.func92 rfl Tryz.ntmps92 rfl Tryz.call92 (by simp) ?_;refine zm [(0,.agg (encGSchema a0)),(1,.str a1)] ⟨rfl,rfl,trivial⟩ ?_;unfold zH at h
 refine rg tok [1,2,4] fun K hK=>?_
 simp only[go_sem,qf,qb,qa,qc,qe,qd,reduceIte,reduceCtorEq,encGSchema];apply hK
 refine zd fun Z1 hZ1=>?_
 refine rgN [1,4,9,10,11] ?_;apply zg
 refine yq 9 fun hb4=>?_
 replace hb4:qg a0.fMessages≤9223372036854775807:=hb4.1;refine zP (fun m L τ=>∃ (p4 q4:List GMessage) (x2:Int),m=qg q4∧L=[(1,.str a1),(4,.op 0 0 0),(9,.ds true (qh encGMessage a0.fMessages) (qg a0.fMessages) false),(10,.int .i64 (qg a0.fMessages:Int)),(11,.int .i64 x2)]∧τ=[.cells 0 [.str [],.ds true [] 0 true,.ds true [] 0 true]]∧a0.fMessages=p4++q4∧x2=(qg p4:Int)∧zH.l4 a1 q4 x2=r) _ ⟨[],a0.fMessages,0,rfl,rfl,rfl,rfl,rfl,h⟩ (.t [1] false) ?_;rintro m L τ ⟨p4,q4,x2,rfl,rfl,rfl,hE4,hi4,h⟩
 rcases q4 with _|⟨y4,q4⟩
 · have hz4:=yN hE4 hi4;simp only[zH.l4] at h
   refine rg tok [1,4,9,10,11,12] fun K hK=>?_
   simp only[go_sem,qf,qb,qa,qc,qe,qd,reduceIte,reduceCtorEq,zn,hz4];apply hK
   refine zd fun Z5 hZ5=>?_
   refine zo rfl ?_;apply zI;apply hZ1
   refine rg tok [4,5] fun K hK=>?_
   simp only[go_sem,qf,qb,qa,qc,qe,qd,reduceIte,reduceCtorEq,encGMessage,hz4];apply hK
   cases h;exact rtA
 obtain⟨hz4,hw4,hx4,hE'4,hi'4⟩:=yo hE4 hi4 hb4;simp only[zH.l4] at h
 refine rg tok [1,4,9,10,11,12] fun K hK=>?_
 simp only[go_sem,qf,qb,qa,qc,qe,qd,reduceIte,reduceCtorEq,zn,hz4,hw4];apply hK
 refine zd fun Z6 hZ6=>?_
 refine zu rfl ?_;apply zf;apply hZ6
 refine zd fun Z7 hZ7=>?_
 apply zg;have f8:=E27.idxS hx4;have f9:=E27.loadS rfl rfl hx4
 refine rg tok [1,4,7,9,10,11] fun K hK=>?_
 simp only[go_sem,qf,qb,qa,qc,qe,qd,reduceIte,reduceCtorEq,encGMessage,hz4,hw4,f8,f9];apply hK
 refine rg tok [1,4,7,9,10,11,18] fun K hK=>?_
 simp only[go_sem,qf,qb,qa,qc,qe,qd,reduceIte,reduceCtorEq,zn,hz4,hw4];apply hK
 refine zM rfl (fun hc10=>?_) (fun hc10=>?_)
 · rw[if_pos hc10] at h;have t11:=eq_true hc10
   refine rg tok [4,5] fun K hK=>?_
   simp only[go_sem,qf,qb,qa,qc,qe,qd,reduceIte,reduceCtorEq,encGMessage,hz4,hw4,t11];apply hK
   cases h;exact rtA
 rw[if_neg hc10] at h;have t12:=eq_false hc10;apply zf;apply hZ7
 refine rgE tok [1,4,9,10,11] fun K hK=>?_
 simp only[go_sem,qf,qb,qa,qc,qe,qd,reduceIte,reduceCtorEq,zn,hz4,hw4,t12];apply hK
 exact⟨_,_,_,qE q4.length,⟨p4++[y4],q4,x2+1,rfl,rfl,rfl,hE'4,hi'4,h⟩,(.t [0] false)⟩
theorem zH.ev (a0:GSchema)(a1:List UInt8)(r:GMessage×Bool)(h:zH a0 a1=r)(σ:Store):ACalls qi 92 [.agg (encGSchema a0),.str a1] σ (fun r' σ'=>r'=.tup [.agg (encGMessage r.1),.bool r.2]∧σ'=σ):=
 (zH.ok a0 a1 r h).c σ
def yw.l4 (a1:Int):List GField→Int→GField×Bool
 |[],x2=>((⟨[],0,0,(⟨0,[]⟩:GType)⟩:GField),false)
 |y4::q4,x2=>(if y4.fTag=a1 then (y4,true) else ((yw.l4 a1 q4) (x2+1)))
def yw (a0:GMessage)(a1:Int):GField×Bool:=
 (yw.l4 a1 a0.fFields 0)
theorem yw.ok (a0:GMessage)(a1:Int)(r:GField×Bool)(h:yw a0 a1=r):ACalls qi 141 [.agg (encGMessage a0),.int .i64 a1] [] (fun r' _=>r'=.tup [.agg (encGField r.1),.bool r.2]):=by
 refine zj (rs:=[.cell 4 126,.tmp 5]) tok Tryz.func141 rfl Tryz.ntmps141 rfl Tryz.call141 (by simp) ?_;refine zm [(0,.agg (encGMessage a0)),(1,.int .i64 a1)] ⟨rfl,rfl,trivial⟩ ?_;unfold yw at h
 refine rg tok [1,2,4] fun K hK=>?_
 simp only[go_sem,qf,qb,qa,qc,qe,qd,reduceIte,reduceCtorEq,encGMessage];apply hK
 refine zd fun Z1 hZ1=>?_
 refine rgN [1,4,9,10,11] ?_;apply zg
 refine yq 9 fun hb4=>?_
 replace hb4:qg a0.fFields≤9223372036854775807:=hb4.1;refine zP (fun m L τ=>∃ (p4 q4:List GField) (x2:Int),m=qg q4∧L=[(1,.int .i64 a1),(4,.op 0 0 0),(9,.ds true (qh encGField a0.fFields) (qg a0.fFields) false),(10,.int .i64 (qg a0.fFields:Int)),(11,.int .i64 x2)]∧τ=[.cells 0 [.str [],.int .i64 0,.int .i64 0,.int .i64 0,.str []]]∧a0.fFields=p4++q4∧x2=(qg p4:Int)∧yw.l4 a1 q4 x2=r) _ ⟨[],a0.fFields,0,rfl,rfl,rfl,rfl,rfl,h⟩ (.t [1] false) ?_;rintro m L τ ⟨p4,q4,x2,rfl,rfl,rfl,hE4,hi4,h⟩
 rcases q4 with _|⟨y4,q4⟩
 · have hz4:=yN hE4 hi4;simp only[yw.l4] at h
   refine rg tok [1,4,9,10,11,12] fun K hK=>?_
   simp only[go_sem,qf,qb,qa,qc,qe,qd,reduceIte,reduceCtorEq,zn,hz4];apply hK
   refine zd fun Z5 hZ5=>?_
   refine zo rfl ?_;apply zI;apply hZ1
   refine rg tok [4,5] fun K hK=>?_
   simp only[go_sem,qf,qb,qa,qc,qe,qd,reduceIte,reduceCtorEq,encGField,encGType,hz4];apply hK
   cases h;exact rtA
 obtain⟨hz4,hw4,hx4,hE'4,hi'4⟩:=yo hE4 hi4 hb4;simp only[yw.l4] at h
 refine rg tok [1,4,9,10,11,12] fun K hK=>?_
 simp only[go_sem,qf,qb,qa,qc,qe,qd,reduceIte,reduceCtorEq,zn,hz4,hw4];apply hK
 refine zd fun Z6 hZ6=>?_
 refine zu rfl ?_;apply zf;apply hZ6
 refine zd fun Z7 hZ7=>?_
 apply zg;have f8:=E127.idxS hx4;have f9:=E127.loadS rfl rfl hx4
 refine rg tok [1,4,7,9,10,11] fun K hK=>?_
 simp only[go_sem,qf,qb,qa,qc,qe,qd,reduceIte,reduceCtorEq,encGField,encGType,hz4,hw4,f8,f9];apply hK
 refine rg tok [1,4,7,9,10,11,18] fun K hK=>?_
 simp only[go_sem,qf,qb,qa,qc,qe,qd,reduceIte,reduceCtorEq,zn,hz4,hw4];apply hK
 refine zM rfl (fun hc10=>?_) (fun hc10=>?_)
 · rw[if_pos hc10] at h;have t11:=eq_true hc10
   refine rg tok [4,5] fun K hK=>?_
   simp only[go_sem,qf,qb,qa,qc,qe,qd,reduceIte,reduceCtorEq,encGField,encGType,hz4,hw4,t11];apply hK
   cases h;exact rtA
 rw[if_neg hc10] at h;have t12:=eq_false hc10;apply zf;apply hZ7
 refine rgE tok [1,4,9,10,11] fun K hK=>?_
 simp only[go_sem,qf,qb,qa,qc,qe,qd,reduceIte,reduceCtorEq,zn,hz4,hw4,t12];apply hK
 exact⟨_,_,_,qE q4.length,⟨p4++[y4],q4,x2+1,rfl,rfl,rfl,hE'4,hi'4,h⟩,(.t [0] false)⟩
theorem yw.ev (a0:GMessage)(a1:Int)(r:GField×Bool)(h:yw a0 a1=r)(σ:Store):ACalls qi 141 [.agg (encGMessage a0),.int .i64 a1] σ (fun r' σ'=>r'=.tup [.agg (encGField r.1),.bool r.2]∧σ'=σ):=
 (yw.ok a0 a1 r h).c σ
def xN (a0:GType)(a1:Int):Bool:=
 (if a0.fKind=1 then ((decide ((-2147483648)≤a1))&&(decide (a1≤2147483647))) else (if a0.fKind=3 then ((decide (a1=0))||(decide (a1=1))) else (if a0.fKind=6 then ((decide (0≤a1))&&(decide (a1≤2147483647))) else decide (a0.fKind=2))))
theorem xN.ok (a0:GType)(a1:Int)(r:Bool)(h:xN a0 a1=r):ACalls qi 183 [.agg (encGType a0),.int .i64 a1] [] (fun r' _=>r'=.bool r):=by
 refine zj (rs:=[.tmp 4]) tok Tryz.func183 rfl Tryz.ntmps183 rfl Tryz.call183 (by simp) ?_;refine zm [(0,.agg (encGType a0)),(1,.int .i64 a1)] ⟨rfl,rfl,trivial⟩ ?_;unfold xN at h
 refine rg tok [1,2] fun K hK=>?_
 simp only[go_sem,qf,qb,qa,qc,qe,qd,reduceIte,reduceCtorEq,encGType];apply hK
 refine zd fun Z1 hZ1=>?_
 refine rgN [1,2,6] ?_;apply zg
 refine rg tok [1,2,6,7] fun K hK=>?_
 simp only[go_sem,qf,qb,qa,qc,qe,qd,reduceIte,reduceCtorEq,zn];apply hK
 refine zM rfl (fun hc2=>?_) (fun hc2=>?_)
 · rw[if_pos hc2] at h;have t3:=eq_true hc2
   refine rc [4] fun K hK=>?_
   refine za tok 3 ?_;simp only[go_sem,qf,qb,qa,qc,qe,qd,reduceIte,reduceCtorEq,zn,t3];refine zl 3 (fun L τ=>L=[(14,.bool ((decide ((-2147483648)≤a1))&&(decide (a1≤2147483647))))]∧τ=[.cells 0 [.int .i64 a0.fKind,.str a0.fName]]) ?_ ?_
   · refine yQ 11 rfl (fun hg11=>?_) (fun hg11=>?_)
     · have t4:=eq_true hg11;refine za tok 3 ?_;simp only[go_sem,qf,qb,qa,qc,qe,qd,reduceIte,reduceCtorEq,zn,t3];refine ze ⟨rfl,_,_,⟨rfl,rfl⟩,.p t4⟩
     have t5:=eq_false hg11;refine za tok 3 ?_;simp only[go_sem,qf,qb,qa,qc,qe,qd,reduceIte,reduceCtorEq,zn,t3];refine ze ⟨rfl,_,_,⟨rfl,rfl⟩,.p t5⟩
   rintro _ _ ⟨rfl,rfl⟩;refine za tok 1 ?_;simp only[go_sem,qf,qb,qa,qc,qe,qd,reduceIte,reduceCtorEq,t3];refine nkN hK ?_;cases h;exact rtA
 rw[if_neg hc2] at h;have t6:=eq_false hc2
 refine rg tok [1,2,6,15] fun K hK=>?_
 simp only[go_sem,qf,qb,qa,qc,qe,qd,reduceIte,reduceCtorEq,zn,t6];apply hK
 refine zM rfl (fun hc7=>?_) (fun hc7=>?_)
 · rw[if_pos hc7] at h;have t8:=eq_true hc7
   refine rc [4] fun K hK=>?_
   refine za tok 3 ?_;simp only[go_sem,qf,qb,qa,qc,qe,qd,reduceIte,reduceCtorEq,zn,t6,t8];refine zl 3 (fun L τ=>L=[(22,.bool ((decide (a1=0))||(decide (a1=1))))]∧τ=[.cells 0 [.int .i64 a0.fKind,.str a0.fName]]) ?_ ?_
   · refine yQ 19 rfl (fun hg19=>?_) (fun hg19=>?_)
     · have t9:=eq_true hg19;refine za tok 3 ?_;simp only[go_sem,qf,qb,qa,qc,qe,qd,reduceIte,reduceCtorEq,zn,t6,t8];refine ze ⟨rfl,_,_,⟨rfl,rfl⟩,.p t9⟩
     have t10:=eq_false hg19;refine za tok 3 ?_;simp only[go_sem,qf,qb,qa,qc,qe,qd,reduceIte,reduceCtorEq,zn,t6,t8];refine ze ⟨rfl,_,_,⟨rfl,rfl⟩,.p t10⟩
   rintro _ _ ⟨rfl,rfl⟩;refine za tok 1 ?_;simp only[go_sem,qf,qb,qa,qc,qe,qd,reduceIte,reduceCtorEq,t6,t8];refine nkN hK ?_;cases h;exact rtA
 rw[if_neg hc7] at h;have t11:=eq_false hc7
 refine rg tok [1,2,23] fun K hK=>?_
 simp only[go_sem,qf,qb,qa,qc,qe,qd,reduceIte,reduceCtorEq,zn,t6,t11];apply hK
 refine zM rfl (fun hc12=>?_) (fun hc12=>?_)
 · rw[if_pos hc12] at h;have t13:=eq_true hc12
   refine rc [4] fun K hK=>?_
   refine za tok 3 ?_;simp only[go_sem,qf,qb,qa,qc,qe,qd,reduceIte,reduceCtorEq,zn,t6,t11,t13];refine zl 3 (fun L τ=>L=[(30,.bool ((decide (0≤a1))&&(decide (a1≤2147483647))))]∧τ=[.cells 0 [.int .i64 a0.fKind,.str a0.fName]]) ?_ ?_
   · refine yQ 27 rfl (fun hg27=>?_) (fun hg27=>?_)
     · have t14:=eq_true hg27;refine za tok 3 ?_;simp only[go_sem,qf,qb,qa,qc,qe,qd,reduceIte,reduceCtorEq,zn,t6,t11,t13];refine ze ⟨rfl,_,_,⟨rfl,rfl⟩,.p t14⟩
     have t15:=eq_false hg27;refine za tok 3 ?_;simp only[go_sem,qf,qb,qa,qc,qe,qd,reduceIte,reduceCtorEq,zn,t6,t11,t13];refine ze ⟨rfl,_,_,⟨rfl,rfl⟩,.p t15⟩
   rintro _ _ ⟨rfl,rfl⟩;refine za tok 1 ?_;simp only[go_sem,qf,qb,qa,qc,qe,qd,reduceIte,reduceCtorEq,t6,t11,t13];refine nkN hK ?_;cases h;exact rtA
 rw[if_neg hc12] at h;have t16:=eq_false hc12;apply zf;apply hZ1
 refine rg tok [4] fun K hK=>?_
 simp only[go_sem,qf,qb,qa,qc,qe,qd,reduceIte,reduceCtorEq,zn,t6,t11,t16];apply hK
 cases h;exact rtA
theorem xN.ev (a0:GType)(a1:Int)(r:Bool)(h:xN a0 a1=r)(σ:Store):ACalls qi 183 [.agg (encGType a0),.int .i64 a1] σ (fun r' σ'=>r'=.bool r∧σ'=σ):=
 (xN.ok a0 a1 r h).c σ
def wt (a0:GTree):Bool:=
 ((((((decide (1≤a0.fKind))&&(decide (a0.fKind≤3)))&&(decide (a0.fN=0)))&&(decide (a0.fS=[])))&&(decide ((qg a0.fEntries:Int)=0)))&&(decide ((qg a0.fRest:Int)=0)))
theorem wt.ok (a0:GTree)(r:Bool)(h:wt a0=r):ACalls qi 143 [.agg (cellsGTree a0)] [] (fun r' _=>r'=.bool r):=by
 refine zj (rs:=[.tmp 2]) tok Tryz.func143 rfl Tryz.ntmps143 rfl Tryz.call143 (by simp) ?_;refine zm [(0,.agg (cellsGTree a0))] ⟨rfl,trivial⟩ ?_;unfold wt at h
 refine rg tok [1] fun K hK=>?_
 simp only[go_sem,qf,qb,qa,qc,qe,qd,reduceIte,reduceCtorEq,cellsGTree,zb];apply hK
 refine rc [2] fun K hK=>?_
 refine za tok 4 ?_;simp only[go_sem,qf,qb,qa,qc,qe,qd,reduceIte,reduceCtorEq,zn];refine zl 4 (fun L τ=>L=[(1,.op 0 0 0),(10,.bool ((decide (1≤a0.fKind))&&(decide (a0.fKind≤3))))]∧τ=[.cells 0 (cellsGTree a0)]) ?_ ?_
 · refine yQ 6 rfl (fun hg6=>?_) (fun hg6=>?_)
   · have t1:=eq_true hg6;refine za tok 4 ?_;simp only[go_sem,qf,qb,qa,qc,qe,qd,reduceIte,reduceCtorEq,zn];refine ze ⟨rfl,_,_,⟨rfl,rfl⟩,.p t1⟩
   have t2:=eq_false hg6;refine za tok 4 ?_;simp only[go_sem,qf,qb,qa,qc,qe,qd,reduceIte,reduceCtorEq,zn];refine ze ⟨rfl,_,_,⟨rfl,rfl⟩,.p t2⟩
 rintro _ _ ⟨rfl,rfl⟩;refine rnN 1 ?_;refine zl 4 (fun L τ=>L=[(1,.op 0 0 0),(15,.bool (((decide (1≤a0.fKind))&&(decide (a0.fKind≤3)))&&(decide (a0.fN=0))))]∧τ=[.cells 0 (cellsGTree a0)]) ?_ ?_
 · refine zR (b:=((decide (1≤a0.fKind))&&(decide (a0.fKind≤3)))) 11 rfl (fun hg11=>?_) (fun hg11=>?_)
   · refine za tok 4 ?_;simp only[go_sem,qf,qb,qa,qc,qe,qd,reduceIte,reduceCtorEq,zn];refine ze ⟨rfl,_,_,⟨rfl,rfl⟩,.b hg11⟩
   refine za tok 4 ?_;simp only[go_sem,qf,qb,qa,qc,qe,qd,reduceIte,reduceCtorEq,zn];refine ze ⟨rfl,_,_,⟨rfl,rfl⟩,.b hg11⟩
 rintro _ _ ⟨rfl,rfl⟩;refine rnN 1 ?_;refine zl 4 (fun L τ=>L=[(1,.op 0 0 0),(20,.bool ((((decide (1≤a0.fKind))&&(decide (a0.fKind≤3)))&&(decide (a0.fN=0)))&&(decide (a0.fS=[]))))]∧τ=[.cells 0 (cellsGTree a0)]) ?_ ?_
 · refine zR (b:=(((decide (1≤a0.fKind))&&(decide (a0.fKind≤3)))&&(decide (a0.fN=0)))) 16 rfl (fun hg16=>?_) (fun hg16=>?_)
   · refine za tok 4 ?_;simp only[go_sem,qf,qb,qa,qc,qe,qd,reduceIte,reduceCtorEq,zn];refine ze ⟨rfl,_,_,⟨rfl,rfl⟩,.b hg16⟩
   refine za tok 4 ?_;simp only[go_sem,qf,qb,qa,qc,qe,qd,reduceIte,reduceCtorEq,zn];refine ze ⟨rfl,_,_,⟨rfl,rfl⟩,.b hg16⟩
 rintro _ _ ⟨rfl,rfl⟩;refine rnN 1 ?_;refine zl 5 (fun L τ=>L=[(1,.op 0 0 0),(26,.bool (((((decide (1≤a0.fKind))&&(decide (a0.fKind≤3)))&&(decide (a0.fN=0)))&&(decide (a0.fS=[])))&&(decide ((qg a0.fEntries:Int)=0))))]∧τ=[.cells 0 (cellsGTree a0)]) ?_ ?_
 · refine zR (b:=((((decide (1≤a0.fKind))&&(decide (a0.fKind≤3)))&&(decide (a0.fN=0)))&&(decide (a0.fS=[])))) 21 rfl (fun hg21=>?_) (fun hg21=>?_)
   · refine za tok 5 ?_;simp only[go_sem,qf,qb,qa,qc,qe,qd,reduceIte,reduceCtorEq,zn];refine ze ⟨rfl,_,_,⟨rfl,rfl⟩,.b hg21⟩
   refine za tok 5 ?_;simp only[go_sem,qf,qb,qa,qc,qe,qd,reduceIte,reduceCtorEq,zn];refine ze ⟨rfl,_,_,⟨rfl,rfl⟩,.b hg21⟩
 rintro _ _ ⟨rfl,rfl⟩;refine rnN 1 ?_;refine zl 5 (fun L τ=>L=[(32,.bool ((((((decide (1≤a0.fKind))&&(decide (a0.fKind≤3)))&&(decide (a0.fN=0)))&&(decide (a0.fS=[])))&&(decide ((qg a0.fEntries:Int)=0)))&&(decide ((qg a0.fRest:Int)=0))))]∧τ=[.cells 0 (cellsGTree a0)]) ?_ ?_
 · refine zR (b:=(((((decide (1≤a0.fKind))&&(decide (a0.fKind≤3)))&&(decide (a0.fN=0)))&&(decide (a0.fS=[])))&&(decide ((qg a0.fEntries:Int)=0)))) 27 rfl (fun hg27=>?_) (fun hg27=>?_)
   · refine za tok 5 ?_;simp only[go_sem,qf,qb,qa,qc,qe,qd,reduceIte,reduceCtorEq,zn];refine ze ⟨rfl,_,_,⟨rfl,rfl⟩,.b hg27⟩
   refine za tok 5 ?_;simp only[go_sem,qf,qb,qa,qc,qe,qd,reduceIte,reduceCtorEq,zn];refine ze ⟨rfl,_,_,⟨rfl,rfl⟩,.b hg27⟩
 rintro _ _ ⟨rfl,rfl⟩;refine rnN 1 ?_;refine nkN hK ?_;cases h;exact rtA
theorem wt.ev (a0:GTree)(r:Bool)(h:wt a0=r)(σ:Store):ACalls qi 143 [.agg (cellsGTree a0)] σ (fun r' σ'=>r'=.bool r∧σ'=σ):=
 (wt.ok a0 r h).c σ
def zZ.j20 (x5:Int)(l4:List GRaw)(rec8:Int→List GRaw→Option (List GRaw))(y8:GRaw)(x15:Int)(rec17:Int→Option (List GRaw))(x19:Bool):Option (List GRaw):=
 (if x19=true then (rec17 (IntKind.i64.wrap (x15-1))) else (grd ((0:Int)≤IntKind.i64.wrap (x15+1)∧IntKind.i64.wrap (x15+1)≤x5+1∧x5+1≤(qg l4:Int))).bind fun _u22=>(grd ((0:Int)≤x15∧x15≤x5∧x5≤(qg l4:Int))).bind fun _u24=>(YD (XS l4 (qP (IntKind.i64.wrap (x15+1))) (qP x15) (min (qP x5-qP x15) (qP (x5+1)-qP (IntKind.i64.wrap (x15+1))))) x15).bind fun y28=>(rec8 (x5+1) (setI (XS l4 (qP (IntKind.i64.wrap (x15+1))) (qP x15) (min (qP x5-qP x15) (qP (x5+1)-qP (IntKind.i64.wrap (x15+1))))) x15 y8)))
def zZ.l17 (x5:Int)(l4:List GRaw)(rec8:Int→List GRaw→Option (List GRaw))(y8:GRaw):Nat→Int→Option (List GRaw)
 |0,_=>none
 |k17+1,x15=>(if 0<x15 then (YD l4 (IntKind.i64.wrap (x15-1))).bind fun y33=>(zZ.j20 x5 l4 rec8 y8 x15 (zZ.l17 x5 l4 rec8 y8 k17) (decide (y8.fTag<y33.fTag))) else (zZ.j20 x5 l4 rec8 y8 x15 (zZ.l17 x5 l4 rec8 y8 k17) false))
def zZ.l8 : List GRaw→Int→List GRaw→Option (List GRaw)
 |[],x5,l4=>some l4
 |y8::q8,x5,l4=>(zZ.l17 x5 l4 (zZ.l8 q8) y8 xl x5)
def zZ (a0:List GRaw):Option (List GRaw):=
 (grd ((0:Int)≤(qg a0:Int)∧(40:Int)*(qg a0:Int)≤281474976710656∧(qg a0:Int)<9223372036854775807)).bind fun _u1=>(zZ.l8 a0 0 (qO (qP (qg a0:Int)) ((⟨0,0,0,[]⟩:GRaw):GRaw)))
theorem zZ.ok (a0:List GRaw)(r:List GRaw)(h:zZ a0=some r):ACalls qi 190 [.ds true (qh encGRaw a0) (qg a0) false] [] (fun r' _=>r'=.ds true (qh encGRaw r) (qg r) false):=by
 refine zj (rs:=[.tmp 2]) tok Tryz.func190 rfl Tryz.ntmps190 rfl Tryz.call190 (by simp) ?_;refine zm [(0,.ds true (qh encGRaw a0) (qg a0) false)] ⟨rfl,trivial⟩ ?_;unfold zZ at h;refine rgN [0] ?_;obtain⟨_u1,hu1,h⟩:=bind_some h;have gu1:=wO hu1;have f2:=E35.mk0 rfl (z:=((⟨0,0,0,[]⟩:GRaw):GRaw)) rfl rfl gu1 .i64 .i64
 refine rg tok [0,3] fun K hK=>?_
 simp only[go_sem,qf,qb,qa,qc,qe,qd,reduceIte,reduceCtorEq,encGRaw,f2];apply hK
 refine yB (L:=[(0,.ds true (qh encGRaw a0) (qg a0) false),(3,.os true 4 0 0 0 (qg (qO (qP (qg a0:Int)) ((⟨0,0,0,[]⟩:GRaw):GRaw))) true)]) (τ:=[.cells 0 (qh encGRaw (qO (qP (qg a0:Int)) ((⟨0,0,0,[]⟩:GRaw):GRaw)))]) .s ?_
 refine zd fun Z3 hZ3=>?_
 refine rgN [3,10,11,12] ?_;apply zg
 refine yq 10 fun hb8=>?_
 replace hb8:qg a0≤9223372036854775807:=hb8.1;refine zP (fun m L τ=>∃ (p8 q8:List GRaw) (x5:Int) (l4:List GRaw),m=qg q8∧L=[(3,.os true 4 0 0 0 (qg l4) true),(10,.ds true (qh encGRaw a0) (qg a0) false),(11,.int .i64 (qg a0:Int)),(12,.int .i64 x5)]∧τ=[.cells 0 (qh encGRaw l4)]∧a0=p8++q8∧x5=(qg p8:Int)∧zZ.l8 q8 x5 l4=some r) _ ⟨[],a0,0,qO (qP (qg a0:Int)) ((⟨0,0,0,[]⟩:GRaw):GRaw),rfl,rfl,rfl,rfl,rfl,h⟩ .s ?_;rintro m L τ ⟨p8,q8,x5,l4,rfl,rfl,rfl,hE8,hi8,h⟩
 rcases q8 with _|⟨y8,q8⟩
 · have hz8:=yN hE8 hi8;simp only[zZ.l8] at h
   refine rg tok [3,10,11,12,13] fun K hK=>?_
   simp only[go_sem,qf,qb,qa,qc,qe,qd,reduceIte,reduceCtorEq,zn,hz8];apply hK
   refine zd fun Z9 hZ9=>?_
   refine zo rfl ?_;apply zI;apply hZ3
   refine rg tok [2] fun K hK=>?_
   simp only[go_sem,qf,qb,qa,qc,qe,qd,reduceIte,reduceCtorEq,hz8];apply hK
   cases h;exact rtA
 obtain⟨hz8,hw8,hx8,hE'8,hi'8⟩:=yo hE8 hi8 hb8;simp only[zZ.l8] at h
 refine rg tok [3,10,11,12,13] fun K hK=>?_
 simp only[go_sem,qf,qb,qa,qc,qe,qd,reduceIte,reduceCtorEq,zn,hz8,hw8];apply hK
 refine zd fun Z10 hZ10=>?_
 refine zu rfl ?_;apply zf;apply hZ10
 refine zd fun Z11 hZ11=>?_
 apply zg;have f12:=E35.idxS hx8;have f13:=E35.loadS rfl rfl hx8
 refine rg tok [3,4,5,10,11,12] fun K hK=>?_
 simp only[go_sem,qf,qb,qa,qc,qe,qd,reduceIte,reduceCtorEq,encGRaw,hz8,hw8,f12,f13];apply hK
 refine rg tok [3,4,5,6,10,11,12] fun K hK=>?_
 simp only[go_sem,qf,qb,qa,qc,qe,qd,reduceIte,reduceCtorEq,hz8,hw8];apply hK
 refine zd fun Z14 hZ14=>?_
 apply zg;refine zP (fun m L τ=>∃ (k17:Nat) (x15:Int),m=0+k17∧L=[(3,.os true 4 0 0 0 (qg l4) true),(4,.int .i64 x5),(5,.op 1 0 0),(6,.int .i64 x15),(10,.ds true (qh encGRaw a0) (qg a0) false),(11,.int .i64 (qg a0:Int)),(12,.int .i64 x5)]∧τ=[.cells 0 (qh encGRaw l4),.cells 0 [.int .i64 y8.fTag,.int .i64 y8.fWire,.int .i64 y8.fN,.str y8.fB]]∧zZ.l17 x5 l4 (zZ.l8 q8) y8 k17 x15=some r) _ ⟨xl,x5,rfl,rfl,rfl,h⟩ .s ?_;rintro m L τ ⟨k17,x15,rfl,rfl,rfl,h⟩
 rcases k17 with _|k17
 · cases h
 simp only[zZ.l17] at h
 refine zd fun Z18 hZ18=>?_
 refine yR (fun L τ=>∃ (x19:Bool),L=[(3,.os true 4 0 0 0 (qg l4) true),(4,.int .i64 x5),(5,.op 1 0 0),(6,.int .i64 x15),(10,.ds true (qh encGRaw a0) (qg a0) false),(11,.int .i64 (qg a0:Int)),(12,.int .i64 x5),(30,.bool x19)]∧τ=[.cells 0 (qh encGRaw l4),.cells 0 [.int .i64 y8.fTag,.int .i64 y8.fWire,.int .i64 y8.fN,.str y8.fB]]∧zZ.j20 x5 l4 (zZ.l8 q8) y8 x15 (zZ.l17 x5 l4 (zZ.l8 q8) y8 k17) x19=some r) ?_ ?_
 · refine rdE [3,4,5,6,10,11,12,30] fun K hK=>?_
   refine DW.start (T:=tab) [.any,.any,.any,.any,.any,.any,.any,.any,.at [],.any,.at [],.any,.any] [] ?_;refine DW.runN tok 3 ?_;simp only[go_sem,qf,qb,qa,qc,qe,qd,reduceIte,reduceCtorEq,zn,hz8,hw8]
   refine DW.if 20 rfl (fun hg20=>?_) (fun hg20=>?_)
   · rw[if_pos hg20] at h;have t32:=eq_true hg20;obtain⟨y33,hy33,h⟩:=bind_some h;have f34:=E35.idxO hy33;have f35:=E35.rdfO0 hy33;refine DW.runN tok 8 ?_;simp only[go_sem,qf,qb,qa,qc,qe,qd,reduceIte,reduceCtorEq,zn,encGRaw,hz8,hw8,t32,f34,f35];refine DW.runN tok 2 ?_;simp only[go_sem,qf,qb,qa,qc,qe,qd,reduceIte,reduceCtorEq,zn,encGRaw,hz8,hw8,t32,f34,f35];refine DW.fin tok (by decide +kernel) rfl ?_;simp only[zk,zw,zD,xJ,upd,qa,reduceIte,z1,yA];apply hK
     exact⟨_,_,⟨decide (y8.fTag<y33.fTag),rfl,rfl,h⟩,.s⟩
   rw[if_neg hg20] at h;have t36:=eq_false hg20;refine DW.runN tok 8 ?_;simp only[go_sem,qf,qb,qa,qc,qe,qd,reduceIte,reduceCtorEq,zn,hz8,hw8,t36];refine DW.runN tok 2 ?_;simp only[go_sem,qf,qb,qa,qc,qe,qd,reduceIte,reduceCtorEq,zn,hz8,hw8,t36];refine DW.fin tok (by decide +kernel) rfl ?_;simp only[zk,zw,zD,xJ,upd,qa,reduceIte,z1,yA];apply hK
   exact⟨_,_,⟨false,rfl,rfl,h⟩,.s⟩
 rintro _ _ ⟨x19,rfl,rfl,h⟩;unfold zZ.j20 at h;refine zs (b:=x19) rfl (fun hc21=>?_) (fun hc21=>?_)
 · rw[if_pos hc21] at h;apply zf;apply hZ18;apply zg
   refine rgE tok [3,4,5,6,10,11,12] fun K hK=>?_
   simp only[go_sem,qf,qb,qa,qc,qe,qd,reduceIte,reduceCtorEq,zn,hz8,hw8];apply hK
   exact⟨_,_,_,qE (0+k17),⟨k17,IntKind.i64.wrap (x15-1),rfl,rfl,rfl,h⟩,.s⟩
 rw[xI hc21] at h;apply zI;apply hZ14;obtain⟨_u22,hu22,h⟩:=bind_some h;have gu22:=wO hu22
 have f23:=fun id ver=>E35.slO gu22 .i64 .i64 id ver true
 obtain⟨_u24,hu24,h⟩:=bind_some h;have gu24:=wO hu24
 have f25:=fun id ver=>E35.slO gu24 .i64 .i64 id ver true
 have f26:=fun (τ:Store) (t1 t2:Bool)=>E35.cpO Yb.h gu22 gu24 t1 t2 (.cells 0 (qh encGRaw l4)::τ) 0 0 (by simp only[Store.at_hd,Store.at_tl,if_true]) rfl
 have f27:qg (XS l4 (qP (IntKind.i64.wrap (x15+1))) (qP x15) (min (qP x5-qP x15) (qP (x5+1)-qP (IntKind.i64.wrap (x15+1)))))=qg l4:=copyI_length (by omega) (by omega)
 refine rd [3,5,6,10,11,12] fun K hK=>?_
 refine DW.start (T:=tab) [.any,.any,.any,.any,.any,.any,.any,.any,.any,.any,.eff] [] ?_;refine DW.runN tok 8 ?_;simp only[go_sem,qf,qb,qa,qc,qe,qd,reduceIte,reduceCtorEq,zn,hz8,hw8,f23,f25,f26];refine DW.runN tok 3 ?_;simp only[go_sem,qf,qb,qa,qc,qe,qd,reduceIte,reduceCtorEq,hz8,hw8,f23,f25,f26];refine DW.fin tok (by decide +kernel) rfl ?_;simp only[zk,zw,zD,xJ,upd,qa,reduceIte,z1,yA];apply hK
 refine yB (L:=[(3,.os true 4 0 0 0 (qg (XS l4 (qP (IntKind.i64.wrap (x15+1))) (qP x15) (min (qP x5-qP x15) (qP (x5+1)-qP (IntKind.i64.wrap (x15+1)))))) true),(5,.op 1 0 0),(6,.int .i64 x15),(10,.ds true (qh encGRaw a0) (qg a0) false),(11,.int .i64 (qg a0:Int)),(12,.int .i64 x5)]) (τ:=[.cells 0 (qh encGRaw (XS l4 (qP (IntKind.i64.wrap (x15+1))) (qP x15) (min (qP x5-qP x15) (qP (x5+1)-qP (IntKind.i64.wrap (x15+1)))))),.cells 0 [.int .i64 y8.fTag,.int .i64 y8.fWire,.int .i64 y8.fN,.str y8.fB]]) (.same (by first|exact⟨rfl,rfl,rfl,rfl,rfl,rfl,trivial⟩|rfl|(simp only[go_sem,qf,qb,qa,qc,qe,qd,reduceIte,reduceCtorEq,Fits,encB,encI,encS,encK,zF,qA,qB,qL,qF,qJ,qw,qx,qz,ql,qD,qH,ur,encGRaw,f27,and_self]<;>rfl)) (by first|exact⟨rfl,rfl,rfl,rfl,rfl,rfl,trivial⟩|rfl|(simp only[go_sem,qf,qb,qa,qc,qe,qd,reduceIte,reduceCtorEq,Fits,encB,encI,encS,encK,zF,qA,qB,qL,qF,qJ,qw,qx,qz,ql,qD,qH,ur,encGRaw,f27,and_self]<;>rfl))) ?_;obtain⟨y28,hy28,h⟩:=bind_some h;have f29:=E35.idxO hy28;have f30:=E35.stOc hy28;have f31:=E35.stOr hy28 (y:=y8) (cs:=[.int .i64 y8.fTag,.int .i64 y8.fWire,.int .i64 y8.fN,.str y8.fB]) rfl;simp only[yT] at f31
 refine rgE tok [3,10,11,12] fun K hK=>?_
 simp only[go_sem,qf,qb,qa,qc,qe,qd,reduceIte,reduceCtorEq,encGRaw,hz8,hw8,f29,f30,f31];apply hK
 apply hZ11
 refine rgE tok [3,10,11,12] fun K hK=>?_
 simp only[go_sem,qf,qb,qa,qc,qe,qd,reduceIte,reduceCtorEq,zn,hz8,hw8];apply hK
 exact⟨_,_,_,qE q8.length,⟨p8++[y8],q8,x5+1,setI (XS l4 (qP (IntKind.i64.wrap (x15+1))) (qP x15) (min (qP x5-qP x15) (qP (x5+1)-qP (IntKind.i64.wrap (x15+1))))) x15 y8,rfl,rfl,rfl,hE'8,hi'8,h⟩,(.t [0] false)⟩
end
section
set_option maxRecDepth 4000
set_option maxHeartbeats 1000000
open AM
theorem zZ.ev (a0:List GRaw)(r:List GRaw)(h:zZ a0=some r)(σ:Store):ACalls qi 190 [.ds true (qh encGRaw a0) (qg a0) false] σ (fun r' σ'=>r'=.ds true (qh encGRaw r) (qg r) false∧σ'=σ):=
 (zZ.ok a0 r h).c σ
def xY.l12 (a1:Int):List UInt8→Int→Int→Option (Int×Int×Int)
 |[],x9,x8=>some (0,0,2)
 |y12::q12,x9,x8=>(if ((decide (x9=9))&&(decide (1<(y12.toNat:Int))))=true then some (0,0,3) else (grd (0≤IntKind.i64.wrap (7*x9))).bind fun _u23=>(if 128≤(y12.toNat:Int) then ((xY.l12 a1 q12) (x9+1) (IntKind.u64.wrap ((uf (qN 64 x8 ||| qN 64 (IntKind.u64.wrap ((IntKind.u64.wrap (IntKind.u8.wrap ((uf (qN 8 (y12.toNat:Int) &&& ~~~(qN 8 128)):Nat):Int)))*2^(min (qP (IntKind.i64.wrap (7*x9))) 64)))):Nat):Int))) else (if ((decide ((y12.toNat:Int)=0))&&(decide (0<x9)))=true then some (0,0,3) else some (IntKind.u64.wrap ((uf (qN 64 x8 ||| qN 64 (IntKind.u64.wrap ((IntKind.u64.wrap (IntKind.u8.wrap ((uf (qN 8 (y12.toNat:Int) &&& ~~~(qN 8 128)):Nat):Int)))*2^(min (qP (IntKind.i64.wrap (7*x9))) 64)))):Nat):Int),IntKind.i64.wrap ((IntKind.i64.wrap (a1+x9))+1),0))))
def xY (a0:List UInt8)(a1:Int):Option (Int×Int×Int):=
 (if ((decide (a1<0))||(decide ((qg a0:Int)<a1)))=true then some (0,0,1) else (grd ((0:Int)≤a1∧a1≤IntKind.i64.wrap (a1+(if 10<IntKind.i64.wrap ((qg a0:Int)-a1) then 10 else IntKind.i64.wrap ((qg a0:Int)-a1)))∧IntKind.i64.wrap (a1+(if 10<IntKind.i64.wrap ((qg a0:Int)-a1) then 10 else IntKind.i64.wrap ((qg a0:Int)-a1)))≤(qg a0:Int))).bind fun _u6=>(xY.l12 a1 (X9 a0 a1 (IntKind.i64.wrap (a1+(if 10<IntKind.i64.wrap ((qg a0:Int)-a1) then 10 else IntKind.i64.wrap ((qg a0:Int)-a1))))) 0 0))
theorem xY.ok (a0:List UInt8)(a1:Int)(r:Int×Int×Int)(h:xY a0 a1=some r):ACalls qi 245 [.ds true (qh encB a0) (qg a0) false,.int .i64 a1] [] (fun r' _=>r'=.tup [.int .u64 r.1,.int .i64 r.2.1,.int .i64 r.2.2]):=by
 refine zj (rs:=[.tmp 4,.tmp 5,.tmp 6]) tok Tryz.func245 rfl Tryz.ntmps245 rfl Tryz.call245 (by simp) ?_;refine zm [(0,.ds true (qh encB a0) (qg a0) false),(1,.int .i64 a1)] ⟨rfl,rfl,trivial⟩ ?_;unfold xY at h;refine rgN [0,1] ?_
 refine zd fun Z1 hZ1=>?_
 refine rc [0,1,17] fun K hK=>?_
 refine za tok 3 ?_;simp only[go_sem,qf,qb,qa,qc,qe,qd,reduceIte,reduceCtorEq,zn];refine zl 5 (fun L τ=>L=[(0,.ds true (qh encB a0) (qg a0) false),(1,.int .i64 a1),(17,.bool ((decide (a1<0))||(decide ((qg a0:Int)<a1))))]∧τ=[]) ?_ ?_
 · refine yQ 12 rfl (fun hg12=>?_) (fun hg12=>?_)
   · have t2:=eq_true hg12;refine za tok 5 ?_;simp only[go_sem,qf,qb,qa,qc,qe,qd,reduceIte,reduceCtorEq,zn];refine ze ⟨rfl,_,_,⟨rfl,rfl⟩,.p t2⟩
   have t3:=eq_false hg12;refine za tok 5 ?_;simp only[go_sem,qf,qb,qa,qc,qe,qd,reduceIte,reduceCtorEq,zn];refine ze ⟨rfl,_,_,⟨rfl,rfl⟩,.p t3⟩
 rintro _ _ ⟨rfl,rfl⟩;refine nkN hK ?_;refine zs (b:=((decide (a1<0))||(decide ((qg a0:Int)<a1)))) rfl (fun hc4=>?_) (fun hc4=>?_)
 · rw[if_pos hc4] at h;refine rgN [4,5,6] ?_;cases h;exact rtA
 rw[xI hc4] at h;apply zf;apply hZ1;refine rgN [0,1,7] ?_
 refine zd fun Z5 hZ5=>?_
 obtain⟨_u6,hu6,h⟩:=bind_some h;have gu6:=wO hu6;have f7:=E48.sl_lh gu6
 refine rg tok [1,7,27,28,29] fun K hK=>?_
 simp only[go_sem,qf,qb,qa,qc,qe,qd,reduceIte,reduceCtorEq,zn,XZ,foldO,vav,f7];apply hK
 apply zg
 refine yq 27 fun hb12=>?_
 replace hb12:qg (X9 a0 a1 (IntKind.i64.wrap (a1+(if 10<IntKind.i64.wrap ((qg a0:Int)-a1) then 10 else IntKind.i64.wrap ((qg a0:Int)-a1)))))≤9223372036854775807:=hb12.1;refine zP (fun m L τ=>∃ (p12 q12:List UInt8) (x9:Int) (x8:Int),m=qg q12∧L=[(1,.int .i64 a1),(7,.int .u64 x8),(27,.ds true (qh encB (X9 a0 a1 (IntKind.i64.wrap (a1+(if 10<IntKind.i64.wrap ((qg a0:Int)-a1) then 10 else IntKind.i64.wrap ((qg a0:Int)-a1)))))) (qg (X9 a0 a1 (IntKind.i64.wrap (a1+(if 10<IntKind.i64.wrap ((qg a0:Int)-a1) then 10 else IntKind.i64.wrap ((qg a0:Int)-a1)))))) false),(28,.int .i64 (qg (X9 a0 a1 (IntKind.i64.wrap (a1+(if 10<IntKind.i64.wrap ((qg a0:Int)-a1) then 10 else IntKind.i64.wrap ((qg a0:Int)-a1))))):Int)),(29,.int .i64 x9)]∧τ=[]∧X9 a0 a1 (IntKind.i64.wrap (a1+(if 10<IntKind.i64.wrap ((qg a0:Int)-a1) then 10 else IntKind.i64.wrap ((qg a0:Int)-a1))))=p12++q12∧x9=(qg p12:Int)∧xY.l12 a1 q12 x9 x8=some r) _ ⟨[],X9 a0 a1 (IntKind.i64.wrap (a1+(if 10<IntKind.i64.wrap ((qg a0:Int)-a1) then 10 else IntKind.i64.wrap ((qg a0:Int)-a1)))),0,0,rfl,rfl,rfl,rfl,rfl,h⟩ .s ?_;rintro m L τ ⟨p12,q12,x9,x8,rfl,rfl,rfl,hE12,hi12,h⟩
 rcases q12 with _|⟨y12,q12⟩
 · have hz12:=yN hE12 hi12;simp only[xY.l12] at h
   refine rg tok [1,7,27,28,29,30] fun K hK=>?_
   simp only[go_sem,qf,qb,qa,qc,qe,qd,reduceIte,reduceCtorEq,zn,hz12];apply hK
   refine zd fun Z13 hZ13=>?_
   refine zo rfl ?_;apply zI;apply hZ5
   refine rg tok [4,5,6] fun K hK=>?_
   simp only[go_sem,qf,qb,qa,qc,qe,qd,reduceIte,reduceCtorEq,hz12];apply hK
   cases h;exact rtA
 obtain⟨hz12,hw12,hx12,hE'12,hi'12⟩:=yo hE12 hi12 hb12;simp only[xY.l12] at h
 refine rg tok [1,7,27,28,29,30] fun K hK=>?_
 simp only[go_sem,qf,qb,qa,qc,qe,qd,reduceIte,reduceCtorEq,zn,hz12,hw12];apply hK
 refine zd fun Z14 hZ14=>?_
 refine zu rfl ?_;apply zf;apply hZ14
 refine zd fun Z15 hZ15=>?_
 apply zg;have f16:=E48.idxS hx12;have f17:=E48.fldS0 (f:=5) rfl rfl hx12
 refine rg tok [1,7,8,9,27,28,29] fun K hK=>?_
 simp only[go_sem,qf,qb,qa,qc,qe,qd,reduceIte,reduceCtorEq,encB,hz12,hw12,f16,f17];apply hK
 refine zd fun Z18 hZ18=>?_
 refine rc [1,7,8,9,27,28,29,39] fun K hK=>?_
 refine za tok 3 ?_;simp only[go_sem,qf,qb,qa,qc,qe,qd,reduceIte,reduceCtorEq,zn,hz12,hw12];refine zl 3 (fun L τ=>L=[(1,.int .i64 a1),(7,.int .u64 x8),(8,.int .i64 x9),(9,.int .u8 (y12.toNat:Int)),(27,.ds true (qh encB (X9 a0 a1 (IntKind.i64.wrap (a1+(if 10<IntKind.i64.wrap ((qg a0:Int)-a1) then 10 else IntKind.i64.wrap ((qg a0:Int)-a1)))))) (qg (X9 a0 a1 (IntKind.i64.wrap (a1+(if 10<IntKind.i64.wrap ((qg a0:Int)-a1) then 10 else IntKind.i64.wrap ((qg a0:Int)-a1)))))) false),(28,.int .i64 (qg (X9 a0 a1 (IntKind.i64.wrap (a1+(if 10<IntKind.i64.wrap ((qg a0:Int)-a1) then 10 else IntKind.i64.wrap ((qg a0:Int)-a1))))):Int)),(29,.int .i64 x9),(39,.bool ((decide (x9=9))&&(decide (1<(y12.toNat:Int)))))]∧τ=[]) ?_ ?_
 · refine yQ 36 rfl (fun hg36=>?_) (fun hg36=>?_)
   · have t19:=eq_true hg36;refine za tok 3 ?_;simp only[go_sem,qf,qb,qa,qc,qe,qd,reduceIte,reduceCtorEq,zn,hz12,hw12];refine ze ⟨rfl,_,_,⟨rfl,rfl⟩,.p t19⟩
   have t20:=eq_false hg36;refine za tok 3 ?_;simp only[go_sem,qf,qb,qa,qc,qe,qd,reduceIte,reduceCtorEq,zn,hz12,hw12];refine ze ⟨rfl,_,_,⟨rfl,rfl⟩,.p t20⟩
 rintro _ _ ⟨rfl,rfl⟩;refine nkN hK ?_;refine zs (b:=((decide (x9=9))&&(decide (1<(y12.toNat:Int))))) rfl (fun hc21=>?_) (fun hc21=>?_)
 · rw[if_pos hc21] at h
   refine rg tok [4,5,6] fun K hK=>?_
   simp only[go_sem,qf,qb,qa,qc,qe,qd,reduceIte,reduceCtorEq,hz12,hw12];apply hK
   cases h;exact rtA
 rw[xI hc21] at h;apply zf;apply hZ18;have f22:=xS (T:=tab) (src:=5) (dst:=287) rfl rfl rfl;obtain⟨_u23,hu23,h⟩:=bind_some h;have gu23:=wO hu23;have gu23n:(IntKind.i64.wrap (7*x9)<0)=False:=eq_false (by omega)
 refine rg tok [1,7,8,9,27,28,29] fun K hK=>?_
 simp only[go_sem,qf,qb,qa,qc,qe,qd,reduceIte,reduceCtorEq,zn,hz12,hw12,f22,gu23n,Ya,Int.reduceLT];apply hK
 refine zd fun Z24 hZ24=>?_
 refine rg tok [1,7,8,9,27,28,29,49] fun K hK=>?_
 simp only[go_sem,qf,qb,qa,qc,qe,qd,reduceIte,reduceCtorEq,zn,hz12,hw12];apply hK
 refine zM rfl (fun hc25=>?_) (fun hc25=>?_)
 · rw[if_pos hc25] at h;have t26:=eq_true hc25;apply zI;apply hZ15
   refine rgE tok [1,7,27,28,29] fun K hK=>?_
   simp only[go_sem,qf,qb,qa,qc,qe,qd,reduceIte,reduceCtorEq,zn,hz12,hw12,t26];apply hK
   exact⟨_,_,_,qE q12.length,⟨p12++[y12],q12,x9+1,IntKind.u64.wrap ((uf (qN 64 x8 ||| qN 64 (IntKind.u64.wrap ((IntKind.u64.wrap (IntKind.u8.wrap ((uf (qN 8 (y12.toNat:Int) &&& ~~~(qN 8 128)):Nat):Int)))*2^(min (qP (IntKind.i64.wrap (7*x9))) 64)))):Nat):Int),rfl,rfl,rfl,hE'12,hi'12,h⟩,.s⟩
 rw[if_neg hc25] at h;have t27:=eq_false hc25;apply zf;apply hZ24
 refine zd fun Z28 hZ28=>?_
 refine rc [1,7,8,55] fun K hK=>?_
 refine za tok 3 ?_;simp only[go_sem,qf,qb,qa,qc,qe,qd,reduceIte,reduceCtorEq,zn,hz12,hw12,t27];refine zl 3 (fun L τ=>L=[(1,.int .i64 a1),(7,.int .u64 (IntKind.u64.wrap ((uf (qN 64 x8 ||| qN 64 (IntKind.u64.wrap ((IntKind.u64.wrap (IntKind.u8.wrap ((uf (qN 8 (y12.toNat:Int) &&& ~~~(qN 8 128)):Nat):Int)))*2^(min (qP (IntKind.i64.wrap (7*x9))) 64)))):Nat):Int))),(8,.int .i64 x9),(55,.bool ((decide ((y12.toNat:Int)=0))&&(decide (0<x9))))]∧τ=[]) ?_ ?_
 · refine yQ 52 rfl (fun hg52=>?_) (fun hg52=>?_)
   · have t29:=eq_true hg52;refine za tok 3 ?_;simp only[go_sem,qf,qb,qa,qc,qe,qd,reduceIte,reduceCtorEq,zn,hz12,hw12,t27];refine ze ⟨rfl,_,_,⟨rfl,rfl⟩,.p t29⟩
   have t30:=eq_false hg52;refine za tok 3 ?_;simp only[go_sem,qf,qb,qa,qc,qe,qd,reduceIte,reduceCtorEq,zn,hz12,hw12,t27];refine ze ⟨rfl,_,_,⟨rfl,rfl⟩,.p t30⟩
 rintro _ _ ⟨rfl,rfl⟩;refine nkN hK ?_;refine zs (b:=((decide ((y12.toNat:Int)=0))&&(decide (0<x9)))) rfl (fun hc31=>?_) (fun hc31=>?_)
 · rw[if_pos hc31] at h
   refine rg tok [4,5,6] fun K hK=>?_
   simp only[go_sem,qf,qb,qa,qc,qe,qd,reduceIte,reduceCtorEq,hz12,hw12,t27];apply hK
   cases h;exact rtA
 rw[xI hc31] at h;apply zf;apply hZ28
 refine rg tok [4,5,6] fun K hK=>?_
 simp only[go_sem,qf,qb,qa,qc,qe,qd,reduceIte,reduceCtorEq,zn,hz12,hw12,t27];apply hK
 cases h;exact rtA
theorem xY.ev (a0:List UInt8)(a1:Int)(r:Int×Int×Int)(h:xY a0 a1=some r)(σ:Store):ACalls qi 245 [.ds true (qh encB a0) (qg a0) false,.int .i64 a1] σ (fun r' σ'=>r'=.tup [.int .u64 r.1,.int .i64 r.2.1,.int .i64 r.2.2]∧σ'=σ):=
 (xY.ok a0 a1 r h).c σ
def ZR (a0:Int):Int:=
 IntKind.i64.wrap ((uf (qN 64 (IntKind.i64.wrap (Int.fdiv a0 (2^(min (qP 1) 64)))) ^^^ qN 64 (IntKind.i64.wrap (0-(IntKind.i64.wrap (IntKind.u64.wrap ((uf (qN 64 a0 &&& qN 64 1):Nat):Int)))))):Nat):Int)
theorem ZR.ok (a0:Int)(r:Int)(h:ZR a0=r):ACalls qi 246 [.int .u64 a0] [] (fun r' _=>r'=.int .i64 r):=by
 refine zj (rs:=[.tmp 2]) tok Tryz.func246 rfl Tryz.ntmps246 rfl Tryz.call246 (by simp) ?_;refine zm [(0,.int .u64 a0)] ⟨rfl,trivial⟩ ?_;unfold ZR at h;refine rgN [0] ?_;have f1:=xS (T:=tab) (src:=287) (dst:=3) rfl rfl rfl;have f2:=xS (T:=tab) (src:=287) (dst:=3) rfl rfl rfl
 refine rg tok [2] fun K hK=>?_
 simp only[go_sem,qf,qb,qa,qc,qe,qd,reduceIte,reduceCtorEq,zn,f1,f2,Ya,Int.reduceLT];apply hK
 cases h;exact rtA
theorem ZR.ev (a0:Int)(r:Int)(h:ZR a0=r)(σ:Store):ACalls qi 246 [.int .u64 a0] σ (fun r' σ'=>r'=.int .i64 r∧σ'=σ):=
 (ZR.ok a0 r h).c σ
def ZO (a0:List UInt8)(a1:Int):Option (GRaw×Int×Int):=
 (xY a0 a1).bind fun r1=>(if r1.2.2=0 then (if ((decide (r1.1<2))||(decide (500<IntKind.u64.wrap ((r1.1).tdiv 2))))=true then some ((⟨0,0,0,[]⟩:GRaw),0,7) else (xY a0 r1.2.1).bind fun r11=>(if r11.2.2=0 then (if IntKind.i64.wrap ((r1.1).tmod 2)=0 then bnd (ZR r11.1) fun r18=>some ((⟨IntKind.i64.wrap (IntKind.u64.wrap ((r1.1).tdiv 2)),IntKind.i64.wrap ((r1.1).tmod 2),r18,[]⟩:GRaw),r11.2.1,0) else (if IntKind.u64.wrap (IntKind.i64.wrap ((qg a0:Int)-r11.2.1))<r11.1 then some ((⟨0,0,0,[]⟩:GRaw),0,2) else (grd ((0:Int)≤r11.2.1∧r11.2.1≤IntKind.i64.wrap (r11.2.1+(IntKind.i64.wrap r11.1))∧IntKind.i64.wrap (r11.2.1+(IntKind.i64.wrap r11.1))≤(qg a0:Int))).bind fun _u25=>some ((⟨IntKind.i64.wrap (IntKind.u64.wrap ((r1.1).tdiv 2)),IntKind.i64.wrap ((r1.1).tmod 2),0,X9 a0 r11.2.1 (IntKind.i64.wrap (r11.2.1+(IntKind.i64.wrap r11.1)))⟩:GRaw),IntKind.i64.wrap (r11.2.1+(IntKind.i64.wrap r11.1)),0))) else some ((⟨0,0,0,[]⟩:GRaw),0,r11.2.2))) else some ((⟨0,0,0,[]⟩:GRaw),0,r1.2.2))
theorem ZO.ok (a0:List UInt8)(a1:Int)(r:GRaw×Int×Int)(h:ZO a0 a1=some r):ACalls qi 231 [.ds true (qh encB a0) (qg a0) false,.int .i64 a1] [] (fun r' _=>r'=.tup [.agg (encGRaw r.1),.int .i64 r.2.1,.int .i64 r.2.2]):=by
 refine zj (rs:=[.cell 4 139,.tmp 5,.tmp 6]) tok Tryz.func231 rfl Tryz.ntmps231 rfl Tryz.call231 (by simp) ?_;refine zm [(0,.ds true (qh encB a0) (qg a0) false),(1,.int .i64 a1)] ⟨rfl,rfl,trivial⟩ ?_;unfold ZO at h;refine rgN [0,1,4] ?_
 refine rc [0,1,4,7,8] fun K hK=>?_
 obtain⟨r1,hr1,h⟩:=bind_some h;refine rnN 2 ?_;refine clN rfl rfl rfl (xY.ev a0 a1 r1 hr1 _) ?_;refine rnN 7 ?_;refine nkN hK ?_
 refine zd fun Z2 hZ2=>?_
 apply zg
 refine rg tok [0,1,4,7,8,19] fun K hK=>?_
 simp only[go_sem,qf,qb,qa,qc,qe,qd,reduceIte,reduceCtorEq,zn];apply hK
 refine zM rfl (fun hc3=>?_) (fun hc3=>?_)
 · rw[if_neg hc3] at h;have t4:=eq_false hc3
   refine rg tok [4,5,6] fun K hK=>?_
   simp only[go_sem,qf,qb,qa,qc,qe,qd,reduceIte,reduceCtorEq,encGRaw,t4];apply hK
   cases h;exact rtA
 rw[if_pos hc3] at h;have t5:=eq_true hc3
 refine rc [0,1,4,7,24] fun K hK=>?_
 refine za tok 3 ?_;simp only[go_sem,qf,qb,qa,qc,qe,qd,reduceIte,reduceCtorEq,zn,t5];refine zl 4 (fun L τ=>L=[(0,.ds true (qh encB a0) (qg a0) false),(1,.int .i64 r1.2.1),(4,.op 0 0 0),(7,.int .u64 r1.1),(31,.bool ((decide (r1.1<2))||(decide (500<IntKind.u64.wrap ((r1.1).tdiv 2)))))]∧τ=[.cells 0 [.int .i64 0,.int .i64 0,.int .i64 0,.str []]]) ?_ ?_
 · refine yQ 27 rfl (fun hg27=>?_) (fun hg27=>?_)
   · have t6:=eq_true hg27;refine za tok 4 ?_;simp only[go_sem,qf,qb,qa,qc,qe,qd,reduceIte,reduceCtorEq,zn,t5];refine ze ⟨rfl,_,_,⟨rfl,rfl⟩,.p t6⟩
   have t7:=eq_false hg27;refine za tok 4 ?_;simp only[go_sem,qf,qb,qa,qc,qe,qd,reduceIte,reduceCtorEq,zn,t5,Int.reduceEq];refine ze ⟨rfl,_,_,⟨rfl,rfl⟩,.p t7⟩
 rintro _ _ ⟨rfl,rfl⟩;refine za tok 1 ?_;simp only[go_sem,qf,qb,qa,qc,qe,qd,reduceIte,reduceCtorEq,t5];refine nkN hK ?_;refine zs (b:=((decide (r1.1<2))||(decide (500<IntKind.u64.wrap ((r1.1).tdiv 2))))) rfl (fun hc8=>?_) (fun hc8=>?_)
 · rw[if_pos hc8] at h
   refine rg tok [4,5,6] fun K hK=>?_
   simp only[go_sem,qf,qb,qa,qc,qe,qd,reduceIte,reduceCtorEq,encGRaw,t5];apply hK
   cases h;exact rtA
 rw[xI hc8] at h;apply zf;apply hZ2;have f9:=xS (T:=tab) (src:=287) (dst:=3) rfl rfl rfl;have f10:=xS (T:=tab) (src:=287) (dst:=3) rfl rfl rfl
 refine rg tok [0,1,4,9] fun K hK=>?_
 simp only[go_sem,qf,qb,qa,qc,qe,qd,reduceIte,reduceCtorEq,zn,encGRaw,t5,f9,f10,Int.reduceEq];apply hK
 refine rc [0,1,4,8,9,10] fun K hK=>?_
 obtain⟨r11,hr11,h⟩:=bind_some h;refine za tok 2 ?_;simp only[go_sem,qf,qb,qa,qc,qe,qd,reduceIte,reduceCtorEq,t5];refine clN rfl rfl rfl (xY.ev a0 r1.2.1 r11 hr11 _) ?_;refine za tok 7 ?_;simp only[go_sem,qf,qb,qa,qc,qe,qd,reduceIte,reduceCtorEq,t5];refine nkN hK ?_
 refine zd fun Z12 hZ12=>?_
 apply zg
 refine rg tok [0,1,4,8,9,10,47] fun K hK=>?_
 simp only[go_sem,qf,qb,qa,qc,qe,qd,reduceIte,reduceCtorEq,zn,t5];apply hK
 refine zM rfl (fun hc13=>?_) (fun hc13=>?_)
 · rw[if_neg hc13] at h;have t14:=eq_false hc13
   refine rg tok [4,5,6] fun K hK=>?_
   simp only[go_sem,qf,qb,qa,qc,qe,qd,reduceIte,reduceCtorEq,encGRaw,t5,t14];apply hK
   cases h;exact rtA
 rw[if_pos hc13] at h;have t15:=eq_true hc13
 refine rg tok [0,1,4,9,10,52] fun K hK=>?_
 simp only[go_sem,qf,qb,qa,qc,qe,qd,reduceIte,reduceCtorEq,zn,t5,t15];apply hK
 refine zM rfl (fun hc16=>?_) (fun hc16=>?_)
 · rw[if_pos hc16] at h;have t17:=eq_true hc16
   refine rc [1,4,9] fun K hK=>?_
   obtain⟨r18,hr18,h⟩:=zB h;refine za tok 1 ?_;simp only[go_sem,qf,qb,qa,qc,qe,qd,reduceIte,reduceCtorEq,t5,t15,t17];refine clN rfl rfl rfl (ZR.ev r11.1 r18 hr18 _) ?_;refine za tok 2 ?_;simp only[go_sem,qf,qb,qa,qc,qe,qd,reduceIte,reduceCtorEq,encGRaw,t5,t15,t17];refine nkN hK ?_
   refine rg tok [4,5,6] fun K hK=>?_
   simp only[go_sem,qf,qb,qa,qc,qe,qd,reduceIte,reduceCtorEq,encGRaw,t5,t15,t17];apply hK
   cases h;exact rtA
 rw[if_neg hc16] at h;have t19:=eq_false hc16;have f20:=xS (T:=tab) (src:=3) (dst:=287) rfl rfl rfl
 refine rg tok [0,1,4,9,10,61] fun K hK=>?_
 simp only[go_sem,qf,qb,qa,qc,qe,qd,reduceIte,reduceCtorEq,zn,t5,t15,t19,f20];apply hK
 refine zM rfl (fun hc21=>?_) (fun hc21=>?_)
 · rw[if_pos hc21] at h;have t22:=eq_true hc21
   refine rg tok [4,5,6] fun K hK=>?_
   simp only[go_sem,qf,qb,qa,qc,qe,qd,reduceIte,reduceCtorEq,encGRaw,t5,t15,t19,t22];apply hK
   cases h;exact rtA
 rw[if_neg hc21] at h;have t23:=eq_false hc21;apply zf;apply hZ12;have f24:=xS (T:=tab) (src:=287) (dst:=3) rfl rfl rfl
 refine rg tok [0,1,4,9,11] fun K hK=>?_
 simp only[go_sem,qf,qb,qa,qc,qe,qd,reduceIte,reduceCtorEq,zn,t5,t15,t19,t23,f24];apply hK
 obtain⟨_u25,hu25,h⟩:=bind_some h;have gu25:=wO hu25;have f26:=E48.sl_lh gu25;have f27:=conv_b2s (T:=tab) (src:=48) (dst:=9) rfl rfl rfl rfl rfl rfl (X9 a0 r11.2.1 (IntKind.i64.wrap (r11.2.1+(IntKind.i64.wrap r11.1))))
 refine rg tok [4,9,11] fun K hK=>?_
 simp only[go_sem,qf,qb,qa,qc,qe,qd,reduceIte,reduceCtorEq,encGRaw,t5,t15,t19,t23,f26,f27];apply hK
 refine rg tok [4,5,6] fun K hK=>?_
 simp only[go_sem,qf,qb,qa,qc,qe,qd,reduceIte,reduceCtorEq,encGRaw,t5,t15,t19,t23];apply hK
 cases h;exact rtA
theorem ZO.ev (a0:List UInt8)(a1:Int)(r:GRaw×Int×Int)(h:ZO a0 a1=some r)(σ:Store):ACalls qi 231 [.ds true (qh encB a0) (qg a0) false,.int .i64 a1] σ (fun r' σ'=>r'=.tup [.agg (encGRaw r.1),.int .i64 r.2.1,.int .i64 r.2.2]∧σ'=σ):=
 (ZO.ok a0 a1 r h).c σ
def wK.l12 (a0:List UInt8):Nat→List GRaw→Int→Option (List GRaw×Int)
 |0,_,_=>none
 |k12+1,l6,x8=>(if x8<(qg a0:Int) then (ZO a0 x8).bind fun r16=>(if r16.2.2=0 then (Xj (qg l6+1) 40).bind fun _u21=>((wK.l12 a0 k12) (l6++[r16.1]) r16.2.1) else some (([]:List GRaw),r16.2.2)) else some (l6,0))
def wK (a0:List UInt8):Option (List GRaw×Int):=
 (if 4096<(qg a0:Int) then some (([]:List GRaw),4) else (wK.l12 a0 xl ([]:List GRaw) 0))
theorem wK.ok (a0:List UInt8)(r:List GRaw×Int)(h:wK a0=some r):ACalls qi 193 [.ds true (qh encB a0) (qg a0) false] [] (fun r' _=>r'=.tup [.ds true (qh encGRaw r.1) (qg r.1) false,.int .i64 r.2]):=by
 refine zj (rs:=[.tmp 2,.tmp 3]) tok Tryz.func193 rfl Tryz.ntmps193 rfl Tryz.call193 (by simp) ?_;refine zm [(0,.ds true (qh encB a0) (qg a0) false)] ⟨rfl,trivial⟩ ?_;unfold wK at h;refine rgN [0] ?_
 refine zd fun Z1 hZ1=>?_
 refine rg tok [0,11] fun K hK=>?_
 simp only[go_sem,qf,qb,qa,qc,qe,qd,reduceIte,reduceCtorEq,zn];apply hK
 refine zM rfl (fun hc2=>?_) (fun hc2=>?_)
 · rw[if_pos hc2] at h;have t3:=eq_true hc2
   refine rg tok [2,3] fun K hK=>?_
   simp only[go_sem,qf,qb,qa,qc,qe,qd,reduceIte,reduceCtorEq,t3];apply hK
   cases h;exact rtA
 rw[if_neg hc2] at h;have t4:=eq_false hc2;apply zf;apply hZ1
 refine rg tok [0,4] fun K hK=>?_
 simp only[go_sem,qf,qb,qa,qc,qe,qd,reduceIte,reduceCtorEq,t4];apply hK
 refine Yq 4 4 rfl ?_;refine yB (L:=[(0,.ds true (qh encB a0) (qg a0) false),(4,.os true 4 0 0 0 (qg ([]:List GRaw)) false)]) (τ:=[.cells 0 (qh encGRaw ([]:List GRaw))]) .s ?_
 refine zd fun Z5 hZ5=>?_
 refine rg tok [0,4,5] fun K hK=>?_
 simp only[go_sem,qf,qb,qa,qc,qe,qd,reduceIte,reduceCtorEq,t4];apply hK
 apply zg;refine zP (fun m L τ=>∃ (k12:Nat) (l6:List GRaw) (x8:Int) (v7:Nat),m=0+k12∧L=[(0,.ds true (qh encB a0) (qg a0) false),(4,.os true 4 0 v7 0 (qg l6) false),(5,.int .i64 x8)]∧τ=[.cells v7 (qh encGRaw l6)]∧wK.l12 a0 k12 l6 x8=some r) _ ⟨xl,([]:List GRaw),0,0,rfl,rfl,rfl,h⟩ .s ?_;rintro m L τ ⟨k12,l6,x8,v7,rfl,rfl,rfl,h⟩
 rcases k12 with _|k12
 · cases h
 simp only[wK.l12] at h
 refine zd fun Z13 hZ13=>?_
 refine rg tok [0,4,5,15] fun K hK=>?_
 simp only[go_sem,qf,qb,qa,qc,qe,qd,reduceIte,reduceCtorEq,zn,t4];apply hK
 refine zM rfl (fun hc14=>?_) (fun hc14=>?_)
 · rw[if_pos hc14] at h;have t15:=eq_true hc14;apply zf;apply hZ13;apply zg
   refine rc [0,4,6,7,8] fun K hK=>?_
   obtain⟨r16,hr16,h⟩:=bind_some h;refine za tok 2 ?_;simp only[go_sem,qf,qb,qa,qc,qe,qd,reduceIte,reduceCtorEq,t4,t15];refine clN rfl rfl rfl (ZO.ev a0 x8 r16 hr16 _) ?_;refine za tok 8 ?_;simp only[go_sem,qf,qb,qa,qc,qe,qd,reduceIte,reduceCtorEq,encGRaw,t4,t15];refine nkN hK ?_
   refine zd fun Z17 hZ17=>?_
   refine rg tok [0,4,6,7,8,24] fun K hK=>?_
   simp only[go_sem,qf,qb,qa,qc,qe,qd,reduceIte,reduceCtorEq,zn,t4,t15];apply hK
   refine zM rfl (fun hc18=>?_) (fun hc18=>?_)
   · rw[if_neg hc18] at h;have t19:=eq_false hc18
     refine rg tok [2,3] fun K hK=>?_
     simp only[go_sem,qf,qb,qa,qc,qe,qd,reduceIte,reduceCtorEq,t4,t15,t19];apply hK
     cases h;exact rtA
   rw[if_pos hc18] at h;have t20:=eq_true hc18;apply zf;apply hZ17;obtain⟨_u21,hu21,h⟩:=bind_some h;have gu21:=yI hu21;have f22:=(zE E35.len l6)
   refine rg tok [0,4,7] fun K hK=>?_
   simp only[go_sem,qf,qb,qa,qc,qe,qd,reduceIte,reduceCtorEq,zL,zX,qY,qS,qX,true_and,q3,yv,yb,yx,encGRaw,t4,t15,t20,gu21,f22,yu,qV,qT,AV.one,qG,qm,gt_iff_lt,zF,qA,qB,qL,qF,qJ,qw,qx,qz,ql,qD,qH];apply hK
   refine yB (L:=[(0,.ds true (qh encB a0) (qg a0) false),(4,.os true 4 0 (v7+1) 0 (qg (l6++[r16.1])) false),(7,.int .i64 r16.2.1)]) (τ:=[.cells (v7+1) (qh encGRaw (l6++[r16.1])),.cells 0 [.int .i64 r16.1.fTag,.int .i64 r16.1.fWire,.int .i64 r16.1.fN,.str r16.1.fB],.cells 0 [.int .i64 r16.1.fTag,.int .i64 r16.1.fWire,.int .i64 r16.1.fN,.str r16.1.fB]]) .s ?_
   refine rgE tok [0,4,5] fun K hK=>?_
   simp only[go_sem,qf,qb,qa,qc,qe,qd,reduceIte,reduceCtorEq,t4,t15,t20];apply hK
   exact⟨_,_,_,qE (0+k12),⟨k12,l6++[r16.1],r16.2.1,v7+1,rfl,rfl,rfl,h⟩,(.t [0] false)⟩
 rw[if_neg hc14] at h;have t23:=eq_false hc14;apply zI;apply hZ5
 refine rg tok [2,3] fun K hK=>?_
 simp only[go_sem,qf,qb,qa,qc,qe,qd,reduceIte,reduceCtorEq,t4,t23];apply hK
 cases h;exact rtA
theorem wK.ev (a0:List UInt8)(r:List GRaw×Int)(h:wK a0=some r)(σ:Store):ACalls qi 193 [.ds true (qh encB a0) (qg a0) false] σ (fun r' σ'=>r'=.tup [.ds true (qh encGRaw r.1) (qg r.1) false,.int .i64 r.2]∧σ'=σ):=
 (wK.ok a0 r h).c σ
def xO (a0:GEntry)(a1:Int):Int:=
 IntKind.i64.wrap (a0.fTag-a1)
theorem xO.ok (a0:GEntry)(a1:Int)(r:Int)(h:xO a0 a1=r):ACalls qi 233 [.agg (cellsGEntry a0),.int .i64 a1] [] (fun r' _=>r'=.int .i64 r):=by
 refine zj (rs:=[.tmp 4]) tok Tryz.func233 rfl Tryz.ntmps233 rfl Tryz.call233 (by simp) ?_;refine zm [(0,.agg (cellsGEntry a0)),(1,.int .i64 a1)] ⟨rfl,rfl,trivial⟩ ?_;unfold xO at h
 refine rg tok [1,2] fun K hK=>?_
 simp only[go_sem,qf,qb,qa,qc,qe,qd,reduceIte,reduceCtorEq,cellsGEntry,zN];apply hK
 refine rg tok [4] fun K hK=>?_
 simp only[go_sem,qf,qb,qa,qc,qe,qd,reduceIte,reduceCtorEq,zn];apply hK
 cases h;exact rtA
theorem xO.ev (a0:GEntry)(a1:Int)(r:Int)(h:xO a0 a1=r)(σ:Store):ACalls qi 233 [.agg (cellsGEntry a0),.int .i64 a1] σ (fun r' σ'=>r'=.int .i64 r∧σ'=σ):=
 (xO.ok a0 a1 r h).c σ
def zr.l6 (a0:List GEntry)(a1:Int):Nat→Int→Int→Option (Int×Bool)
 |0,_,_=>none
 |k6+1,x2,x3=>(if x2<x3 then (YD a0 (IntKind.i64.wrap (Int.fdiv (IntKind.u64.wrap (IntKind.i64.wrap (x2+x3))) (2^(min (qP 1) 64))))).bind fun y12=>bnd (xO y12 a1) fun r15=>(if r15<0 then ((zr.l6 a0 a1 k6) (IntKind.i64.wrap ((IntKind.i64.wrap (Int.fdiv (IntKind.u64.wrap (IntKind.i64.wrap (x2+x3))) (2^(min (qP 1) 64))))+1)) x3) else ((zr.l6 a0 a1 k6) x2 (IntKind.i64.wrap (Int.fdiv (IntKind.u64.wrap (IntKind.i64.wrap (x2+x3))) (2^(min (qP 1) 64)))))) else (if x2<(qg a0:Int) then (YD a0 x2).bind fun y20=>bnd (xO y20 a1) fun r23=>some (decide (r23=0)) else some false).bind fun c20=>some (x2,c20))
def zr (a0:List GEntry)(a1:Int):Option (Int×Bool):=
 (zr.l6 a0 a1 xl 0 (qg a0:Int))
theorem zr.ok (a0:List GEntry)(a1:Int)(r:Int×Bool)(h:zr a0 a1=some r):ACalls qi 232 [.ds true (qh encGEntry a0) (qg a0) false,.int .i64 a1,.fn (.func 233) [] []] [] (fun r' _=>r'=.tup [.int .i64 r.1,.bool r.2]):=by
 refine zj (rs:=[.tmp 6,.tmp 7]) tok Tryz.func232 rfl Tryz.ntmps232 rfl Tryz.call232 (by simp) ?_;refine zm [(0,.ds true (qh encGEntry a0) (qg a0) false),(1,.int .i64 a1),(2,.fn (.func 233) [] [])] ⟨rfl,rfl,rfl,trivial⟩ ?_;unfold zr at h;refine rgN [0,1,2] ?_;refine rgN [0,1,2,8] ?_;refine rgN [0,1,2,8,9,10] ?_
 refine zd fun Z1 hZ1=>?_
 apply zg;refine zP (fun m L τ=>∃ (k6:Nat) (x2:Int) (x3:Int),m=0+k6∧L=[(0,.ds true (qh encGEntry a0) (qg a0) false),(1,.int .i64 a1),(2,.fn (.func 233) [] []),(8,.int .i64 (qg a0:Int)),(9,.int .i64 x2),(10,.int .i64 x3)]∧τ=[]∧zr.l6 a0 a1 k6 x2 x3=some r) _ ⟨xl,0,(qg a0:Int),rfl,rfl,rfl,h⟩ .s ?_;rintro m L τ ⟨k6,x2,x3,rfl,rfl,rfl,h⟩
 rcases k6 with _|k6
 · cases h
 simp only[zr.l6] at h
 refine zd fun Z7 hZ7=>?_
 refine rg tok [0,1,2,8,9,10,17] fun K hK=>?_
 simp only[go_sem,qf,qb,qa,qc,qe,qd,reduceIte,reduceCtorEq,zn];apply hK
 refine zM rfl (fun hc8=>?_) (fun hc8=>?_)
 · rw[if_pos hc8] at h;have t9:=eq_true hc8;apply zf;apply hZ7;apply zg;have f10:=xS (T:=tab) (src:=3) (dst:=100) rfl rfl rfl;have f11:=xS (T:=tab) (src:=100) (dst:=3) rfl rfl rfl
   refine rg tok [0,1,2,8,9,10,11] fun K hK=>?_
   simp only[go_sem,qf,qb,qa,qc,qe,qd,reduceIte,reduceCtorEq,zn,t9,f10,f11,Ya,Int.reduceLT];apply hK
   refine rc [0,1,2,8,9,10,11,31] fun K hK=>?_
   obtain⟨y12,hy12,h⟩:=bind_some h;have f13:=E34.idxS hy12;have f14:=E34.loadS rfl rfl hy12;obtain⟨r15,hr15,h⟩:=zB h;refine za tok 6 ?_;simp only[go_sem,qf,qb,qa,qc,qe,qd,reduceIte,reduceCtorEq,cellsGEntry,zN,t9,f13,f14];refine clN rfl rfl rfl (xO.ev y12 a1 r15 hr15 _) ?_;refine za tok 1 ?_;simp only[go_sem,qf,qb,qa,qc,qe,qd,reduceIte,reduceCtorEq,zn,cellsGEntry,zN,t9];refine nkN hK ?_;refine zM rfl (fun hc16=>?_) (fun hc16=>?_)
   · rw[if_pos hc16] at h;have t17:=eq_true hc16
     refine rgE tok [0,1,2,8,9,10] fun K hK=>?_
     simp only[go_sem,qf,qb,qa,qc,qe,qd,reduceIte,reduceCtorEq,zn,t9,t17];apply hK
     exact⟨_,_,_,qE (0+k6),⟨k6,IntKind.i64.wrap ((IntKind.i64.wrap (Int.fdiv (IntKind.u64.wrap (IntKind.i64.wrap (x2+x3))) (2^(min (qP 1) 64))))+1),x3,rfl,rfl,rfl,h⟩,.s⟩
   rw[if_neg hc16] at h;have t18:=eq_false hc16
   refine rgE tok [0,1,2,8,9,10] fun K hK=>?_
   simp only[go_sem,qf,qb,qa,qc,qe,qd,reduceIte,reduceCtorEq,t9,t18];apply hK
   exact⟨_,_,_,qE (0+k6),⟨k6,x2,IntKind.i64.wrap (Int.fdiv (IntKind.u64.wrap (IntKind.i64.wrap (x2+x3))) (2^(min (qP 1) 64))),rfl,rfl,rfl,h⟩,.s⟩
 rw[if_neg hc8] at h;have t19:=eq_false hc8;apply zI;apply hZ1
 refine rc [6,7] fun K hK=>?_
 refine za tok 5 ?_;simp only[go_sem,qf,qb,qa,qc,qe,qd,reduceIte,reduceCtorEq,zn,t19];obtain⟨c20,hc20,h⟩:=bind_some h;refine zl 9 (fun L τ=>L=[(35,.int .i64 x2),(48,.bool c20)]∧τ=[]) ?_ ?_
 · refine yQ 39 rfl (fun hg39=>?_) (fun hg39=>?_)
   · have t21:=eq_true hg39;rw[if_pos hg39] at hc20;obtain⟨y22,hy22,hc20⟩:=bind_some hc20;have f23:=E34.idxS hy22;have f24:=E34.loadS rfl rfl hy22;obtain⟨r25,hr25,hc20⟩:=zB hc20;refine za tok 6 ?_;simp only[go_sem,qf,qb,qa,qc,qe,qd,reduceIte,reduceCtorEq,cellsGEntry,zN,t19,f23,f24];refine clN rfl rfl rfl (xO.ev y22 a1 r25 hr25 _) ?_;refine za tok 2 ?_;simp only[go_sem,qf,qb,qa,qc,qe,qd,reduceIte,reduceCtorEq,zn,cellsGEntry,zN,t19];cases hc20;refine ze ⟨rfl,_,_,⟨rfl,rfl⟩,.p t21⟩
   have t26:=eq_false hg39;rw[if_neg hg39] at hc20;refine za tok 9 ?_;simp only[go_sem,qf,qb,qa,qc,qe,qd,reduceIte,reduceCtorEq,zn,cellsGEntry,zN,t19];cases hc20;refine ze ⟨rfl,_,_,⟨rfl,rfl⟩,.p t26⟩
 rintro _ _ ⟨rfl,rfl⟩;refine za tok 2 ?_;simp only[go_sem,qf,qb,qa,qc,qe,qd,reduceIte,reduceCtorEq,cellsGEntry,zN,t19];refine nkN hK ?_;cases h;exact rtA
end
section
set_option maxRecDepth 4000
set_option maxHeartbeats 1000000
open AM
def xe (a0:GEntry)(a1:GMessage):Option Bool:=
 bnd (yw a1 a0.fTag) fun r1=>(if r1.1.fLabel=1 then (YD a0.fTrees 0).bind fun y2=>bnd (wt y2) fun r5=>some r5 else some false).bind fun c2=>some c2
theorem xe.ok (a0:GEntry)(a1:GMessage)(r:Bool)(h:xe a0 a1=some r):ACalls qi 197 [.agg (cellsGEntry a0),.dp (encGMessage a1) 0] [] (fun r' _=>r'=.bool r):=by
 refine zj (rs:=[.tmp 3]) tok Tryz.func197 rfl Tryz.ntmps197 rfl Tryz.call197 (by simp) ?_;refine zm [(0,.agg (cellsGEntry a0)),(1,.dp (encGMessage a1) 0)] ⟨rfl,rfl,trivial⟩ ?_;unfold xe at h
 refine rg tok [1,2] fun K hK=>?_
 simp only[go_sem,qf,qb,qa,qc,qe,qd,reduceIte,reduceCtorEq,cellsGEntry,zN];apply hK
 refine rc [2,4] fun K hK=>?_
 obtain⟨r1,hr1,h⟩:=zB h;refine za tok 3 ?_;simp only[go_sem,qf,qb,qa,qc,qe,qd,reduceIte,reduceCtorEq,encGMessage,Ze];refine clN rfl rfl rfl (yw.ev a1 a0.fTag r1 hr1 _) ?_;refine za tok 6 ?_;simp only[go_sem,qf,qb,qa,qc,qe,qd,reduceIte,reduceCtorEq,encGField,encGMessage,encGType];refine nkN hK ?_
 refine rc [3] fun K hK=>?_
 refine za tok 4 ?_;simp only[go_sem,qf,qb,qa,qc,qe,qd,reduceIte,reduceCtorEq,zn];obtain⟨c2,hc2,h⟩:=bind_some h;refine zl 6 (fun L τ=>L=[(22,.bool c2)]∧τ=[.cells 0 (cellsGEntry a0),.cells 0 (encGField r1.1)]) ?_ ?_
 · refine yQ 16 rfl (fun hg16=>?_) (fun hg16=>?_)
   · have t3:=eq_true hg16;rw[if_pos hg16] at hc2;obtain⟨y4,hy4,hc2⟩:=bind_some hc2;have f5:=E38.idxS hy4;have f6:=E38.loadS rfl rfl hy4;obtain⟨r7,hr7,hc2⟩:=zB hc2;refine za tok 4 ?_;simp only[go_sem,qf,qb,qa,qc,qe,qd,reduceIte,reduceCtorEq,cellsGTree,zb,f5,f6];refine clN rfl rfl rfl (wt.ev y4 r7 hr7 _) ?_;refine za tok 1 ?_;simp only[go_sem,qf,qb,qa,qc,qe,qd,reduceIte,reduceCtorEq,cellsGTree,zb];cases hc2;refine ze ⟨rfl,_,_,⟨rfl,rfl⟩,.p t3⟩
   have t8:=eq_false hg16;rw[if_neg hg16] at hc2;refine za tok 6 ?_;simp only[go_sem,qf,qb,qa,qc,qe,qd,reduceIte,reduceCtorEq,cellsGTree,zb];cases hc2;refine ze ⟨rfl,_,_,⟨rfl,rfl⟩,.p t8⟩
 rintro _ _ ⟨rfl,rfl⟩;refine za tok 1 ?_;simp only[go_sem,qf,qb,qa,qc,qe,qd,reduceIte,reduceCtorEq,cellsGTree,zb];refine nkN hK ?_;cases h;exact rtA
theorem xe.ev (a0:GEntry)(a1:GMessage)(r:Bool)(h:xe a0 a1=some r)(σ:Store):ACalls qi 197 [.agg (cellsGEntry a0),.dp (encGMessage a1) 0] σ (fun r' σ'=>r'=.bool r∧σ'=σ):=
 (xe.ok a0 a1 r h).c σ
def zq.l4 (a1_0:GMessage):List GEntry→Int→Option Int
 |[],x2=>some (-1)
 |y4::q4,x2=>(xe y4 a1_0).bind fun r10=>(if r10=true then some x2 else ((zq.l4 a1_0 q4) (x2+1)))
def zq (a0:List GEntry)(a1_0:GMessage):Option Int:=
 (zq.l4 a1_0 a0 0)
theorem zq.ok (a0:List GEntry)(a1_0:GMessage)(r:Int)(h:zq a0 a1_0=some r):ACalls qi 235 [.ds true (qh encGEntry a0) (qg a0) false,.fn (.func 197) [] [.dp (encGMessage a1_0) 0]] [] (fun r' _=>r'=.int .i64 r):=by
 refine zj (rs:=[.tmp 4]) tok Tryz.func235 rfl Tryz.ntmps235 rfl Tryz.call235 (by simp) ?_;refine zm [(0,.ds true (qh encGEntry a0) (qg a0) false),(1,.fn (.func 197) [] [.dp (encGMessage a1_0) 0])] ⟨rfl,rfl,trivial⟩ ?_;unfold zq at h;refine rgN [0,1] ?_
 refine zd fun Z1 hZ1=>?_
 refine rgN [0,1,7,8] ?_;apply zg
 refine yq 0 fun hb4=>?_
 replace hb4:qg a0≤9223372036854775807:=hb4.1;refine zP (fun m L τ=>∃ (p4 q4:List GEntry) (x2:Int),m=qg q4∧L=[(0,.ds true (qh encGEntry a0) (qg a0) false),(1,.fn (.func 197) [] [.dp (encGMessage a1_0) 0]),(7,.int .i64 (qg a0:Int)),(8,.int .i64 x2)]∧τ=[]∧a0=p4++q4∧x2=(qg p4:Int)∧zq.l4 a1_0 q4 x2=some r) _ ⟨[],a0,0,rfl,rfl,rfl,rfl,rfl,h⟩ .s ?_;rintro m L τ ⟨p4,q4,x2,rfl,rfl,rfl,hE4,hi4,h⟩
 rcases q4 with _|⟨y4,q4⟩
 · have hz4:=yN hE4 hi4;simp only[zq.l4] at h
   refine rg tok [0,1,7,8,9] fun K hK=>?_
   simp only[go_sem,qf,qb,qa,qc,qe,qd,reduceIte,reduceCtorEq,zn,hz4];apply hK
   refine zd fun Z5 hZ5=>?_
   refine zo rfl ?_;apply zI;apply hZ1
   refine rg tok [4] fun K hK=>?_
   simp only[go_sem,qf,qb,qa,qc,qe,qd,reduceIte,reduceCtorEq,hz4];apply hK
   cases h;exact rtA
 obtain⟨hz4,hw4,hx4,hE'4,hi'4⟩:=yo hE4 hi4 hb4;simp only[zq.l4] at h
 refine rg tok [0,1,7,8,9] fun K hK=>?_
 simp only[go_sem,qf,qb,qa,qc,qe,qd,reduceIte,reduceCtorEq,zn,hz4,hw4];apply hK
 refine zd fun Z6 hZ6=>?_
 refine zu rfl ?_;apply zf;apply hZ6
 refine zd fun Z7 hZ7=>?_
 apply zg
 refine rg tok [0,1,5,7,8] fun K hK=>?_
 simp only[go_sem,qf,qb,qa,qc,qe,qd,reduceIte,reduceCtorEq,hz4,hw4];apply hK
 refine rc [0,1,5,7,8,16] fun K hK=>?_
 have f8:=E34.idxS hx4;have f9:=E34.loadS rfl rfl hx4;obtain⟨r10,hr10,h⟩:=bind_some h;refine za tok 5 ?_;simp only[go_sem,qf,qb,qa,qc,qe,qd,reduceIte,reduceCtorEq,cellsGEntry,zN,hz4,hw4,f8,f9];refine clN rfl rfl rfl (xe.ev y4 a1_0 r10 hr10 _) ?_;refine nkN hK ?_;refine zs (b:=r10) rfl (fun hc11=>?_) (fun hc11=>?_)
 · rw[if_pos hc11] at h
   refine rg tok [4] fun K hK=>?_
   simp only[go_sem,qf,qb,qa,qc,qe,qd,reduceIte,reduceCtorEq,hz4,hw4];apply hK
   cases h;exact rtA
 rw[xI hc11] at h;apply zf;apply hZ7
 refine rgE tok [0,1,7,8] fun K hK=>?_
 simp only[go_sem,qf,qb,qa,qc,qe,qd,reduceIte,reduceCtorEq,zn,hz4,hw4];apply hK
 exact⟨_,_,_,qE q4.length,⟨p4++[y4],q4,x2+1,rfl,rfl,rfl,hE'4,hi'4,h⟩,.s⟩
def zQ.j4 (m4_1:GTree):Option (GTree×Int):=
 some (m4_1,0)
def zQ.j6 (zy:GSchema→GMessage→(List UInt8)→Int→Option (GTree×Int))(a0:GSchema)(a1:GType)(a2:GRaw)(a3:Int)(m4_1:GTree)(x5:Bool):Option (GTree×Int):=
 (if x5=true then bnd (xN a1 a2.fN) fun r8=>(if (!r8)=true then some ((⟨0,0,[],([]:List GEntry),([]:List GRaw)⟩:GTree),11) else (zQ.j4 m4_1)) else (if a1.fKind=4 then (yY a2.fB).bind fun r12=>(if (!r12)=true then some ((⟨0,0,[],([]:List GEntry),([]:List GRaw)⟩:GTree),9) else (zQ.j4 m4_1)) else (if a1.fKind=7 then bnd (zH a0 a1.fName) fun r17=>(grd (qg a2.fB≤9223372036854775807)).bind fun _u18=>(zy a0 r17.1 a2.fB (IntKind.i64.wrap (a3+1))).bind fun r20=>some (r20.1,r20.2) else (zQ.j4 m4_1))))
def zQ.j3 (zy:GSchema→GMessage→(List UInt8)→Int→Option (GTree×Int))(a0:GSchema)(a1:GType)(a2:GRaw)(a3:Int)(m4_1:GTree):Option (GTree×Int):=
 (if a1.fKind=3 then (zQ.j6 zy a0 a1 a2 a3 m4_1 (decide (a1.fKind=3))) else (zQ.j6 zy a0 a1 a2 a3 m4_1 (decide (a1.fKind=6))))
def zQ.j26 (zy:GSchema→GMessage→(List UInt8)→Int→Option (GTree×Int))(a0:GSchema)(a1:GType)(a2:GRaw)(a3:Int)(m4_1:GTree)(x25:Bool):Option (GTree×Int):=
 (if x25=true then (if a2.fWire=1 then (zQ.j3 zy a0 a1 a2 a3 m4_1) else some ((⟨0,0,[],([]:List GEntry),([]:List GRaw)⟩:GTree),8)) else (if a2.fWire=0 then (zQ.j3 zy a0 a1 a2 a3 m4_1) else some ((⟨0,0,[],([]:List GEntry),([]:List GRaw)⟩:GTree),8)))
def zQ.j2 (zy:GSchema→GMessage→(List UInt8)→Int→Option (GTree×Int))(a0:GSchema)(a1:GType)(a2:GRaw)(a3:Int)(m4_1:GTree):Option (GTree×Int):=
 (if a1.fKind=4 then (zQ.j26 zy a0 a1 a2 a3 m4_1 (decide (a1.fKind=4))) else (if a1.fKind=5 then (zQ.j26 zy a0 a1 a2 a3 m4_1 (decide (a1.fKind=5))) else (zQ.j26 zy a0 a1 a2 a3 m4_1 (decide (a1.fKind=7)))))
def zQ.body (zy:GSchema→GMessage→(List UInt8)→Int→Option (GTree×Int))(yE:GSchema→GType→GRaw→Int→Option (GTree×Int))(a0:GSchema)(a1:GType)(a2:GRaw)(a3:Int):Option (GTree×Int):=
 (if a2.fWire=1 then (zQ.j2 zy a0 a1 a2 a3 (⟨2,0,a2.fB,([]:List GEntry),([]:List GRaw)⟩:GTree)) else (zQ.j2 zy a0 a1 a2 a3 (⟨1,a2.fN,[],([]:List GEntry),([]:List GRaw)⟩:GTree)))
theorem zQ.step (zy:GSchema→GMessage→(List UInt8)→Int→Option (GTree×Int))(yE:GSchema→GType→GRaw→Int→Option (GTree×Int))(XM:∀ (a0:GSchema) (a1:GMessage) (a2:List UInt8) (a3:Int) (r:GTree×Int),zy a0 a1 a2 a3=some r→ACalls qi 149 [.agg (encGSchema a0),.agg (encGMessage a1),.ds true (qh encB a2) (qg a2) false,.int .i64 a3] [] (fun r' _=>r'=.tup [.agg (cellsGTree r.1),.int .i64 r.2]))(Yy:∀ (a0:GSchema) (a1:GType) (a2:GRaw) (a3:Int) (r:GTree×Int),yE a0 a1 a2 a3=some r→ACalls qi 194 [.agg (encGSchema a0),.agg (encGType a1),.agg (encGRaw a2),.int .i64 a3] [] (fun r' _=>r'=.tup [.agg (cellsGTree r.1),.int .i64 r.2]))(a0:GSchema)(a1:GType)(a2:GRaw)(a3:Int)(r:GTree×Int)(h:zQ.body zy yE a0 a1 a2 a3=some r):ACalls qi 194 [.agg (encGSchema a0),.agg (encGType a1),.agg (encGRaw a2),.int .i64 a3] [] (fun r' _=>r'=.tup [.agg (cellsGTree r.1),.int .i64 r.2]):=by
 have ev_decode_message:=fun a0 a1 a2 a3 r h σ=>(XM a0 a1 a2 a3 r h).c σ
 have ev_decode_one:=fun a0 a1 a2 a3 r h σ=>(Yy a0 a1 a2 a3 r h).c σ
 refine zj (rs:=[.cell 8 37,.tmp 9]) tok Tryz.func194 rfl Tryz.ntmps194 rfl Tryz.call194 (by simp) ?_;refine zm [(0,.agg (encGSchema a0)),(1,.agg (encGType a1)),(2,.agg (encGRaw a2)),(3,.int .i64 a3)] ⟨rfl,rfl,rfl,rfl,trivial⟩ ?_;unfold zQ.body at h
 refine rg tok [3,4,5,6,8] fun K hK=>?_
 simp only[go_sem,qf,qb,qa,qc,qe,qd,reduceIte,reduceCtorEq,encGRaw,encGSchema,encGType];apply hK
 refine rg tok [3,4,5,6,8,10] fun K hK=>?_
 simp only[go_sem,qf,qb,qa,qc,qe,qd,reduceIte,reduceCtorEq,cellsGTree,zb];apply hK
 refine yR (fun L τ=>∃ (m4_1:GTree),L=[(3,.int .i64 a3),(4,.op 0 0 0),(5,.op 1 0 0),(6,.op 2 0 0),(8,.op 3 0 0),(10,.op 4 0 0)]∧τ=[.cells 0 (encGSchema a0),.cells 0 [.int .i64 a1.fKind,.str a1.fName],.cells 0 [.int .i64 a2.fTag,.int .i64 a2.fWire,.int .i64 a2.fN,.str a2.fB],.cells 0 [.int .i64 0,.int .i64 0,.str [],.ds true (qh encGEntry ([]:List GEntry)) (qg ([]:List GEntry)) false,.ds true (qh encGRaw ([]:List GRaw)) (qg ([]:List GRaw)) false],.cells 0 (cellsGTree m4_1)]∧zQ.j2 zy a0 a1 a2 a3 m4_1=some r) ?_ ?_
 · refine rg tok [3,4,5,6,8,10,18] fun K hK=>?_
   simp only[go_sem,qf,qb,qa,qc,qe,qd,reduceIte,reduceCtorEq,zn];apply hK
   refine zM rfl (fun hc40=>?_) (fun hc40=>?_)
   · rw[if_pos hc40] at h;have t41:=eq_true hc40
     refine rgE tok [3,4,5,6,8,10] fun K hK=>?_
     simp only[go_sem,qf,qb,qa,qc,qe,qd,reduceIte,reduceCtorEq,cellsGTree,zb,t41];apply hK
     exact⟨_,_,⟨(⟨2,0,a2.fB,([]:List GEntry),([]:List GRaw)⟩:GTree),rfl,rfl,h⟩,(.t [0,1,2,3,4] true)⟩
   rw[if_neg hc40] at h;have t42:=eq_false hc40;apply zf;exact⟨_,_,⟨(⟨1,a2.fN,[],([]:List GEntry),([]:List GRaw)⟩:GTree),rfl,rfl,h⟩,(.t [0,1,2,3,4] true)⟩
 rintro _ _ ⟨m4_1,rfl,rfl,h⟩;unfold zQ.j2 at h;refine yR (fun L τ=>L=[(3,.int .i64 a3),(4,.op 0 0 0),(5,.op 1 0 0),(6,.op 2 0 0),(8,.op 3 0 0),(10,.op 4 0 0)]∧τ=[.cells 0 (encGSchema a0),.cells 0 [.int .i64 a1.fKind,.str a1.fName],.cells 0 [.int .i64 a2.fTag,.int .i64 a2.fWire,.int .i64 a2.fN,.str a2.fB],.cells 0 [.int .i64 0,.int .i64 0,.str [],.ds true (qh encGEntry ([]:List GEntry)) (qg ([]:List GEntry)) false,.ds true (qh encGRaw ([]:List GRaw)) (qg ([]:List GRaw)) false],.cells 0 (cellsGTree m4_1)]∧zQ.j3 zy a0 a1 a2 a3 m4_1=some r) ?_ ?_
 · refine rgN [3,4,5,6,8,10,23] ?_;apply zg;refine yR (fun L τ=>∃ (x25:Bool),L=[(3,.int .i64 a3),(4,.op 0 0 0),(5,.op 1 0 0),(6,.op 2 0 0),(8,.op 3 0 0),(10,.op 4 0 0),(28,.bool x25)]∧τ=[.cells 0 (encGSchema a0),.cells 0 [.int .i64 a1.fKind,.str a1.fName],.cells 0 [.int .i64 a2.fTag,.int .i64 a2.fWire,.int .i64 a2.fN,.str a2.fB],.cells 0 [.int .i64 0,.int .i64 0,.str [],.ds true (qh encGEntry ([]:List GEntry)) (qg ([]:List GEntry)) false,.ds true (qh encGRaw ([]:List GRaw)) (qg ([]:List GRaw)) false],.cells 0 (cellsGTree m4_1)]∧zQ.j26 zy a0 a1 a2 a3 m4_1 x25=some r) ?_ ?_
   · refine rg tok [3,4,5,6,8,10,23,28] fun K hK=>?_
     simp only[go_sem,qf,qb,qa,qc,qe,qd,reduceIte,reduceCtorEq,zn];apply hK
     refine zM rfl (fun hc34=>?_) (fun hc34=>?_)
     · rw[if_pos hc34] at h;have t35:=eq_true hc34;apply zf;exact⟨_,_,⟨decide (a1.fKind=4),rfl,rfl,h⟩,.s⟩
     rw[if_neg hc34] at h;have t36:=eq_false hc34
     refine rg tok [3,4,5,6,8,10,23,28] fun K hK=>?_
     simp only[go_sem,qf,qb,qa,qc,qe,qd,reduceIte,reduceCtorEq,zn,t36];apply hK
     refine zM rfl (fun hc37=>?_) (fun hc37=>?_)
     · rw[if_pos hc37] at h;have t38:=eq_true hc37;apply zf;exact⟨_,_,⟨decide (a1.fKind=5),rfl,rfl,h⟩,.s⟩
     rw[if_neg hc37] at h;have t39:=eq_false hc37
     refine rgE tok [3,4,5,6,8,10,28] fun K hK=>?_
     simp only[go_sem,qf,qb,qa,qc,qe,qd,reduceIte,reduceCtorEq,zn,t36,t39];apply hK
     exact⟨_,_,⟨decide (a1.fKind=7),rfl,rfl,h⟩,.s⟩
   rintro _ _ ⟨x25,rfl,rfl,h⟩;unfold zQ.j26 at h;refine zs (b:=x25) rfl (fun hc27=>?_) (fun hc27=>?_)
   · rw[if_pos hc27] at h
     refine rg tok [3,4,5,6,8,10,34] fun K hK=>?_
     simp only[go_sem,qf,qb,qa,qc,qe,qd,reduceIte,reduceCtorEq,zn];apply hK
     refine zM rfl (fun hc28=>?_) (fun hc28=>?_)
     · rw[if_neg hc28] at h;have t29:=eq_false hc28
       refine rg tok [8,9] fun K hK=>?_
       simp only[go_sem,qf,qb,qa,qc,qe,qd,reduceIte,reduceCtorEq,cellsGTree,zb,t29];apply hK
       cases h;exact rtA
     rw[if_pos hc28] at h;have t30:=eq_true hc28;apply zf;exact⟨_,_,⟨rfl,rfl,h⟩,.s⟩
   rw[xI hc27] at h
   refine rg tok [3,4,5,6,8,10,26] fun K hK=>?_
   simp only[go_sem,qf,qb,qa,qc,qe,qd,reduceIte,reduceCtorEq,zn];apply hK
   refine zM rfl (fun hc31=>?_) (fun hc31=>?_)
   · rw[if_neg hc31] at h;have t32:=eq_false hc31
     refine rg tok [8,9] fun K hK=>?_
     simp only[go_sem,qf,qb,qa,qc,qe,qd,reduceIte,reduceCtorEq,cellsGTree,zb,t32];apply hK
     cases h;exact rtA
   rw[if_pos hc31] at h;have t33:=eq_true hc31;apply zf;exact⟨_,_,⟨rfl,rfl,h⟩,.s⟩
 rintro _ _ ⟨rfl,rfl,h⟩;unfold zQ.j3 at h;refine yR (fun L τ=>L=[(8,.op 0 0 0),(10,.op 1 0 0)]∧τ=[.cells 0 [.int .i64 0,.int .i64 0,.str [],.ds true (qh encGEntry ([]:List GEntry)) (qg ([]:List GEntry)) false,.ds true (qh encGRaw ([]:List GRaw)) (qg ([]:List GRaw)) false],.cells 0 (cellsGTree m4_1)]∧zQ.j4 m4_1=some r) ?_ ?_
 · refine rgN [3,4,5,6,8,10,37] ?_;apply zg;refine yR (fun L τ=>∃ (x5:Bool),L=[(3,.int .i64 a3),(4,.op 0 0 0),(5,.op 1 0 0),(6,.op 2 0 0),(8,.op 3 0 0),(10,.op 4 0 0),(37,.int .i64 a1.fKind),(38,.bool x5)]∧τ=[.cells 0 (encGSchema a0),.cells 0 [.int .i64 a1.fKind,.str a1.fName],.cells 0 [.int .i64 a2.fTag,.int .i64 a2.fWire,.int .i64 a2.fN,.str a2.fB],.cells 0 [.int .i64 0,.int .i64 0,.str [],.ds true (qh encGEntry ([]:List GEntry)) (qg ([]:List GEntry)) false,.ds true (qh encGRaw ([]:List GRaw)) (qg ([]:List GRaw)) false],.cells 0 (cellsGTree m4_1)]∧zQ.j6 zy a0 a1 a2 a3 m4_1 x5=some r) ?_ ?_
   · refine rg tok [3,4,5,6,8,10,37,38] fun K hK=>?_
     simp only[go_sem,qf,qb,qa,qc,qe,qd,reduceIte,reduceCtorEq,zn];apply hK
     refine zM rfl (fun hc22=>?_) (fun hc22=>?_)
     · rw[if_pos hc22] at h;have t23:=eq_true hc22;apply zf;exact⟨_,_,⟨decide (a1.fKind=3),rfl,rfl,h⟩,.s⟩
     rw[if_neg hc22] at h;have t24:=eq_false hc22
     refine rgE tok [3,4,5,6,8,10,37,38] fun K hK=>?_
     simp only[go_sem,qf,qb,qa,qc,qe,qd,reduceIte,reduceCtorEq,zn,t24];apply hK
     exact⟨_,_,⟨decide (a1.fKind=6),rfl,rfl,h⟩,.s⟩
   rintro _ _ ⟨x5,rfl,rfl,h⟩;unfold zQ.j6 at h;refine zs (b:=x5) rfl (fun hc7=>?_) (fun hc7=>?_)
   · rw[if_pos hc7] at h
     refine rc [8,10,45] fun K hK=>?_
     obtain⟨r8,hr8,h⟩:=zB h;refine za tok 3 ?_;simp only[go_sem,qf,qb,qa,qc,qe,qd,reduceIte,reduceCtorEq,encGType];refine clN rfl rfl rfl (xN.ev a1 a2.fN r8 hr8 _) ?_;refine za tok 1 ?_;simp only[go_sem,qf,qb,qa,qc,qe,qd,reduceIte,reduceCtorEq,encGType];refine nkN hK ?_;refine zs (b:=(!r8)) rfl (fun hc9=>?_) (fun hc9=>?_)
     · rw[if_pos hc9] at h
       refine rg tok [8,9] fun K hK=>?_
       simp only[go_sem,qf,qb,qa,qc,qe,qd,reduceIte,reduceCtorEq,cellsGTree,zb];apply hK
       cases h;exact rtA
     rw[xI hc9] at h;apply zf;exact⟨_,_,⟨rfl,rfl,h⟩,(.t [3,4] false)⟩
   rw[xI hc7] at h
   refine rg tok [3,4,5,6,8,10,37,47] fun K hK=>?_
   simp only[go_sem,qf,qb,qa,qc,qe,qd,reduceIte,reduceCtorEq,zn];apply hK
   refine zM rfl (fun hc10=>?_) (fun hc10=>?_)
   · rw[if_pos hc10] at h;have t11:=eq_true hc10
     refine rc [8,10,52] fun K hK=>?_
     obtain⟨r12,hr12,h⟩:=bind_some h;refine za tok 2 ?_;simp only[go_sem,qf,qb,qa,qc,qe,qd,reduceIte,reduceCtorEq,t11];refine clN rfl rfl rfl (yY.ev a2.fB r12 hr12 _) ?_;refine za tok 1 ?_;simp only[go_sem,qf,qb,qa,qc,qe,qd,reduceIte,reduceCtorEq,t11];refine nkN hK ?_;refine zs (b:=(!r12)) rfl (fun hc13=>?_) (fun hc13=>?_)
     · rw[if_pos hc13] at h
       refine rg tok [8,9] fun K hK=>?_
       simp only[go_sem,qf,qb,qa,qc,qe,qd,reduceIte,reduceCtorEq,cellsGTree,zb,t11];apply hK
       cases h;exact rtA
     rw[xI hc13] at h;apply zf;exact⟨_,_,⟨rfl,rfl,h⟩,(.t [3,4] false)⟩
   rw[if_neg hc10] at h;have t14:=eq_false hc10
   refine rg tok [3,4,5,6,8,10,54] fun K hK=>?_
   simp only[go_sem,qf,qb,qa,qc,qe,qd,reduceIte,reduceCtorEq,zn,t14];apply hK
   refine zM rfl (fun hc15=>?_) (fun hc15=>?_)
   · rw[if_pos hc15] at h;have t16:=eq_true hc15
     refine rc [3,4,6,8,11] fun K hK=>?_
     obtain⟨r17,hr17,h⟩:=zB h;refine za tok 3 ?_;simp only[go_sem,qf,qb,qa,qc,qe,qd,reduceIte,reduceCtorEq,encGSchema,t14,t16];refine clN rfl rfl rfl (zH.ev a0 a1.fName r17 hr17 _) ?_;refine za tok 6 ?_;simp only[go_sem,qf,qb,qa,qc,qe,qd,reduceIte,reduceCtorEq,encGMessage,encGSchema,t14,t16];refine nkN hK ?_
     refine rc [8,9] fun K hK=>?_
     obtain⟨_u18,hu18,h⟩:=bind_some h;have gu18:=wO hu18;have gu18t:=eq_true gu18;have f19:=conv_s2b (T:=tab) (src:=9) (dst:=48) rfl rfl rfl rfl rfl rfl (wO hu18);obtain⟨r20,hr20,h⟩:=bind_some h;refine za tok 7 ?_;simp only[go_sem,qf,qb,qa,qc,qe,qd,reduceIte,reduceCtorEq,zn,encGMessage,encGSchema,t14,t16,gu18t,f19];refine YQ (L:=[(8,.op 0 0 0),(63,.agg (encGSchema a0)),(64,.agg (encGMessage r17.1)),(67,.ds true (qh encB a2.fB) (qg a2.fB) false),(69,.int .i64 (IntKind.i64.wrap (a3+1)))]) (τ:=[.cells 0 [.int .i64 0,.int .i64 0,.str [],.ds true (qh encGEntry ([]:List GEntry)) (qg ([]:List GEntry)) false,.ds true (qh encGRaw ([]:List GRaw)) (qg ([]:List GRaw)) false]]) (.t [3] false) ?_;refine clN rfl rfl rfl (ev_decode_message a0 r17.1 a2.fB (IntKind.i64.wrap (a3+1)) r20 hr20 _) ?_;refine za tok 4 ?_;simp only[go_sem,qf,qb,qa,qc,qe,qd,reduceIte,reduceCtorEq,cellsGTree,encGMessage,encGSchema,zb,t14,t16];refine nkN hK ?_;cases h;exact rtA
   rw[if_neg hc15] at h;have t21:=eq_false hc15;apply zf;exact⟨_,_,⟨rfl,rfl,h⟩,(.t [3,4] false)⟩
 rintro _ _ ⟨rfl,rfl,h⟩;unfold zQ.j4 at h
 refine rg tok [8,9] fun K hK=>?_
 simp only[go_sem,qf,qb,qa,qc,qe,qd,reduceIte,reduceCtorEq,cellsGTree,zb];apply hK
 cases h;exact rtA
end
section
open Go.RowKit AM
theorem setRun_ins (cs new:List AV)(k:Nat)(hk:k≤cs.length)(hn:new.length=2):
 yT (yT (cs++[.u,.u]) (k+2) (cs.drop k)) k new=cs.take k++(new++cs.drop k):=by
 have e0:cs++[AV.u,.u]=(cs.take k++((cs.drop k++[AV.u,.u]).take 2))++(((cs.drop k++[AV.u,.u]).drop 2)++[]):=by
  rw[qF,qD,ui,← qD,ui]
 have l1:((cs.drop k++[AV.u,.u]).take 2).length=2:=by simp
 have l2:(cs.take k++((cs.drop k++[AV.u,.u]).take 2)).length=k+2:=by rw[qw,l1,uE,Nat.min_eq_left hk]
 have e1:yT (cs++[.u,.u]) (k+2) (cs.drop k)=(cs.take k++((cs.drop k++[AV.u,.u]).take 2))++(cs.drop k++[]):=by
  rw[e0,← l2];exact Zj (cs.drop k) _ _ [] (by simp)
 rw[e1,qF,qD]
 have l3:(cs.take k).length=k:=by rw[uE,Nat.min_eq_left hk]
 have:=Zj new (cs.take k) ((cs.drop k++[AV.u,.u]).take 2) (cs.drop k) (by rw[l1,hn]);rw[l3] at this;exact this
theorem all_drop {l:List AV}{k:Nat}(h:l.all AV.one=true):(l.drop k).all AV.one=true:=by
 rw[ud] at *
 exact fun x hx=>h x (List.mem_of_mem_drop hx)
theorem frozen_end {E:Env}{b:Nat}{cs:List AV}(h:Blk E b cs){t:TypeId}{m:Nat}(hs:E.w.shape? b=some (t,m))(ht:tsize t=2)(o:Nat):E.w.frozen? ⟨b,o,none⟩=false:=by
 obtain⟨conc,t',fr,a1,a2,a3,a4⟩:=h.blk
 have:t'=t:=by simp only[World.shape?,a1,Option.some.injEq,Prod.mk.injEq] at hs; exact hs.1
 subst this
 have he:fr.1=fr.2:=by
  rcases a2 with h|⟨_,h⟩
  · exact h
  omega
 obtain⟨lo,hi⟩:=fr;simp only[World.frozen?,a1];simp only at he;simp only[Bool.and_eq_false_iff,decide_eq_false_iff_not]
 omega
set_option maxHeartbeats 4000000 in
set_option maxRecDepth 100000 in
theorem ins_shift {E:Env}{σ:Store}(hS:SR E σ){id ver n i b cap vid vver vb:Nat}{cells new:List AV}(hcs:Store.at σ id ver=some cells)(hlen:cells.length=n*2)(hone:cells.all AV.one=true)(hi:i<n)
 (hloc:E.loc id=some (ver,some b)) (hok:E.ok id ver) {t m:Nat} (hsh:E.w.shape? b=some (t,m)) (hts:tsize t=2) (hm:cap*2≤m) (hroom:n+1≤cap) (hn:(n+1)*32≤140737488355328)
 (hv:Store.at σ vid vver=some new) (hnew:new.length=2) (honev:new.all AV.one=true) (hvid:vid≠id) (hvloc:E.loc vid=some (vver,some vb)) (hvok:E.ok vid vver) {tv mv:Nat} (hvsh:E.w.shape? vb=some (tv,mv)) (hvts:tsize tv=2) (hvc:2≤mv):
 Calls qi 234 #[.slice (some ⟨b,0,none⟩) n cap,.int .i64 i,.slice (some ⟨vb,0,none⟩) 1 1] E.w fun e w'=>
  ∃ E',e=.returned (.slice (some ⟨b,0,none⟩) (n+1) cap)∧w'=E'.w∧VR E' (.os true 2 id ver 0 (n+1) false) (.slice (some ⟨b,0,none⟩) (n+1) cap)∧SR E' (σ.set id (.cells ver (cells.take (i*2)++(new++cells.drop (i*2)))))∧Ext E E':=by
 have hvb:vb≠b:=fun e=>hvid (hS.inj _ _ _ _ b (e▸hvloc) hloc)
 have hB1:Blk E b cells:=by
  rcases hS.at hcs with ⟨b',h1,h2⟩|⟨_,h1⟩
  · rw[hloc] at h1; cases h1; exact h2
  rw[hloc] at h1; cases h1
 have hB2:Blk E vb new:=by
  rcases hS.at hv with ⟨b',h1,h2⟩|⟨_,h1⟩
  · rw[hvloc] at h1; cases h1; exact h2
  rw[hvloc] at h1; cases h1
 have hSw:=hS.widen hcs hloc hsh 2 (by omega);obtain⟨hS1,hx1⟩:=hSw.grew (ZM.drew E.w);have hcsw:Store.at (σ.set id (.cells ver (cells++qO 2 AV.u))) id ver=some (cells++qO 2 AV.u):=Store.at_set hcs;have hlt:=Store.at_lt hcs
 have hvw:Store.at (σ.set id (.cells ver (cells++qO 2 AV.u))) vid vver=some new:=by
  unfold Store.at at hv ⊢; rw[qZ (fun e=>hvid e.symm)]; exact hv
 have os1:∀ {E':Env} (hx:Ext E E') (k:Nat),k≤n→VR E' (.os true 2 id ver (k*2) (n+1-k) false) (.slice (some ⟨b,k*2,none⟩) (n+1-k) (cap-k)):=by
  intro E' hx k hk
  refine VR.ext hx (.os _ _ _ _ _ _ _ _ _ hok (by omega) (fun h=>by cases h) (by omega) fun ob hob=>?_)
  rw[hloc] at hob; cases hob
  exact⟨b,rfl,.inr rfl,t,m,hsh,hts,by omega⟩
 have osv:∀ {E':Env} (hx:Ext E E'),VR E' (.os true 2 vid vver 0 1 true) (.slice (some ⟨vb,0,none⟩) 1 1):=by
  intro E' hx
  refine VR.ext hx (.os _ _ _ _ _ _ _ _ _ hvok (by omega) (fun _=>rfl) (by omega) fun ob hob=>?_)
  rw[hvloc] at hob; cases hob
  exact⟨vb,rfl,.inr rfl,tv,mv,hvsh,hvts,by omega⟩
 have hov:∀ lb cb,(callFunc 247 #[.slice (some ⟨vb,0,none⟩) 1 1,.slice (some ⟨b,(i+1)*2,none⟩) lb cb]).run qi E.w=.ok (.value (.bool false)) E.w:=fun lb cb=>by
  rw[run_callFunc_extern Tryz.func247 (by kernel_rfl) (by kernel_rfl) (by kernel_rfl) (e:=Extern.SlicesOverlaps.overlaps #[34,34] #[4]) (by kernel_rfl),
   Lib.run_overlaps_apart E.w 34 4 40 (tok _ _ YC).desc 2 (fun w=>xq w (tok _ _ YB)) ⟨vb,0,none⟩ ⟨b,(i+1)*2,none⟩ 1 1 lb cb hvb tv t mv m hvsh hsh (by omega) (frozen_end hB2 hvsh hvts _) (frozen_end hB2 hvsh hvts _)]
  rfl
 have hdl:(cells.drop (i*2)).length=(n-i)*2:=by rw[List.length_drop,hlen,Nat.sub_mul]
 have hlw:(cells++qO 2 AV.u).length=(n+1)*2:=by rw[qw,hlen,List.length_replicate,Nat.add_mul]
 have hW:∀ ty,∃ v E2,(Builtin.copy_ #[34,34] ty #[.slice (some ⟨b,(i+1)*2,none⟩) (n+1-(i+1)) (cap-(i+1)),.slice (some ⟨b,i*2,none⟩) (n+1-i) (cap-i)]).run qi E.w.drew=.ok v E2.w∧
  SR E2 (σ.set id (.cells ver (yT (cells++[.u,.u]) (i*2+2) (cells.drop (i*2)))))∧Ext E E2:=by
  intro ty
  have hx0:Ext E { E with w:=E.w.drew }:=hx1;have hd:=os1 hx0 (i+1) (by omega);have hs:=os1 hx0 i (by omega)
  have hev:Yl tab 34 (.os true 2 id ver ((i+1)*2) (n+1-(i+1)) false) (.os true 2 id ver (i*2) (n+1-i) false) (σ.set id (.cells ver (cells++qO 2 AV.u)))=
   some (.int .i64 ((min (n+1-i) (n+1-(i+1)):Nat):Int),(σ.set id (.cells ver (cells++qO 2 AV.u))).set id (.cells ver (yT (cells++qO 2 AV.u) ((i+1)*2) (cells.drop (i*2))))):=by
   have e1:yc (σ.set id (.cells ver (cells++qO 2 AV.u))) 2 (.os true 2 id ver (i*2) (n+1-i) false)=some (n+1-i,((cells++qO 2 AV.u).drop (i*2)).take ((n+1-i)*2)):=by
    simp only[yc,hcsw];rw[if_pos (by rw[hlw,← Nat.add_mul]; exact q2 _ (by omega))]
   have e2:min (n+1-i) (n+1-(i+1))=n-i:=by omega
   have e3:(((cells++qO 2 AV.u).drop (i*2)).take ((n+1-i)*2)).take ((n-i)*2)=cells.drop (i*2):=by
    rw[List.take_take,Nat.min_eq_left (q2 _ (by omega)),List.drop_append_of_le_length (by rw[hlen]; exact q2 _ (by omega)),List.take_append_of_le_length (by rw[hdl]; exact qy _),← hdl,uc]
   have hp:wz (σ.set id (.cells ver (cells++qO 2 AV.u))) (.os true 2 id ver ((i+1)*2) (n+1-(i+1)) false) (n-i) 2 (cells.drop (i*2))=some ((σ.set id (.cells ver (cells++qO 2 AV.u))).set id (.cells ver (yT (cells++qO 2 AV.u) ((i+1)*2) (cells.drop (i*2))))):=by
    unfold wz;rw[if_neg (by omega)];simp only[hcsw];rw[if_pos ⟨trivial,by rw[hlw,hdl,← Nat.add_mul]; exact q2 _ (by omega),all_drop hone⟩]
   simp only[Yl,YC,YB,ti34,ti40,e1,e2,e3,hp]
  obtain⟨v,E2,h1,h2,h3,h4⟩:=Yh (P:=qi) (st:=34) (ty:=ty) tok hS1 hd hs hev;refine⟨v,E2,h1,?_,hx0.trans h4⟩;rw[List.set_set] at h3
  have e:(i+1)*2=i*2+2:=by omega
  rw[e] at h3;exact h3
 obtain⟨v1,E2,hc1,hS2,hx2⟩:=hW 3;rw[show n+1-(i+1)=n-i by omega] at hc1;have hcs2:Store.at (σ.set id (.cells ver (yT (cells++[.u,.u]) (i*2+2) (cells.drop (i*2))))) id ver=some (yT (cells++[.u,.u]) (i*2+2) (cells.drop (i*2))):=Store.at_set hcs
 have hv2:Store.at (σ.set id (.cells ver (yT (cells++[.u,.u]) (i*2+2) (cells.drop (i*2))))) vid vver=some new:=by
  unfold Store.at at hv ⊢; rw[qZ (fun e=>hvid e.symm)]; exact hv
 have hW2:∃ v E3,(Builtin.copy_ #[34,34] 3 #[.slice (some ⟨b,i*2,none⟩) (n+1-i) (cap-i),.slice (some ⟨vb,0,none⟩) 1 1]).run qi E2.w=.ok v E3.w∧
  SR E3 (σ.set id (.cells ver (cells.take (i*2)++(new++cells.drop (i*2)))))∧Ext E E3:=by
  have hd:=os1 hx2 i (by omega);have hs:=osv hx2
  have hev:Yl tab 34 (.os true 2 id ver (i*2) (n+1-i) false) (.os true 2 vid vver 0 1 true) (σ.set id (.cells ver (yT (cells++[.u,.u]) (i*2+2) (cells.drop (i*2)))))=
   some (.int .i64 ((min 1 (n+1-i):Nat):Int),(σ.set id (.cells ver (yT (cells++[.u,.u]) (i*2+2) (cells.drop (i*2))))).set id (.cells ver (yT (yT (cells++[.u,.u]) (i*2+2) (cells.drop (i*2))) (i*2) new))):=by
   have e1:yc (σ.set id (.cells ver (yT (cells++[.u,.u]) (i*2+2) (cells.drop (i*2))))) 2 (.os true 2 vid vver 0 1 true)=some (1,new):=by
    simp only[yc,hv2];rw[if_pos (by omega),qn,← hnew,Nat.one_mul] ;rw[show new.length=new.length from rfl,uc]
   have e2:min 1 (n+1-i)=1:=by omega
   have e3:new.take (1*2)=new:=by rw[Nat.one_mul,← hnew,uc]
   have hp:wz (σ.set id (.cells ver (yT (cells++[.u,.u]) (i*2+2) (cells.drop (i*2))))) (.os true 2 id ver (i*2) (n+1-i) false) 1 2 new=some ((σ.set id (.cells ver (yT (cells++[.u,.u]) (i*2+2) (cells.drop (i*2))))).set id (.cells ver (yT (yT (cells++[.u,.u]) (i*2+2) (cells.drop (i*2))) (i*2) new))):=by
    unfold wz;rw[if_neg (by omega)];simp only[hcs2];rw[if_pos ⟨trivial,by rw[Yx,hnew]; simp only[qw,qx,qz,hlen]; omega,honev⟩]
   simp only[Yl,YC,YB,ti34,ti40,e1,e2,e3,hp]
  obtain⟨v,E3,h1,h2,h3,h4⟩:=Yh (P:=qi) (st:=34) (ty:=3) tok hS2 hd hs hev;refine⟨v,E3,h1,?_,hx2.trans h4⟩;rw[List.set_set,setRun_ins _ _ _ (by omega) hnew] at h3;exact h3
 obtain⟨v2,E3,hc2,hS3,hx3⟩:=hW2;have hfin:=os1 hx3 0 (qX _);rw[ut,uC,uC] at hfin
 have hz1:¬ ((i:Int)=(n:Int)):=by omega
 have hw1:IntKind.i64.wrap ((i:Int)+1)=(i:Int)+1:=by rw[IntKind.wrap_i64]; omega
 have hw2:IntKind.i64.wrap ((n:Int)+1)=(n:Int)+1:=by rw[IntKind.wrap_i64]; omega
 have hb1:(0:Int)≤(i:Int)+1:=by omega
 have hin:i≤n:=by omega
 have htn:((i:Int)+1).toNat=i+1:=by omega
 have hb2:¬ (cap=i+1):=by omega
 have hb3:(i:Int)≤(n:Int)+1:=by omega
 have hb4:¬ (cap=i):=by omega
 have mixed:Tryz.prog.follows .mixedOrders=true:=by kernel_rfl
 clear hS hcs hcsw hvw hcs2 hv2 hS1 hSw os1 osv hB1 hB2 hW
 go_enter Tryz.func234,Tryz.ntmps234
 go_wp2_with (simp only[hov])
 go_region_law_o (refine step_copy_runI rfl _ _ 34 34 rfl _ _ (by simp[Act.eval,Act.put]) (by simp[Act.eval,Act.put]) hc1 ?_)
 go_wp2_with (at_builtin; refine wpList_copy_runI _ rfl _ _ 34 34 rfl _ _ rfl rfl hc2 ?_)
 go_ret
 exact⟨E3,rfl,rfl,hfin,hS3,hx3⟩
theorem setRun_ins2 (cs new:List AV)(k:Nat)(hk:k≤cs.length)(hn:new.length=2)(q:Nat)(hq:q=cs.length-k+2):
 yT (yT (cs.take k++qO q AV.u) k new) (k+2) (cs.drop k)=cs.take k++(new++cs.drop k):=by
 have l3:(cs.take k).length=k:=by rw[uE,Nat.min_eq_left hk]
 have e0:cs.take k++qO q AV.u=cs.take k++(qO 2 AV.u++qO (cs.length-k) AV.u):=by
  rw[List.replicate_append_replicate,hq,Nat.add_comm]
 have e1:yT (cs.take k++qO q AV.u) k new=cs.take k++(new++qO (cs.length-k) AV.u):=by
  rw[e0];have:=Zj new (cs.take k) (qO 2 AV.u) (qO (cs.length-k) AV.u) (by simp[hn])
  rw[l3] at this; exact this
 have l4:(cs.take k++new).length=k+2:=by rw[qw,l3,hn]
 rw[e1,← qD,← l4];have:=Zj (cs.drop k) (cs.take k++new) (qO (cs.length-k) AV.u) [] (by simp);rw[qF,qF] at this;rw[this,qD]
set_option maxHeartbeats 4000000 in
set_option maxRecDepth 100000 in
theorem ins_grow {E:Env}{σ:Store}(hS:SR E σ){id ver n i b vid vver vb:Nat}{cells new:List AV}(hcs:Store.at σ id ver=some cells)(hlen:cells.length=n*2)(hone:cells.all AV.one=true)(hi:i<n)
 (hloc:E.loc id=some (ver,some b)) (hok:E.ok id ver) {t m:Nat} (hsh:E.w.shape? b=some (t,m)) (hts:tsize t=2) (hm:n*2≤m) (hn:(n+1)*32≤140737488355328)
 (hv:Store.at σ vid vver=some new) (hnew:new.length=2) (honev:new.all AV.one=true) (hvid:vid≠id) (hvloc:E.loc vid=some (vver,some vb)) (hvok:E.ok vid vver) {tv mv:Nat} (hvsh:E.w.shape? vb=some (tv,mv)) (hvts:tsize tv=2) (hvc:2≤mv):
 Calls qi 234 #[.slice (some ⟨b,0,none⟩) n n,.int .i64 i,.slice (some ⟨vb,0,none⟩) 1 1] E.w fun e w'=>
  ∃ E' v,e=.returned v∧w'=E'.w∧VR E' (.os true 2 σ.length 0 0 (n+1) false) v∧SR E' (σ++[.cells 0 (cells.take (i*2)++(new++cells.drop (i*2)))])∧Ext E E'∧∀ i2 v2 nb,E.loc i2=some (v2,some nb)→E'.loc σ.length=some (0,some nb)→False:=by
 have hvb:vb≠b:=fun e=>hvid (hS.inj _ _ _ _ b (e▸hvloc) hloc)
 have hlt:=Store.at_lt hcs;have hltv:=Store.at_lt hv;obtain⟨hS1,hx1⟩:=hS.grew (ZM.drew E.w)
 have os1:∀ {E':Env} (hx:Ext E E') (k q:Nat),k+q≤n→VR E' (.os true 2 id ver (k*2) q false) (.slice (some ⟨b,k*2,none⟩) q (n-k)):=by
  intro E' hx k q hk
  refine VR.ext hx (.os _ _ _ _ _ _ _ _ _ hok (by omega) (fun h=>by cases h) (by omega) fun ob hob=>?_)
  rw[hloc] at hob; cases hob
  exact⟨b,rfl,.inr rfl,t,m,hsh,hts,by omega⟩
 have osv:∀ {E':Env} (hx:Ext E E'),VR E' (.os true 2 vid vver 0 1 true) (.slice (some ⟨vb,0,none⟩) 1 1):=by
  intro E' hx
  refine VR.ext hx (.os _ _ _ _ _ _ _ _ _ hvok (by omega) (fun h=>rfl) (by omega) fun ob hob=>?_)
  rw[hvloc] at hob; cases hob
  exact⟨vb,rfl,.inr rfl,tv,mv,hvsh,hvts,by omega⟩
 have htl:(cells.take (i*2)).length=i*2:=by rw[uE,hlen]; omega
 have hdl:(cells.drop (i*2)).length=(n-i)*2:=by rw[List.length_drop,hlen,Nat.sub_mul]
 -- what is copied by append
 have hold0:=os1 hx1 0 i (by omega);rw[ut] at hold0
 obtain⟨_,_,hrd⟩:=YJ (P:=qi) hS1 hold0 (size:=2) (n:=i) (cs:=cells.take (i*2)) (by
  simp only[yc,hcs]
  rw[if_pos (by omega),qn])
 obtain⟨os,hos,hto⟩:=hrd i (qy _);rw[show (cells.take (i*2)).take (i*2)=cells.take (i*2) by rw[List.take_take,Nat.min_self]] at hto
 obtain⟨G,hG⟩:∃ G,G=grownCap E.w (n+1) n 40:=⟨_,rfl⟩
 have hGn:n+1≤G:=by rw[hG]; unfold grownCap; simp only[Question.cut]; omega
 obtain⟨conc,hconc⟩:∃ conc:Array Value,conc=os++Builtin.zeroCells (Value.agg #[Value.int IntKind.i64 0,Value.slice none 0 0]).cells (n+1-i)++Builtin.zeroCells (Value.agg #[Value.int IntKind.i64 0,Value.slice none 0 0]).cells (G-(n+1)):=⟨_,rfl⟩
 have hrz:∀ ty,(Builtin.append_ #[34,3] ty #[.slice (some ⟨b,0,none⟩) i n,.int .i64 ((n:Int)+1-(i:Int))]).run qi E.w=
  .ok (.slice (some ⟨E.w.heap.size,0,none⟩) (n+1) G) (E.w.drew.alloc (.cells conc 40)):=fun ty=>by
  have h:=Lib.run_append_grow_zeros (P:=qi) E.w 34 3 ty 40 Tryz.t40 _ .i64 .i64 Tryz.underlying34 Tryz.underlying3 Tryz.type40 rfl (some ⟨b,0,none⟩) i n os.toList (by rw[Array.toArray_toList]; exact hos) (n+1-i) (by omega) (by decide) (by omega) (by omega) (by show (n+1-i)*32≤_; omega) (by
   rw[show i+(n+1-i)=n+1 by omega]
   exact growslice_fits (by omega) (by show (n+1)*32≤_; omega))
  rw[show i+(n+1-i)=n+1 by omega,← hG,Array.toArray_toList,← hconc] at h;rw[show (n:Int)+1-(i:Int)=((n+1-i:Nat):Int) by omega];exact h
 have hsz1:os.size=i*2:=by rw[hto.1,htl]
 have hcsz:G*2≤conc.size:=by
  rw[hconc];simp only[Array.size_append,hsz1,Builtin.zeroCells,Value.cells]
  simp
  omega
 have hnr:=hS1.newRow conc 40 (cells.take (i*2)++qO ((n+1-i)*2) AV.u) (by rw[qw,htl,List.length_replicate]; omega) (by
  intro k hk
  by_cases hki:k<i*2
  · rw[Z0 _ _ _ (by rw[htl]; exact hki)];have:=hto.2 k (by rw[htl]; exact hki)
    have e:conc.getD k undef=os.getD k undef:=by
     rw[hconc,Array.append_assoc]
     simp[Array.getElem?_append_left (show k<os.size by omega)]
    rw[e]; exact this
  rw[Zd _ _ _ (by rw[htl]; omega)]
  have:gc (qO ((n+1-i)*2) AV.u) (k-(cells.take (i*2)).length)=.u:=by
   unfold gc;rw[qC,List.getElem?_replicate]
   split<;>rfl
  rw[this]; exact .u _)
 obtain⟨hS2,hx2⟩:=hnr
 obtain⟨E2,hE2⟩:∃ E2,E2=Env.new { E with w:=E.w.drew } (E.w.drew.alloc (.cells conc 40)) (some E.w.drew.heap.size):=⟨_,rfl⟩
 have hloc2:E2.loc σ.length=some (0,some E.w.heap.size):=by rw[hE2]; exact Env.loc_new hS1 _ _
 have hok2:E2.ok σ.length 0:=by rw[hE2]; exact Env.ok_new hS1 _ _
 have hE2w:E2.w=E.w.drew.alloc (.cells conc 40):=by rw[hE2]; rfl
 rw[← hE2] at hS2 hx2;have hx02:Ext E E2:=Ext.trans hx1 hx2
 have hsh2:E2.w.shape? E.w.heap.size=some (40,conc.size):=by
  rw[hE2w];have:=y0 E.w.drew (.cells conc 40);simp only[World.shape?];rw[show E.w.heap.size=E.w.drew.heap.size from rfl,this]
 have osn:∀ {E':Env} (hx:Ext E2 E') (k q:Nat),k+q≤n+1→VR E' (.os true 2 σ.length 0 (k*2) q false) (.slice (some ⟨E.w.heap.size,k*2,none⟩) q (G-k)):=by
  intro E' hx k q hk
  refine VR.ext hx (.os _ _ _ _ _ _ _ _ _ hok2 (by omega) (fun h=>by cases h) (by omega) fun ob hob=>?_)
  rw[hloc2] at hob; cases hob
  exact⟨_,rfl,.inr rfl,_,_,hsh2,rfl,by omega⟩
 have hat2:∀ cs,Store.at (σ++[.cells 0 cs]) σ.length 0=some cs:=fun cs=>Store.at_new σ 0 cs
 have hset2:∀ cs cs',(σ++[AObj.cells 0 cs]).set σ.length (.cells 0 cs')=σ++[.cells 0 cs']:=fun cs cs'=>by
  rw[List.set_append_right _ _ (qy _),uI]; rfl
 have hold2:∀ {id ver:Nat} {c cs:List AV},Store.at σ id ver=some c→Store.at (σ++[AObj.cells 0 cs]) id ver=some c:=by
  intro id ver c cs h
  have:=Store.at_lt h
  unfold Store.at at h ⊢; rw[qQ this]; exact h
 -- the first copy
 have hW2:∃ v E3,(Builtin.copy_ #[34,34] 3 #[.slice (some ⟨E.w.heap.size,i*2,none⟩) (n+1-i) (G-i),.slice (some ⟨vb,0,none⟩) 1 1]).run qi E2.w=.ok v E3.w∧
  SR E3 (σ++[.cells 0 (yT (cells.take (i*2)++qO ((n+1-i)*2) AV.u) (i*2) new)])∧Ext E2 E3:=by
  have hd:=osn (Ext.refl E2) i (n+1-i) (by omega);have hs:=osv hx02
  have hev:Yl tab 34 (.os true 2 σ.length 0 (i*2) (n+1-i) false) (.os true 2 vid vver 0 1 true) (σ++[.cells 0 (cells.take (i*2)++qO ((n+1-i)*2) AV.u)])=
   some (.int .i64 ((min 1 (n+1-i):Nat):Int),σ++[.cells 0 (yT (cells.take (i*2)++qO ((n+1-i)*2) AV.u) (i*2) new)]):=by
   have e1:yc (σ++[.cells 0 (cells.take (i*2)++qO ((n+1-i)*2) AV.u)]) 2 (.os true 2 vid vver 0 1 true)=some (1,new):=by
    simp only[yc,hold2 hv];rw[if_pos (by omega),qn,Nat.one_mul,← hnew,uc]
   have e2:min 1 (n+1-i)=1:=by omega
   have e3:new.take (1*2)=new:=by rw[Nat.one_mul,← hnew,uc]
   have hp:wz (σ++[.cells 0 (cells.take (i*2)++qO ((n+1-i)*2) AV.u)]) (.os true 2 σ.length 0 (i*2) (n+1-i) false) 1 2 new=some (σ++[.cells 0 (yT (cells.take (i*2)++qO ((n+1-i)*2) AV.u) (i*2) new)]):=by
    unfold wz;rw[if_neg (by omega)];simp only[hat2,hset2];rw[if_pos ⟨trivial,by rw[hnew,qw,htl,List.length_replicate]; omega,honev⟩]
   simp only[Yl,YC,YB,ti34,ti40,e1,e2,e3,hp]
  obtain⟨v,E3,h1,h2,h3,h4⟩:=Yh (P:=qi) (st:=34) (ty:=3) tok hS2 hd hs hev;exact⟨v,E3,h1,h3,h4⟩
 obtain⟨v1,E3,hc1,hS3,hx3⟩:=hW2;obtain⟨hS4,hx4⟩:=hS3.grew (ZM.drew E3.w)
 -- the second copy
 have hW3:∀ ty,∃ v E4,(Builtin.copy_ #[34,34] ty #[.slice (some ⟨E.w.heap.size,(i+1)*2,none⟩) (n-i) (G-(i+1)),.slice (some ⟨b,i*2,none⟩) (n-i) (n-i)]).run qi E3.w.drew=.ok v E4.w∧
  SR E4 (σ++[.cells 0 (cells.take (i*2)++(new++cells.drop (i*2)))])∧Ext E2 E4:=by
  intro ty
  have hx24:Ext E2 { E3 with w:=E3.w.drew }:=Ext.trans hx3 hx4;have hd:=osn hx24 (i+1) (n-i) (by omega);have hs:=os1 (hx02.trans hx24) i (n-i) (by omega)
  have hev:Yl tab 34 (.os true 2 σ.length 0 ((i+1)*2) (n-i) false) (.os true 2 id ver (i*2) (n-i) false) (σ++[.cells 0 (yT (cells.take (i*2)++qO ((n+1-i)*2) AV.u) (i*2) new)])=
   some (.int .i64 ((min (n-i) (n-i):Nat):Int),σ++[.cells 0 (cells.take (i*2)++(new++cells.drop (i*2)))]):=by
   have e1:yc (σ++[.cells 0 (yT (cells.take (i*2)++qO ((n+1-i)*2) AV.u) (i*2) new)]) 2 (.os true 2 id ver (i*2) (n-i) false)=some (n-i,cells.drop (i*2)):=by
    simp only[yc,hold2 hcs];rw[if_pos (by rw[hlen,← Nat.add_mul]; exact q2 _ (by omega)),← hdl,uc]
   have e2:min (n-i) (n-i)=n-i:=by omega
   have e3:(cells.drop (i*2)).take ((n-i)*2)=cells.drop (i*2):=by rw[← hdl,uc]
   have hp:wz (σ++[.cells 0 (yT (cells.take (i*2)++qO ((n+1-i)*2) AV.u) (i*2) new)]) (.os true 2 σ.length 0 ((i+1)*2) (n-i) false) (n-i) 2 (cells.drop (i*2))=some (σ++[.cells 0 (cells.take (i*2)++(new++cells.drop (i*2)))]):=by
    unfold wz;rw[if_neg (by omega)];simp only[hat2,hset2];rw[if_pos ⟨trivial,by rw[hdl,Yx,qw,htl,List.length_replicate]; omega,all_drop hone⟩];rw[show (i+1)*2=i*2+2 by omega,setRun_ins2 _ _ _ (by omega) hnew _ (by rw[hlen]; omega)]
   simp only[Yl,YC,YB,ti34,ti40,e1,e2,e3,hp]
  obtain⟨v,E4,h1,h2,h3,h4⟩:=Yh (P:=qi) (st:=34) (ty:=ty) tok hS4 hd hs hev;exact⟨v,E4,h1,h3,hx24.trans h4⟩
 obtain⟨v2,E4,hc2,hS5,hx5⟩:=hW3 3
 have hfin:VR E4 (.os true 2 σ.length 0 0 (n+1) false) (.slice (some ⟨E.w.heap.size,0,none⟩) (n+1) G):=by
  have:=osn hx5 0 (n+1) (by omega)
  rwa [ut,uC] at this
 have hxf:Ext E E4:=hx02.trans hx5
 have hnew':∀ i2 v2 nb,E.loc i2=some (v2,some nb)→E4.loc σ.length=some (0,some nb)→False:=by
  intro i2 v2 nb h1 h2
  have h3:=hx5.back hok2 h2
  rw[hloc2] at h3; cases h3
  have:=(hS.blk _ _ _ h1).1
  omega
 have hz1:¬ ((i:Int)=(n:Int)):=by omega
 have hw1:IntKind.i64.wrap ((i:Int)+1)=(i:Int)+1:=by rw[IntKind.wrap_i64]; omega
 have hw2:IntKind.i64.wrap ((n:Int)+1)=(n:Int)+1:=by rw[IntKind.wrap_i64]; omega
 have hw3:IntKind.i64.wrap ((n:Int)+1-(i:Int))=(n:Int)+1-(i:Int):=by rw[IntKind.wrap_i64]; omega
 have hb1:(0:Int)≤(i:Int)+1:=by omega
 have hin:i≤n:=by omega
 have htn:((i:Int)+1).toNat=i+1:=by omega
 have hb2:¬ (G=i+1):=by omega
 have hb3:(i:Int)≤(n:Int)+1:=by omega
 have hb4:¬ (G=i):=by omega
 have hb5:¬ (n=i):=by omega
 have hz3:(n:Int)<(n:Int)+1:=by omega
 have mixed:Tryz.prog.follows .mixedOrders=true:=by kernel_rfl
 have hrz1:=hrz 34;rw[← hE2w] at hrz1
 clear hS hcs hS1 os1 osv hrz hrd hos hto hS2 hx2 osn hold2 hset2 hat2 hW3 hE2 hE2w hloc2 hok2 hsh2 hx02 hold0 hG hconc hcsz
 go_enter Tryz.func234,Tryz.ntmps234
 go_wp2_with (first
  |(at_builtin; refine Lib.wpList_append_run _ rfl _ _ _ _ rfl _ _ rfl rfl _ _ hrz1 ?_)
  |(at_builtin; refine wpList_copy_runI _ rfl _ _ 34 34 rfl _ _ rfl rfl hc1 ?_))
 go_region_law_o (refine step_copy_runI rfl _ _ 34 34 rfl _ _ (by simp[Act.eval,Act.put]) (by simp[Act.eval,Act.put]) hc2 ?_)
 go_wp2
 go_ret
 exact⟨E4,_,rfl,rfl,hfin,hS5,hxf,hnew'⟩
end
section
set_option maxRecDepth 20000
open Go.RowKit AM
theorem SR.die {E:Env}{σ:Store}(hS:SR E σ):SR { E with n:=E.n+1 } (σ++[.dead])∧Ext E { E with n:=E.n+1 }:=by
 have hx:Ext E { E with n:=E.n+1 } := {
  os:=rfl,tape:=rfl,output:=rfl,size:=qy _,shape:=fun _ _ h=>h,st:=fun _ h=>⟨h,rfl⟩,n:=Nat.le_succ _,
  loc:=fun _ _ v o h=>⟨v,o,h,qy _,fun _=>rfl⟩,old:=fun _ _ _=>rfl,own:=fun id v _ h _=>⟨id,v,h⟩,stn:=fun _ h=>.inl h }
 have hn:E.loc σ.length=none:=by
  have:=hS.obj σ.length;rw[ua (qy _)] at this;exact this
 refine⟨⟨by simp[hS.len],fun id=>?_,hS.inj,hS.blk,hS.stb,hS.glb⟩,hx⟩
 by_cases h1:id<σ.length
 · rw[qQ h1]
   exact (hS.obj id).ext hx rfl fun _ _ _=>rfl
 by_cases h2:id=σ.length
 · subst h2;rw[q7 (qy _),uI];exact hn
 rw[ua (by simp; omega)];have:=hS.obj id;rw[ua (by omega)] at this;exact this
theorem SR.swap {E:Env}{σ:Store}{cs:List AV}(hS:SR E (σ++[.cells 0 cs])){id ver b nb:Nat}(hlt:id<σ.length)(hl:E.loc id=some (ver,some b))(hn:E.loc σ.length=some (0,some nb)):
 let E':Env := { E with loc:=fun i=>if i=id then some (ver+1,some nb) else if i=σ.length then none else E.loc i }
 SR E' (σ.set id (.cells (ver+1) cs)++[.dead])∧ExtV E E'∧∀ sz len v,VR E (.os true sz σ.length 0 0 len false) v→VR E' (.os true sz id (ver+1) 0 len false) v:=by
 intro E'
 have hid:E'.loc id=some (ver+1,some nb):=by simp[E']
 have hlast:E'.loc σ.length=none:=by simp[E']; omega
 have hother:∀ i,i≠id→i≠σ.length→E'.loc i=E.loc i:=fun i h1 h2=>by simp[E',h1,h2]
 have hx:ExtV E E' := {
  shape:=fun _ _ h=>h
  st:=fun _ h=>⟨h,rfl⟩
  n:=qy _
  loc:=fun i _ v o h=>by
   by_cases h1:i=id
   · subst h1; rw[hid] at h; cases h; exact⟨ver,some b,hl,by omega,fun e=>by omega⟩
   by_cases h2:i=σ.length
   · subst h2; rw[hlast] at h; cases h
   rw[hother i h1 h2] at h; exact⟨v,o,h,qy _,fun _=>rfl⟩ }
 have hnE:E.n=σ.length+1:=by have:=hS.len; simp at this; omega
 have hold:∀ i v c,E'.loc i=some (v,some c)→(i=id∧c=nb)∨(i≠id∧i≠σ.length∧E.loc i=some (v,some c)):=by
  intro i v c h
  by_cases h1:i=id
  · subst h1; rw[hid] at h; cases h; exact .inl ⟨rfl,rfl⟩
  by_cases h2:i=σ.length
  · subst h2; rw[hlast] at h; cases h
  rw[hother i h1 h2] at h; exact .inr ⟨h1,h2,h⟩
 refine⟨⟨by simp[hnE,E'],fun i=>?_,fun i i' v v' c h1 h2=>?_,fun i v c h=>?_,hS.stb,hS.glb⟩,hx,fun sz len v h=>?_⟩
 · by_cases h1:i=id
   · subst h1;rw[qQ (by simpa using hlt),uh hlt];have:=hS.obj σ.length;rw[q7 (qy _),uI] at this
     rcases this with ⟨c,e1,e2⟩|⟨_,e1⟩
     · rw[hn] at e1; cases e1
       refine .inl ⟨nb,hid,?_⟩;obtain⟨conc,t,fr,a1,a2,a3,a4⟩:=e2.blk;exact⟨conc,t,fr,a1,a2,a3,fun k hk=>(a4 k hk).extV hx⟩
     rw[hn] at e1; cases e1
   by_cases h2:i=σ.length
   · subst h2;rw[q7 (by simp)];simp only[List.length_set,uI,uu];exact hlast
   have ho:=hS.obj i
   by_cases h3:i<σ.length
   · rw[qQ (by simpa using h3),qZ (fun e=>h1 e.symm)];rw[qQ h3] at ho
     exact ho.extV hx (hother i h1 h2) fun _ _ _=>rfl
   rw[ua (by simp; omega)] at ho ⊢;exact (hother i h1 h2).trans ho
 · rcases hold _ _ _ h1 with ⟨e1,e2⟩|⟨e1,e2,e3⟩
   · subst e1; subst e2
     rcases hold _ _ _ h2 with ⟨f1,f2⟩|⟨f1,f2,f3⟩
     · exact f1.symm
     exact absurd (hS.inj _ _ _ _ _ f3 hn) f2
   rcases hold _ _ _ h2 with ⟨f1,f2⟩|⟨f1,f2,f3⟩
   · subst f2; exact absurd (hS.inj _ _ _ _ _ e3 hn) e2
   exact hS.inj _ _ _ _ _ e3 f3
 · rcases hold _ _ _ h with ⟨e1,e2⟩|⟨e1,e2,e3⟩
   · subst e2; exact hS.blk _ _ _ hn
   exact hS.blk _ _ _ e3
 have hok:E'.ok id (ver+1):=⟨by show id<E.n; omega,fun v o h=>by rw[hid] at h; cases h; exact qy _⟩
 cases h with
 |osn _ _ _ _ _ a hk h=>
  have:=h _ hn; cases this
 |os _ _ _ _ _ _ _ a cap hk hc ht hB h=>
  refine .os _ _ _ _ _ _ _ a cap hok hc ht hB fun ob hob=>?_
  rw[hid] at hob; cases hob
  exact h _ hn
theorem Ext.swap {E0 E:Env}(hx:Ext E0 E){σ0:Store}(h0:SR E0 σ0){id ver b nb:Nat}(hl:E.loc id=some (ver,some b))(hn:E.loc σ0.length=some (0,some nb))(hnb:E0.w.heap.size≤nb)(hlt:id<σ0.length):
 Ext E0 { E with loc:=fun i=>if i=id then some (ver+1,some nb) else if i=σ0.length then none else E.loc i }:=by
 refine { hx with loc:=fun i hi v o h=>?_,own:=fun i v c h hc=>?_,n:=hx.n,st:=hx.st }
 · by_cases h1:i=id
   · subst h1;simp only[if_true,Option.some.injEq,Prod.mk.injEq] at h;obtain⟨v0,o0,e1,e2,e3⟩:=hx.loc _ hi _ _ hl;exact⟨v0,o0,e1,by omega,fun e=>by omega⟩
   simp only[if_neg h1] at h
   split at h
   · cases h
   exact hx.loc i hi v o h
 by_cases h1:i=id
 · subst h1;simp only[if_true,Option.some.injEq,Prod.mk.injEq] at h
   omega
 simp only[if_neg h1] at h
 split at h
 · cases h
 exact hx.own i v c h hc
theorem ACalls.dies {P:Program}{f:FuncId}{args:List AV}{σ:Store}{x:AV}{τ:Store}(h:ACalls P f args σ fun r σ'=>r=x∧σ'=τ):ACalls P f args σ fun r σ'=>r=x∧σ'=τ++[.dead]:=by
 refine⟨h.1,fun E vs hS hl=>(h.2 E vs hS hl).mono ?_⟩;rintro e w ⟨v,r,σ',E',rfl,rfl,h3,h4,h5,rfl,rfl⟩;obtain⟨g1,g2⟩:=SR.die h4;exact⟨_,_,_,{ E' with n:=E'.n+1 },rfl,rfl,h3.ext g2,g1,h5.trans g2,rfl,rfl⟩
theorem bump {E E':Env}{σ:Store}(hS:SR E σ){id ver b:Nat}{cs cs':List AV}(hcs:Store.at σ id ver=some cs)(hk:E.ok id ver)(hloc:E.loc id=some (ver,some b))(hne:cs.length≠0)(hlen:cs'.length≠0)(h4:SR E' (σ.set id (.cells ver cs')))(h5:Ext E E'){sz len:Nat}{v:Value}
 (h3:VR E' (.os true sz id ver 0 len false) v):
 ∃ E2:Env,E2.w=E'.w∧SR E2 (σ.set id (.cells (ver+1) cs'))∧VR E2 (.os true sz id (ver+1) 0 len false) v∧Ext E E2:=by
 have hat:=Store.at_set (ver':=ver) (cs':=cs') hcs
 have hl':E'.loc id=some (ver,some b):=by
  rcases h4.at hat with ⟨b',e1,_⟩|⟨e1,_⟩
  · have:=h5.back hk e1; rw[hloc] at this; cases this; exact e1
  rw[e1] at hlen; exact absurd rfl hlen
 obtain⟨hS3,hx3⟩:=h4.move (ZM.refl E'.w) hat hl' (ob:=some b) (fun b hb=>by cases hb; exact⟨.inr rfl,(h4.blk _ _ _ hl').1⟩) (cs:=cs') (.inl ⟨b,by simp[Env.move],by
  rcases h4.at hat with ⟨b1,h1,hblk1⟩|⟨_,h1⟩
  · rw[hl'] at h1; cases h1
    obtain⟨conc,t,fr,a1,a2,a3,a4⟩:=hblk1.blk;exact⟨conc,t,fr,a1,a2,a3,fun k hk=>(a4 k hk).ext (Ext.move h4.stb (ZM.refl _) hl' _ fun b hb=>by cases hb; exact .inr rfl)⟩
  rw[hl'] at h1; cases h1⟩)
 rw[List.set_set] at hS3;refine⟨E'.move E'.w id (ver+1) (some b),rfl,hS3,?_,h5.trans hx3⟩;have hok:(E'.move E'.w id (ver+1) (some b)).ok id (ver+1):=⟨q5 hk.1 h5.n,fun v o hvo=>by simp[Env.move] at hvo; omega⟩
 cases h3 with
 |osn _ _ _ _ _ a hk h=>have:=h _ hl'; cases this
 |os _ _ _ _ _ _ _ a cap hk hc ht hB h=>
  refine .os _ _ _ _ _ _ _ a cap hok hc ht hB fun ob hob=>?_
  simp only[Env.move,if_true,Option.some.injEq,Prod.mk.injEq,true_and] at hob;subst hob;exact h _ hl'
theorem Insert_at {σ:Store}{id ver n i vid vver:Nat}{nl:Bool}{cells new:List AV}(hcs:Store.at σ id ver=some cells)(hlen:cells.length=n*2)(hone:cells.all AV.one=true)(hi:i≤n)(hn:(n+1)*32≤140737488355328)
 (hv:Store.at σ vid vver=some new) (hnew:new.length=2) (honev:new.all AV.one=true) (hvid:vid≠id):
 ACalls qi 234 [.os nl 2 id ver 0 n false,.int .i64 (i:Int),.os true 2 vid vver 0 1 true] σ (fun r σ'=>r=.os true 2 id (ver+1) 0 (n+1) false∧
  σ'=σ.set id (.cells (ver+1) (cells.take (i*2)++(new++cells.drop (i*2))))++[.dead]):=by
 have hlt:=Store.at_lt hcs
 by_cases hin:i=n
 · subst hin;refine ACalls.dies ?_;refine wJ (rs:=[.tmp 6]) tok Tryz.func234 rfl Tryz.ntmps234 rfl Tryz.call234 (by simp) ?_
   have hap:yv tab 34 34 (.os nl 2 id ver 0 i false) (.os true 2 vid vver 0 1 true) σ=some (.os true 2 id (ver+1) 0 (i+1) false,σ.set id (.cells (ver+1) (cells++new))):=by
    have e1:yc σ 2 (.os true 2 vid vver 0 1 true)=some (1,new):=by
     simp only[yc,hv];rw[if_pos (by omega),qn,Nat.one_mul,← hnew,uc]
    have hg:((i+1)*32≤140737488355328)=True:=eq_true (by omega);simp only[yv,YC,YB,ti34,ti40,e1,yx,hg,honev,qf,and_self,if_true,yb,hcs,hlen]
   have hsl:wm tab 34 (.os nl 2 id ver 0 i false) (some (.int .i64 (i:Int))) none none=some (.os nl 2 id ver (i*2) (i-i) false):=by
    simp only[wm,YC,YB,ti34,ti40,X6]
    simp
   refine zm [(0,.os nl 2 id ver 0 i false),(1,.int .i64 (i:Int)),(2,.os true 2 vid vver 0 1 true)] ⟨rfl,rfl,rfl,trivial⟩ ?_
   refine rg tok [0,1,2,6] fun K hK=>?_
   simp only[go_sem,qf,qb,qa,qc,qe,qd,reduceIte,reduceCtorEq];apply hK
   clear hK K
   refine rg tok [0,1,2,6] fun K hK=>?_
   simp only[go_sem,qf,qb,qa,qc,qe,qd,reduceIte,reduceCtorEq,hsl];apply hK
   clear hK K
   refine rg tok [0,1,2,6,7] fun K hK=>?_
   simp only[go_sem,qf,qb,qa,qc,qe,qd,reduceIte,reduceCtorEq];apply hK
   clear hK K
   refine zd fun Z hZ=>?_
   refine rg tok [0,1,2,6,7,16] fun K hK=>?_
   simp only[go_sem,qf,qb,qa,qc,qe,qd,reduceIte,reduceCtorEq];apply hK
   clear hK K
   refine zM rfl (fun h=>absurd h (by decide)) (fun _=>?_);refine zf ?_;refine hZ _ _ ?_
   clear hZ Z
   refine rg tok [0,1,2,6,7,8] fun K hK=>?_
   simp only[go_sem,qf,qb,qa,qc,qe,qd,reduceIte,reduceCtorEq];apply hK
   clear hK K
   refine zd fun Z hZ=>?_
   refine rg tok [0,1,2,6,7,8,22] fun K hK=>?_
   simp only[go_sem,qf,qb,qa,qc,qe,qd,reduceIte,reduceCtorEq,decide_true];apply hK
   clear hK K
   refine zu rfl ?_
   refine rg tok [6] fun K hK=>?_
   simp only[go_sem,qf,qb,qa,qc,qe,qd,reduceIte,reduceCtorEq,hap];apply hK
   clear hK K
   refine zJ ?_;simp only[wb,ya,yf,yS,exists_eq_left',go_sem,qf,qb,qa,qc,qe,qd,reduceIte,reduceCtorEq];rw[← hlen,uc,List.drop_length,qF]
 have hi':i<n:=by omega
 refine⟨Tryz.call234,fun E vs hS hl=>?_⟩;obtain⟨l1,l2⟩:=hl.arr
 rcases vs with ⟨_|⟨v0,_|⟨v1,_|⟨v2,_|⟨v3,l⟩⟩⟩⟩⟩<;>simp only[List.size_toArray,qx,qz,qc,reduceCtorEq,qa] at l1
 have h0:VR E (.os nl 2 id ver 0 n false) v0:=l2 0 (by simp);have h1:VR E (.int .i64 (i:Int)) v1:=l2 1 (by simp);have h2:VR E (.os true 2 vid vver 0 1 true) v2:=l2 2 (by simp)
 clear l2 hl
 cases h1
 cases h0 with
 |osn=>omega
 |os _ _ _ _ _ _ _ a cap hk hc ht hB hp=>
 cases h2 with
 |os _ _ _ _ _ _ _ av capv hkv hcv htv hBv hpv=>
 have:=htv rfl; subst this
 obtain⟨b,hloc,_⟩:=hS.block_of hcs (show 0<cells.length by omega);obtain⟨vb,hvloc,_⟩:=hS.block_of hv (show 0<new.length by omega);obtain⟨b',e1,e2,t,m,hsh,hts,hm⟩:=hp _ hloc;cases e1
 have:=e2.resolve_left (by omega); subst this
 obtain⟨b',e1,e2,tv,mv,hvsh,hvts,hmv⟩:=hpv _ hvloc;cases e1
 have:=e2.resolve_left (by omega); subst this
 by_cases hroom:n+1≤cap
 · refine (ins_shift hS hcs hlen hone hi' hloc hk hsh hts (by omega) hroom hn hv hnew honev hvid hvloc hkv hvsh hvts (by omega)).mono ?_;rintro e w ⟨E',rfl,rfl,h3,h4,h5⟩;obtain⟨E2,g1,g2,g3,g4⟩:=bump hS hcs hk hloc (by omega) (by simp only[qw,hnew]; omega) h4 h5 h3;obtain⟨hS3,hx3⟩:=SR.die g2;exact⟨_,_,_,{ E2 with n:=E2.n+1 },rfl,g1,g3.ext hx3,hS3,g4.trans hx3,rfl,rfl⟩
 have hcn:cap=n:=by omega
 subst hcn;refine (ins_grow hS hcs hlen hone hi' hloc hk hsh hts (by omega) hn hv hnew honev hvid hvloc hkv hvsh hvts (by omega)).mono ?_;rintro e w ⟨E',v,rfl,rfl,h3,h4,h5,hnew'⟩
 have hl':E'.loc id=some (ver,some b):=by
  have:=(h4.at (id:=id) (ver:=ver) (cs:=cells) (by
   have:=Store.at_lt hcs
   unfold Store.at at hcs ⊢; rw[qQ this]; exact hcs))
  rcases this with ⟨b',e1,_⟩|⟨e1,_⟩
  · have:=h5.back hk e1; rw[hloc] at this; cases this; exact e1
  rw[e1] at hlen; simp at hlen; omega
 have hn':∃ nb,E'.loc σ.length=some (0,some nb)∧E.w.heap.size≤nb:=by
  rcases h4.at (Store.at_new σ 0 _) with ⟨nb,e1,_⟩|⟨e1,_⟩
  · refine⟨nb,e1,Nat.le_of_not_lt fun hlt'=>?_⟩;obtain⟨i2,v2,e2⟩:=h5.own _ _ _ e1 hlt';exact hnew' i2 v2 nb e2 e1
  have:(cells.take (i*2)++(new++cells.drop (i*2))).length=0:=by rw[e1]; rfl
  simp only[qw,hnew] at this; omega
 obtain⟨nb,hn1,hn2⟩:=hn';obtain⟨g1,g2,g3⟩:=SR.swap h4 hlt hl' hn1;exact⟨_,_,_,{ E' with loc:=fun i=>if i=id then some (ver+1,some nb) else if i=σ.length then none else E'.loc i },rfl,rfl,g3 _ _ _ h3,g1,Ext.swap h5 hS hl' hn1 hn2 hlt,rfl,rfl⟩
end
section
set_option maxRecDepth 8000
set_option maxHeartbeats 1000000
open Go.RowKit AM
structure Ent where
 tag:Int
 id:Nat
 ver:Nat
 trees:List GTree
def Ent.cells (e:Ent):List AV:=[.int .i64 e.tag,.os true 5 e.id e.ver 0 e.trees.length false]
def Ent.val (e:Ent):GEntry:=⟨e.tag,e.trees⟩
structure Rep (σ:Store)(tid eid ever:Nat)(L:List Ent):Prop where
 t:Store.at σ tid 0=some [.int .i64 3,.int .i64 0,.str [],.os true 2 eid ever 0 L.length false,.ds true [] 0 true]
 e:Store.at σ eid ever=some (L.flatMap Ent.cells)
 tr:∀ x∈L,Store.at σ x.id x.ver=some (x.trees.flatMap encGTree)
 nd:(tid::eid::L.map Ent.id).Nodup
def XR (es:List GEntry)(f:GField)(x:GTree):Option (List GEntry×Bool):=
 (zr es f.fTag).bind fun p=>
 (if p.2=true then some es else (grd (0≤p.1∧p.1≤(es.length:Int))).bind fun _=>(Xj (es.length+1) 32).bind fun _=>some (es.take p.1.toNat++⟨f.fTag,[]⟩::es.drop p.1.toNat)).bind fun es1=>
 (YD es1 p.1).bind fun e=>
 (Xj ((if f.fLabel=3 then e.fTrees.length else 0)+1) 80).bind fun _=>
 some (es1.set p.1.toNat ⟨e.fTag,(if f.fLabel=3 then e.fTrees else [])++[x]⟩,decide ((((if f.fLabel=3 then e.fTrees else [])++[x]).length:Int)≤64))
theorem wq {σ:Store}{id ver:Nat}{cs:List AV}(h:Store.at σ id ver=some cs)(l:Store):Store.at (σ++l) id ver=some cs:=by
 have:=Store.at_lt h
 unfold Store.at at h ⊢; rw[qQ this]; exact h
theorem xz {σ:Store}{id id' ver:Nat}{cs:List AV}(h:Store.at σ id ver=some cs)(hne:id≠id')(o:AObj):Store.at (σ.set id' o) id ver=some cs:=by
 unfold Store.at at h ⊢; rw[qZ (fun e=>hne e.symm)]; exact h
theorem XB (σ:Store)(cs:List AV)(l:Store):Store.at (σ++.cells 0 cs::l) σ.length 0=some cs:=by
 unfold Store.at; rw[q7 (qy _),uI]; rfl
theorem at_end1 (σ:Store)(o:AObj)(cs:List AV)(l:Store):Store.at (σ++o::.cells 0 cs::l) (σ.length+1) 0=some cs:=by
 unfold Store.at; rw[q7 (by omega)]; simp
theorem Rep.app {σ:Store}{tid eid ever:Nat}{L:List Ent}(h:Rep σ tid eid ever L)(l:Store):Rep (σ++l) tid eid ever L:=
 ⟨wq h.t l,wq h.e l,fun x hx=>wq (h.tr x hx) l,h.nd⟩
theorem Rep.toldC {σ:Store}{tid eid ever:Nat}{L:List Ent}(h:Rep σ tid eid ever L)(keep:List Nat)(ls:Bool)(f:Nat)(hk:∀ y∈L,idxOf keep y.id 0=none):(L.flatMap Ent.cells).map (tell σ keep ls (f+2))=(L.map Ent.val).flatMap encGEntry:=by
 have key:∀ l:List Ent,(∀ x∈l,x∈L)→(l.flatMap Ent.cells).map (tell σ keep ls (f+2))=(l.map Ent.val).flatMap encGEntry:=by
  intro l
  induction l with
  |nil=>intro _; rfl
  |cons a l ih=>
   intro hl
   have h1:=h.tr a (hl a (uO ..));have h2:=hk a (hl a (uO ..));simp only[qB,qo,qp,ih fun x hx=>hl x (ue _ hx)]
   congr 1
   simp only[Ent.cells,Ent.val,qp,qs,YY,w9,h2,h1,zN,cellsGEntry,GEntry.fTag,GEntry.fTrees];have hl:(a.trees.flatMap encGTree).length=a.trees.length*5:=zE E38.len a.trees;rw[if_pos (by rw[hl]; omega),qn,← hl,uc,zh]
 exact key L (fun _ h=>h)
theorem Rep.told {σ:Store}{tid eid ever:Nat}{L:List Ent}(h:Rep σ tid eid ever L)(nl:Bool):tell σ [] true 12 (.os nl 2 eid ever 0 L.length false)=.ds true ((L.map Ent.val).flatMap encGEntry) (L.map Ent.val).length false:=by
 have hl:(L.flatMap Ent.cells).length=L.length*2:=by
  clear h
  induction L with
  |nil=>rfl
  |cons a l ih=>rw[qB,qw,ih]; simp[Ent.cells]; omega
 simp only[w9,wC,h.e];rw[if_pos (by rw[hl]; omega),qn,← hl,uc,h.toldC [] true 9 (fun _ _=>rfl),ub]
theorem Rep.set_ne {σ:Store}{tid eid ever:Nat}{L:List Ent}(h:Rep σ tid eid ever L){j:Nat}(hj:j∉tid::eid::L.map Ent.id)(o:AObj):Rep (σ.set j o) tid eid ever L:=by
 refine⟨xz h.t (fun e=>hj (by rw[← e]; simp)) o,xz h.e (fun e=>hj (by rw[← e]; simp)) o,fun x hx=>xz (h.tr x hx) (fun e=>hj ?_) o,h.nd⟩;rw[← e];exact ue _ (ue _ (um.2 ⟨x,hx,rfl⟩))
structure Mid (σ τ:Store)(tid eid ever:Nat)(ids:List Nat)(pre post:List Ent)(tag:Int)(av:AV)(trees:List GTree):Prop where
 t:Store.at τ tid 0=some [.int .i64 3,.int .i64 0,.str [],.os true 2 eid ever 0 (pre.length+(1+post.length)) false,.ds true [] 0 true]
 e:Store.at τ eid ever=some (pre.flatMap Ent.cells++([.int .i64 tag,av]++post.flatMap Ent.cells))
 tr:∀ y∈pre++post,Store.at τ y.id y.ver=some (y.trees.flatMap encGTree)
 nd:(tid::eid::(pre++post).map Ent.id).Nodup
 c:(av=.ds true [] 0 true∧trees=[])∨∃ id ver,av=.os true 5 id ver 0 trees.length false∧Store.at τ id ver=some (trees.flatMap encGTree)∧id∉tid::eid::(pre++post).map Ent.id∧id∈ids
 sub:∀ y∈pre++post,y.id∈ids
 len:σ.length+2≤τ.length
 fr:∀ j,j<σ.length→j∉tid::eid::ids→τ[j]?=σ[j]?
 lt:∀ j∈tid::eid::ids,j<σ.length
theorem agr_app {x:List Nat}:∀ {s:Store} {i:Nat} (l:Store),agr x i s s (s++l)=True:=by
 intro s
 induction s with
 |nil=>intro i l; rfl
 |cons a s ih=>intro i l; simp only[qH,agr,ih]; simp
theorem Xz (l:List Ent):(l.flatMap Ent.cells).length=l.length*2:=by
 induction l with
 |nil=>rfl
 |cons a l ih=>rw[qB,qw,ih]; simp[Ent.cells]; omega
theorem cells_one (l:List Ent):(l.flatMap Ent.cells).all AV.one=true:=by
 induction l with
 |nil=>rfl
 |cons a l ih=>rw[qB,List.all_append,ih]; rfl
theorem split_at {α:Type}{l:List α}{k:Nat}(h:k≤l.length):∃ a b,l=a++b∧a.length=k:=⟨l.take k,l.drop k,(ui k l).symm,by simp[h]⟩
theorem split_el {α:Type}{l:List α}{k:Nat}(h:k<l.length):∃ a x b,l=a++x::b∧a.length=k:=by
 refine⟨l.take k,l[k],l.drop (k+1),?_,by simp; omega⟩;rw[← List.drop_eq_getElem_cons h,ui]
theorem set_mid {α:Type}(a:List α)(x y:α)(b:List α):(a++x::b).set a.length y=a++y::b:=by
 rw[List.set_append_right _ _ (qy _),uI]; rfl
theorem gc_mid (a b:List AV)(x y:AV):gc (a++([x,y]++b)) (a.length+1)=y:=by
 rw[Zd _ _ _ (by omega),Nat.add_sub_cancel_left]; rfl
theorem set_mid1 (a b:List AV)(x y z:AV):(a++([x,y]++b)).set (a.length+1) z=a++([x,z]++b):=by
 rw[List.set_append_right _ _ (by omega),Nat.add_sub_cancel_left]; rfl
theorem put_at {σ:Store}{tid eid ever:Nat}{L:List Ent}(hR:Rep σ tid eid ever L)(f:GField)(x:GTree){es':List GEntry}{b:Bool}(h:XR (L.map Ent.val) f x=some (es',b)):
 ACalls qi 195 [.op tid 0 0,.agg (encGField f),.agg (cellsGTree x)] σ (fun r σ'=>∃ ever' L',r=.bool b∧Rep σ' tid eid ever' L'∧L'.map Ent.val=es'∧
  (∀ y∈L',y.id∈L.map Ent.id∨σ.length≤y.id)∧σ.length≤σ'.length∧∀ j,j<σ.length→j∉tid::eid::L.map Ent.id→σ'[j]?=σ[j]?):=by
 refine wJ (rs:=[.tmp 6]) tok Tryz.func195 rfl Tryz.ntmps195 rfl Tryz.call195 (by simp) ?_;refine zm [(0,.op tid 0 0),(1,.agg (encGField f)),(2,.agg (cellsGTree x))] ⟨rfl,rfl,rfl,trivial⟩ ?_
 refine rg tok [0,4,5,6] fun K hK=>?_
 simp only[go_sem,qf,qb,qa,qc,qe,qd,reduceIte,reduceCtorEq,encGField,encGType,cellsGTree];apply hK
 clear hK K
 simp only[qD,qH,qJ,qw,qx,qz,ql]
 obtain⟨σ1,hσ1⟩:∃ s,s=σ++[.cells 0 [.str f.fName,.int .i64 f.fTag,.int .i64 f.fLabel,.int .i64 f.fType.fKind,.str f.fType.fName],
  .cells 0 [.int .i64 x.fKind,.int .i64 x.fN,.str x.fS,.ds true (qh encGEntry x.fEntries) x.fEntries.length false,.ds true (qh encGRaw x.fRest) x.fRest.length false]]:=⟨_,rfl⟩
 rw[← hσ1];have hR1:Rep σ1 tid eid ever L:=hσ1▸hR.app _;have h4:Store.at σ1 σ.length 0=some [.str f.fName,.int .i64 f.fTag,.int .i64 f.fLabel,.int .i64 f.fType.fKind,.str f.fType.fName]:=hσ1▸XB _ _ _;have h5:Store.at σ1 (σ.length+1) 0=some [.int .i64 x.fKind,.int .i64 x.fN,.str x.fS,.ds true (qh encGEntry x.fEntries) x.fEntries.length false,.ds true (qh encGRaw x.fRest) x.fRest.length false]:=hσ1▸at_end1 _ _ _ _
 have hn1:σ1.length=σ.length+2:=by rw[hσ1]; simp
 have hfr:∀ j,j<σ.length→σ1[j]?=σ[j]?:=fun j hj=>by rw[hσ1,qQ hj]
 have hlt:∀ j∈tid::eid::L.map Ent.id,j<σ.length:=by
  intro j hj
  rcases uk.1 hj with rfl|hj
  · exact Store.at_lt hR.t
  rcases uk.1 hj with rfl|hj
  · exact Store.at_lt hR.e
  obtain⟨y,hy,rfl⟩:=um.1 hj;exact Store.at_lt (hR.tr y hy)
 clear hσ1
 unfold XR at h;obtain⟨p,hp,h⟩:=bind_some h;have ht1:=hR1.t
 refine rd [0,4,5,6,7,8] fun K hK=>?_
 refine DW.start (T:=tab) [.any,.any,.any,.at [],.any,.at [],.eff,.any,.any,.any,.any,.any] [] ?_;refine DW.runN tok 6 ?_;simp only[go_sem,qf,qb,qa,qc,qe,qd,reduceIte,reduceCtorEq,ht1,h4];refine DW.call rfl rfl rfl ((zr.ok _ _ p hp).lend rfl true 12 (by simp only[qp,qs,go_sem,qf,qb,qa,qc,qe,qd,reduceIte,reduceCtorEq,hR1.told true,YY]; rfl)) ?_;refine DW.runN tok 5 ?_;simp only[go_sem,qf,qb,qa,qc,qe,qd,reduceIte,reduceCtorEq];refine DW.fin tok (by decide +kernel) rfl ?_;simp only[zk,zw,zD,xJ,upd,qa,reduceIte,z1,yA];apply hK
 clear hK K
 obtain⟨es1,hes1,h⟩:=bind_some h;obtain⟨e,he,h⟩:=bind_some h;obtain⟨u,hu,h⟩:=bind_some h;have hg:=yI hu
 have hidL:∀ l:List Ent,(l.map Ent.val).length=l.length:=fun l=>ub _
 refine yR (fun F τ=>F=[(0,AV.op tid 0 0),(4,.op σ.length 0 0),(5,.op (σ.length+1) 0 0),(6,.bool false),(7,.int .i64 p.1)]∧∃ ever' pre post av,p.1=(pre.length:Int)∧es1=pre.map Ent.val++e::post.map Ent.val∧Mid σ τ tid eid ever' (L.map Ent.id) pre post e.fTag av e.fTrees∧
  Store.at τ σ.length 0=some [.str f.fName,.int .i64 f.fTag,.int .i64 f.fLabel,.int .i64 f.fType.fKind,.str f.fType.fName]∧
  Store.at τ (σ.length+1) 0=some [.int .i64 x.fKind,.int .i64 x.fN,.str x.fS,.ds true (qh encGEntry x.fEntries) x.fEntries.length false,.ds true (qh encGRaw x.fRest) x.fRest.length false]) ?_ ?_
 · refine rg tok [0,4,5,6,7,21] fun K hK=>?_
   simp only[go_sem,qf,qb,qa,qc,qe,qd,reduceIte,reduceCtorEq];apply hK
   clear hK K
   refine zs (b := !p.2) rfl (fun hc=>?_) (fun hc=>?_)
   · have hc':p.2=false:=by simpa using hc
     rw[xI hc'] at hes1;obtain⟨_,h1,hes1⟩:=bind_some hes1;obtain⟨_,h2,hes1⟩:=bind_some hes1;have h1:=wO h1;have h2:=yI h2;obtain rfl:=Option.some.inj hes1
     obtain⟨k,hk⟩:∃ k:Nat,p.1=k:=⟨p.1.toNat,by omega⟩
     rw[hk] at he h1 ⊢;simp only[uA,hidL] at he h1 h2
     have hkl:k≤L.length:=by omega
     obtain⟨pre,post,rfl,rfl⟩:=split_at hkl;have hl2:(pre++post).length=pre.length+post.length:=qw
     have e1:List.take pre.length ((pre++post).map Ent.val)=pre.map Ent.val:=by rw[qo,← ub (f:=Ent.val),List.take_left]
     have e2:List.drop pre.length ((pre++post).map Ent.val)=post.map Ent.val:=by rw[qo,← ub (f:=Ent.val),List.drop_left]
     rw[e1,e2] at he
     have hee:e=⟨f.fTag,[]⟩:=by
      obtain⟨_,_,_,g3⟩:=wo he
      rw[← g3]; simp
     subst hee;rw[uA,e1,e2]
     have hc1:((pre++post).flatMap Ent.cells).take (pre.length*2)=pre.flatMap Ent.cells:=by rw[qA,← Xz,List.take_left]
     have hc2:((pre++post).flatMap Ent.cells).drop (pre.length*2)=post.flatMap Ent.cells:=by rw[qA,← Xz,List.drop_left]
     have htl:(tid<σ1.length)=True:=eq_true (by have:=hlt tid (by simp); omega);have htl2:(tid<σ.length)=True:=eq_true (hlt tid (by simp));have hel:=hlt eid (by simp)
     have hte:tid≠eid:=by have:=hR1.nd; simp at this; exact this.1.1
     have hins:=Insert_at (σ:=σ1++[AObj.cells 0 [AV.int .i64 f.fTag,AV.ds true [] 0 true]]) (nl:=true) (i:=pre.length) (wq hR1.e _) (Xz _) (cells_one _) (by omega) (by have:=of_eq_true h2; omega) (XB σ1 _ []) (new:=[AV.int .i64 f.fTag,AV.ds true [] 0 true]) rfl rfl (by omega);rw[hc1,hc2] at hins
     obtain⟨σ2,hσ2⟩:∃ s,s=List.set (σ1++[AObj.cells 0 [AV.int .i64 f.fTag,AV.ds true [] 0 true]]) eid (AObj.cells (ever+1) (pre.flatMap Ent.cells++([AV.int .i64 f.fTag,AV.ds true [] 0 true]++post.flatMap Ent.cells)))++[AObj.dead]:=⟨_,rfl⟩
     rw[← hσ2] at hins
     have ht2:Store.at σ2 tid 0=some [.int .i64 3,.int .i64 0,.str [],.os true 2 eid ever 0 (pre++post).length false,.ds true [] 0 true]:=by
      rw[hσ2]; exact wq (xz (wq hR1.t _) hte _) _
     refine rdE [0,4,5,6,7] fun K hK=>?_
     refine DW.start (T:=tab) [.any,.any,.any,.any,.own 1 [],.any,.any,.at [],.any,.eff,.eff,.any,.any,.eff] [(1,[])] ?_;refine DW.runN tok 6 ?_;simp only[go_sem,qf,qb,qa,qc,qe,qd,reduceIte,reduceCtorEq,ht1,h4,htl];refine DW.runN tok 4 ?_;simp only[go_sem,qf,qb,qa,qc,qe,qd,reduceIte,reduceCtorEq,ht1,h4,htl,zL,zX,qY,qS,qX,true_and,q3,agr_app];refine DW.callS rfl rfl rfl hins (fun m x hm hle=>by simp at hm hle; omega) ?_;refine DW.runN tok 3 ?_;simp only[go_sem,qf,qb,qa,qc,qe,qd,reduceIte,reduceCtorEq,ht2];refine DW.fin tok (by decide +kernel) rfl ?_;simp only[zk,zw,zD,xJ,upd,qa,reduceIte,z1,yA];apply hK
     clear hK K
     have hnd:=hR1.nd
     have keep:∀ {j v:Nat} {cs:List AV},Store.at σ1 j v=some cs→j≠eid→j≠tid→Store.at (σ2.set tid (.cells 0 [.int .i64 3,.int .i64 0,.str [],.os true 2 eid (ever+1) 0 ((pre++post).length+1) false,.ds true [] 0 true])) j v=some cs:=by
      intro j v cs hj h1 h2
      refine xz ?_ h2 _
      rw[hσ2]; exact wq (xz (wq hj _) h1 _) _
     have hnid:∀ y∈pre++post,y.id≠eid∧y.id≠tid:=by
      intro y hy
      have hm:y.id∈(pre++post).map Ent.id:=um.2 ⟨y,hy,rfl⟩;rw[List.nodup_cons,List.nodup_cons] at hnd;exact⟨fun e=>hnd.2.1 (e▸hm),fun e=>hnd.1 (ue _ (e▸hm))⟩
     simp only[zk];refine⟨_,_,⟨rfl,ever+1,pre,post,.ds true [] 0 true,rfl,rfl,⟨?_,?_,?_,hnd,.inl ⟨rfl,rfl⟩,?_,?_,?_,hlt⟩,keep h4 (by omega) (by have:=of_eq_true htl2; omega),keep h5 (by omega) (by have:=of_eq_true htl2; omega)⟩,.same ⟨rfl,rfl,rfl,rfl,rfl,trivial⟩ rfl⟩
     · have:=Store.at_set (ver':=0) (cs':=[.int .i64 3,.int .i64 0,.str [],.os true 2 eid (ever+1) 0 ((pre++post).length+1) false,.ds true [] 0 true]) ht2;rw[this,hl2];simp only[Option.some.injEq,List.cons.injEq,AV.os.injEq,true_and,and_true]
       omega
     · refine xz ?_ hte.symm _
       rw[hσ2]; exact wq (Store.at_set (wq hR1.e _)) _
     · intro y hy; exact keep (hR1.tr y hy) (hnid y hy).1 (hnid y hy).2
     · intro y hy; exact um.2 ⟨y,hy,rfl⟩
     · rw[hσ2]; simp; omega
     intro j hj hjn
     simp only[uk,not_or] at hjn;rw[qZ (fun e=>hjn.1 e.symm),hσ2,qQ (by simp; omega),qZ (fun e=>hjn.2.1 e.symm),qQ (by omega)];exact hfr j hj
   have hc':p.2=true:=by simpa using hc
   rw[if_pos hc'] at hes1;obtain rfl:=Option.some.inj hes1
   obtain⟨k,hk⟩:∃ k:Nat,p.1=k:=⟨p.1.toNat,by have:=(wo he).1; omega⟩
   have he':=he;rw[hk] at he';obtain⟨g0,g1,g2,g3⟩:=wo he';simp only[uA,hidL] at g1 g2 g3;obtain⟨pre,a,post,rfl,rfl⟩:=split_el (show k<L.length by omega)
   have hea:e=a.val:=by
    rw[← g3]; simp
   subst hea;refine zf ?_;simp only[zk];refine⟨_,σ1,⟨rfl,ever,pre,post,.os true 5 a.id a.ver 0 a.trees.length false,hk,by simp,⟨?_,?_,?_,?_,?_,?_,?_,?_,?_⟩,h4,h5⟩,.same ⟨rfl,rfl,rfl,rfl,rfl,trivial⟩ rfl⟩
   · have:=hR1.t
     rw[qw,qx,Nat.add_comm post.length 1] at this; exact this
   · have:=hR1.e
     rw[qA,qB] at this; exact this
   · intro y hy
     refine hR1.tr y ?_
     rcases List.mem_append.1 hy with h|h
     · exact uM _ h
     exact List.mem_append_right _ (ue _ h)
   · have:=hR1.nd;refine List.Nodup.sublist ?_ this;refine List.Sublist.cons_cons _ (List.Sublist.cons_cons _ ?_);exact (List.Sublist.append_left (List.sublist_cons_self _ _) _).map _
   · refine .inr ⟨a.id,a.ver,rfl,hR1.tr a (by simp),?_,by simp⟩;have:=hR1.nd;simp only[qo,qp,List.nodup_cons,uk,List.mem_append,List.nodup_append,not_or] at this ⊢;obtain⟨⟨h1,h2,h3,h4⟩,⟨h5,h6,h7⟩,h8,⟨h9,h10⟩,h11⟩:=this;exact⟨fun e=>h3 e.symm,fun e=>h6 e.symm,fun hm=>h11 _ hm _ (.inl rfl) rfl,h9⟩
   · intro y hy
     rcases List.mem_append.1 hy with h|h
     · exact um.2 ⟨y,uM _ h,rfl⟩
     exact um.2 ⟨y,List.mem_append_right _ (ue _ h),rfl⟩
   · omega
   · intro j hj _; exact hfr j hj
   exact hlt
 clear hes1 hp ht1 hR1 h4 h5 hn1 hfr σ1
 rintro _ τ ⟨rfl,ever1,pre,post,av,hp1,rfl,hM,h4,h5⟩;rw[hp1] at he h;simp only[uA] at h
 have hix:xQ tab 34 (.os true 2 eid ever1 0 (pre.length+(1+post.length)) false) (.int .i64 p.1)=some (.op eid ever1 (pre.length*2)):=by
  rw[hp1];simp only[xQ,YC,YB,ti34,ti40]
  simp
  omega
 have ht:=hM.t
 refine rg tok [4,5,6,9] fun K hK=>?_
 simp only[go_sem,qf,qb,qa,qc,qe,qd,reduceIte,reduceCtorEq,ht,hix];apply hK
 clear hK K
 have hcl:(pre.flatMap Ent.cells).length=pre.length*2:=Xz pre
 refine yR (fun F τ'=>F=[(5,AV.op (σ.length+1) 0 0),(6,.bool false),(9,.op eid ever1 (pre.length*2))]∧∃ av',Mid σ τ' tid eid ever1 (L.map Ent.id) pre post e.fTag av' (if f.fLabel=3 then e.fTrees else [])∧
  Store.at τ' (σ.length+1) 0=some [.int .i64 x.fKind,.int .i64 x.fN,.str x.fS,.ds true (qh encGEntry x.fEntries) x.fEntries.length false,.ds true (qh encGRaw x.fRest) x.fRest.length false]) ?_ ?_
 · refine rg tok [5,6,9,43] fun K hK=>?_
   simp only[go_sem,qf,qb,qa,qc,qe,qd,reduceIte,reduceCtorEq,h4];apply hK
   clear hK K
   refine zM rfl (fun hc=>?_) (fun hc=>?_)
   · obtain⟨cs,hcs⟩:∃ cs,cs=pre.flatMap Ent.cells++([.int .i64 e.fTag,av]++post.flatMap Ent.cells):=⟨_,rfl⟩
     have hMe:=hM.e;rw[← hcs] at hMe;have hle:(pre.length*2+1<cs.length)=True:=eq_true (by rw[hcs]; simp only[qw,hcl,qx,qz]; omega);have hle':(pre.length*2+1+1≤cs.length)=True:=eq_true (by have:=of_eq_true hle; omega)
     refine rgE tok [5,6,9] fun K hK=>?_
     simp only[go_sem,qf,qb,qa,qc,qe,qd,reduceIte,reduceCtorEq,hMe,hle,hle'];apply hK
     clear hK K
     have hset:cs.set (pre.length*2+1) (.ds true [] 0 true)=pre.flatMap Ent.cells++([.int .i64 e.fTag,.ds true [] 0 true]++post.flatMap Ent.cells):=by
      rw[hcs,← hcl,set_mid1]
     rw[hset];simp only[zk];rw[if_neg hc];have hnd:=hM.nd;have hlt:=hM.lt;rw[List.nodup_cons,List.nodup_cons] at hnd
     have hte:tid≠eid:=fun e=>hnd.1 (e▸uO ..)
     refine⟨_,_,⟨rfl,.ds true [] 0 true,⟨xz hM.t hte _,Store.at_set hM.e,?_,hM.nd,.inl ⟨rfl,rfl⟩,hM.sub,?_,?_,hM.lt⟩,xz h5 ?_ _⟩,.same ⟨rfl,rfl,rfl,trivial⟩ rfl⟩
     · intro y hy
       refine xz (hM.tr y hy) ?_ _
       intro e; exact hnd.2.1 (e▸um.2 ⟨y,hy,rfl⟩)
     · have:=hM.len; simpa using this
     · intro j hj hjn
       rw[qZ]
       · exact hM.fr j hj hjn
       intro e; exact hjn (e▸by simp)
     have:=hlt eid (by simp); omega
   refine zf ?_;simp only[zk];rw[if_pos hc];exact⟨_,τ,⟨rfl,av,hM,h5⟩,.same ⟨rfl,rfl,rfl,trivial⟩ rfl⟩
 clear hM h4 h5 hix ht τ av
 rintro _ τ ⟨rfl,av,hM,h5⟩
 obtain⟨cs,hcs⟩:∃ cs,cs=pre.flatMap Ent.cells++([.int .i64 e.fTag,av]++post.flatMap Ent.cells):=⟨_,rfl⟩
 have hMe:=hM.e;rw[← hcs] at hMe;have hle:(pre.length*2+1<cs.length)=True:=eq_true (by rw[hcs]; simp only[qw,hcl,qx,qz]; omega);have hle':(pre.length*2+1+1≤cs.length)=True:=eq_true (by have:=of_eq_true hle; omega)
 have hgc:gc cs (pre.length*2+1)=av:=by rw[hcs,← hcl,gc_mid]
 have heid:(eid<τ.length)=True:=eq_true (Store.at_lt hMe)
 refine rd [6,9] fun K hK=>?_
 refine DW.start (T:=tab) [.any,.any,.any,.any,.own 1 [],.at [],.eff,.eff,.any,.any,.eff] [(1,[])] ?_;refine DW.runN tok 6 ?_;simp only[go_sem,qf,qb,qa,qc,qe,qd,reduceIte,reduceCtorEq,hMe,hle,hle',hgc,heid,h5]
 obtain⟨xc,hxc⟩:∃ xc,xc=[AV.int .i64 x.fKind,.int .i64 x.fN,.str x.fS,.ds true (qh encGEntry x.fEntries) x.fEntries.length false,.ds true (qh encGRaw x.fRest) x.fRest.length false]:=⟨_,rfl⟩
 have hx5:xc.length=5:=by rw[hxc]; rfl
 have hx1:xc.all AV.one=true:=by rw[hxc]; rfl
 have hxe:xc=encGTree x:=by rw[hxc,zb]<;>rfl
 generalize htr:(if f.fLabel=3 then e.fTrees else [])=trees at *
 have key:∃ nid nver τ3,yv tab 38 38 av (.os true 5 τ.length 0 0 1 true) (τ++[.cells 0 xc])=some (.os true 5 nid nver 0 (trees.length+1) false,τ3)∧Store.at τ3 nid nver=some (trees.flatMap encGTree++xc)∧
  (∀ j v cs,Store.at τ j v=some cs→j≠nid→Store.at τ3 j v=some cs)∧nid∉tid::eid::(pre++post).map Ent.id∧(nid∈L.map Ent.id∨σ.length≤nid)∧τ.length≤τ3.length∧∀ j,j<σ.length→j∉tid::eid::L.map Ent.id→τ3[j]?=τ[j]?:=by
  have e1:yc (τ++[.cells 0 xc]) 5 (.os true 5 τ.length 0 0 1 true)=some (1,xc):=by
   simp only[yc,XB τ xc []];rw[if_pos (by omega),qn,Nat.one_mul,← hx5,uc]
  rcases hM.c with ⟨rfl,h0⟩|⟨id,ver,rfl,h1,h2,h3⟩
  · refine⟨τ.length+1,0,τ++[.cells 0 xc]++[.cells 0 xc],?_,?_,fun j v cs hj _=>wq (wq hj _) _,fun hj=>?_,.inr (by have:=hM.len; omega),by simp,fun j hj _=>?_⟩
    · subst h0;simp only[yv,tab_38,tab_37,ti38,ti37,e1,yx,hx1,yb,if_true,qw,qx,qz]
      simp
    · subst h0;simp only[qD,qH,qJ];exact at_end1 _ _ _ _
    · have:τ.length+1<σ.length:=hM.lt _ (by
       rcases uk.1 hj with h|h
       · rw[h]; simp
       rcases uk.1 h with h|h
       · rw[h]; simp
       obtain⟨y,hy,h'⟩:=um.1 h
       rw[← h']; exact ue _ (ue _ (hM.sub y hy)))
      have:=hM.len; omega
    have:=hM.len;rw[qD,qQ (by omega)]
  refine⟨id,ver+1,List.set (τ++[AObj.cells 0 xc]) id (AObj.cells (ver+1) (trees.flatMap encGTree++xc)),?_,Store.at_set (wq h1 _),fun j v cs hj hne=>xz (wq hj _) hne _,h2,.inl h3,by simp,fun j hj hjn=>?_⟩
  · have hl:(trees.flatMap encGTree).length=trees.length*5:=zE E38.len trees
    have hg':((trees.length+1)*80≤140737488355328)=True:=by
     rw[← htr]
     by_cases hl3:f.fLabel=3
     · rw[if_pos hl3]; rw[if_pos hl3] at hg; exact hg
     rw[if_neg hl3]; simp
    simp only[yv,tab_38,tab_37,ti38,ti37,e1,yx,hx1,yb,wq h1,hl,hg',and_self,qf,if_true]
  have:=hM.len;rw[qZ,qQ (by omega)]
  intro e; exact hjn (e▸ue _ (ue _ h3))
 obtain⟨nid,nver,τ3,k1,k2,k3,k4,k5,k6,k7⟩:=key
 have hne:eid≠nid:=fun e=>k4 (e▸by simp)
 have hMe3:=k3 _ _ _ hMe hne;refine DW.runN tok 1 ?_;simp only[go_sem,qf,qb,qa,qc,qe,qd,reduceIte,reduceCtorEq,zL,zX,qY,qS,qX,true_and,q3,agr_app];rw[← hxc];refine DW.runN tok 1 ?_;simp only[go_sem,qf,qb,qa,qc,qe,qd,reduceIte,reduceCtorEq,k1];refine DW.runN tok 3 ?_;simp only[go_sem,qf,qb,qa,qc,qe,qd,reduceIte,reduceCtorEq,hMe3,hle,hle'];refine DW.fin tok (by decide +kernel) rfl ?_;simp only[zk,zw,zD,xJ,upd,qa,reduceIte,z1,yA];apply hK
 clear hK K
 have hset:cs.set (pre.length*2+1) (.os true 5 nid nver 0 (trees.length+1) false)=pre.flatMap Ent.cells++([.int .i64 e.fTag,.os true 5 nid nver 0 (trees.length+1) false]++post.flatMap Ent.cells):=by
  rw[hcs,← hcl,set_mid1]
 have hat4:=Store.at_set (ver':=ever1) (cs':=cs.set (pre.length*2+1) (.os true 5 nid nver 0 (trees.length+1) false)) hMe3
 generalize cs.set (pre.length*2+1) (.os true 5 nid nver 0 (trees.length+1) false)=cs4 at *
 have hgc4:gc cs4 (pre.length*2+1)=.os true 5 nid nver 0 (trees.length+1) false:=by rw[hset,← hcl,gc_mid]
 have hle4:(pre.length*2+1<cs4.length)=True:=eq_true (by rw[hset]; simp only[qw,hcl,qx,qz]; omega)
 refine rg tok [6] fun K hK=>?_
 simp only[go_sem,qf,qb,qa,qc,qe,qd,reduceIte,reduceCtorEq,hat4,hgc4,hle4];apply hK
 clear hK K
 refine zJ ?_;simp only[wb,ya,yf,yS,exists_eq_left',go_sem,qf,qb,qa,qc,qe,qd,reduceIte,reduceCtorEq];have h':=Option.some.inj h;obtain⟨h1,h2⟩:=Prod.mk.inj h';have hnd:=hM.nd;have hlt:=hM.lt;rw[List.nodup_cons,List.nodup_cons] at hnd
 have hte:tid≠eid:=fun e=>hnd.1 (e▸uO ..)
 have htn:tid≠nid:=fun e=>k4 (e▸by simp)
 have hll:(trees++[x]).length=trees.length+1:=by simp
 refine⟨ever1,pre++⟨e.fTag,nid,nver,trees++[x]⟩::post,?_,⟨?_,?_,?_,?_⟩,?_,?_,?_,?_⟩
 · rw[← h2,hll]
 · refine xz ?_ hte _;have:=k3 _ _ _ hM.t htn;rw[this];simp only[Option.some.injEq,List.cons.injEq,AV.os.injEq,true_and,and_true,qw,qx]
   omega
 · rw[hat4,hset]
   simp[Ent.cells]
 · intro y hy
   rcases List.mem_append.1 hy with hy|hy
   · refine xz (k3 _ _ _ (hM.tr y (uM _ hy)) ?_) ?_ _
     · intro e'; exact k4 (e'▸ue _ (ue _ (um.2 ⟨y,uM _ hy,rfl⟩)))
     intro e'; exact hnd.2.1 (e'▸um.2 ⟨y,uM _ hy,rfl⟩)
   rcases uk.1 hy with rfl|hy
   · refine xz ?_ hne.symm _
     show Store.at τ3 nid nver=some ((trees++[x]).flatMap encGTree)
     rw[k2,qA,hxe]; simp
   refine xz (k3 _ _ _ (hM.tr y (List.mem_append_right _ hy)) ?_) ?_ _
   · intro e'; exact k4 (e'▸ue _ (ue _ (um.2 ⟨y,List.mem_append_right _ hy,rfl⟩)))
   intro e'; exact hnd.2.1 (e'▸um.2 ⟨y,List.mem_append_right _ hy,rfl⟩)
 · have hp:(nid::tid::eid::(pre++post).map Ent.id).Nodup:=List.nodup_cons.2 ⟨k4,hM.nd⟩;refine (List.Perm.nodup_iff ?_).1 hp;refine (List.Perm.swap _ _ _).trans (List.Perm.cons _ ((List.Perm.swap _ _ _).trans (List.Perm.cons _ ?_)));rw[qo,qo,qp];exact (List.perm_middle).symm
 · rw[← h1,← hidL pre,set_mid]
   simp[Ent.val]
 · intro y hy
   rcases List.mem_append.1 hy with hy|hy
   · exact .inl (hM.sub y (uM _ hy))
   rcases uk.1 hy with rfl|hy
   · exact k5
   exact .inl (hM.sub y (List.mem_append_right _ hy))
 · have:=hM.len; simp; omega
 intro j hj hjn
 rw[qZ (fun e=>hjn (by rw[← e]; simp)),k7 j hj hjn];exact hM.fr j hj hjn
end
section
set_option maxRecDepth 8000
set_option maxHeartbeats 1000000
open Go.RowKit AM
def wP (m:GMessage):List GEntry→Option (List GEntry)
 |[]=>some []
 |e::l=>(xe e m).bind fun b=>(wP m l).bind fun l'=>some (if b=true then l' else e::l')
theorem idx_del (m:GMessage):∀ (es:List GEntry) (x:Int) (es':List GEntry),wP m es=some es'→
 ∃ r,zq.l4 m es x=some r∧((r = -1∧es'=es)∨∃ pre e post post',es=pre++e::post∧r=x+pre.length∧wP m post=some post'∧es'=pre++post'):=by
 intro es
 induction es with
 |nil=>intro x es' h; cases h; exact⟨-1,rfl,.inl ⟨rfl,rfl⟩⟩
 |cons e l ih=>
  intro x es' h
  simp only[wP] at h;obtain⟨b,hb,h⟩:=bind_some h;obtain⟨l',hl,h⟩:=bind_some h;obtain rfl:=Option.some.inj h;simp only[zq.l4,hb,un]
  cases b with
  |true=>exact⟨x,rfl,.inr ⟨[],e,l,l',rfl,by simp,hl,rfl⟩⟩
  |false=>
   obtain⟨r,h1,h2⟩:=ih (x+1) l' hl;refine⟨r,h1,?_⟩
   rcases h2 with ⟨rfl,rfl⟩|⟨pre,e2,post,post',rfl,rfl,h3,rfl⟩
   · exact .inl ⟨rfl,rfl⟩
   exact .inr ⟨e::pre,e2,post,post',rfl,by simp; omega,h3,rfl⟩
theorem tell_fn {σ:Store}{keep:List Nat}{ls:Bool}{f:Nat}{g:Fn}{a b:List AV}:tell σ keep ls (f+1) (.fn g a b)=.fn g (a.map (tell σ keep ls f)) (b.map (tell σ keep ls f)):=rfl
theorem tell_msg {σ:Store}{keep:List Nat}{f:Nat}{g:Fn}{m:GMessage}:tell σ keep true (f+1+1+1) (.fn g [] [.dp (encGMessage m) 0])=.fn g [] [.dp (encGMessage m) 0]:=by
 simp only[tell_fn,qs,qp,tell_dp,encGMessage,YX,Yu,zh,qq,qr,qt]
theorem vae (n:Nat):(zX [AV.int .i64 0,.ds true [] 0 true] n).all AV.one=true:=by
 rw[ud]
 intro x hx
 obtain⟨k,_,rfl⟩:=um.1 hx
 have:k % 2=0∨k % 2=1:=by omega
 rcases this with h|h<;>simp[h,AV.one,gc]
theorem DeleteFunc_at {σ:Store}{id ver:Nat}{nl:Bool}{es es':List GEntry}(m:GMessage)(hcs:Store.at σ id ver=some (es.flatMap encGEntry))(h:wP m es=some es')(hB:es.length≤1000000000000000):
 ACalls qi 196 [.os nl 2 id ver 0 es.length false,.fn (.func 197) [] [.dp (encGMessage m) 0]] σ (fun r σ'=>∃ cs g,r=.os nl 2 id ver 0 es'.length false∧σ'=List.set σ id (.cells ver (es'.flatMap encGEntry++cs))++g):=by
 obtain⟨r,hr,hcase⟩:=idx_del m es 0 es' h;refine wJ (rs:=[.tmp 4]) tok Tryz.func196 rfl Tryz.ntmps196 rfl Tryz.call196 (by simp) ?_;refine zm [(0,.os nl 2 id ver 0 es.length false),(1,.fn (.func 197) [] [.dp (encGMessage m) 0])] ⟨rfl,rfl,trivial⟩ ?_
 refine rg tok [0,1] fun K hK=>?_
 simp only[go_sem,qf,qb,qa,qc,qe,qd,reduceIte,reduceCtorEq];apply hK
 clear hK K
 have htold:tell σ [] true 12 (.os nl 2 id ver 0 es.length false)=.ds true (es.flatMap encGEntry) es.length false:=by
  have hl:(es.flatMap encGEntry).length=es.length*2:=zE E34.len es;simp only[w9,wC,hcs];rw[if_pos (by rw[hl]; omega),qn,← hl,uc,zh]
 refine rc [0,1,5] fun K hK=>?_
 refine za tok 2 ?_;simp only[go_sem,qf,qb,qa,qc,qe,qd,reduceIte,reduceCtorEq];refine xX rfl rfl rfl ((zq.ok es m r hr).lend rfl true 12 (by simp only[qp,qs,go_sem,qf,qb,qa,qc,qe,qd,reduceIte,reduceCtorEq,htold,tell_msg])) ?_;rintro _ _ ⟨rfl,hσ⟩
 rw[hσ]; clear hσ
 refine za tok 1 ?_;simp only[go_sem,qf,qb,qa,qc,qe,qd,reduceIte,reduceCtorEq];refine ze ?_;simp only[zk,zw,zD,xJ,upd,qa,reduceIte,z1,yA];apply hK
 clear hK K
 refine zd fun Z hZ=>?_
 refine rg tok [0,1,5,12] fun K hK=>?_
 simp only[go_sem,qf,qb,qa,qc,qe,qd,reduceIte,reduceCtorEq];apply hK
 clear hK K
 refine zM rfl (fun hc=>?_) (fun hc=>?_)
 · have he:es'=es:=by
    rcases hcase with ⟨_,h⟩|⟨pre,e,post,post',_,h2,_⟩
    · exact h
    omega
   subst he
   refine rg tok [4] fun K hK=>?_
   simp only[go_sem,qf,qb,qa,qc,qe,qd,reduceIte,reduceCtorEq];apply hK
   clear hK K
   refine zJ ?_;simp only[wb,ya,yf,yS,exists_eq_left',go_sem,qf,qb,qa,qc,qe,qd,reduceIte,reduceCtorEq];exact⟨[],[],by rw[qF,qF,Store.set_at hcs]⟩
 obtain⟨pre,e,post,post',he,h2,h3,h4⟩:∃ pre e post post',es=pre++e::post∧r=0+(pre.length:Int)∧wP m post=some post'∧es'=pre++post':=by
  rcases hcase with ⟨h,_⟩|h
  · exact absurd h hc
  exact h
 rw[Int.zero_add] at h2;subst h2
 have hl0:es.length=pre.length+(post.length+1):=by rw[he]; simp
 refine zf ?_;refine hZ _ _ ?_
 clear hZ Z
 have hw1:IntKind.i64.wrap ((pre.length:Int)+1)=(pre.length:Int)+1:=by rw[IntKind.wrap_i64]; omega
 refine zd fun Z hZ=>?_
 refine rg tok [0,1,5,6] fun K hK=>?_
 simp only[go_sem,qf,qb,qa,qc,qe,qd,reduceIte,reduceCtorEq,hw1];apply hK
 clear hK K
 refine zg ?_
 refine zP (fun k F τ=>∃ (cur kept rest rest':List GEntry) (j:Nat) (g:Store),k=rest.length∧F=[(0,AV.os nl 2 id ver 0 es.length false),(1,.fn (.func 197) [] [.dp (encGMessage m) 0]),(5,.int .i64 (kept.length:Int)),(6,.int .i64 (j:Int))]∧
  τ=List.set σ id (.cells ver (cur.flatMap encGEntry))++g∧cur.length=es.length∧cur.take kept.length=kept∧cur.drop j=rest∧j+rest.length=es.length∧kept.length<j∧wP m rest=some rest'∧es'=kept++rest') post.length
  ⟨es,pre,post,post',pre.length+1,[],rfl,rfl,by rw[Store.set_at hcs,qF],rfl,by rw[he,List.take_left],by rw[he,← List.drop_drop,List.drop_left]; rfl,by omega,by omega,h3,h4⟩ (.same ⟨rfl,rfl,rfl,rfl,trivial⟩ rfl) ?_
 rintro k _ _ ⟨cur,kept,rest,rest',j,g,rfl,rfl,rfl,c1,c2,c3,c4,c5,c6,c7⟩;have hat:Store.at (List.set σ id (.cells ver (cur.flatMap encGEntry))++g) id ver=some (cur.flatMap encGEntry):=wq (Store.at_set hcs) _
 obtain⟨τ,hτ⟩:∃ τ,τ=List.set σ id (.cells ver (cur.flatMap encGEntry))++g:=⟨_,rfl⟩
 rw[← hτ] at hat ⊢
 refine zd fun Y hY=>?_
 refine rg tok [0,1,5,6,19] fun K hK=>?_
 simp only[go_sem,qf,qb,qa,qc,qe,qd,reduceIte,reduceCtorEq];apply hK
 clear hK K
 refine zM rfl (fun hc=>?_) (fun hc=>?_)
 · refine zf ?_;refine hY _ _ ?_
   clear hY Y
   rcases rest with _|⟨e2,rest⟩
   · simp only[qz] at c4; omega
   simp only[wP] at c6;obtain⟨b,hb,c6⟩:=bind_some c6;obtain⟨l',hl',c6⟩:=bind_some c6;obtain rfl:=Option.some.inj c6;simp only[qx] at c4
   have hx:YD cur (j:Int)=some e2:=by
    unfold YD;rw[if_pos (by omega),uA]
    have:(cur.drop j)[0]?=some e2:=by rw[c3]; rfl
    rwa [List.getElem?_drop,uK] at this
   have hcd:cur.drop (j+1)=rest:=by rw[← List.drop_drop,c3]; rfl
   have hw6:IntKind.i64.wrap ((j:Int)+1)=((j+1:Nat):Int):=by rw[IntKind.wrap_i64]; omega
   have hix:=E34.idxO hx nl false .i64 2 id ver;rw[c1] at hix;have hrd:=E34.rdO hx
   refine zd fun X hX=>?_
   have fin:∀ (cur' kept':List GEntry) (F:Fr) (τ':Store),Fits F [(0,AV.os nl 2 id ver 0 es.length false),(1,.fn (.func 197) [] [.dp (encGMessage m) 0]),(5,.int .i64 (kept'.length:Int)),(6,.int .i64 (j:Int))]→(∃ g',τ'=List.set σ id (.cells ver (cur'.flatMap encGEntry))++g')→cur'.length=es.length→cur'.take kept'.length=kept'→cur'.drop (j+1)=rest→kept'.length<j+1→es'=kept'++l'→
    X F τ':=by
    rintro cur' kept' F _ hF ⟨g',rfl⟩ d1 d2 d3 d4 d5;refine hX _ _ (yB (.same hF rfl) ?_)
    refine rgE tok [0,1,5,6] fun K hK=>?_
    simp only[go_sem,qf,qb,qa,qc,qe,qd,reduceIte,reduceCtorEq,hw6];apply hK
    clear hK K
    simp only[zk];exact⟨rest.length,_,_,by simp,⟨cur',kept',rest,l',j+1,g',rfl,rfl,rfl,d1,d2,d3,by omega,by omega,hl',d5⟩,.same ⟨rfl,rfl,rfl,rfl,trivial⟩ rfl⟩
   clear hX
   have hae:∀ cs,Store.at (τ++[.cells 0 cs]) τ.length 0=some cs:=fun cs=>XB τ cs []
   have hse:∀ cs cs',(τ++[AObj.cells 0 cs]).set τ.length (.cells 0 cs')=τ++[.cells 0 cs']:=fun cs cs'=>set_mid τ _ _ []
   have hw5:IntKind.i64.wrap ((kept.length:Int)+1)=((kept.length+1:Nat):Int):=by rw[IntKind.wrap_i64]; omega
   refine zg ?_
   refine rg tok [0,1,5,6,7] fun K hK=>?_
   simp only[go_sem,qf,qb,qa,qc,qe,qd,reduceIte,reduceCtorEq,hat,hix,hrd,zN,cellsGEntry,hae,hse,qx,qz,ux,uy];apply hK
   clear hK K
   refine rc [0,5,6,7,1,29] fun K hK=>?_
   refine za tok 2 ?_;simp only[go_sem,qf,qb,qa,qc,qe,qd,reduceIte,reduceCtorEq,hae,qx,qz];refine xX rfl rfl rfl (xe.ev e2 m b hb _) ?_;rintro _ _ ⟨rfl,hσ⟩
   rw[hσ]; clear hσ
   refine za tok 1 ?_;simp only[go_sem,qf,qb,qa,qc,qe,qd,reduceIte,reduceCtorEq];refine ze ?_;simp only[zk,zw,zD,xJ,upd,qa,reduceIte,z1,yA];apply hK
   clear hK K
   cases b with
   |true=>
    refine zo rfl ?_;refine zf ?_;simp only[Zg,zk];exact fin cur kept _ _ ⟨rfl,rfl,rfl,rfl,trivial⟩ ⟨g++[.cells 0 [.int .i64 e2.fTag,.ds true (qh encGTree e2.fTrees) e2.fTrees.length false]],by rw[hτ,qD]⟩ c1 c2 hcd (by omega) c7
   |false=>
    refine zu rfl ?_
    have hkl:kept.length<cur.length:=by omega
    have hx2:YD cur (kept.length:Int)=some cur[kept.length]:=by
     unfold YD;rw[if_pos (by omega),uA,qU hkl]
    have hix2:=E34.idxO hx2 nl false .i64 2 id ver;rw[c1] at hix2;have hsc:=E34.stOc hx2;have hsr:=E34.stOr hx2 (y:=e2) (cs:=[.int .i64 e2.fTag,.ds true (qh encGTree e2.fTrees) e2.fTrees.length false]) (by rw[zN]<;>rfl);simp only[yT] at hsr;have hat1:Store.at (τ++[.cells 0 [.int .i64 e2.fTag,.ds true (qh encGTree e2.fTrees) e2.fTrees.length false]]) id ver=some (cur.flatMap encGEntry):=wq hat _
    refine rg tok [0,1,5,6] fun K hK=>?_
    simp only[go_sem,qf,qb,qa,qc,qe,qd,reduceIte,reduceCtorEq,hae,hix2,hsc,hsr,hat1,qx,qz];apply hK
    clear hK K
    refine rgE tok [0,1,5,6] fun K hK=>?_
    simp only[go_sem,qf,qb,qa,qc,qe,qd,reduceIte,reduceCtorEq,hw5];apply hK
    clear hK K
    simp only[Zg,zk]
    have hlen:(kept++[e2]).length=kept.length+1:=by simp
    refine fin (setI cur (kept.length:Int) e2) (kept++[e2]) _ _ ⟨rfl,rfl,by rw[hlen]; rfl,rfl,trivial⟩ ⟨g++[.cells 0 [.int .i64 e2.fTag,.ds true (qh encGTree e2.fTrees) e2.fTrees.length false]],?_⟩ ?_ ?_ ?_ (by rw[hlen]; omega) (by rw[c7]; simp)
    · rw[hτ,qD,List.set_append_left _ _ (by simpa using Store.at_lt hcs),List.set_set]
    · rw[zF]; exact c1
    · rw[hlen];unfold setI;rw[uA,List.take_set,List.take_add_one,c2,qU hkl]
      simp
    unfold setI;rw[uA,List.drop_set_of_lt (by omega)];exact hcd
 refine zI ?_;simp only[go_sem,qf,qb,qa,qc,qe,qd,reduceIte,reduceCtorEq];have hr0:rest=[]:=qK.1 (by omega);subst hr0;cases c6;rw[qF] at c7;subst c7;simp only[qz,uK] at c4
 have hkn:es'.length<es.length:=by omega
 have hsl1:wm tab 34 (.os nl 2 id ver 0 es.length false) (some (.int .i64 (es'.length:Int))) none none=some (.os nl 2 id ver (es'.length*2) (es.length-es'.length) false):=by
  simp only[wm,YC,YB,ti34,ti40,X6]
  simp
  omega
 have hsl2:wm tab 34 (.os nl 2 id ver 0 es.length false) none (some (.int .i64 (es'.length:Int))) none=some (.os nl 2 id ver 0 es'.length false):=by
  simp only[wm,YC,YB,ti34,ti40,X6]
  simp
  omega
 have hcl:(cur.flatMap encGEntry).length=es.length*2:=by rw[← c1]; exact zE E34.len cur
 have hzl:∀ n,(zX [AV.int .i64 0,.ds true [] 0 true] n).length=n:=fun n=>by simp[zX]
 have hsr:yT (cur.flatMap encGEntry) (es'.length*2) (zX [AV.int .i64 0,.ds true [] 0 true] ((es.length-es'.length)*2))=es'.flatMap encGEntry++zX [AV.int .i64 0,.ds true [] 0 true] ((es.length-es'.length)*2):=by
  have e0:cur.flatMap encGEntry=es'.flatMap encGEntry++((cur.drop es'.length).flatMap encGEntry++[]):=by
   rw[qF,← qA]
   congr 1
   conv=>lhs; rw[← ui es'.length cur,c2]
  have l1:(es'.flatMap encGEntry).length=es'.length*2:=zE E34.len _;rw[e0,← l1,Zj _ _ _ _ (by rw[hzl,zE E34.len,List.length_drop,c1]),qF]
 have hclr:vax tab 34 (.os nl 2 id ver (es'.length*2) (es.length-es'.length) false) τ=some (.tup [],τ.set id (.cells ver (es'.flatMap encGEntry++zX [AV.int .i64 0,.ds true [] 0 true] ((es.length-es'.length)*2)))):=by
  have hp:wz τ (.os nl 2 id ver (es'.length*2) (es.length-es'.length) false) (es.length-es'.length) 2 (zX [AV.int .i64 0,.ds true [] 0 true] ((es.length-es'.length)*2))=some (τ.set id (.cells ver (es'.flatMap encGEntry++zX [AV.int .i64 0,.ds true [] 0 true] ((es.length-es'.length)*2)))):=by
   unfold wz;rw[if_neg (by omega)];simp only[hat];rw[if_pos ⟨trivial,by rw[hzl,hcl,← Nat.add_mul]; exact q2 _ (by omega),vae _⟩,hsr]
  simp only[vax,YC,YB,ti34,ti40,AV.cells,hp]
  simp[AV.okc,AV.one]
 refine hZ _ _ ?_
 refine rg tok [0,5] fun K hK=>?_
 simp only[go_sem,qf,qb,qa,qc,qe,qd,reduceIte,reduceCtorEq,hsl1,hclr];apply hK
 clear hK K
 refine rg tok [4] fun K hK=>?_
 simp only[go_sem,qf,qb,qa,qc,qe,qd,reduceIte,reduceCtorEq,hsl2];apply hK
 clear hK K
 refine zJ ?_;simp only[wb,ya,yf,yS,exists_eq_left',go_sem,qf,qb,qa,qc,qe,qd,reduceIte,reduceCtorEq];refine⟨zX [AV.int .i64 0,.ds true [] 0 true] ((es.length-es'.length)*2),g,?_⟩;rw[hτ,List.set_append_left _ _ (by simpa using Store.at_lt hcs),List.set_set]
end
section
set_option maxRecDepth 8000
set_option maxHeartbeats 1000000
open Go.RowKit AM
def zK.l (yE:GSchema→GType→GRaw→Int→Option (GTree×Int))(a0:GSchema)(a1:GMessage)(a3:Int):List GRaw→List GEntry→List GRaw→Option (GTree×Int)
 |[],es,rest=>(Xj es.length 32).bind fun _=>(wP a1 es).bind fun es'=>(zZ rest).bind fun r=>some ((⟨3,0,[],es',r⟩:GTree),0)
 |r::q,es,rest=>bnd (yw a1 r.fTag) fun f=>(if f.2=true then (yE a0 f.1.fType r a3).bind fun x=>(if x.2=0 then (XR es f.1 x.1).bind fun p=>(if p.2=true then zK.l yE a0 a1 a3 q p.1 rest else some ((⟨0,0,[],[],[]⟩:GTree),4)) else some ((⟨0,0,[],[],[]⟩:GTree),x.2))
  else (Xj (rest.length+1) 40).bind fun _=>zK.l yE a0 a1 a3 q es (rest++[r]))
def zK.body (zy:GSchema→GMessage→List UInt8→Int→Option (GTree×Int))(yE:GSchema→GType→GRaw→Int→Option (GTree×Int))(a0:GSchema)(a1:GMessage)(a2:List UInt8)(a3:Int):Option (GTree×Int):=
 if 10<a3 then some ((⟨0,0,[],[],[]⟩:GTree),10) else (wK a2).bind fun g=>if g.2=0 then zK.l yE a0 a1 a3 g.1 [] [] else some ((⟨0,0,[],[],[]⟩:GTree),g.2)
structure Loop (τ:Store)(a0:GSchema)(a1:GMessage)(ever rver:Nat)(L:List Ent)(rest:List GRaw):Prop where
 h0:Store.at τ 0 0=some (encGSchema a0)
 h1:Store.at τ 1 0=some (encGMessage a1)
 h2:Store.at τ 2 0=some [.int .i64 0,.int .i64 0,.str [],.ds true [] 0 true,.ds true [] 0 true]
 rep:Rep τ 3 4 ever L
 h5:Store.at τ 5 rver=some (rest.flatMap encGRaw)
 ids:∀ y∈L,6≤y.id
theorem Loop.app {τ:Store}{a0:GSchema}{a1:GMessage}{ever rver:Nat}{L:List Ent}{rest:List GRaw}(h:Loop τ a0 a1 ever rver L rest)(l:Store):Loop (τ++l) a0 a1 ever rver L rest:=
 ⟨wq h.h0 l,wq h.h1 l,wq h.h2 l,h.rep.app l,wq h.h5 l,h.ids⟩
theorem Xg {σ:Store}{keep:List Nat}{e:Int}:tell σ keep true 12 (.tup [.agg [.int .i64 0,.int .i64 0,.str [],.ds true [] 0 true,.ds true [] 0 true],.int .i64 e])=.tup [.agg (cellsGTree ⟨0,0,[],[],[]⟩),.int .i64 e]:=by
 simp only[tell_tup,qp,qs,tell_agg,YY,YX,Yu]
 rfl
theorem zK.step (zy:GSchema→GMessage→List UInt8→Int→Option (GTree×Int))(yE:GSchema→GType→GRaw→Int→Option (GTree×Int))
 (Yy:∀ (a0:GSchema) (a1:GType) (a2:GRaw) (a3:Int) (r:GTree×Int),yE a0 a1 a2 a3=some r→ACalls qi 194 [.agg (encGSchema a0),.agg (encGType a1),.agg (encGRaw a2),.int .i64 a3] [] (fun r' _=>r'=.tup [.agg (cellsGTree r.1),.int .i64 r.2]))
 (a0:GSchema) (a1:GMessage) (a2:List UInt8) (a3:Int) (r:GTree×Int) (h:zK.body zy yE a0 a1 a2 a3=some r):
 ACalls qi 149 [.agg (encGSchema a0),.agg (encGMessage a1),.ds true (qh encB a2) (qg a2) false,.int .i64 a3] [] (fun r' _=>r'=.tup [.agg (cellsGTree r.1),.int .i64 r.2]):=by
 have ev_one:=fun a0 a1 a2 a3 r h σ=>(Yy a0 a1 a2 a3 r h).pureAt (by simp only[AV.canon,canonL,canon_all,qG,qm,uF,qk,qr,qq,uG,Bool.true_or,cellsGTree,encGRaw,encGSchema,zb,encGType]) (by simp only[AV.canon,canonL,canon_all,qG,qm,uF,qk,qr,qq,uG,Bool.true_or,cellsGTree,encGRaw,encGSchema,zb,encGType]) σ
 refine zj (rs:=[.cell 8 37,.tmp 9]) tok Tryz.func149 rfl Tryz.ntmps149 rfl Tryz.call149 (by simp) ?_;refine zm [(0,.agg (encGSchema a0)),(1,.agg (encGMessage a1)),(2,.ds true (qh encB a2) (qg a2) false),(3,.int .i64 a3)] ⟨rfl,rfl,rfl,rfl,trivial⟩ ?_;unfold zK.body at h
 refine rg tok [2,3,4,5,8,9] fun K hK=>?_
 simp only[go_sem,qf,qb,qa,qc,qe,qd,reduceIte,reduceCtorEq,encGSchema,encGMessage];apply hK
 clear hK K
 refine zd fun Z hZ=>?_
 refine rg tok [2,3,4,5,8,9,21] fun K hK=>?_
 simp only[go_sem,qf,qb,qa,qc,qe,qd,reduceIte,reduceCtorEq];apply hK
 clear hK K
 refine zM rfl (fun hc=>?_) (fun hc=>?_)
 · rw[if_pos hc] at h;obtain rfl:=Option.some.inj h
   refine rg tok [8,9] fun K hK=>?_
   simp only[go_sem,qf,qb,qa,qc,qe,qd,reduceIte,reduceCtorEq];apply hK
   clear hK K
   refine zJ ?_;simp only[wb,ya,yf,yS,exists_eq_left',go_sem,qf,qb,qa,qc,qe,qd,reduceIte,reduceCtorEq];exact Xg
 rw[if_neg hc] at h;obtain⟨g,hg,h⟩:=bind_some h;refine zf ?_;refine hZ _ _ ?_
 clear hZ Z
 refine rc [3,4,5,8,9,10,11] fun K hK=>?_
 refine za tok 1 ?_;simp only[go_sem,qf,qb,qa,qc,qe,qd,reduceIte,reduceCtorEq];refine xX rfl rfl rfl (wK.ev a2 g hg _) ?_;rintro _ _ ⟨rfl,hσ⟩
 rw[hσ]; clear hσ
 refine za tok 5 ?_;simp only[go_sem,qf,qb,qa,qc,qe,qd,reduceIte,reduceCtorEq];refine ze ?_;simp only[zk,zw,zD,xJ,upd,qa,reduceIte,z1,yA];apply hK
 clear hK K
 refine zd fun Z hZ=>?_
 refine rg tok [3,4,5,8,9,10,11,29] fun K hK=>?_
 simp only[go_sem,qf,qb,qa,qc,qe,qd,reduceIte,reduceCtorEq];apply hK
 clear hK K
 refine zM rfl (fun hc2=>?_) (fun hc2=>?_)
 · rw[if_neg hc2] at h;obtain rfl:=Option.some.inj h
   refine rg tok [8,9] fun K hK=>?_
   simp only[go_sem,qf,qb,qa,qc,qe,qd,reduceIte,reduceCtorEq];apply hK
   clear hK K
   refine zJ ?_;simp only[wb,ya,yf,yS,exists_eq_left',go_sem,qf,qb,qa,qc,qe,qd,reduceIte,reduceCtorEq];exact Xg
 rw[if_pos hc2] at h;refine zf ?_;refine hZ _ _ ?_
 clear hZ Z
 refine rg tok [3,4,5,8,9,10,12] fun K hK=>?_
 simp only[go_sem,qf,qb,qa,qc,qe,qd,reduceIte,reduceCtorEq];apply hK
 clear hK K
 refine wI 3 3 2 rfl (by simp) rfl (L:=[(3,.int .i64 a3),(4,.op 0 0 0),(5,.op 1 0 0),(8,.op 2 0 0),(9,.int .i64 0),(10,.ds true (qh encGRaw g.1) (qg g.1) false),(12,.op 3 0 0)]) (.same ⟨rfl,rfl,rfl,rfl,rfl,rfl,rfl,trivial⟩ rfl) ?_
 refine rg tok [3,4,5,8,9,10,12,13] fun K hK=>?_
 simp only[go_sem,qf,qb,qa,qc,qe,qd,reduceIte,reduceCtorEq];apply hK
 clear hK K
 refine Yq 13 4 rfl ?_;refine yB (L:=[(3,.int .i64 a3),(4,.op 0 0 0),(5,.op 1 0 0),(8,.op 2 0 0),(9,.int .i64 0),(10,.ds true (qh encGRaw g.1) (qg g.1) false),(12,.op 3 0 0),(13,.os true 4 5 0 0 0 false)]) (.same ⟨rfl,rfl,rfl,rfl,rfl,rfl,rfl,rfl,trivial⟩ rfl) ?_
 refine zd fun Z hZ=>?_
 refine yq 10 fun hb=>?_
 replace hb:qg g.1≤9223372036854775807:=hb.1
 refine rg tok [3,4,5,8,9,12,13,33,34,35] fun K hK=>?_
 simp only[go_sem,qf,qb,qa,qc,qe,qd,reduceIte,reduceCtorEq];apply hK
 clear hK K
 refine zg ?_
 refine zP (fun k F τ=>∃ (p q:List GRaw) (i:Int) (L:List Ent) (rest:List GRaw) (ever rver:Nat),k=q.length∧F=[(3,AV.int .i64 a3),(4,.op 0 0 0),(5,.op 1 0 0),(8,.op 2 0 0),(9,.int .i64 0),(12,.op 3 0 0),(13,.os true 4 5 rver 0 rest.length false),(33,.ds true (qh encGRaw g.1) (qg g.1) false),(34,.int .i64 (qg g.1:Int)),(35,.int .i64 i)]∧Loop τ a0 a1 ever rver L rest∧g.1=p++q∧i=(p.length:Int)∧zK.l yE a0 a1 a3 q (L.map Ent.val) rest=some r) g.1.length
  ⟨[],g.1,0,[],[],0,0,rfl,rfl,⟨rfl,rfl,rfl,⟨rfl,rfl,fun _ h=>(by cases h),by simp⟩,rfl,fun _ h=>(by cases h)⟩,rfl,rfl,h⟩ (.same ⟨rfl,rfl,rfl,rfl,rfl,rfl,rfl,rfl,rfl,rfl,trivial⟩ rfl) ?_
 clear h
 rintro k _ τ ⟨p,q,i,L,rest,ever,rver,rfl,rfl,hL,hE,hi,h⟩
 refine rg tok [3,4,5,8,9,12,13,33,34,35,36] fun K hK=>?_
 simp only[go_sem,qf,qb,qa,qc,qe,qd,reduceIte,reduceCtorEq];apply hK
 clear hK K
 refine zd fun Y hY=>?_
 rcases q with _|⟨y,q⟩
 · have hz:=yN hE hi;refine zM rfl (fun hc=>absurd hc (by rw[hz]; exact id)) (fun _=>?_);refine zI ?_;simp only[Zg,zk,go_sem,qf,qb,qa,qc,qe,qd,reduceIte,reduceCtorEq];simp only[zK.l] at h;obtain⟨u,hu,h⟩:=bind_some h;have hrm:=of_eq_true (yI hu);obtain⟨es',hes,h⟩:=bind_some h;obtain⟨rr,hrr,h⟩:=bind_some h;obtain rfl:=Option.some.inj h
   have hid:∀ y∈L,idxOf [2,3,4] y.id 0=none:=by
    intro y hy
    have:=hL.ids y hy;simp only[wM,wC];rw[if_neg (by omega),if_neg (by omega),if_neg (by omega)]
   have hget:∀ {j v:Nat} {cs:List AV},Store.at τ j v=some cs→τ.getD j .dead=.cells v cs:=by
    intro j v cs hj
    rw[qC,Store.at_some hj]; rfl
   have hl4:(rest.flatMap encGRaw).length=rest.length*4:=zE E35.len rest;have hcells:=hL.rep.toldC [2,3,4] false 10 hid
   have htS:tellS τ [2,3,4] false 12=[.cells 0 [.int .i64 0,.int .i64 0,.str [],.ds true [] 0 true,.ds true [] 0 true],.cells 0 [.int .i64 3,.int .i64 0,.str [],.os true 2 2 ever 0 (L.map Ent.val).length false,.ds true [] 0 true],.cells ever ((L.map Ent.val).flatMap encGEntry)]:=by
    simp only[tellS,qp,qs,hget hL.h2,hget hL.rep.t,hget hL.rep.e,YI,YY,YX,Yu,w9,wM,wC,qa,if_true,if_false,hcells,ub,qv,qk,qm,reduceIte,qc]
   have hrest:tell τ [2,3,4] false 12 (.os true 4 5 rver 0 rest.length false)=.ds true (rest.flatMap encGRaw) rest.length false:=by
    simp only[w9,wM,wC,qa,if_false,hL.h5,reduceIte];rw[if_pos (by rw[hl4]; omega),qn,← hl4,uc,zh]
   have hmsg:tell τ [2,3,4] false 12 (.op 1 0 0)=.dp (encGMessage a1) 0:=by
    simp only[tell_op,wM,wC,qa,if_false,hL.h1,encGMessage,qp,qs,YX,Yu,zh,qv,qk,qm,Bool.false_and,reduceIte]
   have hk3:[2,3,4].Nodup:=by decide
   have hlt5:=Store.at_lt hL.h5;refine hZ _ _ ?_;refine yB (L:=[(5,.dp (encGMessage a1) 0),(8,.op 0 0 0),(12,.op 1 0 0),(13,.ds true (rest.flatMap encGRaw) rest.length false)]) (.told [2,3,4] false hk3 (by intro id hid'; simp at hid'; omega) rfl htS ⟨hmsg,rfl,rfl,hrest,trivial⟩) ?_
   refine rc [8,12,13] fun K hK=>?_
   refine za tok 3 ?_;simp only[go_sem,qf,qb,qa,qc,qe,qd,reduceIte,reduceCtorEq,ub];have hdel:=DeleteFunc_at (σ:=[.cells 0 [.int .i64 0,.int .i64 0,.str [],.ds true [] 0 true,.ds true [] 0 true],.cells 0 [.int .i64 3,.int .i64 0,.str [],.os true 2 2 ever 0 L.length false,.ds true [] 0 true],.cells ever ((L.map Ent.val).flatMap encGEntry)]) (id:=2) (ver:=ever) (nl:=true) a1 (by simp only[Store.at_hd,Store.at_tl,if_true]) hes (by omega);rw[ub] at hdel;refine xX rfl rfl rfl hdel ?_;rintro _ _ ⟨cs,g',rfl,rfl⟩;refine za tok 2 ?_;simp only[go_sem,qf,qb,qa,qc,qe,qd,reduceIte,reduceCtorEq,qH,qJ,uy,ux];refine ze ?_;simp only[zk,zw,zD,xJ,upd,qa,reduceIte,z1,yA];apply hK
   clear hK K
   refine rc [8,12] fun K hK=>?_
   refine za tok 1 ?_;simp only[go_sem,qf,qb,qa,qc,qe,qd,reduceIte,reduceCtorEq];refine xX rfl rfl rfl (zZ.ev rest rr hrr _) ?_;rintro _ _ ⟨rfl,hσ⟩
   rw[hσ]; clear hσ
   refine za tok 2 ?_;simp only[go_sem,qf,qb,qa,qc,qe,qd,reduceIte,reduceCtorEq,uy,ux];refine ze ?_;simp only[zk,zw,zD,xJ,upd,qa,reduceIte,z1,yA];apply hK
   clear hK K
   refine rg tok [8,9] fun K hK=>?_
   simp only[go_sem,qf,qb,qa,qc,qe,qd,reduceIte,reduceCtorEq,uy,ux];apply hK
   clear hK K
   refine zJ ?_;simp only[wb,ya,yf,yS,exists_eq_left',go_sem,qf,qb,qa,qc,qe,qd,reduceIte,reduceCtorEq];have hle:(es'.flatMap encGEntry).length=es'.length*2:=zE E34.len es';simp only[tell_tup,qp,qs,tell_agg,YY,YX,Yu,w9,wC,Store.at_hd,Store.at_tl,if_true,zh,cellsGTree,GTree.fKind,GTree.fN,GTree.fS,GTree.fEntries,GTree.fRest];rw[if_pos (by rw[qw,hle]; omega),qn,← hle,List.take_left,zh]
   rfl
 obtain⟨hz,hw,hx,hE',hi'⟩:=yo hE hi hb;refine zM rfl (fun _=>?_) (fun hc=>absurd (of_eq_true hz) hc);refine zf ?_;refine hY _ _ ?_
 clear hY Y
 refine zd fun X hX=>?_
 have fin:∀ (F:Fr) (τ':Store) (L':List Ent) (rest':List GRaw) (ever' rver':Nat),Fits F [(3,AV.int .i64 a3),(4,.op 0 0 0),(5,.op 1 0 0),(8,.op 2 0 0),(9,.int .i64 0),(12,.op 3 0 0),(13,.os true 4 5 rver' 0 rest'.length false),(33,.ds true (qh encGRaw g.1) (qg g.1) false),(34,.int .i64 (qg g.1:Int)),(35,.int .i64 i)]→Loop τ' a0 a1 ever' rver' L' rest'→zK.l yE a0 a1 a3 q (L'.map Ent.val) rest'=some r→X F τ':=by
  intro F τ' L' rest' ever' rver' hF hL' h'
  refine hX _ _ (yB (.same hF rfl) ?_)
  refine rgE tok [3,4,5,8,9,12,13,33,34,35] fun K hK=>?_
  simp only[go_sem,qf,qb,qa,qc,qe,qd,reduceIte,reduceCtorEq,hw];apply hK
  clear hK K
  simp only[zk];exact⟨q.length,_,_,by simp,⟨p++[y],q,i+1,L',rest',ever',rver',rfl,rfl,hL',hE',hi',h'⟩,.same ⟨rfl,rfl,rfl,rfl,rfl,rfl,rfl,rfl,rfl,rfl,trivial⟩ rfl⟩
 clear hX
 refine zg ?_;have hix:=E35.idxS hx;have hld:=E35.loadS rfl rfl hx
 have hae:∀ (τ:Store) cs,Store.at (τ++[.cells 0 cs]) τ.length 0=some cs:=fun τ cs=>XB τ cs []
 have hse:∀ (τ:Store) cs cs',(τ++[AObj.cells 0 cs]).set τ.length (.cells 0 cs')=τ++[.cells 0 cs']:=fun τ cs cs'=>set_mid τ _ _ []
 refine rg tok [3,4,5,8,9,12,13,15,33,34,35] fun K hK=>?_
 simp only[go_sem,qf,qb,qa,qc,qe,qd,reduceIte,reduceCtorEq,hix,hld,encGRaw,hae,hse,qx,qz,ux,uy];apply hK
 clear hK K
 simp only[zK.l] at h;obtain⟨f,hf,h⟩:=zB h;have hL1:=hL.app [.cells 0 [.int .i64 y.fTag,.int .i64 y.fWire,.int .i64 y.fN,.str y.fB]];have hr1:=XB τ [.int .i64 y.fTag,.int .i64 y.fWire,.int .i64 y.fN,.str y.fB] []
 generalize τ.length=k1 at *
 generalize τ++[.cells 0 [.int .i64 y.fTag,.int .i64 y.fWire,.int .i64 y.fN,.str y.fB]]=τ1 at *
 have hm1:=hL1.h1;have hs1:=hL1.h0;simp only[encGMessage] at hm1;simp only[encGSchema] at hs1
 refine rc [3,4,5,8,9,12,13,15,16,17,33,34,35] fun K hK=>?_
 refine za tok 3 ?_;simp only[go_sem,qf,qb,qa,qc,qe,qd,reduceIte,reduceCtorEq,hm1,hr1,qx,qz];refine xX rfl rfl rfl (yw.ev a1 y.fTag f hf _) ?_;rintro _ _ ⟨rfl,hσ⟩
 rw[hσ]; clear hσ
 refine za tok 6 ?_;simp only[go_sem,qf,qb,qa,qc,qe,qd,reduceIte,reduceCtorEq,encGField,encGType,hae,hse,qx,qz,ux,uy];refine ze ?_;simp only[zk,zw,zD,xJ,upd,qa,reduceIte,z1,yA];apply hK
 clear hK K
 have hL2:=hL1.app [.cells 0 [.str f.1.fName,.int .i64 f.1.fTag,.int .i64 f.1.fLabel,.int .i64 f.1.fType.fKind,.str f.1.fType.fName]];have hr2:=wq hr1 [.cells 0 [.str f.1.fName,.int .i64 f.1.fTag,.int .i64 f.1.fLabel,.int .i64 f.1.fType.fKind,.str f.1.fType.fName]];have hm2:=wq hs1 [.cells 0 [.str f.1.fName,.int .i64 f.1.fTag,.int .i64 f.1.fLabel,.int .i64 f.1.fType.fKind,.str f.1.fType.fName]];have hf2:=XB τ1 [.str f.1.fName,.int .i64 f.1.fTag,.int .i64 f.1.fLabel,.int .i64 f.1.fType.fKind,.str f.1.fType.fName] []
 clear hm1 hs1 hr1
 generalize τ1.length=k2 at *
 generalize τ1++[.cells 0 [.str f.1.fName,.int .i64 f.1.fTag,.int .i64 f.1.fLabel,.int .i64 f.1.fType.fKind,.str f.1.fType.fName]]=τ2 at *
 refine zd fun Y hY=>?_
 refine rg tok [3,4,5,8,9,12,13,15,16,17,33,34,35,47] fun K hK=>?_
 simp only[go_sem,qf,qb,qa,qc,qe,qd,reduceIte,reduceCtorEq];apply hK
 clear hK K
 have hb2:∀ (b:Bool),(!b)=true→b=false:=by decide
 refine zs (b := !f.2) rfl (fun hc3=>?_) (fun hc3=>?_)
 · have hc4:f.2=false:=by simpa using hc3
   rw[xI hc4] at h;obtain⟨u,hu,h⟩:=bind_some h;have hrm:=yI hu;have hL5:=hL2.h5;have hl4:(rest.flatMap encGRaw).length=rest.length*4:=zE E35.len rest
   refine rg tok [3,4,5,8,9,12,13,33,34,35] fun K hK=>?_
   have hlit:=XB τ2 [.int .i64 y.fTag,.int .i64 y.fWire,.int .i64 y.fN,.str y.fB] [];have hat5:=wq hL5 [.cells 0 [.int .i64 y.fTag,.int .i64 y.fWire,.int .i64 y.fN,.str y.fB]]
   have hap:yv tab 35 35 (.os true 4 5 rver 0 rest.length false) (.os true 4 τ2.length 0 0 1 true) (τ2++[.cells 0 [.int .i64 y.fTag,.int .i64 y.fWire,.int .i64 y.fN,.str y.fB]])=
    some (.os true 4 5 (rver+1) 0 (rest.length+1) false,List.set (τ2++[.cells 0 [.int .i64 y.fTag,.int .i64 y.fWire,.int .i64 y.fN,.str y.fB]]) 5 (.cells (rver+1) (rest.flatMap encGRaw++[.int .i64 y.fTag,.int .i64 y.fWire,.int .i64 y.fN,.str y.fB]))):=by
    have e1:yc (τ2++[.cells 0 [.int .i64 y.fTag,.int .i64 y.fWire,.int .i64 y.fN,.str y.fB]]) 4 (.os true 4 τ2.length 0 0 1 true)=some (1,[.int .i64 y.fTag,.int .i64 y.fWire,.int .i64 y.fN,.str y.fB]):=by
     simp only[yc,hlit]; simp
    simp only[yv,tab_35,tab_139,ti35,ti139,e1,yx,yb,hat5,hl4,hrm]
    simp[AV.one]
   simp only[go_sem,qf,qb,qa,qc,qe,qd,reduceIte,reduceCtorEq,hr2,zL,zX,qY,qS,qX,true_and,q3,qx,qz,hap];apply hK
   clear hK K
   refine zI ?_;simp only[go_sem,qf,qb,qa,qc,qe,qd,reduceIte,reduceCtorEq]
   have hLs:Loop (List.set (τ2++[.cells 0 [.int .i64 y.fTag,.int .i64 y.fWire,.int .i64 y.fN,.str y.fB]]) 5 (.cells (rver+1) (rest.flatMap encGRaw++[.int .i64 y.fTag,.int .i64 y.fWire,.int .i64 y.fN,.str y.fB]))) a0 a1 ever (rver+1) L (rest++[y]):=by
    have hL3:=hL2.app [.cells 0 [.int .i64 y.fTag,.int .i64 y.fWire,.int .i64 y.fN,.str y.fB]];refine⟨xz hL3.h0 (by decide) _,xz hL3.h1 (by decide) _,xz hL3.h2 (by decide) _,hL3.rep.set_ne (fun hm=>?_) _,?_,hL3.ids⟩
    · simp only[uk,um] at hm
      rcases hm with h|h|⟨z,hz,h⟩
      · cases h
      · cases h
      have:=hL3.ids z hz; omega
    rw[Store.at_set hL3.h5,qA]
    simp[encGRaw]
   exact fin _ _ L (rest++[y]) ever (rver+1) ⟨rfl,rfl,rfl,rfl,rfl,rfl,by rw[qw]; rfl,rfl,rfl,rfl,trivial⟩ hLs h
 have hc4:f.2=true:=by simpa using hc3
 rw[if_pos hc4] at h;refine zf ?_;refine hY _ _ ?_
 clear hY Y
 obtain⟨x,hx1,h⟩:=bind_some h;have hty:AV.agg (encGType f.1.fType)=.agg [.int .i64 f.1.fType.fKind,.str f.1.fType.fName]:=rfl
 refine rc [3,4,5,8,9,12,13,16,18,19,33,34,35] fun K hK=>?_
 refine za tok 5 ?_;simp only[go_sem,qf,qb,qa,qc,qe,qd,reduceIte,reduceCtorEq,hm2,hr2,hf2,qx,qz,List.drop_succ_cons,qn,List.take_succ_cons,List.take_zero];refine xX rfl rfl rfl (ev_one a0 f.1.fType y a3 x hx1 _) ?_;rintro _ _ ⟨rfl,hσ⟩
 rw[hσ]; clear hσ
 refine za tok 6 ?_;simp only[go_sem,qf,qb,qa,qc,qe,qd,reduceIte,reduceCtorEq,cellsGTree,hae,hse,qx,qz,ux,uy];refine ze ?_;simp only[zk,zw,zD,xJ,upd,qa,reduceIte,z1,yA];apply hK
 clear hK K hr2 hm2
 obtain⟨xc,hxc⟩:∃ xc,xc=[AV.int .i64 x.1.fKind,.int .i64 x.1.fN,.str x.1.fS,.ds true (qh encGEntry x.1.fEntries) x.1.fEntries.length false,.ds true (qh encGRaw x.1.fRest) x.1.fRest.length false]:=⟨_,rfl⟩
 rw[← hxc];have hL3:=hL2.app [.cells 0 xc];have hf3:=wq hf2 [.cells 0 xc];have hx3:=XB τ2 xc []
 clear hf2 hL2
 generalize τ2.length=k3 at *
 generalize τ2++[.cells 0 xc]=τ3 at *
 subst hxc
 refine zd fun Y hY=>?_
 refine rg tok [3,4,5,8,9,12,13,16,18,19,33,34,35,62] fun K hK=>?_
 simp only[go_sem,qf,qb,qa,qc,qe,qd,reduceIte,reduceCtorEq];apply hK
 clear hK K
 have h23:=hL3.h2;have h24:=Store.at_set (ver':=0) (cs':=[.int .i64 0,.int .i64 0,.str [],.ds true [] 0 true,.ds true [] 0 true]) h23;refine zM rfl (fun hc5=>?_) (fun hc5=>?_)
 · rw[if_neg hc5] at h;obtain rfl:=Option.some.inj h
   refine rg tok [8,9] fun K hK=>?_
   simp only[go_sem,qf,qb,qa,qc,qe,qd,reduceIte,reduceCtorEq,h23,qx,qz,ux,uy];apply hK
   clear hK K
   refine zJ ?_;simp only[vaB,wb,ya,yf,yS,exists_eq_left',go_sem,qf,qb,qa,qc,qe,qd,reduceIte,reduceCtorEq,h24,qx,qz];exact Xg
 rw[if_pos hc5] at h;obtain⟨pp,hp,h⟩:=bind_some h;refine zf ?_;refine hY _ _ ?_
 clear hY Y
 refine rc [3,4,5,8,9,12,13,33,34,35,68] fun K hK=>?_
 refine za tok 2 ?_;simp only[go_sem,qf,qb,qa,qc,qe,qd,reduceIte,reduceCtorEq,hf3,hx3,qx,qz];refine xX rfl rfl rfl (put_at hL3.rep f.1 x.1 (es':=pp.1) (b:=pp.2) hp) ?_;rintro _ τ4 ⟨ever',L',rfl,hR4,he4,hid4,hle4,hfr4⟩;refine za tok 1 ?_;simp only[go_sem,qf,qb,qa,qc,qe,qd,reduceIte,reduceCtorEq];refine ze ?_;simp only[zk,zw,zD,xJ,upd,qa,reduceIte,z1,yA];apply hK
 clear hK K
 have hkeep:∀ {j v:Nat} {cs:List AV},Store.at τ3 j v=some cs→j<6→j≠3→j≠4→Store.at τ4 j v=some cs:=by
  intro j v cs hj h6 h3 h4
  have hlt:=Store.at_lt hj;unfold Store.at at hj ⊢;rw[hfr4 j hlt (fun hm=>?_)]
  · exact hj
  simp only[uk,um] at hm
  rcases hm with h|h|⟨z,hz,h⟩
  · exact h3 h
  · exact h4 h
  have:=hL3.ids z hz; omega
 have h45:6≤τ3.length:=by
  have:=Store.at_lt hL3.h5; omega
 have hL4:Loop τ4 a0 a1 ever' rver L' rest:=by
  refine⟨hkeep hL3.h0 (by decide) (by decide) (by decide),hkeep hL3.h1 (by decide) (by decide) (by decide),hkeep hL3.h2 (by decide) (by decide) (by decide),hR4,hkeep hL3.h5 (by decide) (by decide) (by decide),fun z hz=>?_⟩
  rcases hid4 z hz with h|h
  · obtain⟨w,hw,h'⟩:=um.1 h
    have:=hL3.ids w hw; omega
  omega
 have h43:=hL4.h2;have h44:=Store.at_set (ver':=0) (cs':=[.int .i64 0,.int .i64 0,.str [],.ds true [] 0 true,.ds true [] 0 true]) h43;refine zs (b := !pp.2) rfl (fun hc6=>?_) (fun hc6=>?_)
 · have hc7:pp.2=false:=by simpa using hc6
   rw[xI hc7] at h;obtain rfl:=Option.some.inj h
   refine rg tok [8,9] fun K hK=>?_
   simp only[go_sem,qf,qb,qa,qc,qe,qd,reduceIte,reduceCtorEq,h43,qx,qz,ux,uy];apply hK
   clear hK K
   refine zJ ?_;simp only[vaB,wb,ya,yf,yS,exists_eq_left',go_sem,qf,qb,qa,qc,qe,qd,reduceIte,reduceCtorEq,h44,qx,qz];exact Xg
 have hc7:pp.2=true:=by simpa using hc6
 rw[if_pos hc7] at h;refine zf ?_;simp only[Zg,zk];exact fin _ _ L' rest ever' rver ⟨rfl,rfl,rfl,rfl,rfl,rfl,rfl,rfl,rfl,rfl,trivial⟩ hL4 (by rw[he4]; exact h)
end
section
set_option maxRecDepth 8000
open Go.RowKit AM
mutual
def zK : Nat→GSchema→GMessage→List UInt8→Int→Option (GTree×Int)
 |0,_,_,_,_=>none
 |k+1,a0,a1,a2,a3=>zK.body (zK k) (zQ k) a0 a1 a2 a3
def zQ : Nat→GSchema→GType→GRaw→Int→Option (GTree×Int)
 |0,_,_,_,_=>none
 |k+1,a0,a1,a2,a3=>zQ.body (zK k) (zQ k) a0 a1 a2 a3
end
theorem zK.all (k:Nat):
 (∀ (a0:GSchema) (a1:GMessage) (a2:List UInt8) (a3:Int) (r:GTree×Int),zK k a0 a1 a2 a3=some r→ACalls qi 149 [.agg (encGSchema a0),.agg (encGMessage a1),.ds true (qh encB a2) (qg a2) false,.int .i64 a3] [] (fun r' _=>r'=.tup [.agg (cellsGTree r.1),.int .i64 r.2]))∧
 (∀ (a0:GSchema) (a1:GType) (a2:GRaw) (a3:Int) (r:GTree×Int),zQ k a0 a1 a2 a3=some r→ACalls qi 194 [.agg (encGSchema a0),.agg (encGType a1),.agg (encGRaw a2),.int .i64 a3] [] (fun r' _=>r'=.tup [.agg (cellsGTree r.1),.int .i64 r.2])):=by
 induction k with
 |zero=>exact⟨fun a0 a1 a2 a3 r h=>(by simp only[zK] at h; cases h),fun a0 a1 a2 a3 r h=>(by simp only[zQ] at h; cases h)⟩
 |succ k ih=>
  exact⟨fun a0 a1 a2 a3 r h=>zK.step (zK k) (zQ k) ih.2 a0 a1 a2 a3 r (by simpa only [zK] using h),
   fun a0 a1 a2 a3 r h=>zQ.step (zK k) (zQ k) ih.1 ih.2 a0 a1 a2 a3 r (by simpa only [zQ] using h)⟩
theorem zK.ok (k:Nat)(a0:GSchema)(a1:GMessage)(a2:List UInt8)(a3:Int)(r:GTree×Int)(h:zK k a0 a1 a2 a3=some r):ACalls qi 149 [.agg (encGSchema a0),.agg (encGMessage a1),.ds true (qh encB a2) (qg a2) false,.int .i64 a3] [] (fun r' _=>r'=.tup [.agg (cellsGTree r.1),.int .i64 r.2]):=
 (zK.all k).1 a0 a1 a2 a3 r h
theorem zK.ev (k:Nat)(a0:GSchema)(a1:GMessage)(a2:List UInt8)(a3:Int)(r:GTree×Int)(h:zK k a0 a1 a2 a3=some r)(σ:Store):ACalls qi 149 [.agg (encGSchema a0),.agg (encGMessage a1),.ds true (qh encB a2) (qg a2) false,.int .i64 a3] σ (fun r' σ'=>r'=.tup [.agg (cellsGTree r.1),.int .i64 r.2]∧σ'=σ):=
 (zK.ok k a0 a1 a2 a3 r h).pureAt (by simp only[AV.canon,canonL,canon_all,qG,qm,uF,qk,qr,qq,uG,Bool.true_or,cellsGTree,encGMessage,encGSchema]) (by simp only[AV.canon,canonL,canon_all,qG,qm,uF,qk,qr,qq,uG,Bool.true_or,cellsGTree,zb]) σ
end
section
namespace AM
open Go.RowKit
def renumb (π:Nat→Nat)(o:Oper):Oper := { o with after:=o.after.map fun e => { e with on:=π e.on } }
theorem Xt (π:Nat→Nat)(o:Oper)(ρ:Operand→Value):execOp ρ (renumb π o)=execOp ρ o:=by
 cases o; rfl
theorem wp_renumb {P:Program}(π:Nat→Nat)(o:Oper){a:Act}{w:World}{K:Act→World→Prop}{Q:Exit→Act→World→Prop}:(renumb π o).wp P a w K Q=o.wp P a w K Q:=by
 unfold Oper.wp
 rw[Xt]; rfl
theorem asks_renumb {P:Program}(π:Nat→Nat)(o:Oper){a:Act}{w:World}:(renumb π o).asks P a w=o.asks P a w:=by
 unfold Oper.asks;rw[Xt]
structure Permd (ops ops':List Oper)(π:Nat→Nat):Prop where
 len:ops'.length=ops.length
 inj:∀ i j,i<ops.length→j<ops.length→π i=π j→i=j
 lt:∀ i,i<ops.length→π i<ops.length
 onto:∀ k,k<ops.length→∃ i,i<ops.length∧π i=k
 get:∀ (i:Nat) (o:Oper),ops[i]?=some o→ops'[π i]?=some (renumb π o)
 guard:∀ (i:Nat) (o:Oper),ops[i]?=some o→o.guard=none
 edge:∀ (i:Nat) (o:Oper),ops[i]?=some o→∀ e∈o.after,e.on<ops.length
theorem XH {ops ops':List Oper}{π:Nat→Nat}(hp:Permd ops ops' π){md:Region.Mode}{l l':Array Bool}(hl:l.size=ops.length)(hl':l'.size=ops.length)(h:∀ i,i<ops.length→l'.getD (π i) false=l.getD i false){i:Nat}(hi:i<ops.length):
 i∈Region.ready md ops.toArray l↔π i∈Region.ready md ops'.toArray l':=by
 obtain⟨o,ho⟩:∃ o,ops[i]?=some o:=⟨_,qU hi⟩
 have ho':=hp.get i o ho
 have hb:∀ e:Edge,Region.binds md { e with on:=π e.on }=Region.binds md e:=fun e=>rfl
 have h1:∀ (l:Array Bool) (i:Nat),i<l.size→l.getD i true=l.getD i false:=by
  intro l i hi
  simp[hi]
 simp only[mem_ready];rw[h1 l i (by omega),h1 l' (π i) (by have:=hp.lt i hi; omega),h i hi]
 constructor
 · rintro ⟨a,o2,b,c⟩
   have:o2=o:=by
    have e:ops[i]?=some o2:=by simpa using b
    rw[ho] at e; exact (Option.some.inj e).symm
   subst this;refine⟨a,renumb π o2,by simpa using ho',fun e he hbd=>?_⟩;simp only[renumb,Array.mem_map] at he;obtain⟨e0,he0,rfl⟩:=he;rw[h e0.on (hp.edge i o2 ho e0 he0)];exact c e0 he0 hbd
 rintro ⟨a,o2,b,c⟩
 have:o2=renumb π o:=by
  have e:ops'[π i]?=some o2:=by simpa using b
  rw[ho'] at e; exact (Option.some.inj e).symm
 subst this;refine⟨a,o,by simpa using ho,fun e he hbd=>?_⟩;have:=c { e with on:=π e.on } (by simp only[renumb,Array.mem_map]; exact⟨e,he,rfl⟩) hbd
 rw[← h e.on (hp.edge i o ho e he)]; exact this
theorem set_perm {N:Nat}{π:Nat→Nat}(inj:∀ i j,i<N→j<N→π i=π j→i=j)(lt:∀ i,i<N→π i<N){l l':Array Bool}(hl:l.size=N)(hl':l'.size=N)(h:∀ i,i<N→l'.getD (π i) false=l.getD i false){j:Nat}(hj:j<N):
 ∀ i,i<N→(l'.setIfInBounds (π j) true).getD (π i) false=(l.setIfInBounds j true).getD i false:=by
 intro i hi
 rw[xM (by have:=lt j hj; omega),xM (by omega),h i hi]
 congr 1
 exact decide_eq_decide.2 ⟨fun e=>inj i j hi hj e,fun e=>by rw[e]⟩
theorem wpAny_perm {P:Program}{ops ops':List Oper}{π:Nat→Nat}(hp:Permd ops ops' π){md:Region.Mode}{Q:Exit→Act→World→Prop}:
 ∀ (fuel:Nat) (l l':Array Bool) (a:Act) (w:World),l.size=ops.length→l'.size=ops.length→(∀ i,i<ops.length→l'.getD (π i) false=l.getD i false)→
  wpAny P md ops'.toArray Q fuel l' a w→wpAny P md ops.toArray Q fuel l a w:=by
 have lt_of:∀ {l:Array Bool} {i:Nat} {q:List Oper},i∈Region.ready md q.toArray l→i<q.length:=fun h=>by
  obtain⟨_,o,ho,_⟩:=mem_ready.1 h
  simpa using (Array.getElem?_eq_some_iff.1 ho).1
 have nil:∀ {l l':Array Bool},l.size=ops.length→l'.size=ops.length→(∀ i,i<ops.length→l'.getD (π i) false=l.getD i false)→Region.ready md ops.toArray l=[]→Region.ready md ops'.toArray l'=[]:=by
  intro l l' hl hl' h hr
  cases hr':Region.ready md ops'.toArray l' with
  |nil=>rfl
  |cons k q=>
   have hk:k∈Region.ready md ops'.toArray l':=by rw[hr']; exact uO ..
   obtain⟨i,hi,rfl⟩:=hp.onto k (by have:=lt_of hk; rw[hp.len] at this; exact this);have:=(XH hp hl hl' h hi).2 hk
   rw[hr] at this; cases this
 have nil':∀ {l l':Array Bool},l.size=ops.length→l'.size=ops.length→(∀ i,i<ops.length→l'.getD (π i) false=l.getD i false)→Region.ready md ops'.toArray l'=[]→Region.ready md ops.toArray l=[]:=by
  intro l l' hl hl' h hr
  cases hr':Region.ready md ops.toArray l with
  |nil=>rfl
  |cons k q=>
   have hk:k∈Region.ready md ops.toArray l:=by rw[hr']; exact uO ..
   have:=(XH hp hl hl' h (lt_of hk)).1 hk
   rw[hr] at this; cases this
 intro fuel
 induction fuel with
 |zero=>
  intro l l' a w hl hl' h hw
  exact⟨nil' hl hl' h hw.1,hw.2⟩
 |succ fuel ih=>
  intro l l' a w hl hl' h hw
  refine⟨fun hr=>hw.1 (nil hl hl' h hr),fun i hi=>?_⟩;have hil:=lt_of hi
  obtain⟨o,ho⟩:∃ o,ops[i]?=some o:=⟨_,qU hil⟩
  have ho':=hp.get i o ho;have h1:=hw.2 (π i) ((XH hp hl hl' h hil).1 hi)
  have hk:∀ a w,wpAny P md ops'.toArray Q fuel (l'.setIfInBounds (π i) true) a w→wpAny P md ops.toArray Q fuel (l.setIfInBounds i true) a w:=
   fun a w hh=>ih _ _ a w (by simpa using hl) (by simpa using hl') (set_perm hp.inj hp.lt hl hl' h hil) hh
  have h2:=wpOp_mono hk h1;unfold wpOp at h2 ⊢
  have e1:ops.toArray[i]?=some o:=by simpa using ho
  have e2:ops'.toArray[π i]?=some (renumb π o):=by simpa using ho'
  rw[e2] at h2;rw[e1];have g1:=hp.guard i o ho
  have g2:∀ y,Region.wanted o y=true:=fun y=>by simp[Region.wanted,g1]
  have g3:∀ y,Region.wanted (renumb π o) y=true:=fun y=>by simp[Region.wanted,renumb,g1]
  simp only[g2,g3,if_true] at h2 ⊢;rw[wp_renumb,asks_renumb] at h2;exact h2
theorem AnyW.perm {P:Program}{n k0:Nat}{ops ops':List Oper}{π:Nat→Nat}{Q:Exit→Fr→Store→Prop}{F:Fr}{σ:Store}(hp:Permd ops ops' π)(h:AnyW P n k0 ops' Q F σ):AnyW P n k0 ops Q F σ:=by
 intro E a hk hS hF md
 have h1:=h E a hk hS hF md
 have e:ops'.toArray.size=ops.toArray.size:=by simp[hp.len]
 rw[e] at h1
 have hf:∀ (N i:Nat),(uP N false).getD i false=false:=by
  intro N i; by_cases h:i<N<;>simp[h]
 exact wpAny_perm hp _ _ _ a _ (by simp) (by simp) (fun i _=>by rw[hf,hf]) h1
def noOp : Oper := { dst:=none,op:=.alloc 0,type:=0,pos := "",after := #[],guard:=none }
def posOf (ord:List Nat)(i:Nat):Nat:=if i<ord.length then ord.idxOf i else i
def Y9 (ops:List Oper)(ord:List Nat):List Oper:=ord.map fun i=>renumb (posOf ord) (ops.getD i noOp)
def chkPerm (ops:List Oper)(ord:List Nat):Bool:=
 decide (ord.length=ops.length)&&(uw ops.length).all (fun i=>decide (posOf ord i<ops.length)&&decide (ord[posOf ord i]?=some i)&&decide (ord.getD i ops.length<ops.length)&&decide (posOf ord (ord.getD i ops.length)=i)) &&
  ops.all fun o=>o.guard.isNone&&o.after.all fun e=>decide (e.on<ops.length)
theorem permd_of {ops:List Oper}{ord:List Nat}(h:chkPerm ops ord=true):Permd ops (Y9 ops ord) (posOf ord):=by
 simp only[chkPerm,qM,decide_eq_true_eq,ud,List.mem_range] at h;obtain⟨⟨h1,h2⟩,h3⟩:=h;refine⟨by rw[Y9,ub,h1],fun i j hi hj e=>?_,fun i hi=>(h2 i hi).1.1.1,fun k hk=>⟨_,(h2 k hk).1.2,(h2 k hk).2⟩,fun i o ho=>?_,fun i o ho=>?_,fun i o ho e he=>?_⟩
 · have a:=(h2 i hi).1.1.2;have b:=(h2 j hj).1.1.2;rw[e,b] at a;exact (Option.some.inj a).symm
 · have hi:i<ops.length:=(qR.1 ho).1
   rw[Y9,List.getElem?_map,(h2 i hi).1.1.2,uq,qC,ho]; rfl
 · have:=(h3 o (uL ho)).1
   simpa using this
 have:=(h3 o (uL ho)).2;have:=Array.all_eq_true_iff_forall_mem.1 this e he
 simpa using this
theorem DW.startP {P:Program}{n k0:Nat}{Q:Exit→Fr→Store→Prop}{T:TT}{id:Nat}{ops:List Oper}(ord:List Nat)(hc:chkPerm ops ord=true)(es:List EK)(ex:List (Nat×List Nat)){F0:Fr}{σ0:Store}(h:DW P n k0 T id (Y9 ops ord) es F0 σ0 ex Q (Y9 ops ord) es F0 [σ0] []):awp P n k0 (.region id ops.toArray true) Q F0 σ0:=
 awp_of_any (AnyW.perm (permd_of hc) (h ⟨0,rfl,rfl,Past.start T (Y9 ops ord) es F0 σ0 ex⟩))
end AM
end
section
set_option maxRecDepth 8000
open Go.RowKit AM
section
variable {P:Program} {n k:Nat} {Q:Exit→Fr→Store→Prop} {F:Fr} {σ:Store}
theorem AM.opsWp_inil {T:TT}(hT:TOK P T){ops:Array Oper}{o:Oper}{l:List Oper}{x:Operand}{t yt:TypeId}{i:TI}{e:Array (String×TypeId)}(hg:wD ops F o=some true)(ho:o.op=.binOp .eql t x (.const .nilIface) yt)(hi:T t=some i)(hd:i.desc=.interface e)
 (hs:ev F x=.nilI) (hdst:dstOk n o.dst=true) (h:wd P n k ops l Q (xJ F o.dst (.bool true)) σ):wd P n k ops (o::l) Q F σ:=by
 intro E a hk hS hF
 unfold wpList;rw[if_pos (xL hF hg)];refine .inl ?_;have hx:=hF.ev x;rw[hs] at hx
 have hv:a.eval x=.nilIface:=by
  generalize a.eval x=v at hx
  cases hx; rfl
 unfold Oper.wp
 have hrun:(execOp a.eval o).run P E.w=.ok (.value (.bool true)) E.w:=by
  obtain⟨dst,op,ty,pos,after,guard⟩:=o;simp only at ho;subst ho
  show (do pure (.value (← (do eqGuard .eql t x (.const .nilIface) (a.eval x) .nilIface; Go.binOp .eql t (a.eval x) .nilIface:Sem Value))):Sem Next).run P E.w=_
  have h3:∀ d,(Op.equalIn (d+1) t .nilIface .nilIface).run P E.w=.ok true E.w:=by
   intro d
   simp only[Op.equalIn,qu,zC _ (hT _ _ hi),qj,hd]; rfl
  have h2:(Op.equal t .nilIface .nilIface).run P E.w=.ok true E.w:=h3 9999
  have h1:(do eqGuard .eql t x (.const .nilIface) .nilIface .nilIface; Go.binOp .eql t .nilIface .nilIface:Sem Value).run P E.w=.ok (.bool true) E.w:=by
   have hgd:(eqGuard .eql t x (.const .nilIface) .nilIface .nilIface).run P E.w=.ok () E.w:=by
    unfold eqGuard
    cases x<;>rfl
   rw[qu,hgd,qj];simp only[Go.binOp,qu,h2,qj,qI]
  rw[hv,qu,h1,qj]; rfl
 rw[hrun];exact h E _ hk hS (hF.put (ZA hdst) (.bool true))
end
theorem kind_num (m:Int)(σ:Store):ACalls qi 275 [.int .i64 m] σ (fun r' σ'=>r'=.int .i64 1∧σ'=σ):=by
 refine ACalls.c (x:=.int .i64 1) ?_ σ;refine zj (rs:=[.tmp 2]) tok Tryz.func275 rfl Tryz.ntmps275 rfl Tryz.call275 (by simp) ?_;refine zm [(0,.int .i64 m)] ⟨rfl,trivial⟩ ?_
 refine rg tok [2] fun K hK=>?_
 simp only[go_sem,qf,qb,qa,qc,qe,qd,reduceIte,reduceCtorEq];apply hK
 clear hK K
 refine rg tok [2] fun K hK=>?_
 simp only[go_sem,qf,qb,qa,qc,qe,qd,reduceIte,reduceCtorEq];apply hK
 clear hK K
 refine zJ ?_;exact retA
theorem kind_str (m:List UInt8)(σ:Store):ACalls qi 276 [.str m] σ (fun r' σ'=>r'=.int .i64 2∧σ'=σ):=by
 refine ACalls.c (x:=.int .i64 2) ?_ σ;refine zj (rs:=[.tmp 2]) tok Tryz.func276 rfl Tryz.ntmps276 rfl Tryz.call276 (by simp) ?_;refine zm [(0,.str m)] ⟨rfl,trivial⟩ ?_
 refine rg tok [2] fun K hK=>?_
 simp only[go_sem,qf,qb,qa,qc,qe,qd,reduceIte,reduceCtorEq];apply hK
 clear hK K
 refine rg tok [2] fun K hK=>?_
 simp only[go_sem,qf,qb,qa,qc,qe,qd,reduceIte,reduceCtorEq];apply hK
 clear hK K
 refine zJ ?_;exact retA
theorem kind_node (m:GValueNode)(σ:Store):ACalls qi 274 [.dp (encGValueNode m) 0] σ (fun r' σ'=>r'=.int .i64 3∧σ'=σ):=by
 refine ACalls.c (x:=.int .i64 3) ?_ σ;refine zj (rs:=[.tmp 2]) tok Tryz.func274 rfl Tryz.ntmps274 rfl Tryz.call274 (by simp) ?_;refine zm [(0,.dp (encGValueNode m) 0)] ⟨rfl,trivial⟩ ?_
 refine rg tok [2] fun K hK=>?_
 simp only[go_sem,qf,qb,qa,qc,qe,qd,reduceIte,reduceCtorEq];apply hK
 clear hK K
 refine rg tok [2] fun K hK=>?_
 simp only[go_sem,qf,qb,qa,qc,qe,qd,reduceIte,reduceCtorEq];apply hK
 clear hK K
 refine zJ ?_;exact retA
theorem has_num : XC qi 348 "concordat/value.kind" 275:=by intro v w; kernel_rfl
theorem has_str : XC qi 349 "concordat/value.kind" 276:=by intro v w; kernel_rfl
theorem has_node : XC qi 232 "concordat/value.kind" 274:=by intro v w; kernel_rfl
def xy (a0:GValueValue):Int:=
 match a0 with|.nil=>0|.num _=>1|.str _=>2|.node _ _=>3
theorem xy.ok (a0:GValueValue)(r:Int)(h:xy a0=r):ACalls qi 253 [.agg (encGValueValue a0)] [] (fun r' _=>r'=.int .i64 r):=by
 refine zj (rs:=[.tmp 2]) tok Tryz.func253 rfl Tryz.ntmps253 rfl Tryz.call253 (by simp) ?_;refine zm [(0,.agg (encGValueValue a0))] ⟨rfl,trivial⟩ ?_;unfold xy at h;have f1:=wk a0;unfold AV.one at f1
 refine rg tok [1] fun K hK=>?_
 simp only[go_sem,qf,qb,qa,qc,qe,qd,reduceIte,reduceCtorEq,encGValueValue,f1];apply hK
 clear hK K
 rcases a0 with _|n2|s2|⟨e2,r2⟩
 · dsimp only at h
   try simp only[Zp]
   refine zd fun Z hZ=>?_
   refine rc [1,5] fun K hK=>?_
   refine za tok 2 ?_;simp only[go_sem,qf,qb,qa,qc,qe,qd,reduceIte,reduceCtorEq];refine opsWp_inil tok rfl rfl rfl rfl rfl rfl ?_;refine ze ?_;simp only[zk,zw,zD,xJ,upd,qa,reduceIte,z1,yA];apply hK
   clear hK K
   refine zu rfl ?_
   refine rg tok [2] fun K hK=>?_
   simp only[go_sem,qf,qb,qa,qc,qe,qd,reduceIte,reduceCtorEq];apply hK
   clear hK K
   refine zJ ?_;obtain rfl:=h;exact retA
 · dsimp only at h
   try simp only[Zo]
   refine zd fun Z hZ=>?_
   refine rg tok [1,5] fun K hK=>?_
   simp only[go_sem,qf,qb,qa,qc,qe,qd,reduceIte,reduceCtorEq,zn];apply hK
   clear hK K
   refine zo rfl ?_;refine zf ?_;refine hZ _ _ ?_
   clear hZ Z
   refine rc [2] fun K hK=>?_
   refine za tok 2 ?_;simp only[go_sem,qf,qb,qa,qc,qe,qd,reduceIte,reduceCtorEq];refine YR rfl rfl rfl has_num rfl (kind_num n2 _) ?_;rintro _ _ ⟨rfl,rfl⟩;refine za tok 1 ?_;simp only[go_sem,qf,qb,qa,qc,qe,qd,reduceIte,reduceCtorEq];refine ze ?_;simp only[zk,zw,zD,xJ,upd,qa,reduceIte,z1,yA];apply hK
   clear hK K
   refine zJ ?_;obtain rfl:=h;exact retA
 · dsimp only at h
   try simp only[Zn]
   refine zd fun Z hZ=>?_
   refine rg tok [1,5] fun K hK=>?_
   simp only[go_sem,qf,qb,qa,qc,qe,qd,reduceIte,reduceCtorEq,zn];apply hK
   clear hK K
   refine zo rfl ?_;refine zf ?_;refine hZ _ _ ?_
   clear hZ Z
   refine rc [2] fun K hK=>?_
   refine za tok 2 ?_;simp only[go_sem,qf,qb,qa,qc,qe,qd,reduceIte,reduceCtorEq];refine YR rfl rfl rfl has_str rfl (kind_str s2 _) ?_;rintro _ _ ⟨rfl,rfl⟩;refine za tok 1 ?_;simp only[go_sem,qf,qb,qa,qc,qe,qd,reduceIte,reduceCtorEq];refine ze ?_;simp only[zk,zw,zD,xJ,upd,qa,reduceIte,z1,yA];apply hK
   clear hK K
   refine zJ ?_;obtain rfl:=h;exact retA
 dsimp only at h
 try simp only[wB]
 refine zd fun Z hZ=>?_
 refine rg tok [1,5] fun K hK=>?_
 simp only[go_sem,qf,qb,qa,qc,qe,qd,reduceIte,reduceCtorEq,zn];apply hK
 clear hK K
 refine zo rfl ?_;refine zf ?_;refine hZ _ _ ?_
 clear hZ Z
 refine rc [2] fun K hK=>?_
 refine za tok 2 ?_;simp only[go_sem,qf,qb,qa,qc,qe,qd,reduceIte,reduceCtorEq];refine YR rfl rfl rfl has_node rfl (kind_node ⟨e2,r2⟩ _) ?_;rintro _ _ ⟨rfl,rfl⟩;refine za tok 1 ?_;simp only[go_sem,qf,qb,qa,qc,qe,qd,reduceIte,reduceCtorEq];refine ze ?_;simp only[zk,zw,zD,xJ,upd,qa,reduceIte,z1,yA];apply hK
 clear hK K
 refine zJ ?_;obtain rfl:=h;exact retA
theorem xy.ev (a0:GValueValue)(r:Int)(h:xy a0=r)(σ:Store):ACalls qi 253 [.agg (encGValueValue a0)] σ (fun r' σ'=>r'=.int .i64 r∧σ'=σ):=
 (xy.ok a0 r h).c σ
theorem asNode_nil (σ:Store):ACalls qi 254 [.agg ([.nilI])] σ (fun r' σ'=>r'=.tup [.nilp,.bool false]∧σ'=σ):=by
 refine ACalls.c (x:=.tup [.nilp,.bool false]) ?_ σ;refine zj (rs:=[.tmp 2,.tmp 3]) tok Tryz.func254 rfl Tryz.ntmps254 rfl Tryz.call254 (by simp) ?_;refine zm [(0,.agg ([.nilI]))] ⟨rfl,trivial⟩ ?_
 refine rg tok [1] fun K hK=>?_
 simp only[go_sem,qf,qb,qa,qc,qe,qd,reduceIte,reduceCtorEq];apply hK
 clear hK K
 refine rg tok [4,5] fun K hK=>?_
 simp only[go_sem,qf,qb,qa,qc,qe,qd,reduceIte,reduceCtorEq,yn,yr,TypeDesc.isIface];apply hK
 clear hK K
 refine rg tok [2,3] fun K hK=>?_
 simp only[go_sem,qf,qb,qa,qc,qe,qd,reduceIte,reduceCtorEq];apply hK
 clear hK K
 refine zJ ?_;exact retA
theorem asNode_num (n:Int)(σ:Store):ACalls qi 254 [.agg ([.ifc 348 (.int .i64 n)])] σ (fun r' σ'=>r'=.tup [.nilp,.bool false]∧σ'=σ):=by
 refine ACalls.c (x:=.tup [.nilp,.bool false]) ?_ σ;refine zj (rs:=[.tmp 2,.tmp 3]) tok Tryz.func254 rfl Tryz.ntmps254 rfl Tryz.call254 (by simp) ?_;refine zm [(0,.agg ([.ifc 348 (.int .i64 n)]))] ⟨rfl,trivial⟩ ?_
 refine rg tok [1] fun K hK=>?_
 simp only[go_sem,qf,qb,qa,qc,qe,qd,reduceIte,reduceCtorEq];apply hK
 clear hK K
 refine rg tok [4,5] fun K hK=>?_
 simp only[go_sem,qf,qb,qa,qc,qe,qd,reduceIte,reduceCtorEq,yn,yr,TypeDesc.isIface];apply hK
 clear hK K
 refine rg tok [2,3] fun K hK=>?_
 simp only[go_sem,qf,qb,qa,qc,qe,qd,reduceIte,reduceCtorEq];apply hK
 clear hK K
 refine zJ ?_;exact retA
theorem asNode_str (s:List UInt8)(σ:Store):ACalls qi 254 [.agg ([.ifc 349 (.str s)])] σ (fun r' σ'=>r'=.tup [.nilp,.bool false]∧σ'=σ):=by
 refine ACalls.c (x:=.tup [.nilp,.bool false]) ?_ σ;refine zj (rs:=[.tmp 2,.tmp 3]) tok Tryz.func254 rfl Tryz.ntmps254 rfl Tryz.call254 (by simp) ?_;refine zm [(0,.agg ([.ifc 349 (.str s)]))] ⟨rfl,trivial⟩ ?_
 refine rg tok [1] fun K hK=>?_
 simp only[go_sem,qf,qb,qa,qc,qe,qd,reduceIte,reduceCtorEq];apply hK
 clear hK K
 refine rg tok [4,5] fun K hK=>?_
 simp only[go_sem,qf,qb,qa,qc,qe,qd,reduceIte,reduceCtorEq,yn,yr,TypeDesc.isIface];apply hK
 clear hK K
 refine rg tok [2,3] fun K hK=>?_
 simp only[go_sem,qf,qb,qa,qc,qe,qd,reduceIte,reduceCtorEq];apply hK
 clear hK K
 refine zJ ?_;exact retA
theorem asNode_node (e:List GValueEntry)(q:List GRaw)(σ:Store):ACalls qi 254 [.agg ([.ifc 232 (.dp [.ds true (qh encGValueEntry e) (qg e) false,.ds true (qh encGRaw q) (qg q) false] 0)])] σ (fun r' σ'=>r'=.tup [.dp (encGValueNode ⟨e,q⟩) 0,.bool true]∧σ'=σ):=by
 refine ACalls.c (x:=.tup [.dp (encGValueNode ⟨e,q⟩) 0,.bool true]) ?_ σ;refine zj (rs:=[.tmp 2,.tmp 3]) tok Tryz.func254 rfl Tryz.ntmps254 rfl Tryz.call254 (by simp) ?_;refine zm [(0,.agg ([.ifc 232 (.dp [.ds true (qh encGValueEntry e) (qg e) false,.ds true (qh encGRaw q) (qg q) false] 0)]))] ⟨rfl,trivial⟩ ?_
 refine rg tok [1] fun K hK=>?_
 simp only[go_sem,qf,qb,qa,qc,qe,qd,reduceIte,reduceCtorEq];apply hK
 clear hK K
 refine rg tok [4,5] fun K hK=>?_
 simp only[go_sem,qf,qb,qa,qc,qe,qd,reduceIte,reduceCtorEq,yn,yr,TypeDesc.isIface];apply hK
 clear hK K
 refine rg tok [2,3] fun K hK=>?_
 simp only[go_sem,qf,qb,qa,qc,qe,qd,reduceIte,reduceCtorEq];apply hK
 clear hK K
 refine zJ ?_;exact retA
end
section
set_option maxRecDepth 4000
set_option maxHeartbeats 1000000
open AM
def wn (a0:Int):GSchema:=
 (⟨[97],[(⟨[109],[(⟨[120],1,1,(⟨a0,[]⟩:GType)⟩:GField)],([]:List Int)⟩:GMessage)],([]:List GEnumeration),[(⟨[99],[109],[109]⟩:GMethod)]⟩:GSchema)
theorem wn.ok (a0:Int)(r:GSchema)(h:wn a0=r):ACalls qi 16 [.int .i64 a0] [] (fun r' _=>r'=.agg (encGSchema r)):=by
 refine zj (rs:=[.cell 2 31]) tok Tryz.func16 rfl Tryz.ntmps16 rfl Tryz.call16 (by simp) ?_;refine zm [(0,.int .i64 a0)] ⟨rfl,trivial⟩ ?_;unfold wn at h;refine rgN [0,2] ?_
 refine rg tok [2] fun K hK=>?_
 simp only[go_sem,qf,qb,qa,qc,qe,qd,reduceIte,reduceCtorEq,zL,zX,qY,qS,qX,true_and,q3,encGField,encGMessage,encGMethod,encGSchema,encGType];apply hK
 cases h;exact rtA
theorem wn.ev (a0:Int)(r:GSchema)(h:wn a0=r)(σ:Store):ACalls qi 16 [.int .i64 a0] σ (fun r' σ'=>r'=.agg (encGSchema r)∧σ'=σ):=
 (wn.ok a0 r h).c σ
def xC.l9 (a0:List UInt8):Nat→Nat→Int→Option Int
 |0,_,_=>none
 |k9+1,p5,x6=>(if p5<qg a0 then ((xC.l9 a0 k9) (p5+(decU a0 p5).2) (IntKind.i64.wrap (x6+1))) else some x6)
def xC (a0:List UInt8):Option Int:=
 (yY a0).bind fun r2=>(if (!r2)=true then some 0 else (xC.l9 a0 xl 0 0))
theorem xC.ok (a0:List UInt8)(r:Int)(h:xC a0=some r):ACalls qi 167 [.str a0] [] (fun r' _=>r'=.int .i64 r):=by
 refine zj (rs:=[.tmp 2]) tok Tryz.func167 rfl Tryz.ntmps167 rfl Tryz.call167 (by simp) ?_;refine zm [(0,.str a0)] ⟨rfl,trivial⟩ ?_;unfold xC at h;refine rgN [0] ?_
 refine zd fun Z1 hZ1=>?_
 refine rc [0,6] fun K hK=>?_
 obtain⟨r2,hr2,h⟩:=bind_some h;refine rnN 1 ?_;refine clN rfl rfl rfl (yY.ev a0 r2 hr2 _) ?_;refine rnN 1 ?_;refine nkN hK ?_;refine zs (b:=(!r2)) rfl (fun hc3=>?_) (fun hc3=>?_)
 · rw[if_pos hc3] at h;refine rgN [2] ?_;cases h;exact rtA
 rw[xI hc3] at h;apply zf;apply hZ1;refine rgN [0,3] ?_
 refine zd fun Z4 hZ4=>?_
 refine rgN [3,8] ?_;apply zg;refine zP (fun m L τ=>∃ (k9:Nat) (p5:Nat) (x6:Int),m=0+k9∧L=[(3,.int .i64 x6),(8,.it 0)]∧τ=[.iter a0 p5]∧xC.l9 a0 k9 p5 x6=some r) _ ⟨xl,0,0,rfl,rfl,rfl,h⟩ .s ?_;rintro m L τ ⟨k9,p5,x6,rfl,rfl,rfl,h⟩
 rcases k9 with _|k9
 · cases h
 simp only[xC.l9] at h
 by_cases hn10:p5<qg a0
 · rw[if_pos hn10] at h;have t11:=eq_true hn10
   refine rg tok [3,8,10] fun K hK=>?_
   simp only[go_sem,qf,qb,qa,qc,qe,qd,reduceIte,reduceCtorEq,Xu,if_true,if_false,t11];apply hK
   refine zd fun Z12 hZ12=>?_
   refine zu rfl ?_;apply zf;apply hZ12;apply zg
   refine rgE tok [3,8] fun K hK=>?_
   simp only[go_sem,qf,qb,qa,qc,qe,qd,reduceIte,reduceCtorEq,zn,t11];apply hK
   exact⟨_,_,_,qE (0+k9),⟨k9,p5+(decU a0 p5).2,IntKind.i64.wrap (x6+1),rfl,rfl,rfl,h⟩,.s⟩
 rw[if_neg hn10] at h;have t13:=eq_false hn10
 refine rg tok [3,8,10] fun K hK=>?_
 simp only[go_sem,qf,qb,qa,qc,qe,qd,reduceIte,reduceCtorEq,Xu,if_true,if_false,t13];apply hK
 refine zd fun Z14 hZ14=>?_
 refine zo rfl ?_;apply zI;apply hZ4
 refine rg tok [2] fun K hK=>?_
 simp only[go_sem,qf,qb,qa,qc,qe,qd,reduceIte,reduceCtorEq,t13];apply hK
 cases h;exact rtA
theorem xC.ev (a0:List UInt8)(r:Int)(h:xC a0=some r)(σ:Store):ACalls qi 167 [.str a0] σ (fun r' σ'=>r'=.int .i64 r∧σ'=σ):=
 (xC.ok a0 r h).c σ
def yZ.j3 (x2:Bool):Bool:=
 (if x2=true then true else false)
def yZ (a0:List UInt8):Bool:=
 (if a0=[115,99,104,101,109,97] then (yZ.j3 (decide (a0=[115,99,104,101,109,97]))) else (if a0=[109,101,115,115,97,103,101] then (yZ.j3 (decide (a0=[109,101,115,115,97,103,101]))) else (if a0=[101,110,117,109] then (yZ.j3 (decide (a0=[101,110,117,109]))) else (if a0=[99,97,108,108] then (yZ.j3 (decide (a0=[99,97,108,108]))) else (if a0=[114,101,116,117,114,110,115] then (yZ.j3 (decide (a0=[114,101,116,117,114,110,115]))) else (if a0=[114,101,115,101,114,118,101,100] then (yZ.j3 (decide (a0=[114,101,115,101,114,118,101,100]))) else (if a0=[111,112,116,105,111,110,97,108] then (yZ.j3 (decide (a0=[111,112,116,105,111,110,97,108]))) else (if a0=[114,101,112,101,97,116,101,100] then (yZ.j3 (decide (a0=[114,101,112,101,97,116,101,100]))) else (if a0=[105,110,116,51,50] then (yZ.j3 (decide (a0=[105,110,116,51,50]))) else (if a0=[105,110,116,54,52] then (yZ.j3 (decide (a0=[105,110,116,54,52]))) else (if a0=[98,111,111,108] then (yZ.j3 (decide (a0=[98,111,111,108]))) else (if a0=[116,101,120,116] then (yZ.j3 (decide (a0=[116,101,120,116]))) else (yZ.j3 (decide (a0=[98,121,116,101,115])))))))))))))))
theorem yZ.ok (a0:List UInt8)(r:Bool)(h:yZ a0=r):ACalls qi 168 [.str a0] [] (fun r' _=>r'=.bool r):=by
 refine zj (rs:=[.tmp 2]) tok Tryz.func168 rfl Tryz.ntmps168 rfl Tryz.call168 (by simp) ?_;refine zm [(0,.str a0)] ⟨rfl,trivial⟩ ?_;unfold yZ at h;refine rgN [0] ?_
 refine zd fun Z1 hZ1=>?_
 refine rgN [3] ?_;apply zg;refine yR (fun L τ=>∃ (x2:Bool),L=[(4,.bool x2)]∧τ=[]∧yZ.j3 x2=r) ?_ ?_
 · refine rg tok [3,4] fun K hK=>?_
   simp only[go_sem,qf,qb,qa,qc,qe,qd,reduceIte,reduceCtorEq,zn];apply hK
   refine zM rfl (fun hc5=>?_) (fun hc5=>?_)
   · rw[if_pos hc5] at h;have t6:=eq_true hc5;apply zf;exact⟨_,_,⟨decide (a0=[115,99,104,101,109,97]),rfl,rfl,h⟩,.s⟩
   rw[if_neg hc5] at h;have t7:=eq_false hc5
   refine rg tok [3,4] fun K hK=>?_
   simp only[go_sem,qf,qb,qa,qc,qe,qd,reduceIte,reduceCtorEq,zn,t7];apply hK
   refine zM rfl (fun hc8=>?_) (fun hc8=>?_)
   · rw[if_pos hc8] at h;have t9:=eq_true hc8;apply zf;exact⟨_,_,⟨decide (a0=[109,101,115,115,97,103,101]),rfl,rfl,h⟩,.s⟩
   rw[if_neg hc8] at h;have t10:=eq_false hc8
   refine rg tok [3,4] fun K hK=>?_
   simp only[go_sem,qf,qb,qa,qc,qe,qd,reduceIte,reduceCtorEq,zn,t7,t10];apply hK
   refine zM rfl (fun hc11=>?_) (fun hc11=>?_)
   · rw[if_pos hc11] at h;have t12:=eq_true hc11;apply zf;exact⟨_,_,⟨decide (a0=[101,110,117,109]),rfl,rfl,h⟩,.s⟩
   rw[if_neg hc11] at h;have t13:=eq_false hc11
   refine rg tok [3,4] fun K hK=>?_
   simp only[go_sem,qf,qb,qa,qc,qe,qd,reduceIte,reduceCtorEq,zn,t7,t10,t13];apply hK
   refine zM rfl (fun hc14=>?_) (fun hc14=>?_)
   · rw[if_pos hc14] at h;have t15:=eq_true hc14;apply zf;exact⟨_,_,⟨decide (a0=[99,97,108,108]),rfl,rfl,h⟩,.s⟩
   rw[if_neg hc14] at h;have t16:=eq_false hc14
   refine rg tok [3,4] fun K hK=>?_
   simp only[go_sem,qf,qb,qa,qc,qe,qd,reduceIte,reduceCtorEq,zn,t7,t10,t13,t16];apply hK
   refine zM rfl (fun hc17=>?_) (fun hc17=>?_)
   · rw[if_pos hc17] at h;have t18:=eq_true hc17;apply zf;exact⟨_,_,⟨decide (a0=[114,101,116,117,114,110,115]),rfl,rfl,h⟩,.s⟩
   rw[if_neg hc17] at h;have t19:=eq_false hc17
   refine rg tok [3,4] fun K hK=>?_
   simp only[go_sem,qf,qb,qa,qc,qe,qd,reduceIte,reduceCtorEq,zn,t7,t10,t13,t16,t19];apply hK
   refine zM rfl (fun hc20=>?_) (fun hc20=>?_)
   · rw[if_pos hc20] at h;have t21:=eq_true hc20;apply zf;exact⟨_,_,⟨decide (a0=[114,101,115,101,114,118,101,100]),rfl,rfl,h⟩,.s⟩
   rw[if_neg hc20] at h;have t22:=eq_false hc20
   refine rg tok [3,4] fun K hK=>?_
   simp only[go_sem,qf,qb,qa,qc,qe,qd,reduceIte,reduceCtorEq,zn,t7,t10,t13,t16,t19,t22];apply hK
   refine zM rfl (fun hc23=>?_) (fun hc23=>?_)
   · rw[if_pos hc23] at h;have t24:=eq_true hc23;apply zf;exact⟨_,_,⟨decide (a0=[111,112,116,105,111,110,97,108]),rfl,rfl,h⟩,.s⟩
   rw[if_neg hc23] at h;have t25:=eq_false hc23
   refine rg tok [3,4] fun K hK=>?_
   simp only[go_sem,qf,qb,qa,qc,qe,qd,reduceIte,reduceCtorEq,zn,t7,t10,t13,t16,t19,t22,t25];apply hK
   refine zM rfl (fun hc26=>?_) (fun hc26=>?_)
   · rw[if_pos hc26] at h;have t27:=eq_true hc26;apply zf;exact⟨_,_,⟨decide (a0=[114,101,112,101,97,116,101,100]),rfl,rfl,h⟩,.s⟩
   rw[if_neg hc26] at h;have t28:=eq_false hc26
   refine rg tok [3,4] fun K hK=>?_
   simp only[go_sem,qf,qb,qa,qc,qe,qd,reduceIte,reduceCtorEq,zn,t7,t10,t13,t16,t19,t22,t25,t28];apply hK
   refine zM rfl (fun hc29=>?_) (fun hc29=>?_)
   · rw[if_pos hc29] at h;have t30:=eq_true hc29;apply zf;exact⟨_,_,⟨decide (a0=[105,110,116,51,50]),rfl,rfl,h⟩,.s⟩
   rw[if_neg hc29] at h;have t31:=eq_false hc29
   refine rg tok [3,4] fun K hK=>?_
   simp only[go_sem,qf,qb,qa,qc,qe,qd,reduceIte,reduceCtorEq,zn,t7,t10,t13,t16,t19,t22,t25,t28,t31];apply hK
   refine zM rfl (fun hc32=>?_) (fun hc32=>?_)
   · rw[if_pos hc32] at h;have t33:=eq_true hc32;apply zf;exact⟨_,_,⟨decide (a0=[105,110,116,54,52]),rfl,rfl,h⟩,.s⟩
   rw[if_neg hc32] at h;have t34:=eq_false hc32
   refine rg tok [3,4] fun K hK=>?_
   simp only[go_sem,qf,qb,qa,qc,qe,qd,reduceIte,reduceCtorEq,zn,t7,t10,t13,t16,t19,t22,t25,t28,t31,t34];apply hK
   refine zM rfl (fun hc35=>?_) (fun hc35=>?_)
   · rw[if_pos hc35] at h;have t36:=eq_true hc35;apply zf;exact⟨_,_,⟨decide (a0=[98,111,111,108]),rfl,rfl,h⟩,.s⟩
   rw[if_neg hc35] at h;have t37:=eq_false hc35
   refine rg tok [3,4] fun K hK=>?_
   simp only[go_sem,qf,qb,qa,qc,qe,qd,reduceIte,reduceCtorEq,zn,t7,t10,t13,t16,t19,t22,t25,t28,t31,t34,t37];apply hK
   refine zM rfl (fun hc38=>?_) (fun hc38=>?_)
   · rw[if_pos hc38] at h;have t39:=eq_true hc38;apply zf;exact⟨_,_,⟨decide (a0=[116,101,120,116]),rfl,rfl,h⟩,.s⟩
   rw[if_neg hc38] at h;have t40:=eq_false hc38
   refine rgE tok [4] fun K hK=>?_
   simp only[go_sem,qf,qb,qa,qc,qe,qd,reduceIte,reduceCtorEq,zn,t7,t10,t13,t16,t19,t22,t25,t28,t31,t34,t37,t40];apply hK
   exact⟨_,_,⟨decide (a0=[98,121,116,101,115]),rfl,rfl,h⟩,.s⟩
 rintro _ _ ⟨x2,rfl,rfl,h⟩;unfold yZ.j3 at h;refine zs (b:=x2) rfl (fun hc4=>?_) (fun hc4=>?_)
 · rw[if_pos hc4] at h;refine rgN [2] ?_;cases h;exact rtA
 rw[xI hc4] at h;apply zf;apply hZ1;refine rgN [2] ?_;cases h;exact rtA
theorem yZ.ev (a0:List UInt8)(r:Bool)(h:yZ a0=r)(σ:Store):ACalls qi 168 [.str a0] σ (fun r' σ'=>r'=.bool r∧σ'=σ):=
 (yZ.ok a0 r h).c σ
def xZ (a0:Int)(a1:Int)(a2:Int):Bool:=
 ((decide (a1≤a0))&&(decide (a0≤a2)))
theorem xZ.ok (a0:Int)(a1:Int)(a2:Int)(r:Bool)(h:xZ a0 a1 a2=r):ACalls qi 212 [.int .i32 a0,.int .i32 a1,.int .i32 a2] [] (fun r' _=>r'=.bool r):=by
 refine zj (rs:=[.tmp 6]) tok Tryz.func212 rfl Tryz.ntmps212 rfl Tryz.call212 (by simp) ?_;refine zm [(0,.int .i32 a0),(1,.int .i32 a1),(2,.int .i32 a2)] ⟨rfl,rfl,rfl,trivial⟩ ?_;unfold xZ at h;refine rgN [0,1,2] ?_
 refine rc [6] fun K hK=>?_
 refine za tok 4 ?_;simp only[go_sem,qf,qb,qa,qc,qe,qd,reduceIte,reduceCtorEq,zn];refine zl 4 (fun L τ=>L=[(14,.bool ((decide (a1≤a0))&&(decide (a0≤a2))))]∧τ=[]) ?_ ?_
 · refine yQ 10 rfl (fun hg10=>?_) (fun hg10=>?_)
   · have t1:=eq_true hg10;refine za tok 4 ?_;simp only[go_sem,qf,qb,qa,qc,qe,qd,reduceIte,reduceCtorEq,zn];refine ze ⟨rfl,_,_,⟨rfl,rfl⟩,.p t1⟩
   have t2:=eq_false hg10;refine za tok 4 ?_;simp only[go_sem,qf,qb,qa,qc,qe,qd,reduceIte,reduceCtorEq,zn];refine ze ⟨rfl,_,_,⟨rfl,rfl⟩,.p t2⟩
 rintro _ _ ⟨rfl,rfl⟩;refine rnN 1 ?_;refine nkN hK ?_;cases h;exact rtA
theorem xZ.ev (a0:Int)(a1:Int)(a2:Int)(r:Bool)(h:xZ a0 a1 a2=r)(σ:Store):ACalls qi 212 [.int .i32 a0,.int .i32 a1,.int .i32 a2] σ (fun r' σ'=>r'=.bool r∧σ'=σ):=
 (xZ.ok a0 a1 a2 r h).c σ
def xg.j6 (a0:Int)(x5:Bool):Bool:=
 (if x5=true then false else bnd (xZ a0 97 122) fun r8=>bnd (if r8=true then true else bnd (xZ a0 65 90) fun r9=>r9) fun c9=>bnd (if c9=true then true else bnd (xZ a0 192 591) fun r11=>r11) fun c11=>bnd (if c11=true then true else bnd (xZ a0 913 969) fun r13=>r13) fun c13=>c13)
def xg (a0:Int):Bool:=
 (if a0=95 then true else (if a0=215 then (xg.j6 a0 (decide (a0=215))) else (if a0=247 then (xg.j6 a0 (decide (a0=247))) else (xg.j6 a0 (decide (a0=930))))))
theorem xg.ok (a0:Int)(r:Bool)(h:xg a0=r):ACalls qi 169 [.int .i32 a0] [] (fun r' _=>r'=.bool r):=by
 refine zj (rs:=[.tmp 2]) tok Tryz.func169 rfl Tryz.ntmps169 rfl Tryz.call169 (by simp) ?_;refine zm [(0,.int .i32 a0)] ⟨rfl,trivial⟩ ?_;unfold xg at h;refine rgN [0] ?_
 refine zd fun Z1 hZ1=>?_
 refine rgN [0,3] ?_;apply zg
 refine rg tok [0,3,4] fun K hK=>?_
 simp only[go_sem,qf,qb,qa,qc,qe,qd,reduceIte,reduceCtorEq,zn];apply hK
 refine zM rfl (fun hc2=>?_) (fun hc2=>?_)
 · rw[if_pos hc2] at h;have t3:=eq_true hc2
   refine rg tok [2] fun K hK=>?_
   simp only[go_sem,qf,qb,qa,qc,qe,qd,reduceIte,reduceCtorEq,t3];apply hK
   cases h;exact rtA
 rw[if_neg hc2] at h;have t4:=eq_false hc2;refine yR (fun L τ=>∃ (x5:Bool),L=[(0,.int .i32 a0),(6,.bool x5)]∧τ=[]∧xg.j6 a0 x5=r) ?_ ?_
 · refine rg tok [0,3,6] fun K hK=>?_
   simp only[go_sem,qf,qb,qa,qc,qe,qd,reduceIte,reduceCtorEq,zn,t4];apply hK
   refine zM rfl (fun hc15=>?_) (fun hc15=>?_)
   · rw[if_pos hc15] at h;have t16:=eq_true hc15;apply zf;exact⟨_,_,⟨decide (a0=215),rfl,rfl,h⟩,.s⟩
   rw[if_neg hc15] at h;have t17:=eq_false hc15
   refine rg tok [0,3,6] fun K hK=>?_
   simp only[go_sem,qf,qb,qa,qc,qe,qd,reduceIte,reduceCtorEq,zn,t4,t17];apply hK
   refine zM rfl (fun hc18=>?_) (fun hc18=>?_)
   · rw[if_pos hc18] at h;have t19:=eq_true hc18;apply zf;exact⟨_,_,⟨decide (a0=247),rfl,rfl,h⟩,.s⟩
   rw[if_neg hc18] at h;have t20:=eq_false hc18
   refine rgE tok [0,6] fun K hK=>?_
   simp only[go_sem,qf,qb,qa,qc,qe,qd,reduceIte,reduceCtorEq,zn,t4,t17,t20];apply hK
   exact⟨_,_,⟨decide (a0=930),rfl,rfl,h⟩,.s⟩
 rintro _ _ ⟨x5,rfl,rfl,h⟩;unfold xg.j6 at h;refine zs (b:=x5) rfl (fun hc7=>?_) (fun hc7=>?_)
 · rw[if_pos hc7] at h
   refine rg tok [2] fun K hK=>?_
   simp only[go_sem,qf,qb,qa,qc,qe,qd,reduceIte,reduceCtorEq,t4];apply hK
   cases h;exact rtA
 rw[xI hc7] at h;apply zf;apply hZ1
 refine rc [2] fun K hK=>?_
 obtain⟨r8,hr8,h⟩:=zB h;refine za tok 1 ?_;simp only[go_sem,qf,qb,qa,qc,qe,qd,reduceIte,reduceCtorEq,t4];refine clN rfl rfl rfl (xZ.ev a0 97 122 r8 hr8 _) ?_;refine za tok 1 ?_;simp only[go_sem,qf,qb,qa,qc,qe,qd,reduceIte,reduceCtorEq,t4];obtain⟨c9,hc9,h⟩:=zB h;refine zl 3 (fun L τ=>L=[(0,.int .i32 a0),(15,.bool c9)]∧τ=[]) ?_ ?_
 · refine zR (b:=r8) 12 rfl (fun hg12=>?_) (fun hg12=>?_)
   · rw[if_pos hg12] at hc9;refine za tok 3 ?_;simp only[go_sem,qf,qb,qa,qc,qe,qd,reduceIte,reduceCtorEq,t4];subst hc9;refine ze ⟨rfl,_,_,⟨rfl,rfl⟩,.b hg12⟩
   rw[xI hg12] at hc9;obtain⟨r10,hr10,hc9⟩:=zB hc9;refine za tok 1 ?_;simp only[go_sem,qf,qb,qa,qc,qe,qd,reduceIte,reduceCtorEq,t4];refine clN rfl rfl rfl (xZ.ev a0 65 90 r10 hr10 _) ?_;refine za tok 1 ?_;simp only[go_sem,qf,qb,qa,qc,qe,qd,reduceIte,reduceCtorEq,t4];subst hc9;refine ze ⟨rfl,_,_,⟨rfl,rfl⟩,.b hg12⟩
 rintro _ _ ⟨rfl,rfl⟩;refine za tok 1 ?_;simp only[go_sem,qf,qb,qa,qc,qe,qd,reduceIte,reduceCtorEq,t4];obtain⟨c11,hc11,h⟩:=zB h;refine zl 3 (fun L τ=>L=[(0,.int .i32 a0),(19,.bool c11)]∧τ=[]) ?_ ?_
 · refine zR (b:=c9) 16 rfl (fun hg16=>?_) (fun hg16=>?_)
   · rw[if_pos hg16] at hc11;refine za tok 3 ?_;simp only[go_sem,qf,qb,qa,qc,qe,qd,reduceIte,reduceCtorEq,t4];subst hc11;refine ze ⟨rfl,_,_,⟨rfl,rfl⟩,.b hg16⟩
   rw[xI hg16] at hc11;obtain⟨r12,hr12,hc11⟩:=zB hc11;refine za tok 1 ?_;simp only[go_sem,qf,qb,qa,qc,qe,qd,reduceIte,reduceCtorEq,t4];refine clN rfl rfl rfl (xZ.ev a0 192 591 r12 hr12 _) ?_;refine za tok 1 ?_;simp only[go_sem,qf,qb,qa,qc,qe,qd,reduceIte,reduceCtorEq,t4];subst hc11;refine ze ⟨rfl,_,_,⟨rfl,rfl⟩,.b hg16⟩
 rintro _ _ ⟨rfl,rfl⟩;refine za tok 1 ?_;simp only[go_sem,qf,qb,qa,qc,qe,qd,reduceIte,reduceCtorEq,t4];obtain⟨c13,hc13,h⟩:=zB h;refine zl 3 (fun L τ=>L=[(23,.bool c13)]∧τ=[]) ?_ ?_
 · refine zR (b:=c11) 20 rfl (fun hg20=>?_) (fun hg20=>?_)
   · rw[if_pos hg20] at hc13;refine za tok 3 ?_;simp only[go_sem,qf,qb,qa,qc,qe,qd,reduceIte,reduceCtorEq,t4];subst hc13;refine ze ⟨rfl,_,_,⟨rfl,rfl⟩,.b hg20⟩
   rw[xI hg20] at hc13;obtain⟨r14,hr14,hc13⟩:=zB hc13;refine za tok 1 ?_;simp only[go_sem,qf,qb,qa,qc,qe,qd,reduceIte,reduceCtorEq,t4];refine clN rfl rfl rfl (xZ.ev a0 913 969 r14 hr14 _) ?_;refine za tok 1 ?_;simp only[go_sem,qf,qb,qa,qc,qe,qd,reduceIte,reduceCtorEq,t4];subst hc13;refine ze ⟨rfl,_,_,⟨rfl,rfl⟩,.b hg20⟩
 rintro _ _ ⟨rfl,rfl⟩;refine za tok 1 ?_;simp only[go_sem,qf,qb,qa,qc,qe,qd,reduceIte,reduceCtorEq,t4];refine nkN hK ?_;cases h;exact rtA
theorem xg.ev (a0:Int)(r:Bool)(h:xg a0=r)(σ:Store):ACalls qi 169 [.int .i32 a0] σ (fun r' σ'=>r'=.bool r∧σ'=σ):=
 (xg.ok a0 r h).c σ
def wy (a0:Int):Bool:=
 bnd (xZ a0 48 57) fun r1=>r1
theorem wy.ok (a0:Int)(r:Bool)(h:wy a0=r):ACalls qi 170 [.int .i32 a0] [] (fun r' _=>r'=.bool r):=by
 refine zj (rs:=[.tmp 2]) tok Tryz.func170 rfl Tryz.ntmps170 rfl Tryz.call170 (by simp) ?_;refine zm [(0,.int .i32 a0)] ⟨rfl,trivial⟩ ?_;unfold wy at h;refine rgN [0] ?_
 refine rc [2] fun K hK=>?_
 obtain⟨r1,hr1,h⟩:=zB h;refine rnN 1 ?_;refine clN rfl rfl rfl (xZ.ev a0 48 57 r1 hr1 _) ?_;refine rnN 1 ?_;refine nkN hK ?_;cases h;exact rtA
theorem wy.ev (a0:Int)(r:Bool)(h:wy a0=r)(σ:Store):ACalls qi 170 [.int .i32 a0] σ (fun r' σ'=>r'=.bool r∧σ'=σ):=
 (wy.ok a0 r h).c σ
def xB.l11 (a0:List UInt8):Nat→Nat→Option Bool
 |0,_=>none
 |k11+1,p9=>(if p9<qg a0 then bnd (xg ((decU a0 p9).1:Int)) fun r15=>bnd (if (!r15)=true then bnd (if ((p9:Nat):Int)=0 then true else bnd (wy ((decU a0 p9).1:Int)) fun r16 => !r16) fun c16=>c16 else false) fun c16=>(if c16=true then some false else ((xB.l11 a0 k11) (p9+(decU a0 p9).2))) else some true)
def xB (a0:List UInt8):Option Bool:=
 (xC a0).bind fun r1=>bnd (if ((decide (r1<1))||(decide (20<r1)))=true then true else bnd (yZ a0) fun r5=>r5) fun c5=>(if c5=true then some false else (xB.l11 a0 xl 0))
theorem xB.ok (a0:List UInt8)(r:Bool)(h:xB a0=some r):ACalls qi 125 [.str a0] [] (fun r' _=>r'=.bool r):=by
 refine zj (rs:=[.tmp 2]) tok Tryz.func125 rfl Tryz.ntmps125 rfl Tryz.call125 (by simp) ?_;refine zm [(0,.str a0)] ⟨rfl,trivial⟩ ?_;unfold xB at h;refine rgN [0] ?_
 refine rc [0,3] fun K hK=>?_
 obtain⟨r1,hr1,h⟩:=bind_some h;refine rnN 1 ?_;refine clN rfl rfl rfl (xC.ev a0 r1 hr1 _) ?_;refine rnN 1 ?_;refine nkN hK ?_
 refine zd fun Z2 hZ2=>?_
 refine rc [0,17] fun K hK=>?_
 refine za tok 3 ?_;simp only[go_sem,qf,qb,qa,qc,qe,qd,reduceIte,reduceCtorEq,zn];refine zl 3 (fun L τ=>L=[(0,.str a0),(13,.bool ((decide (r1<1))||(decide (20<r1))))]∧τ=[]) ?_ ?_
 · refine yQ 10 rfl (fun hg10=>?_) (fun hg10=>?_)
   · have t3:=eq_true hg10;refine za tok 3 ?_;simp only[go_sem,qf,qb,qa,qc,qe,qd,reduceIte,reduceCtorEq,zn];refine ze ⟨rfl,_,_,⟨rfl,rfl⟩,.p t3⟩
   have t4:=eq_false hg10;refine za tok 3 ?_;simp only[go_sem,qf,qb,qa,qc,qe,qd,reduceIte,reduceCtorEq,zn];refine ze ⟨rfl,_,_,⟨rfl,rfl⟩,.p t4⟩
 rintro _ _ ⟨rfl,rfl⟩;refine rnN 1 ?_;obtain⟨c5,hc5,h⟩:=zB h;refine zl 3 (fun L τ=>L=[(0,.str a0),(17,.bool c5)]∧τ=[]) ?_ ?_
 · refine zR (b:=((decide (r1<1))||(decide (20<r1)))) 14 rfl (fun hg14=>?_) (fun hg14=>?_)
   · rw[if_pos hg14] at hc5;refine rnN 3 ?_;subst hc5;refine ze ⟨rfl,_,_,⟨rfl,rfl⟩,.b hg14⟩
   rw[xI hg14] at hc5;obtain⟨r6,hr6,hc5⟩:=zB hc5;refine rnN 1 ?_;refine clN rfl rfl rfl (yZ.ev a0 r6 hr6 _) ?_;refine rnN 1 ?_;subst hc5;refine ze ⟨rfl,_,_,⟨rfl,rfl⟩,.b hg14⟩
 rintro _ _ ⟨rfl,rfl⟩;refine nkN hK ?_;refine zs (b:=c5) rfl (fun hc7=>?_) (fun hc7=>?_)
 · rw[if_pos hc7] at h;refine rgN [2] ?_;cases h;exact rtA
 rw[xI hc7] at h;apply zf;apply hZ2
 refine zd fun Z8 hZ8=>?_
 refine rgN [19] ?_;apply zg;refine zP (fun m L τ=>∃ (k11:Nat) (p9:Nat),m=0+k11∧L=[(19,.it 0)]∧τ=[.iter a0 p9]∧xB.l11 a0 k11 p9=some r) _ ⟨xl,0,rfl,rfl,rfl,h⟩ .s ?_;rintro m L τ ⟨k11,p9,rfl,rfl,rfl,h⟩
 rcases k11 with _|k11
 · cases h
 simp only[xB.l11] at h
 by_cases hn12:p9<qg a0
 · rw[if_pos hn12] at h;have t13:=eq_true hn12
   refine rg tok [19,20,21] fun K hK=>?_
   simp only[go_sem,qf,qb,qa,qc,qe,qd,reduceIte,reduceCtorEq,Xu,if_true,if_false,t13];apply hK
   refine zd fun Z14 hZ14=>?_
   refine zu rfl ?_;apply zf;apply hZ14;apply zg
   refine rg tok [4,5,19] fun K hK=>?_
   simp only[go_sem,qf,qb,qa,qc,qe,qd,reduceIte,reduceCtorEq,t13];apply hK
   refine rc [19,35] fun K hK=>?_
   obtain⟨r15,hr15,h⟩:=zB h;refine za tok 1 ?_;simp only[go_sem,qf,qb,qa,qc,qe,qd,reduceIte,reduceCtorEq,t13];refine clN rfl rfl rfl (xg.ev ((decU a0 p9).1:Int) r15 hr15 _) ?_;refine za tok 2 ?_;simp only[go_sem,qf,qb,qa,qc,qe,qd,reduceIte,reduceCtorEq,t13];obtain⟨c16,hc16,h⟩:=zB h;refine zl 8 (fun L τ=>L=[(19,.it 0),(35,.bool c16)]∧τ=[.iter a0 (p9+(decU a0 p9).2)]) ?_ ?_
   · refine zR (b:=(!r15)) 27 rfl (fun hg27=>?_) (fun hg27=>?_)
     · rw[if_pos hg27] at hc16;refine za tok 3 ?_;simp only[go_sem,qf,qb,qa,qc,qe,qd,reduceIte,reduceCtorEq,zn,t13];obtain⟨c17,hc17,hc16⟩:=zB hc16;refine zl 4 (fun L τ=>L=[(19,.it 0),(27,.bool true),(34,.bool c17)]∧τ=[.iter a0 (p9+(decU a0 p9).2)]) ?_ ?_
       · refine yQ 30 rfl (fun hg30=>?_) (fun hg30=>?_)
         · have t18:=eq_true hg30;rw[if_pos hg30] at hc17;refine za tok 4 ?_;simp only[go_sem,qf,qb,qa,qc,qe,qd,reduceIte,reduceCtorEq,t13];subst hc17;refine ze ⟨rfl,_,_,⟨rfl,rfl⟩,.p t18⟩
         have t19:=eq_false hg30;rw[if_neg hg30] at hc17;obtain⟨r20,hr20,hc17⟩:=zB hc17;refine za tok 1 ?_;simp only[go_sem,qf,qb,qa,qc,qe,qd,reduceIte,reduceCtorEq,t13];refine clN rfl rfl rfl (wy.ev ((decU a0 p9).1:Int) r20 hr20 _) ?_;refine za tok 2 ?_;simp only[go_sem,qf,qb,qa,qc,qe,qd,reduceIte,reduceCtorEq,t13];subst hc17;refine ze ⟨rfl,_,_,⟨rfl,rfl⟩,.p t19⟩
       rintro _ _ ⟨rfl,rfl⟩;refine za tok 1 ?_;simp only[go_sem,qf,qb,qa,qc,qe,qd,reduceIte,reduceCtorEq,t13];subst hc16;refine ze ⟨rfl,_,_,⟨rfl,rfl⟩,.b hg27⟩
     rw[xI hg27] at hc16;refine za tok 8 ?_;simp only[go_sem,qf,qb,qa,qc,qe,qd,reduceIte,reduceCtorEq,zn,t13];subst hc16;refine ze ⟨rfl,_,_,⟨rfl,rfl⟩,.b hg27⟩
   rintro _ _ ⟨rfl,rfl⟩;refine nkN hK ?_;refine zs (b:=c16) rfl (fun hc21=>?_) (fun hc21=>?_)
   · rw[if_pos hc21] at h
     refine rg tok [2] fun K hK=>?_
     simp only[go_sem,qf,qb,qa,qc,qe,qd,reduceIte,reduceCtorEq,t13];apply hK
     cases h;exact rtA
   rw[xI hc21] at h;apply zf;exact⟨_,_,_,qE (0+k11),⟨k11,p9+(decU a0 p9).2,rfl,rfl,rfl,h⟩,.s⟩
 rw[if_neg hn12] at h;have t22:=eq_false hn12
 refine rg tok [19,20,21] fun K hK=>?_
 simp only[go_sem,qf,qb,qa,qc,qe,qd,reduceIte,reduceCtorEq,Xu,if_true,if_false,t22];apply hK
 refine zd fun Z23 hZ23=>?_
 refine zo rfl ?_;apply zI;apply hZ8
 refine rg tok [2] fun K hK=>?_
 simp only[go_sem,qf,qb,qa,qc,qe,qd,reduceIte,reduceCtorEq,t22];apply hK
 cases h;exact rtA
theorem xB.ev (a0:List UInt8)(r:Bool)(h:xB a0=some r)(σ:Store):ACalls qi 125 [.str a0] σ (fun r' σ'=>r'=.bool r∧σ'=σ):=
 (xB.ok a0 r h).c σ
def yy (a0:List (List UInt8×Bool))(a1:List UInt8):Option (Bool×List (List UInt8×Bool)):=
 (xB a1).bind fun r2=>(if ((!r2)||((vat a0 a1).getD false))=true then some (false,a0) else some (true,setM a0 a1 true))
theorem yy.ok (a0:List (List UInt8×Bool))(a1:List UInt8)(r:Bool×List (List UInt8×Bool))(h:yy a0 a1=some r):ACalls qi 128 [.mp 0,.str a1] [.map (xw AV.str AV.bool a0)] (fun r' σ'=>r'=.bool r.1∧σ'=[.map (xw AV.str AV.bool r.2)]):=by
 refine xE [0] (rs:=[.tmp 4]) tok Tryz.func128 rfl Tryz.ntmps128 rfl Tryz.call128 (by simp) rfl ?_;refine zm [(0,.mp 0),(1,.str a1)] ⟨rfl,rfl,trivial⟩ ?_;unfold yy at h;refine rgN [0,1] ?_
 refine zd fun Z1 hZ1=>?_
 refine rc [0,1,12] fun K hK=>?_
 obtain⟨r2,hr2,h⟩:=bind_some h;refine rnN 1 ?_;refine clN rfl rfl rfl (xB.ev a1 r2 hr2 _) ?_;refine rnN 2 ?_;refine zl 4 (fun L τ=>L=[(0,.mp 0),(1,.str a1),(12,.bool ((!r2)||((vat a0 a1).getD false)))]∧τ=[.map (xw AV.str AV.bool a0)]) ?_ ?_
 · refine zR (b:=(!r2)) 8 rfl (fun hg8=>?_) (fun hg8=>?_)
   · refine za tok 4 ?_;simp only[go_sem,qf,qb,qa,qc,qe,qd,reduceIte,reduceCtorEq,ZI,qW,if_false,if_true];refine ze ⟨rfl,_,_,⟨rfl,rfl⟩,.b hg8⟩
   have f3:=fun (x:Store)=>Xr (T:=tab) (t:=202) (ek:=AV.str) (ev:=AV.bool) (z:=false) (KeyE.str rfl rfl rfl rfl) rfl rfl rfl rfl a0 a1 false (.map (xw AV.str AV.bool a0)::x) 0 rfl
   refine za tok 4 ?_;simp only[go_sem,qf,qb,qa,qc,qe,qd,reduceIte,reduceCtorEq,ZI,qW,if_false,if_true,f3];refine ze ⟨rfl,_,_,⟨rfl,rfl⟩,.b hg8⟩
 rintro _ _ ⟨rfl,rfl⟩;refine nkN hK ?_;refine zs (b:=((!r2)||((vat a0 a1).getD false))) rfl (fun hc4=>?_) (fun hc4=>?_)
 · rw[if_pos hc4] at h;refine rgN [4] ?_;apply zJ;cases h;simp only[wb,ya,yf,yS,exists_eq_left',go_sem,qf,qb,qa,qc,qe,qd,reduceIte,reduceCtorEq];refine⟨by decide,by simp,?_,?_⟩
   · first|rfl|(simp only[go_sem,qf,qb,qa,qc,qe,qd,reduceIte,reduceCtorEq,push_cast,if_true,qn,ql,qp,qs,qo,qq,qv,qm,qt,qr,qk,zh]<;>rfl)
   first|rfl|(simp only[go_sem,qf,qb,qa,qc,qe,qd,reduceIte,reduceCtorEq,push_cast,if_true,qn,ql,qp,qs,qo,qq,qv,qm,qt,qr,qk,zh]<;>rfl)
 rw[xI hc4] at h;apply zf;apply hZ1
 have f5:=fun (x:Store)=>Xf (T:=tab) (t:=202) (ek:=AV.str) (ev:=AV.bool) (KeyE.str rfl rfl rfl rfl) rfl rfl a0 a1 true (.map (xw AV.str AV.bool a0)::x) 0 rfl
 refine rg tok [] fun K hK=>?_
 simp only[go_sem,qf,qb,qa,qc,qe,qd,reduceIte,reduceCtorEq,f5];apply hK
 refine rgN [4] ?_;apply zJ;cases h;simp only[wb,ya,yf,yS,exists_eq_left',go_sem,qf,qb,qa,qc,qe,qd,reduceIte,reduceCtorEq];refine⟨by decide,by simp,?_,?_⟩
 · first|rfl|(simp only[go_sem,qf,qb,qa,qc,qe,qd,reduceIte,reduceCtorEq,push_cast,if_true,qn,ql,qp,qs,qo,qq,qv,qm,qt,qr,qk,zh]<;>rfl)
 first|rfl|(simp only[go_sem,qf,qb,qa,qc,qe,qd,reduceIte,reduceCtorEq,push_cast,if_true,qn,ql,qp,qs,qo,qq,qv,qm,qt,qr,qk,zh]<;>rfl)
def wS (a0:Int):Bool:=
 ((decide (1≤a0))&&(decide (a0≤500)))
theorem wS.ok (a0:Int)(r:Bool)(h:wS a0=r):ACalls qi 171 [.int .i64 a0] [] (fun r' _=>r'=.bool r):=by
 refine zj (rs:=[.tmp 2]) tok Tryz.func171 rfl Tryz.ntmps171 rfl Tryz.call171 (by simp) ?_;refine zm [(0,.int .i64 a0)] ⟨rfl,trivial⟩ ?_;unfold wS at h;refine rgN [0] ?_
 refine rc [2] fun K hK=>?_
 refine za tok 3 ?_;simp only[go_sem,qf,qb,qa,qc,qe,qd,reduceIte,reduceCtorEq,zn];refine zl 3 (fun L τ=>L=[(8,.bool ((decide (1≤a0))&&(decide (a0≤500))))]∧τ=[]) ?_ ?_
 · refine yQ 5 rfl (fun hg5=>?_) (fun hg5=>?_)
   · have t1:=eq_true hg5;refine za tok 3 ?_;simp only[go_sem,qf,qb,qa,qc,qe,qd,reduceIte,reduceCtorEq,zn];refine ze ⟨rfl,_,_,⟨rfl,rfl⟩,.p t1⟩
   have t2:=eq_false hg5;refine za tok 3 ?_;simp only[go_sem,qf,qb,qa,qc,qe,qd,reduceIte,reduceCtorEq,zn];refine ze ⟨rfl,_,_,⟨rfl,rfl⟩,.p t2⟩
 rintro _ _ ⟨rfl,rfl⟩;refine rnN 1 ?_;refine nkN hK ?_;cases h;exact rtA
theorem wS.ev (a0:Int)(r:Bool)(h:wS a0=r)(σ:Store):ACalls qi 171 [.int .i64 a0] σ (fun r' σ'=>r'=.bool r∧σ'=σ):=
 (wS.ok a0 r h).c σ
def xG.l4 (a1:List UInt8):List GEnumeration→Int→GEnumeration×Bool
 |[],x2=>((⟨[],([]:List GNamed)⟩:GEnumeration),false)
 |y4::q4,x2=>(if y4.fName=a1 then (y4,true) else ((xG.l4 a1 q4) (x2+1)))
def xG (a0:GSchema)(a1:List UInt8):GEnumeration×Bool:=
 (xG.l4 a1 a0.fEnums 0)
theorem xG.ok (a0:GSchema)(a1:List UInt8)(r:GEnumeration×Bool)(h:xG a0 a1=r):ACalls qi 213 [.agg (encGSchema a0),.str a1] [] (fun r' _=>r'=.tup [.agg (encGEnumeration r.1),.bool r.2]):=by
 refine zj (rs:=[.cell 4 142,.tmp 5]) tok Tryz.func213 rfl Tryz.ntmps213 rfl Tryz.call213 (by simp) ?_;refine zm [(0,.agg (encGSchema a0)),(1,.str a1)] ⟨rfl,rfl,trivial⟩ ?_;unfold xG at h
 refine rg tok [1,2,4] fun K hK=>?_
 simp only[go_sem,qf,qb,qa,qc,qe,qd,reduceIte,reduceCtorEq,encGSchema];apply hK
 refine zd fun Z1 hZ1=>?_
 refine rgN [1,4,9,10,11] ?_;apply zg
 refine yq 9 fun hb4=>?_
 replace hb4:qg a0.fEnums≤9223372036854775807:=hb4.1;refine zP (fun m L τ=>∃ (p4 q4:List GEnumeration) (x2:Int),m=qg q4∧L=[(1,.str a1),(4,.op 0 0 0),(9,.ds true (qh encGEnumeration a0.fEnums) (qg a0.fEnums) false),(10,.int .i64 (qg a0.fEnums:Int)),(11,.int .i64 x2)]∧τ=[.cells 0 [.str [],.ds true [] 0 true]]∧a0.fEnums=p4++q4∧x2=(qg p4:Int)∧xG.l4 a1 q4 x2=r) _ ⟨[],a0.fEnums,0,rfl,rfl,rfl,rfl,rfl,h⟩ (.t [1] false) ?_;rintro m L τ ⟨p4,q4,x2,rfl,rfl,rfl,hE4,hi4,h⟩
 rcases q4 with _|⟨y4,q4⟩
 · have hz4:=yN hE4 hi4;simp only[xG.l4] at h
   refine rg tok [1,4,9,10,11,12] fun K hK=>?_
   simp only[go_sem,qf,qb,qa,qc,qe,qd,reduceIte,reduceCtorEq,zn,hz4];apply hK
   refine zd fun Z5 hZ5=>?_
   refine zo rfl ?_;apply zI;apply hZ1
   refine rg tok [4,5] fun K hK=>?_
   simp only[go_sem,qf,qb,qa,qc,qe,qd,reduceIte,reduceCtorEq,encGEnumeration,hz4];apply hK
   cases h;exact rtA
 obtain⟨hz4,hw4,hx4,hE'4,hi'4⟩:=yo hE4 hi4 hb4;simp only[xG.l4] at h
 refine rg tok [1,4,9,10,11,12] fun K hK=>?_
 simp only[go_sem,qf,qb,qa,qc,qe,qd,reduceIte,reduceCtorEq,zn,hz4,hw4];apply hK
 refine zd fun Z6 hZ6=>?_
 refine zu rfl ?_;apply zf;apply hZ6
 refine zd fun Z7 hZ7=>?_
 apply zg;have f8:=E28.idxS hx4;have f9:=E28.loadS rfl rfl hx4
 refine rg tok [1,4,7,9,10,11] fun K hK=>?_
 simp only[go_sem,qf,qb,qa,qc,qe,qd,reduceIte,reduceCtorEq,encGEnumeration,hz4,hw4,f8,f9];apply hK
 refine rg tok [1,4,7,9,10,11,18] fun K hK=>?_
 simp only[go_sem,qf,qb,qa,qc,qe,qd,reduceIte,reduceCtorEq,zn,hz4,hw4];apply hK
 refine zM rfl (fun hc10=>?_) (fun hc10=>?_)
 · rw[if_pos hc10] at h;have t11:=eq_true hc10
   refine rg tok [4,5] fun K hK=>?_
   simp only[go_sem,qf,qb,qa,qc,qe,qd,reduceIte,reduceCtorEq,encGEnumeration,hz4,hw4,t11];apply hK
   cases h;exact rtA
 rw[if_neg hc10] at h;have t12:=eq_false hc10;apply zf;apply hZ7
 refine rgE tok [1,4,9,10,11] fun K hK=>?_
 simp only[go_sem,qf,qb,qa,qc,qe,qd,reduceIte,reduceCtorEq,zn,hz4,hw4,t12];apply hK
 exact⟨_,_,_,qE q4.length,⟨p4++[y4],q4,x2+1,rfl,rfl,rfl,hE'4,hi'4,h⟩,(.t [0] false)⟩
end
end Go.Proofs.YtaahlckibpiphaaGreatDoor
