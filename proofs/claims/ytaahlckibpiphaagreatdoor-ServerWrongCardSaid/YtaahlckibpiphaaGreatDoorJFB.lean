/- Parts of the proof, cut down to what it needs. -/
import Derived.Test.YtaahlckibpiphaaGreatDoorJG
import Derived.Shelf.Unicode.DecodeAny
import Derived.KernelRfl
import Derived.Shelf.Spec.SlicesInsert
import Derived.Lib.AppendZerosOnto
set_option linter.constructorNameAsVariable false
set_option linter.unusedSimpArgs false
set_option linter.unusedVariables false
namespace Go.Proofs.YtaahlckibpiphaaGreatDoor
open _root_.List renaming length → qa, flatMap → qc, map_nil → qj, map_cons → qn, length_cons → qs, length_nil → qt, drop_zero → qv, map_append → qx, getD_eq_getElem?_getD → qy, length_eq_zero_iff → qC, getElem?_eq_some_iff → qD, length_append → qG, replicate → qH, range_zero → qI, nil_append → qL, getElem?_append_left → qM, cons_append → qN, range_succ → qO, flatMap_cons → qP, getElem?_set_ne → qQ, all_nil → qR, eq_nil_of_length_eq_zero → qS, getElem?_eq_getElem → qU, take_length → qV, all_cons → qX, flatMap_append → qZ, append_nil → q1, length_map → q5, getElem?_set_self → ua, mem_cons_of_mem → ub, flatMap_nil → uc, all_eq_true → ud, append_assoc → ue, getElem?_append_right → uf, take_append_drop → ug, getElem?_eq_none → uh, take_of_length_le → uj, mem_cons → ul, mem_map → uo, getElem?_cons_zero → ur, getElem?_cons_succ → ut, range → uw, set_cons_zero → ux, set_cons_succ → uy, ext_getElem? → uD, mem_append_left → uH, getElem?_toArray → uM, length_take → uN, nodup_cons → uP, map_congr_left → uQ, drop_drop → uS, getElem?_map → uT
open _root_.Option renaming map_some → uq, getD_some → uz, bind_some → uA
open _root_.Nat renaming reduceEqDiff → qb, reduceLT → qd, reduceAdd → qe, reduceLeDiff → qf, reduceMul → qi, zero_add → qk, reduceSub → qm, le_refl → qu, lt_succ_self → qw, reduceMod → qT, mul_le_mul_right → qY, lt_of_lt_of_le → q3, zero_mul → q9, zero_le → uu, sub_zero → uE, add_zero → uF, succ_mul → uI, sub_self → uJ, le_trans → uK, lt_or_ge → uO, add_mul → uR
open _root_.Bool renaming or_true → qo, not_false → qp, not_true → qq, and_false → qr, and_true → qz, and_self → qB, or_false → qE, and_eq_true → qJ, false_eq_true → q2, or_eq_true → um, true_or → uC, false_or → uU
open _root_.Int renaming toNat → qK, toNat_natCast → uG
open _root_.BitVec renaming ofInt → qF, toNat → ui
open _root_.Array renaming length_toList → qW, getD_eq_getD_getElem? → uk, getElem?_eq_getElem → un, getElem?_setIfInBounds_ne → uB, getElem?_modify → uL, replicate → uV
open _root_.UInt8 renaming ofNat → uv
open Result renaming andThen_ok → qh
open Sem renaming run_bind → ql, run_pure → qA
open _root_.Go.Proofs.Tryz renaming prog → qg
section
open Go.Shelf Go.RowKit
def utf8Ren : Go.Shelf.Ren:=⟨fun|197=>242|260=>251|n=>n,fun|0=>0|3=>3|4=>4|5=>5|9=>9|21=>21|46=>100|105=>346|119=>360|138=>362|139=>363|n=>n,fun|3=>0|4=>1|n=>n⟩
theorem Xz : Lays.n197 qg utf8Ren where
 mixed:=by kernel_rfl
 f197:=Tryz.func242.trans (congrArg some (by kernel_rfl))
 f260:=Tryz.func251.trans (congrArg some (by kernel_rfl))
 t0:=Tryz.underlying0
 a0:=Tryz.isAgg0
 z0:=Tryz.sizeOf0
 v0:=Tryz.zeroValue0
 t3:=Tryz.underlying3
 a3:=Tryz.isAgg3
 z3:=Tryz.sizeOf3
 v3:=Tryz.zeroValue3
 t4:=Tryz.underlying4
 a4:=Tryz.isAgg4
 z4:=Tryz.sizeOf4
 v4:=Tryz.zeroValue4
 t5:=Tryz.underlying5
 a5:=Tryz.isAgg5
 z5:=Tryz.sizeOf5
 v5:=Tryz.zeroValue5
 t9:=Tryz.underlying9
 a9:=Tryz.isAgg9
 z9:=Tryz.sizeOf9
 v9:=Tryz.zeroValue9
 t21:=Tryz.underlying21
 a21:=Tryz.isAgg21
 z21:=Tryz.sizeOf21
 v21:=Tryz.zeroValue21
 t46:=Tryz.underlying100
 a46:=Tryz.isAgg100
 z46:=Tryz.sizeOf100
 v46:=Tryz.zeroValue100
 t105:=Tryz.underlying346
 a105:=Tryz.isAgg346
 z105:=Tryz.sizeOf346
 v105:=Tryz.zeroValue346
 t119:=Tryz.underlying360
 a119:=Tryz.isAgg360
 z119:=Tryz.sizeOf360
 t138:=Tryz.underlying362
 a138:=Tryz.isAgg362
 z138:=Tryz.sizeOf362
 v138:=Tryz.zeroValue362
 t139:=Tryz.underlying363
 a139:=Tryz.isAgg363
 z139:=Tryz.sizeOf363
 v139:=Tryz.zeroValue363
 g3:=by kernel_rfl
 g4:=by kernel_rfl
namespace AM
def dec0 (s:List UInt8):Nat×Nat:=if s=[] then (65533,0) else decU s 0
theorem dec0_eq (s:List UInt8):Lib.decodeGo ⟨s.toArray⟩=dec0 s:=by
 unfold Lib.decodeGo dec0 decU
 by_cases h:s=[]
 · subst h; rfl
 rw[if_neg h,if_neg]
 intro h0
 exact h (qS (by simpa [ByteArray.size] using h0))
theorem decode_ev (s:List UInt8)(σ:Store):ACalls qg 242 [.str s] σ (fun r σ'=>r=.tup [.int .i32 ((dec0 s).1:Int),.int .i64 ((dec0 s).2:Int)]∧σ'=σ):=by
 refine⟨Tryz.call242,fun E vs hS hl=>?_⟩
 obtain⟨v,e⟩:∃ v,vs = #[v]:=by
  have h1:vs.toList.length=1:=hl.1
  obtain⟨l⟩:=vs
  match l,h1 with
  |[v],_=>exact⟨v,rfl⟩
 subst e
 have h2:VR E (.str s) v:=hl.2 0 (by simp)
 cases h2 with|str _ b hb=>
 subst hb
 refine (Any.utf8_DecodeRuneInString Xz b E.w hS.glb.utf8).mono ?_
 rintro e w' ⟨rfl,hb⟩
 obtain⟨hS',hx⟩:=hS.grew (w':=w') ⟨hb.os,hb.tape,hb.output,hb.size,hb.block⟩
 refine⟨_,.tup [.int .i32 ((dec0 b.data.toList).1:Int),.int .i64 ((dec0 b.data.toList).2:Int)],σ,{ E with w:=w' },rfl,rfl,?_,hS',hx,rfl,rfl⟩
 rw[← dec0_eq]
 refine .tup _ _ rfl fun i hi=>?_
 match i,hi with
 |0,_=>exact .int _ _
 |1,_=>exact .int _ _
def YJ (a0:List UInt8):Int×Int:=(((dec0 a0).1:Int),((dec0 a0).2:Int))
theorem YJ.ev (a0:List UInt8)(r:Int×Int)(h:YJ a0=r)(σ:Store):ACalls qg 242 [.str a0] σ (fun r' σ'=>r'=.tup [.int .i32 r.1,.int .i64 r.2]∧σ'=σ):=by subst h; exact decode_ev a0 σ
end AM
end
section
set_option maxRecDepth 4000
set_option maxHeartbeats 1000000
open AM
def Zn (a0:List UInt8)(a1:Int):Option (Int×Int×Bool):=
 (if ((decide (a1<0))||(decide ((qa a0:Int)≤a1)))=true then some (0,0,false) else (grd ((0:Int)≤a1∧a1≤(qa a0:Int)∧(qa a0:Int)≤(qa a0:Int))).bind fun _u5=>bnd (YJ (X9 a0 a1 (qa a0:Int))) fun r7=>(if ((decide (r7.1=65533))&&(decide (r7.2<2)))=true then some (0,0,false) else some (r7.1,r7.2,true)))
theorem Zn.ok (a0:List UInt8)(a1:Int)(r:Int×Int×Bool)(h:Zn a0 a1=some r):ACalls qg 224 [.str a0,.int .i64 a1] [] (fun r' _=>r'=.tup [.int .i32 r.1,.int .i64 r.2.1,.bool r.2.2]):=by
 refine zf (rs:=[.tmp 4,.tmp 5,.tmp 6]) tok Tryz.func224 rfl Tryz.ntmps224 rfl Tryz.call224 (by simp) ?_;refine zk [(0,.str a0),(1,.int .i64 a1)] ⟨rfl,rfl,trivial⟩ ?_;unfold Zn at h;refine rgN [0,1] ?_
 refine za fun Z1 hZ1=>?_
 refine rc [0,1,16] fun K hK=>?_
 refine rnN 3 ?_;refine zo 5 (fun L τ=>L=[(0,.str a0),(1,.int .i64 a1),(16,.bool ((decide (a1<0))||(decide ((qa a0:Int)≤a1))))]∧τ=[]) ?_ ?_
 · refine xj 11 rfl (fun hg11=>?_) (fun hg11=>?_)
   · have t2:=eq_true hg11;refine rnN 5 ?_;refine zb ⟨rfl,_,_,⟨rfl,rfl⟩,.p t2⟩
   have t3:=eq_false hg11;refine rnN 5 ?_;refine zb ⟨rfl,_,_,⟨rfl,rfl⟩,.p t3⟩
 rintro _ _ ⟨rfl,rfl⟩;refine nkN hK ?_;refine zw (b:=((decide (a1<0))||(decide ((qa a0:Int)≤a1)))) rfl (fun hc4=>?_) (fun hc4=>?_)
 · rw[if_pos hc4] at h;refine rgN [4,5,6] ?_;cases h;exact rtA
 rw[xU hc4] at h;apply zd;apply hZ1
 refine rc [7,8] fun K hK=>?_
 obtain⟨_u5,hu5,h⟩:=bind_some h;have gu5:=wF hu5;have f6:=str_lo (T:=tab) (t:=9) rfl rfl gu5;obtain⟨r7,hr7,h⟩:=zH h;refine zj tok 3 ?_;simp only[go_sem,qd,qb,reduceCtorEq,f6];refine clN rfl rfl rfl (YJ.ev (X9 a0 a1 (qa a0:Int)) r7 hr7 _) ?_;refine rnN 5 ?_;refine nkN hK ?_
 refine za fun Z8 hZ8=>?_
 refine rc [7,8,29] fun K hK=>?_
 refine rnN 3 ?_;refine zo 3 (fun L τ=>L=[(7,.int .i32 r7.1),(8,.int .i64 r7.2),(29,.bool ((decide (r7.1=65533))&&(decide (r7.2<2))))]∧τ=[]) ?_ ?_
 · refine xj 26 rfl (fun hg26=>?_) (fun hg26=>?_)
   · have t9:=eq_true hg26;refine rnN 3 ?_;refine zb ⟨rfl,_,_,⟨rfl,rfl⟩,.p t9⟩
   have t10:=eq_false hg26;refine rnN 3 ?_;refine zb ⟨rfl,_,_,⟨rfl,rfl⟩,.p t10⟩
 rintro _ _ ⟨rfl,rfl⟩;refine nkN hK ?_;refine zw (b:=((decide (r7.1=65533))&&(decide (r7.2<2)))) rfl (fun hc11=>?_) (fun hc11=>?_)
 · rw[if_pos hc11] at h;refine rgN [4,5,6] ?_;cases h;exact rtA
 rw[xU hc11] at h;apply zd;apply hZ8;refine rgN [4,5,6] ?_;cases h;exact rtA
theorem Zn.ev (a0:List UInt8)(a1:Int)(r:Int×Int×Bool)(h:Zn a0 a1=some r)(σ:Store):ACalls qg 224 [.str a0,.int .i64 a1] σ (fun r' σ'=>r'=.tup [.int .i32 r.1,.int .i64 r.2.1,.bool r.2.2]∧σ'=σ):=
 (Zn.ok a0 a1 r h).c σ
def xb.l4 (a0:List UInt8):Nat→Nat→Option Bool
 |0,_=>none
 |k4+1,p2=>(if p2<qa a0 then (if ((decU a0 p2).1:Int)=65533 then (Zn a0 ((p2:Nat):Int)).bind fun r12=>(if (!r12.2.2)=true then some false else ((xb.l4 a0 k4) (p2+(decU a0 p2).2))) else ((xb.l4 a0 k4) (p2+(decU a0 p2).2))) else some true)
def xb (a0:List UInt8):Option Bool:=
 (xb.l4 a0 xo 0)
theorem xb.ok (a0:List UInt8)(r:Bool)(h:xb a0=some r):ACalls qg 184 [.str a0] [] (fun r' _=>r'=.bool r):=by
 refine zf (rs:=[.tmp 2]) tok Tryz.func184 rfl Tryz.ntmps184 rfl Tryz.call184 (by simp) ?_;refine zk [(0,.str a0)] ⟨rfl,trivial⟩ ?_;unfold xb at h;refine rgN [0] ?_
 refine za fun Z1 hZ1=>?_
 refine rgN [0,9] ?_;apply ze;refine zN (fun m L τ=>∃ (k4:Nat) (p2:Nat),m=0+k4∧L=[(0,.str a0),(9,.it 0)]∧τ=[.iter a0 p2]∧xb.l4 a0 k4 p2=some r) _ ⟨xo,0,rfl,rfl,rfl,h⟩ .s ?_;rintro m L τ ⟨k4,p2,rfl,rfl,rfl,h⟩
 rcases k4 with _|k4
 · cases h
 simp only[xb.l4] at h
 by_cases hn5:p2<qa a0
 · rw[if_pos hn5] at h;have t6:=eq_true hn5
   refine rg tok [0,9,10,11] fun K hK=>?_
   simp only[go_sem,qd,qb,qe,reduceCtorEq,XJ,if_true,if_false,t6];apply hK
   refine za fun Z7 hZ7=>?_
   refine zq rfl ?_;apply zd;apply hZ7;apply ze;refine rgN [0,3,4,9] ?_
   refine za fun Z8 hZ8=>?_
   refine rgN [0,3,9,15] ?_;refine zF rfl (fun hc9=>?_) (fun hc9=>?_)
   · rw[if_neg hc9] at h;have t10:=eq_false hc9;apply zI;exact⟨_,_,_,qw (0+k4),⟨k4,p2+(decU a0 p2).2,rfl,rfl,rfl,h⟩,.s⟩
   rw[if_pos hc9] at h;have t11:=eq_true hc9;apply zd;apply hZ8
   refine rc [0,7,9] fun K hK=>?_
   obtain⟨r12,hr12,h⟩:=bind_some h;refine zj tok 2 ?_;simp only[go_sem,qd,qb,reduceCtorEq,t11];refine clN rfl rfl rfl (Zn.ev a0 ((p2:Nat):Int) r12 hr12 _) ?_;refine rnN 7 ?_;refine nkN hK ?_;refine rgN [0,9,24] ?_;refine zw (b:=(!r12.2.2)) rfl (fun hc13=>?_) (fun hc13=>?_)
   · rw[if_pos hc13] at h;refine rgN [2] ?_;cases h;exact rtA
   rw[xU hc13] at h;apply zd;exact⟨_,_,_,qw (0+k4),⟨k4,p2+(decU a0 p2).2,rfl,rfl,rfl,h⟩,.s⟩
 rw[if_neg hn5] at h;have t14:=eq_false hn5
 refine rg tok [0,9,10,11] fun K hK=>?_
 simp only[go_sem,qd,qb,reduceCtorEq,XJ,if_true,if_false,t14];apply hK
 refine za fun Z15 hZ15=>?_
 refine zp rfl ?_;apply zI;apply hZ1;refine rgN [2] ?_;cases h;exact rtA
theorem xb.ev (a0:List UInt8)(r:Bool)(h:xb a0=some r)(σ:Store):ACalls qg 184 [.str a0] σ (fun r' σ'=>r'=.bool r∧σ'=σ):=
 (xb.ok a0 r h).c σ
def zK.l4 (a1:List UInt8):List GMessage→Int→GMessage×Bool
 |[],x2=>((⟨[],([]:List GField),([]:List Int)⟩:GMessage),false)
 |y4::q4,x2=>(if y4.fName=a1 then (y4,true) else ((zK.l4 a1 q4) (x2+1)))
def zK (a0:GSchema)(a1:List UInt8):GMessage×Bool:=
 (zK.l4 a1 a0.fMessages 0)
theorem zK.ok (a0:GSchema)(a1:List UInt8)(r:GMessage×Bool)(h:zK a0 a1=r):ACalls qg 92 [.agg (encGSchema a0),.str a1] [] (fun r' _=>r'=.tup [.agg (encGMessage r.1),.bool r.2]):=by
 refine zf (rs:=[.cell 4 129,.tmp 5]) tok Tryz.func92 rfl Tryz.ntmps92 rfl Tryz.call92 (by simp) ?_;refine zk [(0,.agg (encGSchema a0)),(1,.str a1)] ⟨rfl,rfl,trivial⟩ ?_;unfold zK at h
 refine rg tok [1,2,4] fun K hK=>?_
 simp only[go_sem,qd,qb,qe,reduceCtorEq,encGSchema];apply hK
 refine za fun Z1 hZ1=>?_
 refine rgN [1,4,9,10,11] ?_;apply ze
 refine yl 9 fun hb4=>?_
 replace hb4:qa a0.fMessages≤9223372036854775807:=hb4.1;refine zN (fun m L τ=>∃ (p4 q4:List GMessage) (x2:Int),m=qa q4∧L=[(1,.str a1),(4,.op 0 0 0),(9,.ds true (qc encGMessage a0.fMessages) (qa a0.fMessages) false),(10,.int .i64 (qa a0.fMessages:Int)),(11,.int .i64 x2)]∧τ=[.cells 0 [.str [],.ds true [] 0 true,.ds true [] 0 true]]∧a0.fMessages=p4++q4∧x2=(qa p4:Int)∧zK.l4 a1 q4 x2=r) _ ⟨[],a0.fMessages,0,rfl,rfl,rfl,rfl,rfl,h⟩ (.t [1] false) ?_;rintro m L τ ⟨p4,q4,x2,rfl,rfl,rfl,hE4,hi4,h⟩
 rcases q4 with _|⟨y4,q4⟩
 · have hz4:=yJ hE4 hi4;simp only[zK.l4] at h
   refine rg tok [1,4,9,10,11,12] fun K hK=>?_
   simp only[go_sem,qd,qb,hz4];apply hK
   refine za fun Z5 hZ5=>?_
   refine zp rfl ?_;apply zI;apply hZ1;refine rgN [4,5] ?_;cases h;exact rtA
 obtain⟨hz4,hw4,hx4,hE'4,hi'4⟩:=yk hE4 hi4 hb4;simp only[zK.l4] at h
 refine rg tok [1,4,9,10,11,12] fun K hK=>?_
 simp only[go_sem,qd,qb,hz4];apply hK
 refine za fun Z6 hZ6=>?_
 refine zq rfl ?_;apply zd;apply hZ6
 refine za fun Z7 hZ7=>?_
 apply ze;have f8:=E27.idxS hx4;have f9:=E27.loadS rfl rfl hx4
 refine rg tok [1,4,7,9,10,11] fun K hK=>?_
 simp only[go_sem,qd,qf,qb,qe,encGMessage,f8,f9];apply hK
 refine rgN [1,4,7,9,10,11,18] ?_;refine zF rfl (fun hc10=>?_) (fun hc10=>?_)
 · rw[if_pos hc10] at h;have t11:=eq_true hc10
   refine rg tok [4,5] fun K hK=>?_
   simp only[go_sem,qd,qf,qb,qe,t11];apply hK
   cases h;exact rtA
 rw[if_neg hc10] at h;have t12:=eq_false hc10;apply zd;apply hZ7
 refine rgE tok [1,4,9,10,11] fun K hK=>?_
 simp only[go_sem,qd,qb,hw4,t12];apply hK
 exact⟨_,_,_,qw q4.length,⟨p4++[y4],q4,x2+1,rfl,rfl,rfl,hE'4,hi'4,h⟩,(.t [0] false)⟩
theorem zK.ev (a0:GSchema)(a1:List UInt8)(r:GMessage×Bool)(h:zK a0 a1=r)(σ:Store):ACalls qg 92 [.agg (encGSchema a0),.str a1] σ (fun r' σ'=>r'=.tup [.agg (encGMessage r.1),.bool r.2]∧σ'=σ):=
 (zK.ok a0 a1 r h).c σ
def yG.l4 (a1:Int):List GField→Int→GField×Bool
 |[],x2=>((⟨[],0,0,(⟨0,[]⟩:GType)⟩:GField),false)
 |y4::q4,x2=>(if y4.fTag=a1 then (y4,true) else ((yG.l4 a1 q4) (x2+1)))
def yG (a0:GMessage)(a1:Int):GField×Bool:=
 (yG.l4 a1 a0.fFields 0)
theorem yG.ok (a0:GMessage)(a1:Int)(r:GField×Bool)(h:yG a0 a1=r):ACalls qg 141 [.agg (encGMessage a0),.int .i64 a1] [] (fun r' _=>r'=.tup [.agg (encGField r.1),.bool r.2]):=by
 refine zf (rs:=[.cell 4 126,.tmp 5]) tok Tryz.func141 rfl Tryz.ntmps141 rfl Tryz.call141 (by simp) ?_;refine zk [(0,.agg (encGMessage a0)),(1,.int .i64 a1)] ⟨rfl,rfl,trivial⟩ ?_;unfold yG at h
 refine rg tok [1,2,4] fun K hK=>?_
 simp only[go_sem,qd,qb,qe,reduceCtorEq,encGMessage];apply hK
 refine za fun Z1 hZ1=>?_
 refine rgN [1,4,9,10,11] ?_;apply ze
 refine yl 9 fun hb4=>?_
 replace hb4:qa a0.fFields≤9223372036854775807:=hb4.1;refine zN (fun m L τ=>∃ (p4 q4:List GField) (x2:Int),m=qa q4∧L=[(1,.int .i64 a1),(4,.op 0 0 0),(9,.ds true (qc encGField a0.fFields) (qa a0.fFields) false),(10,.int .i64 (qa a0.fFields:Int)),(11,.int .i64 x2)]∧τ=[.cells 0 [.str [],.int .i64 0,.int .i64 0,.int .i64 0,.str []]]∧a0.fFields=p4++q4∧x2=(qa p4:Int)∧yG.l4 a1 q4 x2=r) _ ⟨[],a0.fFields,0,rfl,rfl,rfl,rfl,rfl,h⟩ (.t [1] false) ?_;rintro m L τ ⟨p4,q4,x2,rfl,rfl,rfl,hE4,hi4,h⟩
 rcases q4 with _|⟨y4,q4⟩
 · have hz4:=yJ hE4 hi4;simp only[yG.l4] at h
   refine rg tok [1,4,9,10,11,12] fun K hK=>?_
   simp only[go_sem,qd,qb,hz4];apply hK
   refine za fun Z5 hZ5=>?_
   refine zp rfl ?_;apply zI;apply hZ1;refine rgN [4,5] ?_;cases h;exact rtA
 obtain⟨hz4,hw4,hx4,hE'4,hi'4⟩:=yk hE4 hi4 hb4;simp only[yG.l4] at h
 refine rg tok [1,4,9,10,11,12] fun K hK=>?_
 simp only[go_sem,qd,qb,hz4];apply hK
 refine za fun Z6 hZ6=>?_
 refine zq rfl ?_;apply zd;apply hZ6
 refine za fun Z7 hZ7=>?_
 apply ze;have f8:=E127.idxS hx4;have f9:=E127.loadS rfl rfl hx4
 refine rg tok [1,4,7,9,10,11] fun K hK=>?_
 simp only[go_sem,qd,qf,qb,qe,encGField,f8,f9];apply hK
 refine rgN [1,4,7,9,10,11,18] ?_;refine zF rfl (fun hc10=>?_) (fun hc10=>?_)
 · rw[if_pos hc10] at h;have t11:=eq_true hc10
   refine rg tok [4,5] fun K hK=>?_
   simp only[go_sem,qd,qf,qb,qe,t11];apply hK
   cases h;exact rtA
 rw[if_neg hc10] at h;have t12:=eq_false hc10;apply zd;apply hZ7
 refine rgE tok [1,4,9,10,11] fun K hK=>?_
 simp only[go_sem,qd,qb,hw4,t12];apply hK
 exact⟨_,_,_,qw q4.length,⟨p4++[y4],q4,x2+1,rfl,rfl,rfl,hE'4,hi'4,h⟩,(.t [0] false)⟩
theorem yG.ev (a0:GMessage)(a1:Int)(r:GField×Bool)(h:yG a0 a1=r)(σ:Store):ACalls qg 141 [.agg (encGMessage a0),.int .i64 a1] σ (fun r' σ'=>r'=.tup [.agg (encGField r.1),.bool r.2]∧σ'=σ):=
 (yG.ok a0 a1 r h).c σ
def xW (a0:GType)(a1:Int):Bool:=
 (if a0.fKind=1 then ((decide ((-2147483648)≤a1))&&(decide (a1≤2147483647))) else (if a0.fKind=3 then ((decide (a1=0))||(decide (a1=1))) else (if a0.fKind=6 then ((decide (0≤a1))&&(decide (a1≤2147483647))) else decide (a0.fKind=2))))
theorem xW.ok (a0:GType)(a1:Int)(r:Bool)(h:xW a0 a1=r):ACalls qg 183 [.agg (encGType a0),.int .i64 a1] [] (fun r' _=>r'=.bool r):=by
 refine zf (rs:=[.tmp 4]) tok Tryz.func183 rfl Tryz.ntmps183 rfl Tryz.call183 (by simp) ?_;refine zk [(0,.agg (encGType a0)),(1,.int .i64 a1)] ⟨rfl,rfl,trivial⟩ ?_;unfold xW at h
 refine rg tok [1,2] fun K hK=>?_
 simp only[go_sem,qd,qb,qe,reduceCtorEq,encGType];apply hK
 refine za fun Z1 hZ1=>?_
 refine rgN [1,2,6] ?_;apply ze;refine rgN [1,2,6,7] ?_;refine zF rfl (fun hc2=>?_) (fun hc2=>?_)
 · rw[if_pos hc2] at h;have t3:=eq_true hc2
   refine rc [4] fun K hK=>?_
   refine zj tok 3 ?_;simp only[go_sem,qd,qb,t3];refine zo 3 (fun L τ=>L=[(14,.bool ((decide ((-2147483648)≤a1))&&(decide (a1≤2147483647))))]∧τ=[.cells 0 [.int .i64 a0.fKind,.str a0.fName]]) ?_ ?_
   · refine xj 11 rfl (fun hg11=>?_) (fun hg11=>?_)
     · have t4:=eq_true hg11;refine rnN 3 ?_;refine zb ⟨rfl,_,_,⟨rfl,rfl⟩,.p t4⟩
     have t5:=eq_false hg11;refine rnN 3 ?_;refine zb ⟨rfl,_,_,⟨rfl,rfl⟩,.p t5⟩
   rintro _ _ ⟨rfl,rfl⟩;refine rnN 1 ?_;refine nkN hK ?_;cases h;exact rtA
 rw[if_neg hc2] at h;have t6:=eq_false hc2
 refine rg tok [1,2,6,15] fun K hK=>?_
 simp only[go_sem,qd,qb,t6];apply hK
 refine zF rfl (fun hc7=>?_) (fun hc7=>?_)
 · rw[if_pos hc7] at h;have t8:=eq_true hc7
   refine rc [4] fun K hK=>?_
   refine zj tok 3 ?_;simp only[go_sem,qd,qb,t8];refine zo 3 (fun L τ=>L=[(22,.bool ((decide (a1=0))||(decide (a1=1))))]∧τ=[.cells 0 [.int .i64 a0.fKind,.str a0.fName]]) ?_ ?_
   · refine xj 19 rfl (fun hg19=>?_) (fun hg19=>?_)
     · have t9:=eq_true hg19;refine rnN 3 ?_;refine zb ⟨rfl,_,_,⟨rfl,rfl⟩,.p t9⟩
     have t10:=eq_false hg19;refine rnN 3 ?_;refine zb ⟨rfl,_,_,⟨rfl,rfl⟩,.p t10⟩
   rintro _ _ ⟨rfl,rfl⟩;refine rnN 1 ?_;refine nkN hK ?_;cases h;exact rtA
 rw[if_neg hc7] at h;have t11:=eq_false hc7
 refine rg tok [1,2,23] fun K hK=>?_
 simp only[go_sem,qd,qb,t11];apply hK
 refine zF rfl (fun hc12=>?_) (fun hc12=>?_)
 · rw[if_pos hc12] at h;have t13:=eq_true hc12
   refine rc [4] fun K hK=>?_
   refine zj tok 3 ?_;simp only[go_sem,qd,qb,t13];refine zo 3 (fun L τ=>L=[(30,.bool ((decide (0≤a1))&&(decide (a1≤2147483647))))]∧τ=[.cells 0 [.int .i64 a0.fKind,.str a0.fName]]) ?_ ?_
   · refine xj 27 rfl (fun hg27=>?_) (fun hg27=>?_)
     · have t14:=eq_true hg27;refine rnN 3 ?_;refine zb ⟨rfl,_,_,⟨rfl,rfl⟩,.p t14⟩
     have t15:=eq_false hg27;refine rnN 3 ?_;refine zb ⟨rfl,_,_,⟨rfl,rfl⟩,.p t15⟩
   rintro _ _ ⟨rfl,rfl⟩;refine rnN 1 ?_;refine nkN hK ?_;cases h;exact rtA
 rw[if_neg hc12] at h;have t16:=eq_false hc12;apply zd;apply hZ1
 refine rg tok [4] fun K hK=>?_
 simp only[go_sem,qd,qb,qe,t16];apply hK
 cases h;exact rtA
theorem xW.ev (a0:GType)(a1:Int)(r:Bool)(h:xW a0 a1=r)(σ:Store):ACalls qg 183 [.agg (encGType a0),.int .i64 a1] σ (fun r' σ'=>r'=.bool r∧σ'=σ):=
 (xW.ok a0 a1 r h).c σ
def wL (a0:GTree):Bool:=
 ((((((decide (1≤a0.fKind))&&(decide (a0.fKind≤3)))&&(decide (a0.fN=0)))&&(decide (a0.fS=[])))&&(decide ((qa a0.fEntries:Int)=0)))&&(decide ((qa a0.fRest:Int)=0)))
theorem wL.ok (a0:GTree)(r:Bool)(h:wL a0=r):ACalls qg 143 [.agg (cellsGTree a0)] [] (fun r' _=>r'=.bool r):=by
 refine zf (rs:=[.tmp 2]) tok Tryz.func143 rfl Tryz.ntmps143 rfl Tryz.call143 (by simp) ?_;refine zk [(0,.agg (cellsGTree a0))] ⟨rfl,trivial⟩ ?_;unfold wL at h
 refine rg tok [1] fun K hK=>?_
 simp only[go_sem,qd,qb,qe,reduceCtorEq,cellsGTree];apply hK
 refine rc [2] fun K hK=>?_
 refine rnN 4 ?_;refine zo 4 (fun L τ=>L=[(1,.op 0 0 0),(10,.bool ((decide (1≤a0.fKind))&&(decide (a0.fKind≤3))))]∧τ=[.cells 0 (cellsGTree a0)]) ?_ ?_
 · refine xj 6 rfl (fun hg6=>?_) (fun hg6=>?_)
   · have t1:=eq_true hg6;refine rnN 4 ?_;refine zb ⟨rfl,_,_,⟨rfl,rfl⟩,.p t1⟩
   have t2:=eq_false hg6;refine rnN 4 ?_;refine zb ⟨rfl,_,_,⟨rfl,rfl⟩,.p t2⟩
 rintro _ _ ⟨rfl,rfl⟩;refine rnN 1 ?_;refine zo 4 (fun L τ=>L=[(1,.op 0 0 0),(15,.bool (((decide (1≤a0.fKind))&&(decide (a0.fKind≤3)))&&(decide (a0.fN=0))))]∧τ=[.cells 0 (cellsGTree a0)]) ?_ ?_
 · refine zP (b:=((decide (1≤a0.fKind))&&(decide (a0.fKind≤3)))) 11 rfl (fun hg11=>?_) (fun hg11=>?_)
   · refine rnN 4 ?_;refine zb ⟨rfl,_,_,⟨rfl,rfl⟩,.b hg11⟩
   refine rnN 4 ?_;refine zb ⟨rfl,_,_,⟨rfl,rfl⟩,.b hg11⟩
 rintro _ _ ⟨rfl,rfl⟩;refine rnN 1 ?_;refine zo 4 (fun L τ=>L=[(1,.op 0 0 0),(20,.bool ((((decide (1≤a0.fKind))&&(decide (a0.fKind≤3)))&&(decide (a0.fN=0)))&&(decide (a0.fS=[]))))]∧τ=[.cells 0 (cellsGTree a0)]) ?_ ?_
 · refine zP (b:=(((decide (1≤a0.fKind))&&(decide (a0.fKind≤3)))&&(decide (a0.fN=0)))) 16 rfl (fun hg16=>?_) (fun hg16=>?_)
   · refine rnN 4 ?_;refine zb ⟨rfl,_,_,⟨rfl,rfl⟩,.b hg16⟩
   refine rnN 4 ?_;refine zb ⟨rfl,_,_,⟨rfl,rfl⟩,.b hg16⟩
 rintro _ _ ⟨rfl,rfl⟩;refine rnN 1 ?_;refine zo 5 (fun L τ=>L=[(1,.op 0 0 0),(26,.bool (((((decide (1≤a0.fKind))&&(decide (a0.fKind≤3)))&&(decide (a0.fN=0)))&&(decide (a0.fS=[])))&&(decide ((qa a0.fEntries:Int)=0))))]∧τ=[.cells 0 (cellsGTree a0)]) ?_ ?_
 · refine zP (b:=((((decide (1≤a0.fKind))&&(decide (a0.fKind≤3)))&&(decide (a0.fN=0)))&&(decide (a0.fS=[])))) 21 rfl (fun hg21=>?_) (fun hg21=>?_)
   · refine rnN 5 ?_;refine zb ⟨rfl,_,_,⟨rfl,rfl⟩,.b hg21⟩
   refine rnN 5 ?_;refine zb ⟨rfl,_,_,⟨rfl,rfl⟩,.b hg21⟩
 rintro _ _ ⟨rfl,rfl⟩;refine rnN 1 ?_;refine zo 5 (fun L τ=>L=[(32,.bool ((((((decide (1≤a0.fKind))&&(decide (a0.fKind≤3)))&&(decide (a0.fN=0)))&&(decide (a0.fS=[])))&&(decide ((qa a0.fEntries:Int)=0)))&&(decide ((qa a0.fRest:Int)=0))))]∧τ=[.cells 0 (cellsGTree a0)]) ?_ ?_
 · refine zP (b:=(((((decide (1≤a0.fKind))&&(decide (a0.fKind≤3)))&&(decide (a0.fN=0)))&&(decide (a0.fS=[])))&&(decide ((qa a0.fEntries:Int)=0)))) 27 rfl (fun hg27=>?_) (fun hg27=>?_)
   · refine rnN 5 ?_;refine zb ⟨rfl,_,_,⟨rfl,rfl⟩,.b hg27⟩
   refine rnN 5 ?_;refine zb ⟨rfl,_,_,⟨rfl,rfl⟩,.b hg27⟩
 rintro _ _ ⟨rfl,rfl⟩;refine rnN 1 ?_;refine nkN hK ?_;cases h;exact rtA
theorem wL.ev (a0:GTree)(r:Bool)(h:wL a0=r)(σ:Store):ACalls qg 143 [.agg (cellsGTree a0)] σ (fun r' σ'=>r'=.bool r∧σ'=σ):=
 (wL.ok a0 r h).c σ
def z8.j20 (x5:Int)(l4:List GRaw)(rec8:Int→List GRaw→Option (List GRaw))(y8:GRaw)(x15:Int)(rec17:Int→Option (List GRaw))(x19:Bool):Option (List GRaw):=
 (if x19=true then (rec17 (IntKind.i64.wrap (x15-1))) else (grd ((0:Int)≤IntKind.i64.wrap (x15+1)∧IntKind.i64.wrap (x15+1)≤x5+1∧x5+1≤(qa l4:Int))).bind fun _u22=>(grd ((0:Int)≤x15∧x15≤x5∧x5≤(qa l4:Int))).bind fun _u24=>(YS (vaa l4 (qK (IntKind.i64.wrap (x15+1))) (qK x15) (min (qK x5-qK x15) (qK (x5+1)-qK (IntKind.i64.wrap (x15+1))))) x15).bind fun y28=>(rec8 (x5+1) (setI (vaa l4 (qK (IntKind.i64.wrap (x15+1))) (qK x15) (min (qK x5-qK x15) (qK (x5+1)-qK (IntKind.i64.wrap (x15+1))))) x15 y8)))
def z8.l17 (x5:Int)(l4:List GRaw)(rec8:Int→List GRaw→Option (List GRaw))(y8:GRaw):Nat→Int→Option (List GRaw)
 |0,_=>none
 |k17+1,x15=>(if 0<x15 then (YS l4 (IntKind.i64.wrap (x15-1))).bind fun y33=>(z8.j20 x5 l4 rec8 y8 x15 (z8.l17 x5 l4 rec8 y8 k17) (decide (y8.fTag<y33.fTag))) else (z8.j20 x5 l4 rec8 y8 x15 (z8.l17 x5 l4 rec8 y8 k17) false))
def z8.l8 : List GRaw→Int→List GRaw→Option (List GRaw)
 |[],x5,l4=>some l4
 |y8::q8,x5,l4=>(z8.l17 x5 l4 (z8.l8 q8) y8 xo x5)
def z8 (a0:List GRaw):Option (List GRaw):=
 (grd ((0:Int)≤(qa a0:Int)∧(40:Int)*(qa a0:Int)≤281474976710656∧(qa a0:Int)<9223372036854775807)).bind fun _u1=>(z8.l8 a0 0 (qH (qK (qa a0:Int)) ((⟨0,0,0,[]⟩:GRaw):GRaw)))
theorem z8.ok (a0:List GRaw)(r:List GRaw)(h:z8 a0=some r):ACalls qg 190 [.ds true (qc encGRaw a0) (qa a0) false] [] (fun r' _=>r'=.ds true (qc encGRaw r) (qa r) false):=by
 refine zf (rs:=[.tmp 2]) tok Tryz.func190 rfl Tryz.ntmps190 rfl Tryz.call190 (by simp) ?_;refine zk [(0,.ds true (qc encGRaw a0) (qa a0) false)] ⟨rfl,trivial⟩ ?_;unfold z8 at h;refine rgN [0] ?_;obtain⟨_u1,hu1,h⟩:=bind_some h;have gu1:=wF hu1;have f2:=E35.mk0 rfl (z:=((⟨0,0,0,[]⟩:GRaw):GRaw)) rfl rfl gu1 .i64 .i64
 refine rg tok [0,3] fun K hK=>?_
 simp only[go_sem,qd,qb,reduceCtorEq,f2];apply hK
 refine yz (L:=[(0,.ds true (qc encGRaw a0) (qa a0) false),(3,.os true 4 0 0 0 (qa (qH (qK (qa a0:Int)) ((⟨0,0,0,[]⟩:GRaw):GRaw))) true)]) (τ:=[.cells 0 (qc encGRaw (qH (qK (qa a0:Int)) ((⟨0,0,0,[]⟩:GRaw):GRaw)))]) .s ?_
 refine za fun Z3 hZ3=>?_
 refine rgN [3,10,11,12] ?_;apply ze
 refine yl 10 fun hb8=>?_
 replace hb8:qa a0≤9223372036854775807:=hb8.1;refine zN (fun m L τ=>∃ (p8 q8:List GRaw) (x5:Int) (l4:List GRaw),m=qa q8∧L=[(3,.os true 4 0 0 0 (qa l4) true),(10,.ds true (qc encGRaw a0) (qa a0) false),(11,.int .i64 (qa a0:Int)),(12,.int .i64 x5)]∧τ=[.cells 0 (qc encGRaw l4)]∧a0=p8++q8∧x5=(qa p8:Int)∧z8.l8 q8 x5 l4=some r) _ ⟨[],a0,0,qH (qK (qa a0:Int)) ((⟨0,0,0,[]⟩:GRaw):GRaw),rfl,rfl,rfl,rfl,rfl,h⟩ .s ?_;rintro m L τ ⟨p8,q8,x5,l4,rfl,rfl,rfl,hE8,hi8,h⟩
 rcases q8 with _|⟨y8,q8⟩
 · have hz8:=yJ hE8 hi8;simp only[z8.l8] at h
   refine rg tok [3,10,11,12,13] fun K hK=>?_
   simp only[go_sem,qd,qb,hz8];apply hK
   refine za fun Z9 hZ9=>?_
   refine zp rfl ?_;apply zI;apply hZ3;refine rgN [2] ?_;cases h;exact rtA
 obtain⟨hz8,hw8,hx8,hE'8,hi'8⟩:=yk hE8 hi8 hb8;simp only[z8.l8] at h
 refine rg tok [3,10,11,12,13] fun K hK=>?_
 simp only[go_sem,qd,qb,hz8];apply hK
 refine za fun Z10 hZ10=>?_
 refine zq rfl ?_;apply zd;apply hZ10
 refine za fun Z11 hZ11=>?_
 apply ze;have f12:=E35.idxS hx8;have f13:=E35.loadS rfl rfl hx8
 refine rg tok [3,4,5,10,11,12] fun K hK=>?_
 simp only[go_sem,qd,qf,qb,qe,encGRaw,f12,f13];apply hK
 refine rgN [3,4,5,6,10,11,12] ?_
 refine za fun Z14 hZ14=>?_
 apply ze;refine zN (fun m L τ=>∃ (k17:Nat) (x15:Int),m=0+k17∧L=[(3,.os true 4 0 0 0 (qa l4) true),(4,.int .i64 x5),(5,.op 1 0 0),(6,.int .i64 x15),(10,.ds true (qc encGRaw a0) (qa a0) false),(11,.int .i64 (qa a0:Int)),(12,.int .i64 x5)]∧τ=[.cells 0 (qc encGRaw l4),.cells 0 [.int .i64 y8.fTag,.int .i64 y8.fWire,.int .i64 y8.fN,.str y8.fB]]∧z8.l17 x5 l4 (z8.l8 q8) y8 k17 x15=some r) _ ⟨xo,x5,rfl,rfl,rfl,h⟩ .s ?_;rintro m L τ ⟨k17,x15,rfl,rfl,rfl,h⟩
 rcases k17 with _|k17
 · cases h
 simp only[z8.l17] at h
 refine za fun Z18 hZ18=>?_
 refine yR (fun L τ=>∃ (x19:Bool),L=[(3,.os true 4 0 0 0 (qa l4) true),(4,.int .i64 x5),(5,.op 1 0 0),(6,.int .i64 x15),(10,.ds true (qc encGRaw a0) (qa a0) false),(11,.int .i64 (qa a0:Int)),(12,.int .i64 x5),(30,.bool x19)]∧τ=[.cells 0 (qc encGRaw l4),.cells 0 [.int .i64 y8.fTag,.int .i64 y8.fWire,.int .i64 y8.fN,.str y8.fB]]∧z8.j20 x5 l4 (z8.l8 q8) y8 x15 (z8.l17 x5 l4 (z8.l8 q8) y8 k17) x19=some r) ?_ ?_
 · refine rdE [3,4,5,6,10,11,12,30] fun K hK=>?_
   refine DW.start (T:=tab) [.any,.any,.any,.any,.any,.any,.any,.any,.at [],.any,.at [],.any,.any] [] ?_;refine DW.runN tok 3 ?_;simp only[go_sem,qd,qb]
   refine DW.if 20 rfl (fun hg20=>?_) (fun hg20=>?_)
   · rw[if_pos hg20] at h;have t32:=eq_true hg20;obtain⟨y33,hy33,h⟩:=bind_some h;have f34:=E35.idxO hy33;have f35:=E35.rdfO0 hy33;refine DW.runN tok 8 ?_;simp only[go_sem,qd,qb,qe,encGRaw,t32,f34,f35];refine DW.runN tok 2 ?_;simp only[go_sem,qd,qb];refine DW.fin tok (by decide +kernel) rfl ?_;simp only[zn,upd,qb,reduceIte,ym,y1];apply hK
     exact⟨_,_,⟨decide (y8.fTag<y33.fTag),rfl,rfl,h⟩,.s⟩
   rw[if_neg hg20] at h;have t36:=eq_false hg20;refine DW.runN tok 8 ?_;simp only[go_sem,qd,qb,t36];refine DW.runN tok 2 ?_;simp only[go_sem,qd,qb];refine DW.fin tok (by decide +kernel) rfl ?_;simp only[zn,upd,qb,reduceIte,ym,y1];apply hK
   exact⟨_,_,⟨false,rfl,rfl,h⟩,.s⟩
 rintro _ _ ⟨x19,rfl,rfl,h⟩;unfold z8.j20 at h;refine zw (b:=x19) rfl (fun hc21=>?_) (fun hc21=>?_)
 · rw[if_pos hc21] at h;apply zd;apply hZ18;apply ze
   refine rgE tok [3,4,5,6,10,11,12] fun K hK=>?_
   simp only[go_sem,qd,qb];apply hK
   exact⟨_,_,_,qw (0+k17),⟨k17,IntKind.i64.wrap (x15-1),rfl,rfl,rfl,h⟩,.s⟩
 rw[xU hc21] at h;apply zI;apply hZ14;obtain⟨_u22,hu22,h⟩:=bind_some h;have gu22:=wF hu22
 have f23:=fun id ver=>E35.slO gu22 .i64 .i64 id ver true
 obtain⟨_u24,hu24,h⟩:=bind_some h;have gu24:=wF hu24
 have f25:=fun id ver=>E35.slO gu24 .i64 .i64 id ver true
 have f26:=fun (τ:Store) (t1 t2:Bool)=>E35.cpO Yp.h gu22 gu24 t1 t2 (.cells 0 (qc encGRaw l4)::τ) 0 0 (by simp only[Store.at_hd,if_true]) rfl
 have f27:qa (vaa l4 (qK (IntKind.i64.wrap (x15+1))) (qK x15) (min (qK x5-qK x15) (qK (x5+1)-qK (IntKind.i64.wrap (x15+1)))))=qa l4:=copyI_length (by omega) (by omega)
 refine rd [3,5,6,10,11,12] fun K hK=>?_
 refine DW.start (T:=tab) [.any,.any,.any,.any,.any,.any,.any,.any,.any,.any,.eff] [] ?_;refine DW.runN tok 8 ?_;simp only[go_sem,qd,qb,hw8,f23];refine DW.runN tok 3 ?_;simp only[go_sem,qd,qb,f25,f26];refine DW.fin tok (by decide +kernel) rfl ?_;simp only[zn,upd,qb,reduceIte,ym,y1];apply hK
 refine yz (L:=[(3,.os true 4 0 0 0 (qa (vaa l4 (qK (IntKind.i64.wrap (x15+1))) (qK x15) (min (qK x5-qK x15) (qK (x5+1)-qK (IntKind.i64.wrap (x15+1)))))) true),(5,.op 1 0 0),(6,.int .i64 x15),(10,.ds true (qc encGRaw a0) (qa a0) false),(11,.int .i64 (qa a0:Int)),(12,.int .i64 x5)]) (τ:=[.cells 0 (qc encGRaw (vaa l4 (qK (IntKind.i64.wrap (x15+1))) (qK x15) (min (qK x5-qK x15) (qK (x5+1)-qK (IntKind.i64.wrap (x15+1)))))),.cells 0 [.int .i64 y8.fTag,.int .i64 y8.fWire,.int .i64 y8.fN,.str y8.fB]]) (.same (by first|exact⟨rfl,rfl,rfl,rfl,rfl,rfl,trivial⟩|rfl|(simp only[go_sem,qb,Fits,f27,and_self]<;>rfl)) (by first|exact⟨rfl,rfl,rfl,rfl,rfl,rfl,trivial⟩|rfl|(simp only[go_sem,qd,qf,qb,qe,qi,qm,reduceIte,reduceCtorEq,Fits,encB,encI,encS,encK,Zz,qZ,qP,uc,q1,qL,qG,qs,qt,qk,ue,qN,Nat.add_assoc,encGRaw,f27,and_self]<;>rfl))) ?_;obtain⟨y28,hy28,h⟩:=bind_some h;have f29:=E35.idxO hy28;have f30:=E35.stOc hy28;have f31:=E35.stOr hy28 (y:=y8) (cs:=[.int .i64 y8.fTag,.int .i64 y8.fWire,.int .i64 y8.fN,.str y8.fB]) rfl;simp only[y0] at f31
 refine rgE tok [3,10,11,12] fun K hK=>?_
 simp only[go_sem,qd,qf,qb,qe,f29,f30,f31];apply hK
 apply hZ11
 refine rgE tok [3,10,11,12] fun K hK=>?_
 simp only[go_sem,qd,qb,hw8];apply hK
 exact⟨_,_,_,qw q8.length,⟨p8++[y8],q8,x5+1,setI (vaa l4 (qK (IntKind.i64.wrap (x15+1))) (qK x15) (min (qK x5-qK x15) (qK (x5+1)-qK (IntKind.i64.wrap (x15+1))))) x15 y8,rfl,rfl,rfl,hE'8,hi'8,h⟩,(.t [0] false)⟩
theorem z8.ev (a0:List GRaw)(r:List GRaw)(h:z8 a0=some r)(σ:Store):ACalls qg 190 [.ds true (qc encGRaw a0) (qa a0) false] σ (fun r' σ'=>r'=.ds true (qc encGRaw r) (qa r) false∧σ'=σ):=
 (z8.ok a0 r h).c σ
def wo.l12 (a1:Int):List UInt8→Int→Int→Option (Int×Int×Int)
 |[],x9,x8=>some (0,0,2)
 |y12::q12,x9,x8=>(if ((decide (x9=9))&&(decide (1<(y12.toNat:Int))))=true then some (0,0,3) else (grd (0≤IntKind.i64.wrap (7*x9))).bind fun _u23=>(if 128≤(y12.toNat:Int) then ((wo.l12 a1 q12) (x9+1) (IntKind.u64.wrap ((ui (qF 64 x8 ||| qF 64 (IntKind.u64.wrap ((IntKind.u64.wrap (IntKind.u8.wrap ((ui (qF 8 (y12.toNat:Int) &&& ~~~(qF 8 128)):Nat):Int)))*2^(min (qK (IntKind.i64.wrap (7*x9))) 64)))):Nat):Int))) else (if ((decide ((y12.toNat:Int)=0))&&(decide (0<x9)))=true then some (0,0,3) else some (IntKind.u64.wrap ((ui (qF 64 x8 ||| qF 64 (IntKind.u64.wrap ((IntKind.u64.wrap (IntKind.u8.wrap ((ui (qF 8 (y12.toNat:Int) &&& ~~~(qF 8 128)):Nat):Int)))*2^(min (qK (IntKind.i64.wrap (7*x9))) 64)))):Nat):Int),IntKind.i64.wrap ((IntKind.i64.wrap (a1+x9))+1),0))))
def wo (a0:List UInt8)(a1:Int):Option (Int×Int×Int):=
 (if ((decide (a1<0))||(decide ((qa a0:Int)<a1)))=true then some (0,0,1) else (grd ((0:Int)≤a1∧a1≤IntKind.i64.wrap (a1+(if 10<IntKind.i64.wrap ((qa a0:Int)-a1) then 10 else IntKind.i64.wrap ((qa a0:Int)-a1)))∧IntKind.i64.wrap (a1+(if 10<IntKind.i64.wrap ((qa a0:Int)-a1) then 10 else IntKind.i64.wrap ((qa a0:Int)-a1)))≤(qa a0:Int))).bind fun _u6=>(wo.l12 a1 (X9 a0 a1 (IntKind.i64.wrap (a1+(if 10<IntKind.i64.wrap ((qa a0:Int)-a1) then 10 else IntKind.i64.wrap ((qa a0:Int)-a1))))) 0 0))
theorem wo.ok (a0:List UInt8)(a1:Int)(r:Int×Int×Int)(h:wo a0 a1=some r):ACalls qg 245 [.ds true (qc encB a0) (qa a0) false,.int .i64 a1] [] (fun r' _=>r'=.tup [.int .u64 r.1,.int .i64 r.2.1,.int .i64 r.2.2]):=by
 refine zf (rs:=[.tmp 4,.tmp 5,.tmp 6]) tok Tryz.func245 rfl Tryz.ntmps245 rfl Tryz.call245 (by simp) ?_;refine zk [(0,.ds true (qc encB a0) (qa a0) false),(1,.int .i64 a1)] ⟨rfl,rfl,trivial⟩ ?_;unfold wo at h;refine rgN [0,1] ?_
 refine za fun Z1 hZ1=>?_
 refine rc [0,1,17] fun K hK=>?_
 refine rnN 3 ?_;refine zo 5 (fun L τ=>L=[(0,.ds true (qc encB a0) (qa a0) false),(1,.int .i64 a1),(17,.bool ((decide (a1<0))||(decide ((qa a0:Int)<a1))))]∧τ=[]) ?_ ?_
 · refine xj 12 rfl (fun hg12=>?_) (fun hg12=>?_)
   · have t2:=eq_true hg12;refine rnN 5 ?_;refine zb ⟨rfl,_,_,⟨rfl,rfl⟩,.p t2⟩
   have t3:=eq_false hg12;refine rnN 5 ?_;refine zb ⟨rfl,_,_,⟨rfl,rfl⟩,.p t3⟩
 rintro _ _ ⟨rfl,rfl⟩;refine nkN hK ?_;refine zw (b:=((decide (a1<0))||(decide ((qa a0:Int)<a1)))) rfl (fun hc4=>?_) (fun hc4=>?_)
 · rw[if_pos hc4] at h;refine rgN [4,5,6] ?_;cases h;exact rtA
 rw[xU hc4] at h;apply zd;apply hZ1;refine rgN [0,1,7] ?_
 refine za fun Z5 hZ5=>?_
 obtain⟨_u6,hu6,h⟩:=bind_some h;have gu6:=wF hu6;have f7:=E48.sl_lh gu6
 refine rg tok [1,7,27,28,29] fun K hK=>?_
 simp only[go_sem,qd,qb,reduceCtorEq,XL,foldO,vai,f7];apply hK
 apply ze
 refine yl 27 fun hb12=>?_
 replace hb12:qa (X9 a0 a1 (IntKind.i64.wrap (a1+(if 10<IntKind.i64.wrap ((qa a0:Int)-a1) then 10 else IntKind.i64.wrap ((qa a0:Int)-a1)))))≤9223372036854775807:=hb12.1;refine zN (fun m L τ=>∃ (p12 q12:List UInt8) (x9:Int) (x8:Int),m=qa q12∧L=[(1,.int .i64 a1),(7,.int .u64 x8),(27,.ds true (qc encB (X9 a0 a1 (IntKind.i64.wrap (a1+(if 10<IntKind.i64.wrap ((qa a0:Int)-a1) then 10 else IntKind.i64.wrap ((qa a0:Int)-a1)))))) (qa (X9 a0 a1 (IntKind.i64.wrap (a1+(if 10<IntKind.i64.wrap ((qa a0:Int)-a1) then 10 else IntKind.i64.wrap ((qa a0:Int)-a1)))))) false),(28,.int .i64 (qa (X9 a0 a1 (IntKind.i64.wrap (a1+(if 10<IntKind.i64.wrap ((qa a0:Int)-a1) then 10 else IntKind.i64.wrap ((qa a0:Int)-a1))))):Int)),(29,.int .i64 x9)]∧τ=[]∧X9 a0 a1 (IntKind.i64.wrap (a1+(if 10<IntKind.i64.wrap ((qa a0:Int)-a1) then 10 else IntKind.i64.wrap ((qa a0:Int)-a1))))=p12++q12∧x9=(qa p12:Int)∧wo.l12 a1 q12 x9 x8=some r) _ ⟨[],X9 a0 a1 (IntKind.i64.wrap (a1+(if 10<IntKind.i64.wrap ((qa a0:Int)-a1) then 10 else IntKind.i64.wrap ((qa a0:Int)-a1)))),0,0,rfl,rfl,rfl,rfl,rfl,h⟩ .s ?_;rintro m L τ ⟨p12,q12,x9,x8,rfl,rfl,rfl,hE12,hi12,h⟩
 rcases q12 with _|⟨y12,q12⟩
 · have hz12:=yJ hE12 hi12;simp only[wo.l12] at h
   refine rg tok [1,7,27,28,29,30] fun K hK=>?_
   simp only[go_sem,qd,qb,hz12];apply hK
   refine za fun Z13 hZ13=>?_
   refine zp rfl ?_;apply zI;apply hZ5;refine rgN [4,5,6] ?_;cases h;exact rtA
 obtain⟨hz12,hw12,hx12,hE'12,hi'12⟩:=yk hE12 hi12 hb12;simp only[wo.l12] at h
 refine rg tok [1,7,27,28,29,30] fun K hK=>?_
 simp only[go_sem,qd,qb,hz12];apply hK
 refine za fun Z14 hZ14=>?_
 refine zq rfl ?_;apply zd;apply hZ14
 refine za fun Z15 hZ15=>?_
 apply ze;have f16:=E48.idxS hx12;have f17:=E48.fldS0 (f:=5) rfl rfl hx12
 refine rg tok [1,7,8,9,27,28,29] fun K hK=>?_
 simp only[go_sem,qd,qb,encB,f16,f17];apply hK
 refine za fun Z18 hZ18=>?_
 refine rc [1,7,8,9,27,28,29,39] fun K hK=>?_
 refine rnN 3 ?_;refine zo 3 (fun L τ=>L=[(1,.int .i64 a1),(7,.int .u64 x8),(8,.int .i64 x9),(9,.int .u8 (y12.toNat:Int)),(27,.ds true (qc encB (X9 a0 a1 (IntKind.i64.wrap (a1+(if 10<IntKind.i64.wrap ((qa a0:Int)-a1) then 10 else IntKind.i64.wrap ((qa a0:Int)-a1)))))) (qa (X9 a0 a1 (IntKind.i64.wrap (a1+(if 10<IntKind.i64.wrap ((qa a0:Int)-a1) then 10 else IntKind.i64.wrap ((qa a0:Int)-a1)))))) false),(28,.int .i64 (qa (X9 a0 a1 (IntKind.i64.wrap (a1+(if 10<IntKind.i64.wrap ((qa a0:Int)-a1) then 10 else IntKind.i64.wrap ((qa a0:Int)-a1))))):Int)),(29,.int .i64 x9),(39,.bool ((decide (x9=9))&&(decide (1<(y12.toNat:Int)))))]∧τ=[]) ?_ ?_
 · refine xj 36 rfl (fun hg36=>?_) (fun hg36=>?_)
   · have t19:=eq_true hg36;refine rnN 3 ?_;refine zb ⟨rfl,_,_,⟨rfl,rfl⟩,.p t19⟩
   have t20:=eq_false hg36;refine rnN 3 ?_;refine zb ⟨rfl,_,_,⟨rfl,rfl⟩,.p t20⟩
 rintro _ _ ⟨rfl,rfl⟩;refine nkN hK ?_;refine zw (b:=((decide (x9=9))&&(decide (1<(y12.toNat:Int))))) rfl (fun hc21=>?_) (fun hc21=>?_)
 · rw[if_pos hc21] at h;refine rgN [4,5,6] ?_;cases h;exact rtA
 rw[xU hc21] at h;apply zd;apply hZ18;have f22:=wm (T:=tab) (src:=5) (dst:=287) rfl rfl rfl;obtain⟨_u23,hu23,h⟩:=bind_some h;have gu23:=wF hu23;have gu23n:(IntKind.i64.wrap (7*x9)<0)=False:=eq_false (by omega)
 refine rg tok [1,7,8,9,27,28,29] fun K hK=>?_
 simp only[go_sem,qd,qb,f22,gu23n,Yo];apply hK
 refine za fun Z24 hZ24=>?_
 refine rgN [1,7,8,9,27,28,29,49] ?_;refine zF rfl (fun hc25=>?_) (fun hc25=>?_)
 · rw[if_pos hc25] at h;have t26:=eq_true hc25;apply zI;apply hZ15
   refine rgE tok [1,7,27,28,29] fun K hK=>?_
   simp only[go_sem,qd,qb,hw12,t26];apply hK
   exact⟨_,_,_,qw q12.length,⟨p12++[y12],q12,x9+1,IntKind.u64.wrap ((ui (qF 64 x8 ||| qF 64 (IntKind.u64.wrap ((IntKind.u64.wrap (IntKind.u8.wrap ((ui (qF 8 (y12.toNat:Int) &&& ~~~(qF 8 128)):Nat):Int)))*2^(min (qK (IntKind.i64.wrap (7*x9))) 64)))):Nat):Int),rfl,rfl,rfl,hE'12,hi'12,h⟩,.s⟩
 rw[if_neg hc25] at h;have t27:=eq_false hc25;apply zd;apply hZ24
 refine za fun Z28 hZ28=>?_
 refine rc [1,7,8,55] fun K hK=>?_
 refine zj tok 3 ?_;simp only[go_sem,qd,qb,t27];refine zo 3 (fun L τ=>L=[(1,.int .i64 a1),(7,.int .u64 (IntKind.u64.wrap ((ui (qF 64 x8 ||| qF 64 (IntKind.u64.wrap ((IntKind.u64.wrap (IntKind.u8.wrap ((ui (qF 8 (y12.toNat:Int) &&& ~~~(qF 8 128)):Nat):Int)))*2^(min (qK (IntKind.i64.wrap (7*x9))) 64)))):Nat):Int))),(8,.int .i64 x9),(55,.bool ((decide ((y12.toNat:Int)=0))&&(decide (0<x9))))]∧τ=[]) ?_ ?_
 · refine xj 52 rfl (fun hg52=>?_) (fun hg52=>?_)
   · have t29:=eq_true hg52;refine rnN 3 ?_;refine zb ⟨rfl,_,_,⟨rfl,rfl⟩,.p t29⟩
   have t30:=eq_false hg52;refine rnN 3 ?_;refine zb ⟨rfl,_,_,⟨rfl,rfl⟩,.p t30⟩
 rintro _ _ ⟨rfl,rfl⟩;refine nkN hK ?_;refine zw (b:=((decide ((y12.toNat:Int)=0))&&(decide (0<x9)))) rfl (fun hc31=>?_) (fun hc31=>?_)
 · rw[if_pos hc31] at h;refine rgN [4,5,6] ?_;cases h;exact rtA
 rw[xU hc31] at h;apply zd;apply hZ28;refine rgN [4,5,6] ?_;cases h;exact rtA
end
section
set_option maxRecDepth 4000
set_option maxHeartbeats 1000000
open AM
theorem wo.ev (a0:List UInt8)(a1:Int)(r:Int×Int×Int)(h:wo a0 a1=some r)(σ:Store):ACalls qg 245 [.ds true (qc encB a0) (qa a0) false,.int .i64 a1] σ (fun r' σ'=>r'=.tup [.int .u64 r.1,.int .i64 r.2.1,.int .i64 r.2.2]∧σ'=σ):=
 (wo.ok a0 a1 r h).c σ
def Ye (a0:Int):Int:=
 IntKind.i64.wrap ((ui (qF 64 (IntKind.i64.wrap (Int.fdiv a0 (2^(min (qK 1) 64)))) ^^^ qF 64 (IntKind.i64.wrap (0-(IntKind.i64.wrap (IntKind.u64.wrap ((ui (qF 64 a0 &&& qF 64 1):Nat):Int)))))):Nat):Int)
theorem Ye.ok (a0:Int)(r:Int)(h:Ye a0=r):ACalls qg 246 [.int .u64 a0] [] (fun r' _=>r'=.int .i64 r):=by
 refine zf (rs:=[.tmp 2]) tok Tryz.func246 rfl Tryz.ntmps246 rfl Tryz.call246 (by simp) ?_;refine zk [(0,.int .u64 a0)] ⟨rfl,trivial⟩ ?_;unfold Ye at h;refine rgN [0] ?_;have f1:=wm (T:=tab) (src:=287) (dst:=3) rfl rfl rfl;have f2:=wm (T:=tab) (src:=287) (dst:=3) rfl rfl rfl
 refine rg tok [2] fun K hK=>?_
 simp only[go_sem,qd,qb,reduceCtorEq,f1,Yo,Int.reduceLT];apply hK
 cases h;exact rtA
theorem Ye.ev (a0:Int)(r:Int)(h:Ye a0=r)(σ:Store):ACalls qg 246 [.int .u64 a0] σ (fun r' σ'=>r'=.int .i64 r∧σ'=σ):=
 (Ye.ok a0 r h).c σ
def Yb (a0:List UInt8)(a1:Int):Option (GRaw×Int×Int):=
 (wo a0 a1).bind fun r1=>(if r1.2.2=0 then (if ((decide (r1.1<2))||(decide (500<IntKind.u64.wrap ((r1.1).tdiv 2))))=true then some ((⟨0,0,0,[]⟩:GRaw),0,7) else (wo a0 r1.2.1).bind fun r11=>(if r11.2.2=0 then (if IntKind.i64.wrap ((r1.1).tmod 2)=0 then bnd (Ye r11.1) fun r18=>some ((⟨IntKind.i64.wrap (IntKind.u64.wrap ((r1.1).tdiv 2)),IntKind.i64.wrap ((r1.1).tmod 2),r18,[]⟩:GRaw),r11.2.1,0) else (if IntKind.u64.wrap (IntKind.i64.wrap ((qa a0:Int)-r11.2.1))<r11.1 then some ((⟨0,0,0,[]⟩:GRaw),0,2) else (grd ((0:Int)≤r11.2.1∧r11.2.1≤IntKind.i64.wrap (r11.2.1+(IntKind.i64.wrap r11.1))∧IntKind.i64.wrap (r11.2.1+(IntKind.i64.wrap r11.1))≤(qa a0:Int))).bind fun _u25=>some ((⟨IntKind.i64.wrap (IntKind.u64.wrap ((r1.1).tdiv 2)),IntKind.i64.wrap ((r1.1).tmod 2),0,X9 a0 r11.2.1 (IntKind.i64.wrap (r11.2.1+(IntKind.i64.wrap r11.1)))⟩:GRaw),IntKind.i64.wrap (r11.2.1+(IntKind.i64.wrap r11.1)),0))) else some ((⟨0,0,0,[]⟩:GRaw),0,r11.2.2))) else some ((⟨0,0,0,[]⟩:GRaw),0,r1.2.2))
theorem Yb.ok (a0:List UInt8)(a1:Int)(r:GRaw×Int×Int)(h:Yb a0 a1=some r):ACalls qg 231 [.ds true (qc encB a0) (qa a0) false,.int .i64 a1] [] (fun r' _=>r'=.tup [.agg (encGRaw r.1),.int .i64 r.2.1,.int .i64 r.2.2]):=by
 refine zf (rs:=[.cell 4 139,.tmp 5,.tmp 6]) tok Tryz.func231 rfl Tryz.ntmps231 rfl Tryz.call231 (by simp) ?_;refine zk [(0,.ds true (qc encB a0) (qa a0) false),(1,.int .i64 a1)] ⟨rfl,rfl,trivial⟩ ?_;unfold Yb at h;refine rgN [0,1,4] ?_
 refine rc [0,1,4,7,8] fun K hK=>?_
 obtain⟨r1,hr1,h⟩:=bind_some h;refine rnN 2 ?_;refine clN rfl rfl rfl (wo.ev a0 a1 r1 hr1 _) ?_;refine rnN 7 ?_;refine nkN hK ?_
 refine za fun Z2 hZ2=>?_
 apply ze;refine rgN [0,1,4,7,8,19] ?_;refine zF rfl (fun hc3=>?_) (fun hc3=>?_)
 · rw[if_neg hc3] at h;have t4:=eq_false hc3
   refine rg tok [4,5,6] fun K hK=>?_
   simp only[go_sem,qd,qf,qb,qe,reduceCtorEq,t4];apply hK
   cases h;exact rtA
 rw[if_pos hc3] at h;have t5:=eq_true hc3
 refine rc [0,1,4,7,24] fun K hK=>?_
 refine zj tok 3 ?_;simp only[go_sem,qd,qb,reduceCtorEq,t5];refine zo 4 (fun L τ=>L=[(0,.ds true (qc encB a0) (qa a0) false),(1,.int .i64 r1.2.1),(4,.op 0 0 0),(7,.int .u64 r1.1),(31,.bool ((decide (r1.1<2))||(decide (500<IntKind.u64.wrap ((r1.1).tdiv 2)))))]∧τ=[.cells 0 [.int .i64 0,.int .i64 0,.int .i64 0,.str []]]) ?_ ?_
 · refine xj 27 rfl (fun hg27=>?_) (fun hg27=>?_)
   · have t6:=eq_true hg27;refine rnN 4 ?_;refine zb ⟨rfl,_,_,⟨rfl,rfl⟩,.p t6⟩
   have t7:=eq_false hg27;refine zj tok 4 ?_;simp only[go_sem,qd,qb,reduceCtorEq,Int.reduceEq];refine zb ⟨rfl,_,_,⟨rfl,rfl⟩,.p t7⟩
 rintro _ _ ⟨rfl,rfl⟩;refine rnN 1 ?_;refine nkN hK ?_;refine zw (b:=((decide (r1.1<2))||(decide (500<IntKind.u64.wrap ((r1.1).tdiv 2))))) rfl (fun hc8=>?_) (fun hc8=>?_)
 · rw[if_pos hc8] at h;refine rgN [4,5,6] ?_;cases h;exact rtA
 rw[xU hc8] at h;apply zd;apply hZ2;have f9:=wm (T:=tab) (src:=287) (dst:=3) rfl rfl rfl;have f10:=wm (T:=tab) (src:=287) (dst:=3) rfl rfl rfl
 refine rg tok [0,1,4,9] fun K hK=>?_
 simp only[go_sem,qd,qf,qb,qe,reduceCtorEq,f9,Int.reduceEq];apply hK
 refine rc [0,1,4,8,9,10] fun K hK=>?_
 obtain⟨r11,hr11,h⟩:=bind_some h;refine rnN 2 ?_;refine clN rfl rfl rfl (wo.ev a0 r1.2.1 r11 hr11 _) ?_;refine rnN 7 ?_;refine nkN hK ?_
 refine za fun Z12 hZ12=>?_
 apply ze;refine rgN [0,1,4,8,9,10,47] ?_;refine zF rfl (fun hc13=>?_) (fun hc13=>?_)
 · rw[if_neg hc13] at h;have t14:=eq_false hc13
   refine rg tok [4,5,6] fun K hK=>?_
   simp only[go_sem,qd,qf,qb,qe,reduceCtorEq,t14];apply hK
   cases h;exact rtA
 rw[if_pos hc13] at h;have t15:=eq_true hc13
 refine rg tok [0,1,4,9,10,52] fun K hK=>?_
 simp only[go_sem,qd,qb,qe,reduceCtorEq,t15];apply hK
 refine zF rfl (fun hc16=>?_) (fun hc16=>?_)
 · rw[if_pos hc16] at h;have t17:=eq_true hc16
   refine rc [1,4,9] fun K hK=>?_
   obtain⟨r18,hr18,h⟩:=zH h;refine zj tok 1 ?_;simp only[go_sem,qd,qb,reduceCtorEq,t17];refine clN rfl rfl rfl (Ye.ev r11.1 r18 hr18 _) ?_;refine zj tok 2 ?_;simp only[go_sem,qd,qf,qb,qe,reduceCtorEq,encGRaw];refine nkN hK ?_;refine rgN [4,5,6] ?_;cases h;exact rtA
 rw[if_neg hc16] at h;have t19:=eq_false hc16;have f20:=wm (T:=tab) (src:=3) (dst:=287) rfl rfl rfl
 refine rg tok [0,1,4,9,10,61] fun K hK=>?_
 simp only[go_sem,qd,qb,reduceCtorEq,t19,f20];apply hK
 refine zF rfl (fun hc21=>?_) (fun hc21=>?_)
 · rw[if_pos hc21] at h;have t22:=eq_true hc21
   refine rg tok [4,5,6] fun K hK=>?_
   simp only[go_sem,qd,qf,qb,qe,reduceCtorEq,t22];apply hK
   cases h;exact rtA
 rw[if_neg hc21] at h;have t23:=eq_false hc21;apply zd;apply hZ12;have f24:=wm (T:=tab) (src:=287) (dst:=3) rfl rfl rfl
 refine rg tok [0,1,4,9,11] fun K hK=>?_
 simp only[go_sem,qd,qb,reduceCtorEq,t23,f24];apply hK
 obtain⟨_u25,hu25,h⟩:=bind_some h;have gu25:=wF hu25;have f26:=E48.sl_lh gu25;have f27:=conv_b2s (T:=tab) (src:=48) (dst:=9) rfl rfl rfl rfl rfl rfl (X9 a0 r11.2.1 (IntKind.i64.wrap (r11.2.1+(IntKind.i64.wrap r11.1))))
 refine rg tok [4,9,11] fun K hK=>?_
 simp only[go_sem,qd,qf,qb,qe,reduceCtorEq,f26,f27];apply hK
 refine rgN [4,5,6] ?_;cases h;exact rtA
theorem Yb.ev (a0:List UInt8)(a1:Int)(r:GRaw×Int×Int)(h:Yb a0 a1=some r)(σ:Store):ACalls qg 231 [.ds true (qc encB a0) (qa a0) false,.int .i64 a1] σ (fun r' σ'=>r'=.tup [.agg (encGRaw r.1),.int .i64 r.2.1,.int .i64 r.2.2]∧σ'=σ):=
 (Yb.ok a0 a1 r h).c σ
def Zc.l12 (a0:List UInt8):Nat→List GRaw→Int→Option (List GRaw×Int)
 |0,_,_=>none
 |k12+1,l6,x8=>(if x8<(qa a0:Int) then (Yb a0 x8).bind fun r16=>(if r16.2.2=0 then (Xm (qa l6+1) 40).bind fun _u21=>((Zc.l12 a0 k12) (l6++[r16.1]) r16.2.1) else some (([]:List GRaw),r16.2.2)) else some (l6,0))
def Zc (a0:List UInt8):Option (List GRaw×Int):=
 (if 4096<(qa a0:Int) then some (([]:List GRaw),4) else (Zc.l12 a0 xo ([]:List GRaw) 0))
theorem Zc.ok (a0:List UInt8)(r:List GRaw×Int)(h:Zc a0=some r):ACalls qg 193 [.ds true (qc encB a0) (qa a0) false] [] (fun r' _=>r'=.tup [.ds true (qc encGRaw r.1) (qa r.1) false,.int .i64 r.2]):=by
 refine zf (rs:=[.tmp 2,.tmp 3]) tok Tryz.func193 rfl Tryz.ntmps193 rfl Tryz.call193 (by simp) ?_;refine zk [(0,.ds true (qc encB a0) (qa a0) false)] ⟨rfl,trivial⟩ ?_;unfold Zc at h;refine rgN [0] ?_
 refine za fun Z1 hZ1=>?_
 refine rgN [0,11] ?_;refine zF rfl (fun hc2=>?_) (fun hc2=>?_)
 · rw[if_pos hc2] at h;have t3:=eq_true hc2
   refine rg tok [2,3] fun K hK=>?_
   simp only[go_sem,qd,qb,reduceCtorEq,t3];apply hK
   cases h;exact rtA
 rw[if_neg hc2] at h;have t4:=eq_false hc2;apply zd;apply hZ1
 refine rg tok [0,4] fun K hK=>?_
 simp only[go_sem,qd,qb,reduceCtorEq,t4];apply hK
 refine YG 4 4 rfl ?_;refine yz (L:=[(0,.ds true (qc encB a0) (qa a0) false),(4,.os true 4 0 0 0 (qa ([]:List GRaw)) false)]) (τ:=[.cells 0 (qc encGRaw ([]:List GRaw))]) .s ?_
 refine za fun Z5 hZ5=>?_
 refine rgN [0,4,5] ?_;apply ze;refine zN (fun m L τ=>∃ (k12:Nat) (l6:List GRaw) (x8:Int) (v7:Nat),m=0+k12∧L=[(0,.ds true (qc encB a0) (qa a0) false),(4,.os true 4 0 v7 0 (qa l6) false),(5,.int .i64 x8)]∧τ=[.cells v7 (qc encGRaw l6)]∧Zc.l12 a0 k12 l6 x8=some r) _ ⟨xo,([]:List GRaw),0,0,rfl,rfl,rfl,h⟩ .s ?_;rintro m L τ ⟨k12,l6,x8,v7,rfl,rfl,rfl,h⟩
 rcases k12 with _|k12
 · cases h
 simp only[Zc.l12] at h
 refine za fun Z13 hZ13=>?_
 refine rgN [0,4,5,15] ?_;refine zF rfl (fun hc14=>?_) (fun hc14=>?_)
 · rw[if_pos hc14] at h;have t15:=eq_true hc14;apply zd;apply hZ13;apply ze
   refine rc [0,4,6,7,8] fun K hK=>?_
   obtain⟨r16,hr16,h⟩:=bind_some h;refine zj tok 2 ?_;simp only[go_sem,qd,qb,reduceCtorEq,t15];refine clN rfl rfl rfl (Yb.ev a0 x8 r16 hr16 _) ?_;refine zj tok 8 ?_;simp only[go_sem,qd,qf,qb,qe,reduceCtorEq,encGRaw];refine nkN hK ?_
   refine za fun Z17 hZ17=>?_
   refine rgN [0,4,6,7,8,24] ?_;refine zF rfl (fun hc18=>?_) (fun hc18=>?_)
   · rw[if_neg hc18] at h;have t19:=eq_false hc18
     refine rg tok [2,3] fun K hK=>?_
     simp only[go_sem,qd,qb,reduceCtorEq,t19];apply hK
     cases h;exact rtA
   rw[if_pos hc18] at h;have t20:=eq_true hc18;apply zd;apply hZ17;obtain⟨_u21,hu21,h⟩:=bind_some h;have gu21:=yy hu21;have f22:=(zz E35.len l6)
   refine rg tok [0,4,7] fun K hK=>?_
   simp only[go_sem,qd,qf,qb,qe,qi,reduceCtorEq,zv,zQ,qO,qI,true_and,qT,ye,zO,yd,t20,gu21,f22,yv,qR,qX,AV.one,qB,qL,qs,qt,qk,qN];apply hK
   refine yz (L:=[(0,.ds true (qc encB a0) (qa a0) false),(4,.os true 4 0 (v7+1) 0 (qa (l6++[r16.1])) false),(7,.int .i64 r16.2.1)]) (τ:=[.cells (v7+1) (qc encGRaw (l6++[r16.1])),.cells 0 [.int .i64 r16.1.fTag,.int .i64 r16.1.fWire,.int .i64 r16.1.fN,.str r16.1.fB],.cells 0 [.int .i64 r16.1.fTag,.int .i64 r16.1.fWire,.int .i64 r16.1.fN,.str r16.1.fB]]) .s ?_
   refine rgE tok [0,4,5] fun K hK=>?_
   simp only[go_sem,qd,qb,reduceCtorEq];apply hK
   exact⟨_,_,_,qw (0+k12),⟨k12,l6++[r16.1],r16.2.1,v7+1,rfl,rfl,rfl,h⟩,(.t [0] false)⟩
 rw[if_neg hc14] at h;have t23:=eq_false hc14;apply zI;apply hZ5
 refine rg tok [2,3] fun K hK=>?_
 simp only[go_sem,qd,qb,reduceCtorEq,t23];apply hK
 cases h;exact rtA
theorem Zc.ev (a0:List UInt8)(r:List GRaw×Int)(h:Zc a0=some r)(σ:Store):ACalls qg 193 [.ds true (qc encB a0) (qa a0) false] σ (fun r' σ'=>r'=.tup [.ds true (qc encGRaw r.1) (qa r.1) false,.int .i64 r.2]∧σ'=σ):=
 (Zc.ok a0 r h).c σ
def xX (a0:GEntry)(a1:Int):Int:=
 IntKind.i64.wrap (a0.fTag-a1)
theorem xX.ok (a0:GEntry)(a1:Int)(r:Int)(h:xX a0 a1=r):ACalls qg 233 [.agg (cellsGEntry a0),.int .i64 a1] [] (fun r' _=>r'=.int .i64 r):=by
 refine zf (rs:=[.tmp 4]) tok Tryz.func233 rfl Tryz.ntmps233 rfl Tryz.call233 (by simp) ?_;refine zk [(0,.agg (cellsGEntry a0)),(1,.int .i64 a1)] ⟨rfl,rfl,trivial⟩ ?_;unfold xX at h
 refine rg tok [1,2] fun K hK=>?_
 simp only[go_sem,qd,qb,qe,reduceCtorEq,cellsGEntry];apply hK
 refine rgN [4] ?_;cases h;exact rtA
theorem xX.ev (a0:GEntry)(a1:Int)(r:Int)(h:xX a0 a1=r)(σ:Store):ACalls qg 233 [.agg (cellsGEntry a0),.int .i64 a1] σ (fun r' σ'=>r'=.int .i64 r∧σ'=σ):=
 (xX.ok a0 a1 r h).c σ
def zt.l6 (a0:List GEntry)(a1:Int):Nat→Int→Int→Option (Int×Bool)
 |0,_,_=>none
 |k6+1,x2,x3=>(if x2<x3 then (YS a0 (IntKind.i64.wrap (Int.fdiv (IntKind.u64.wrap (IntKind.i64.wrap (x2+x3))) (2^(min (qK 1) 64))))).bind fun y12=>bnd (xX y12 a1) fun r15=>(if r15<0 then ((zt.l6 a0 a1 k6) (IntKind.i64.wrap ((IntKind.i64.wrap (Int.fdiv (IntKind.u64.wrap (IntKind.i64.wrap (x2+x3))) (2^(min (qK 1) 64))))+1)) x3) else ((zt.l6 a0 a1 k6) x2 (IntKind.i64.wrap (Int.fdiv (IntKind.u64.wrap (IntKind.i64.wrap (x2+x3))) (2^(min (qK 1) 64)))))) else (if x2<(qa a0:Int) then (YS a0 x2).bind fun y20=>bnd (xX y20 a1) fun r23=>some (decide (r23=0)) else some false).bind fun c20=>some (x2,c20))
def zt (a0:List GEntry)(a1:Int):Option (Int×Bool):=
 (zt.l6 a0 a1 xo 0 (qa a0:Int))
theorem zt.ok (a0:List GEntry)(a1:Int)(r:Int×Bool)(h:zt a0 a1=some r):ACalls qg 232 [.ds true (qc encGEntry a0) (qa a0) false,.int .i64 a1,.fn (.func 233) [] []] [] (fun r' _=>r'=.tup [.int .i64 r.1,.bool r.2]):=by
 refine zf (rs:=[.tmp 6,.tmp 7]) tok Tryz.func232 rfl Tryz.ntmps232 rfl Tryz.call232 (by simp) ?_;refine zk [(0,.ds true (qc encGEntry a0) (qa a0) false),(1,.int .i64 a1),(2,.fn (.func 233) [] [])] ⟨rfl,rfl,rfl,trivial⟩ ?_;unfold zt at h;refine rgN [0,1,2] ?_;refine rgN [0,1,2,8] ?_;refine rgN [0,1,2,8,9,10] ?_
 refine za fun Z1 hZ1=>?_
 apply ze;refine zN (fun m L τ=>∃ (k6:Nat) (x2:Int) (x3:Int),m=0+k6∧L=[(0,.ds true (qc encGEntry a0) (qa a0) false),(1,.int .i64 a1),(2,.fn (.func 233) [] []),(8,.int .i64 (qa a0:Int)),(9,.int .i64 x2),(10,.int .i64 x3)]∧τ=[]∧zt.l6 a0 a1 k6 x2 x3=some r) _ ⟨xo,0,(qa a0:Int),rfl,rfl,rfl,h⟩ .s ?_;rintro m L τ ⟨k6,x2,x3,rfl,rfl,rfl,h⟩
 rcases k6 with _|k6
 · cases h
 simp only[zt.l6] at h
 refine za fun Z7 hZ7=>?_
 refine rgN [0,1,2,8,9,10,17] ?_;refine zF rfl (fun hc8=>?_) (fun hc8=>?_)
 · rw[if_pos hc8] at h;have t9:=eq_true hc8;apply zd;apply hZ7;apply ze;have f10:=wm (T:=tab) (src:=3) (dst:=100) rfl rfl rfl;have f11:=wm (T:=tab) (src:=100) (dst:=3) rfl rfl rfl
   refine rg tok [0,1,2,8,9,10,11] fun K hK=>?_
   simp only[go_sem,qd,qb,reduceCtorEq,t9,f10,f11,Yo,Int.reduceLT];apply hK
   refine rc [0,1,2,8,9,10,11,31] fun K hK=>?_
   obtain⟨y12,hy12,h⟩:=bind_some h;have f13:=E34.idxS hy12;have f14:=E34.loadS rfl rfl hy12;obtain⟨r15,hr15,h⟩:=zH h;refine zj tok 6 ?_;simp only[go_sem,qd,qb,reduceCtorEq,cellsGEntry,yq,f13,f14];refine clN rfl rfl rfl (xX.ev y12 a1 r15 hr15 _) ?_;refine rnN 1 ?_;refine nkN hK ?_;refine zF rfl (fun hc16=>?_) (fun hc16=>?_)
   · rw[if_pos hc16] at h;have t17:=eq_true hc16
     refine rgE tok [0,1,2,8,9,10] fun K hK=>?_
     simp only[go_sem,qd,qb,reduceCtorEq,t17];apply hK
     exact⟨_,_,_,qw (0+k6),⟨k6,IntKind.i64.wrap ((IntKind.i64.wrap (Int.fdiv (IntKind.u64.wrap (IntKind.i64.wrap (x2+x3))) (2^(min (qK 1) 64))))+1),x3,rfl,rfl,rfl,h⟩,.s⟩
   rw[if_neg hc16] at h;have t18:=eq_false hc16
   refine rgE tok [0,1,2,8,9,10] fun K hK=>?_
   simp only[go_sem,qd,qb,reduceCtorEq,t18];apply hK
   exact⟨_,_,_,qw (0+k6),⟨k6,x2,IntKind.i64.wrap (Int.fdiv (IntKind.u64.wrap (IntKind.i64.wrap (x2+x3))) (2^(min (qK 1) 64))),rfl,rfl,rfl,h⟩,.s⟩
 rw[if_neg hc8] at h;have t19:=eq_false hc8;apply zI;apply hZ1
 refine rc [6,7] fun K hK=>?_
 refine zj tok 5 ?_;simp only[go_sem,qd,qb,reduceCtorEq,t19];obtain⟨c20,hc20,h⟩:=bind_some h;refine zo 9 (fun L τ=>L=[(35,.int .i64 x2),(48,.bool c20)]∧τ=[]) ?_ ?_
 · refine xj 39 rfl (fun hg39=>?_) (fun hg39=>?_)
   · have t21:=eq_true hg39;rw[if_pos hg39] at hc20;obtain⟨y22,hy22,hc20⟩:=bind_some hc20;have f23:=E34.idxS hy22;have f24:=E34.loadS rfl rfl hy22;obtain⟨r25,hr25,hc20⟩:=zH hc20;refine zj tok 6 ?_;simp only[go_sem,qd,qb,reduceCtorEq,cellsGEntry,yq,f23,f24];refine clN rfl rfl rfl (xX.ev y22 a1 r25 hr25 _) ?_;refine rnN 2 ?_;cases hc20;refine zb ⟨rfl,_,_,⟨rfl,rfl⟩,.p t21⟩
   have t26:=eq_false hg39;rw[if_neg hg39] at hc20;refine rnN 9 ?_;cases hc20;refine zb ⟨rfl,_,_,⟨rfl,rfl⟩,.p t26⟩
 rintro _ _ ⟨rfl,rfl⟩;refine rnN 2 ?_;refine nkN hK ?_;cases h;exact rtA
def xi (a0:GEntry)(a1:GMessage):Option Bool:=
 bnd (yG a1 a0.fTag) fun r1=>(if r1.1.fLabel=1 then (YS a0.fTrees 0).bind fun y2=>bnd (wL y2) fun r5=>some r5 else some false).bind fun c2=>some c2
theorem xi.ok (a0:GEntry)(a1:GMessage)(r:Bool)(h:xi a0 a1=some r):ACalls qg 197 [.agg (cellsGEntry a0),.dp (encGMessage a1) 0] [] (fun r' _=>r'=.bool r):=by
 refine zf (rs:=[.tmp 3]) tok Tryz.func197 rfl Tryz.ntmps197 rfl Tryz.call197 (by simp) ?_;refine zk [(0,.agg (cellsGEntry a0)),(1,.dp (encGMessage a1) 0)] ⟨rfl,rfl,trivial⟩ ?_;unfold xi at h
 refine rg tok [1,2] fun K hK=>?_
 simp only[go_sem,qd,qb,qe,reduceCtorEq,cellsGEntry];apply hK
 refine rc [2,4] fun K hK=>?_
 obtain⟨r1,hr1,h⟩:=zH h;refine zj tok 3 ?_;simp only[go_sem,qd,qf,qb,qe,encGMessage,Xe];refine clN rfl rfl rfl (yG.ev a1 a0.fTag r1 hr1 _) ?_;refine zj tok 6 ?_;simp only[go_sem,qd,qf,qb,qe,encGField];refine nkN hK ?_
 refine rc [3] fun K hK=>?_
 refine rnN 4 ?_;obtain⟨c2,hc2,h⟩:=bind_some h;refine zo 6 (fun L τ=>L=[(22,.bool c2)]∧τ=[.cells 0 (cellsGEntry a0),.cells 0 (encGField r1.1)]) ?_ ?_
 · refine xj 16 rfl (fun hg16=>?_) (fun hg16=>?_)
   · have t3:=eq_true hg16;rw[if_pos hg16] at hc2;obtain⟨y4,hy4,hc2⟩:=bind_some hc2;have f5:=E38.idxS hy4;have f6:=E38.loadS rfl rfl hy4;obtain⟨r7,hr7,hc2⟩:=zH hc2;refine zj tok 4 ?_;simp only[go_sem,qd,qb,qe,cellsGTree,zM,f5,f6];refine clN rfl rfl rfl (wL.ev y4 r7 hr7 _) ?_;refine rnN 1 ?_;cases hc2;refine zb ⟨rfl,_,_,⟨rfl,rfl⟩,.p t3⟩
   have t8:=eq_false hg16;rw[if_neg hg16] at hc2;refine rnN 6 ?_;cases hc2;refine zb ⟨rfl,_,_,⟨rfl,rfl⟩,.p t8⟩
 rintro _ _ ⟨rfl,rfl⟩;refine rnN 1 ?_;refine nkN hK ?_;cases h;exact rtA
theorem xi.ev (a0:GEntry)(a1:GMessage)(r:Bool)(h:xi a0 a1=some r)(σ:Store):ACalls qg 197 [.agg (cellsGEntry a0),.dp (encGMessage a1) 0] σ (fun r' σ'=>r'=.bool r∧σ'=σ):=
 (xi.ok a0 a1 r h).c σ
def zs.l4 (a1_0:GMessage):List GEntry→Int→Option Int
 |[],x2=>some (-1)
 |y4::q4,x2=>(xi y4 a1_0).bind fun r10=>(if r10=true then some x2 else ((zs.l4 a1_0 q4) (x2+1)))
def zs (a0:List GEntry)(a1_0:GMessage):Option Int:=
 (zs.l4 a1_0 a0 0)
theorem zs.ok (a0:List GEntry)(a1_0:GMessage)(r:Int)(h:zs a0 a1_0=some r):ACalls qg 235 [.ds true (qc encGEntry a0) (qa a0) false,.fn (.func 197) [] [.dp (encGMessage a1_0) 0]] [] (fun r' _=>r'=.int .i64 r):=by
 refine zf (rs:=[.tmp 4]) tok Tryz.func235 rfl Tryz.ntmps235 rfl Tryz.call235 (by simp) ?_;refine zk [(0,.ds true (qc encGEntry a0) (qa a0) false),(1,.fn (.func 197) [] [.dp (encGMessage a1_0) 0])] ⟨rfl,rfl,trivial⟩ ?_;unfold zs at h;refine rgN [0,1] ?_
 refine za fun Z1 hZ1=>?_
 refine rgN [0,1,7,8] ?_;apply ze
 refine yl 0 fun hb4=>?_
 replace hb4:qa a0≤9223372036854775807:=hb4.1;refine zN (fun m L τ=>∃ (p4 q4:List GEntry) (x2:Int),m=qa q4∧L=[(0,.ds true (qc encGEntry a0) (qa a0) false),(1,.fn (.func 197) [] [.dp (encGMessage a1_0) 0]),(7,.int .i64 (qa a0:Int)),(8,.int .i64 x2)]∧τ=[]∧a0=p4++q4∧x2=(qa p4:Int)∧zs.l4 a1_0 q4 x2=some r) _ ⟨[],a0,0,rfl,rfl,rfl,rfl,rfl,h⟩ .s ?_;rintro m L τ ⟨p4,q4,x2,rfl,rfl,rfl,hE4,hi4,h⟩
 rcases q4 with _|⟨y4,q4⟩
 · have hz4:=yJ hE4 hi4;simp only[zs.l4] at h
   refine rg tok [0,1,7,8,9] fun K hK=>?_
   simp only[go_sem,qd,qb,reduceCtorEq,hz4];apply hK
   refine za fun Z5 hZ5=>?_
   refine zp rfl ?_;apply zI;apply hZ1;refine rgN [4] ?_;cases h;exact rtA
 obtain⟨hz4,hw4,hx4,hE'4,hi'4⟩:=yk hE4 hi4 hb4;simp only[zs.l4] at h
 refine rg tok [0,1,7,8,9] fun K hK=>?_
 simp only[go_sem,qd,qb,reduceCtorEq,hz4];apply hK
 refine za fun Z6 hZ6=>?_
 refine zq rfl ?_;apply zd;apply hZ6
 refine za fun Z7 hZ7=>?_
 apply ze;refine rgN [0,1,5,7,8] ?_
 refine rc [0,1,5,7,8,16] fun K hK=>?_
 have f8:=E34.idxS hx4;have f9:=E34.loadS rfl rfl hx4;obtain⟨r10,hr10,h⟩:=bind_some h;refine zj tok 5 ?_;simp only[go_sem,qd,qb,reduceCtorEq,cellsGEntry,yq,f8,f9];refine clN rfl rfl rfl (xi.ev y4 a1_0 r10 hr10 _) ?_;refine nkN hK ?_;refine zw (b:=r10) rfl (fun hc11=>?_) (fun hc11=>?_)
 · rw[if_pos hc11] at h;refine rgN [4] ?_;cases h;exact rtA
 rw[xU hc11] at h;apply zd;apply hZ7
 refine rgE tok [0,1,7,8] fun K hK=>?_
 simp only[go_sem,qd,qb,reduceCtorEq,hw4];apply hK
 exact⟨_,_,_,qw q4.length,⟨p4++[y4],q4,x2+1,rfl,rfl,rfl,hE'4,hi'4,h⟩,.s⟩
def zU.j4 (m4_1:GTree):Option (GTree×Int):=
 some (m4_1,0)
def zU.j6 (zA:GSchema→GMessage→(List UInt8)→Int→Option (GTree×Int))(a0:GSchema)(a1:GType)(a2:GRaw)(a3:Int)(m4_1:GTree)(x5:Bool):Option (GTree×Int):=
 (if x5=true then bnd (xW a1 a2.fN) fun r8=>(if (!r8)=true then some ((⟨0,0,[],([]:List GEntry),([]:List GRaw)⟩:GTree),11) else (zU.j4 m4_1)) else (if a1.fKind=4 then (xb a2.fB).bind fun r12=>(if (!r12)=true then some ((⟨0,0,[],([]:List GEntry),([]:List GRaw)⟩:GTree),9) else (zU.j4 m4_1)) else (if a1.fKind=7 then bnd (zK a0 a1.fName) fun r17=>(grd (qa a2.fB≤9223372036854775807)).bind fun _u18=>(zA a0 r17.1 a2.fB (IntKind.i64.wrap (a3+1))).bind fun r20=>some (r20.1,r20.2) else (zU.j4 m4_1))))
def zU.j3 (zA:GSchema→GMessage→(List UInt8)→Int→Option (GTree×Int))(a0:GSchema)(a1:GType)(a2:GRaw)(a3:Int)(m4_1:GTree):Option (GTree×Int):=
 (if a1.fKind=3 then (zU.j6 zA a0 a1 a2 a3 m4_1 (decide (a1.fKind=3))) else (zU.j6 zA a0 a1 a2 a3 m4_1 (decide (a1.fKind=6))))
def zU.j26 (zA:GSchema→GMessage→(List UInt8)→Int→Option (GTree×Int))(a0:GSchema)(a1:GType)(a2:GRaw)(a3:Int)(m4_1:GTree)(x25:Bool):Option (GTree×Int):=
 (if x25=true then (if a2.fWire=1 then (zU.j3 zA a0 a1 a2 a3 m4_1) else some ((⟨0,0,[],([]:List GEntry),([]:List GRaw)⟩:GTree),8)) else (if a2.fWire=0 then (zU.j3 zA a0 a1 a2 a3 m4_1) else some ((⟨0,0,[],([]:List GEntry),([]:List GRaw)⟩:GTree),8)))
def zU.j2 (zA:GSchema→GMessage→(List UInt8)→Int→Option (GTree×Int))(a0:GSchema)(a1:GType)(a2:GRaw)(a3:Int)(m4_1:GTree):Option (GTree×Int):=
 (if a1.fKind=4 then (zU.j26 zA a0 a1 a2 a3 m4_1 (decide (a1.fKind=4))) else (if a1.fKind=5 then (zU.j26 zA a0 a1 a2 a3 m4_1 (decide (a1.fKind=5))) else (zU.j26 zA a0 a1 a2 a3 m4_1 (decide (a1.fKind=7)))))
def zU.body (zA:GSchema→GMessage→(List UInt8)→Int→Option (GTree×Int))(yM:GSchema→GType→GRaw→Int→Option (GTree×Int))(a0:GSchema)(a1:GType)(a2:GRaw)(a3:Int):Option (GTree×Int):=
 (if a2.fWire=1 then (zU.j2 zA a0 a1 a2 a3 (⟨2,0,a2.fB,([]:List GEntry),([]:List GRaw)⟩:GTree)) else (zU.j2 zA a0 a1 a2 a3 (⟨1,a2.fN,[],([]:List GEntry),([]:List GRaw)⟩:GTree)))
theorem zU.step (zA:GSchema→GMessage→(List UInt8)→Int→Option (GTree×Int))(yM:GSchema→GType→GRaw→Int→Option (GTree×Int))(X3:∀ (a0:GSchema) (a1:GMessage) (a2:List UInt8) (a3:Int) (r:GTree×Int),zA a0 a1 a2 a3=some r→ACalls qg 149 [.agg (encGSchema a0),.agg (encGMessage a1),.ds true (qc encB a2) (qa a2) false,.int .i64 a3] [] (fun r' _=>r'=.tup [.agg (cellsGTree r.1),.int .i64 r.2]))(YO:∀ (a0:GSchema) (a1:GType) (a2:GRaw) (a3:Int) (r:GTree×Int),yM a0 a1 a2 a3=some r→ACalls qg 194 [.agg (encGSchema a0),.agg (encGType a1),.agg (encGRaw a2),.int .i64 a3] [] (fun r' _=>r'=.tup [.agg (cellsGTree r.1),.int .i64 r.2]))(a0:GSchema)(a1:GType)(a2:GRaw)(a3:Int)(r:GTree×Int)(h:zU.body zA yM a0 a1 a2 a3=some r):ACalls qg 194 [.agg (encGSchema a0),.agg (encGType a1),.agg (encGRaw a2),.int .i64 a3] [] (fun r' _=>r'=.tup [.agg (cellsGTree r.1),.int .i64 r.2]):=by
 have ev_decode_message:=fun a0 a1 a2 a3 r h σ=>(X3 a0 a1 a2 a3 r h).c σ
 have ev_decode_one:=fun a0 a1 a2 a3 r h σ=>(YO a0 a1 a2 a3 r h).c σ
 refine zf (rs:=[.cell 8 37,.tmp 9]) tok Tryz.func194 rfl Tryz.ntmps194 rfl Tryz.call194 (by simp) ?_;refine zk [(0,.agg (encGSchema a0)),(1,.agg (encGType a1)),(2,.agg (encGRaw a2)),(3,.int .i64 a3)] ⟨rfl,rfl,rfl,rfl,trivial⟩ ?_;unfold zU.body at h
 refine rg tok [3,4,5,6,8] fun K hK=>?_
 simp only[go_sem,qd,qb,qe,reduceCtorEq,encGRaw,encGSchema,encGType];apply hK
 refine rgN [3,4,5,6,8,10] ?_;refine yR (fun L τ=>∃ (m4_1:GTree),L=[(3,.int .i64 a3),(4,.op 0 0 0),(5,.op 1 0 0),(6,.op 2 0 0),(8,.op 3 0 0),(10,.op 4 0 0)]∧τ=[.cells 0 (encGSchema a0),.cells 0 [.int .i64 a1.fKind,.str a1.fName],.cells 0 [.int .i64 a2.fTag,.int .i64 a2.fWire,.int .i64 a2.fN,.str a2.fB],.cells 0 [.int .i64 0,.int .i64 0,.str [],.ds true (qc encGEntry ([]:List GEntry)) (qa ([]:List GEntry)) false,.ds true (qc encGRaw ([]:List GRaw)) (qa ([]:List GRaw)) false],.cells 0 (cellsGTree m4_1)]∧zU.j2 zA a0 a1 a2 a3 m4_1=some r) ?_ ?_
 · refine rgN [3,4,5,6,8,10,18] ?_;refine zF rfl (fun hc40=>?_) (fun hc40=>?_)
   · rw[if_pos hc40] at h;have t41:=eq_true hc40
     refine rgE tok [3,4,5,6,8,10] fun K hK=>?_
     simp only[go_sem,qd,qf,qb,qe,t41];apply hK
     exact⟨_,_,⟨(⟨2,0,a2.fB,([]:List GEntry),([]:List GRaw)⟩:GTree),rfl,rfl,h⟩,(.t [0,1,2,3,4] true)⟩
   rw[if_neg hc40] at h;have t42:=eq_false hc40;apply zd;exact⟨_,_,⟨(⟨1,a2.fN,[],([]:List GEntry),([]:List GRaw)⟩:GTree),rfl,rfl,h⟩,(.t [0,1,2,3,4] true)⟩
 rintro _ _ ⟨m4_1,rfl,rfl,h⟩;unfold zU.j2 at h;refine yR (fun L τ=>L=[(3,.int .i64 a3),(4,.op 0 0 0),(5,.op 1 0 0),(6,.op 2 0 0),(8,.op 3 0 0),(10,.op 4 0 0)]∧τ=[.cells 0 (encGSchema a0),.cells 0 [.int .i64 a1.fKind,.str a1.fName],.cells 0 [.int .i64 a2.fTag,.int .i64 a2.fWire,.int .i64 a2.fN,.str a2.fB],.cells 0 [.int .i64 0,.int .i64 0,.str [],.ds true (qc encGEntry ([]:List GEntry)) (qa ([]:List GEntry)) false,.ds true (qc encGRaw ([]:List GRaw)) (qa ([]:List GRaw)) false],.cells 0 (cellsGTree m4_1)]∧zU.j3 zA a0 a1 a2 a3 m4_1=some r) ?_ ?_
 · refine rgN [3,4,5,6,8,10,23] ?_;apply ze;refine yR (fun L τ=>∃ (x25:Bool),L=[(3,.int .i64 a3),(4,.op 0 0 0),(5,.op 1 0 0),(6,.op 2 0 0),(8,.op 3 0 0),(10,.op 4 0 0),(28,.bool x25)]∧τ=[.cells 0 (encGSchema a0),.cells 0 [.int .i64 a1.fKind,.str a1.fName],.cells 0 [.int .i64 a2.fTag,.int .i64 a2.fWire,.int .i64 a2.fN,.str a2.fB],.cells 0 [.int .i64 0,.int .i64 0,.str [],.ds true (qc encGEntry ([]:List GEntry)) (qa ([]:List GEntry)) false,.ds true (qc encGRaw ([]:List GRaw)) (qa ([]:List GRaw)) false],.cells 0 (cellsGTree m4_1)]∧zU.j26 zA a0 a1 a2 a3 m4_1 x25=some r) ?_ ?_
   · refine rgN [3,4,5,6,8,10,23,28] ?_;refine zF rfl (fun hc34=>?_) (fun hc34=>?_)
     · rw[if_pos hc34] at h;have t35:=eq_true hc34;apply zd;exact⟨_,_,⟨decide (a1.fKind=4),rfl,rfl,h⟩,.s⟩
     rw[if_neg hc34] at h;have t36:=eq_false hc34
     refine rg tok [3,4,5,6,8,10,23,28] fun K hK=>?_
     simp only[go_sem,qd,qb,t36];apply hK
     refine zF rfl (fun hc37=>?_) (fun hc37=>?_)
     · rw[if_pos hc37] at h;have t38:=eq_true hc37;apply zd;exact⟨_,_,⟨decide (a1.fKind=5),rfl,rfl,h⟩,.s⟩
     rw[if_neg hc37] at h;have t39:=eq_false hc37
     refine rgE tok [3,4,5,6,8,10,28] fun K hK=>?_
     simp only[go_sem,qd,qb,t39];apply hK
     exact⟨_,_,⟨decide (a1.fKind=7),rfl,rfl,h⟩,.s⟩
   rintro _ _ ⟨x25,rfl,rfl,h⟩;unfold zU.j26 at h;refine zw (b:=x25) rfl (fun hc27=>?_) (fun hc27=>?_)
   · rw[if_pos hc27] at h;refine rgN [3,4,5,6,8,10,34] ?_;refine zF rfl (fun hc28=>?_) (fun hc28=>?_)
     · rw[if_neg hc28] at h;have t29:=eq_false hc28
       refine rg tok [8,9] fun K hK=>?_
       simp only[go_sem,qd,qf,qb,qe,t29];apply hK
       cases h;exact rtA
     rw[if_pos hc28] at h;have t30:=eq_true hc28;apply zd;exact⟨_,_,⟨rfl,rfl,h⟩,.s⟩
   rw[xU hc27] at h;refine rgN [3,4,5,6,8,10,26] ?_;refine zF rfl (fun hc31=>?_) (fun hc31=>?_)
   · rw[if_neg hc31] at h;have t32:=eq_false hc31
     refine rg tok [8,9] fun K hK=>?_
     simp only[go_sem,qd,qf,qb,qe,t32];apply hK
     cases h;exact rtA
   rw[if_pos hc31] at h;have t33:=eq_true hc31;apply zd;exact⟨_,_,⟨rfl,rfl,h⟩,.s⟩
 rintro _ _ ⟨rfl,rfl,h⟩;unfold zU.j3 at h;refine yR (fun L τ=>L=[(8,.op 0 0 0),(10,.op 1 0 0)]∧τ=[.cells 0 [.int .i64 0,.int .i64 0,.str [],.ds true (qc encGEntry ([]:List GEntry)) (qa ([]:List GEntry)) false,.ds true (qc encGRaw ([]:List GRaw)) (qa ([]:List GRaw)) false],.cells 0 (cellsGTree m4_1)]∧zU.j4 m4_1=some r) ?_ ?_
 · refine rgN [3,4,5,6,8,10,37] ?_;apply ze;refine yR (fun L τ=>∃ (x5:Bool),L=[(3,.int .i64 a3),(4,.op 0 0 0),(5,.op 1 0 0),(6,.op 2 0 0),(8,.op 3 0 0),(10,.op 4 0 0),(37,.int .i64 a1.fKind),(38,.bool x5)]∧τ=[.cells 0 (encGSchema a0),.cells 0 [.int .i64 a1.fKind,.str a1.fName],.cells 0 [.int .i64 a2.fTag,.int .i64 a2.fWire,.int .i64 a2.fN,.str a2.fB],.cells 0 [.int .i64 0,.int .i64 0,.str [],.ds true (qc encGEntry ([]:List GEntry)) (qa ([]:List GEntry)) false,.ds true (qc encGRaw ([]:List GRaw)) (qa ([]:List GRaw)) false],.cells 0 (cellsGTree m4_1)]∧zU.j6 zA a0 a1 a2 a3 m4_1 x5=some r) ?_ ?_
   · refine rgN [3,4,5,6,8,10,37,38] ?_;refine zF rfl (fun hc22=>?_) (fun hc22=>?_)
     · rw[if_pos hc22] at h;have t23:=eq_true hc22;apply zd;exact⟨_,_,⟨decide (a1.fKind=3),rfl,rfl,h⟩,.s⟩
     rw[if_neg hc22] at h;have t24:=eq_false hc22
     refine rgE tok [3,4,5,6,8,10,37,38] fun K hK=>?_
     simp only[go_sem,qd,qb,t24];apply hK
     exact⟨_,_,⟨decide (a1.fKind=6),rfl,rfl,h⟩,.s⟩
   rintro _ _ ⟨x5,rfl,rfl,h⟩;unfold zU.j6 at h;refine zw (b:=x5) rfl (fun hc7=>?_) (fun hc7=>?_)
   · rw[if_pos hc7] at h
     refine rc [8,10,45] fun K hK=>?_
     obtain⟨r8,hr8,h⟩:=zH h;refine rnN 3 ?_;refine clN rfl rfl rfl (xW.ev a1 a2.fN r8 hr8 _) ?_;refine rnN 1 ?_;refine nkN hK ?_;refine zw (b:=(!r8)) rfl (fun hc9=>?_) (fun hc9=>?_)
     · rw[if_pos hc9] at h;refine rgN [8,9] ?_;cases h;exact rtA
     rw[xU hc9] at h;apply zd;exact⟨_,_,⟨rfl,rfl,h⟩,(.t [3,4] false)⟩
   rw[xU hc7] at h;refine rgN [3,4,5,6,8,10,37,47] ?_;refine zF rfl (fun hc10=>?_) (fun hc10=>?_)
   · rw[if_pos hc10] at h;have t11:=eq_true hc10
     refine rc [8,10,52] fun K hK=>?_
     obtain⟨r12,hr12,h⟩:=bind_some h;refine zj tok 2 ?_;simp only[go_sem,qd,qb,qe,t11];refine clN rfl rfl rfl (xb.ev a2.fB r12 hr12 _) ?_;refine rnN 1 ?_;refine nkN hK ?_;refine zw (b:=(!r12)) rfl (fun hc13=>?_) (fun hc13=>?_)
     · rw[if_pos hc13] at h;refine rgN [8,9] ?_;cases h;exact rtA
     rw[xU hc13] at h;apply zd;exact⟨_,_,⟨rfl,rfl,h⟩,(.t [3,4] false)⟩
   rw[if_neg hc10] at h;have t14:=eq_false hc10
   refine rg tok [3,4,5,6,8,10,54] fun K hK=>?_
   simp only[go_sem,qd,qb,t14];apply hK
   refine zF rfl (fun hc15=>?_) (fun hc15=>?_)
   · rw[if_pos hc15] at h;have t16:=eq_true hc15
     refine rc [3,4,6,8,11] fun K hK=>?_
     obtain⟨r17,hr17,h⟩:=zH h;refine zj tok 3 ?_;simp only[go_sem,qd,qf,qb,qe,t16];refine clN rfl rfl rfl (zK.ev a0 a1.fName r17 hr17 _) ?_;refine zj tok 6 ?_;simp only[go_sem,qd,qf,qb,qe,encGMessage];refine nkN hK ?_
     refine rc [8,9] fun K hK=>?_
     obtain⟨_u18,hu18,h⟩:=bind_some h;have gu18:=wF hu18;have gu18t:=eq_true gu18;have f19:=conv_s2b (T:=tab) (src:=9) (dst:=48) rfl rfl rfl rfl rfl rfl (wF hu18);obtain⟨r20,hr20,h⟩:=bind_some h;refine zj tok 7 ?_;simp only[go_sem,qd,qf,qb,qe,f19];refine Xb (L:=[(8,.op 0 0 0),(63,.agg (encGSchema a0)),(64,.agg (encGMessage r17.1)),(67,.ds true (qc encB a2.fB) (qa a2.fB) false),(69,.int .i64 (IntKind.i64.wrap (a3+1)))]) (τ:=[.cells 0 [.int .i64 0,.int .i64 0,.str [],.ds true (qc encGEntry ([]:List GEntry)) (qa ([]:List GEntry)) false,.ds true (qc encGRaw ([]:List GRaw)) (qa ([]:List GRaw)) false]]) (.t [3] false) ?_;refine clN rfl rfl rfl (ev_decode_message a0 r17.1 a2.fB (IntKind.i64.wrap (a3+1)) r20 hr20 _) ?_;refine zj tok 4 ?_;simp only[go_sem,qd,qf,qb,qe,cellsGTree,encGMessage,encGSchema];refine nkN hK ?_;cases h;exact rtA
   rw[if_neg hc15] at h;have t21:=eq_false hc15;apply zd;exact⟨_,_,⟨rfl,rfl,h⟩,(.t [3,4] false)⟩
 rintro _ _ ⟨rfl,rfl,h⟩;unfold zU.j4 at h;refine rgN [8,9] ?_;cases h;exact rtA
end
section
open Go.RowKit AM
theorem setRun_ins (cs new:List AV)(k:Nat)(hk:k≤cs.length)(hn:new.length=2):
 y0 (y0 (cs++[.u,.u]) (k+2) (cs.drop k)) k new=cs.take k++(new++cs.drop k):=by
 have e0:cs++[AV.u,.u]=(cs.take k++((cs.drop k++[AV.u,.u]).take 2))++(((cs.drop k++[AV.u,.u]).drop 2)++[]):=by
  rw[q1,ue,ug,← ue,ug]
 have l1:((cs.drop k++[AV.u,.u]).take 2).length=2:=by simp
 have l2:(cs.take k++((cs.drop k++[AV.u,.u]).take 2)).length=k+2:=by rw[qG,l1,uN,Nat.min_eq_left hk]
 have e1:y0 (cs++[.u,.u]) (k+2) (cs.drop k)=(cs.take k++((cs.drop k++[AV.u,.u]).take 2))++(cs.drop k++[]):=by
  rw[e0,← l2];exact Zy (cs.drop k) _ _ [] (by simp)
 rw[e1,q1,ue]
 have l3:(cs.take k).length=k:=by rw[uN,Nat.min_eq_left hk]
 have:=Zy new (cs.take k) ((cs.drop k++[AV.u,.u]).take 2) (cs.drop k) (by rw[l1,hn]);rw[l3] at this;exact this
theorem all_drop {l:List AV}{k:Nat}(h:l.all AV.one=true):(l.drop k).all AV.one=true:=by
 rw[ud] at *
 exact fun x hx=>h x (List.mem_of_mem_drop hx)
theorem frozen_end {E:Env}{b:Nat}{cs:List AV}(h:Blk E b cs){t:TypeId}{m:Nat}(hs:E.w.shape? b=some (t,m))(ht:tsize t=2)(o:Nat):E.w.frozen? ⟨b,o,none⟩=false:=by
 obtain⟨conc,t',fr,a1,a2,a3,a4⟩:=h.blk
 have:t'=t:=by simp only[World.shape?,a1,Option.some.injEq,Prod.mk.injEq] at hs; exact hs.1
 subst this
 have he:fr.1=fr.2:=by
  rcases a2 with h|⟨_,h⟩
  · exact h
  omega
 obtain⟨lo,hi⟩:=fr;simp only[World.frozen?,a1];simp only at he;simp only[Bool.and_eq_false_iff,decide_eq_false_iff_not]
 omega
set_option maxHeartbeats 4000000 in
set_option maxRecDepth 100000 in
theorem ins_shift {E:Env}{σ:Store}(hS:SR E σ){id ver n i b cap vid vver vb:Nat}{cells new:List AV}(hcs:Store.at σ id ver=some cells)(hlen:cells.length=n*2)(hone:cells.all AV.one=true)(hi:i<n)
 (hloc:E.loc id=some (ver,some b)) (hok:E.ok id ver) {t m:Nat} (hsh:E.w.shape? b=some (t,m)) (hts:tsize t=2) (hm:cap*2≤m) (hroom:n+1≤cap) (hn:(n+1)*32≤140737488355328)
 (hv:Store.at σ vid vver=some new) (hnew:new.length=2) (honev:new.all AV.one=true) (hvid:vid≠id) (hvloc:E.loc vid=some (vver,some vb)) (hvok:E.ok vid vver) {tv mv:Nat} (hvsh:E.w.shape? vb=some (tv,mv)) (hvts:tsize tv=2) (hvc:2≤mv):
 Calls qg 234 #[.slice (some ⟨b,0,none⟩) n cap,.int .i64 i,.slice (some ⟨vb,0,none⟩) 1 1] E.w fun e w'=>
  ∃ E',e=.returned (.slice (some ⟨b,0,none⟩) (n+1) cap)∧w'=E'.w∧VR E' (.os true 2 id ver 0 (n+1) false) (.slice (some ⟨b,0,none⟩) (n+1) cap)∧SR E' (σ.set id (.cells ver (cells.take (i*2)++(new++cells.drop (i*2)))))∧Ext E E':=by
 have hvb:vb≠b:=fun e=>hvid (hS.inj _ _ _ _ b (e▸hvloc) hloc)
 have hB1:Blk E b cells:=by
  rcases hS.at hcs with ⟨b',h1,h2⟩|⟨_,h1⟩
  · rw[hloc] at h1; cases h1; exact h2
  rw[hloc] at h1; cases h1
 have hB2:Blk E vb new:=by
  rcases hS.at hv with ⟨b',h1,h2⟩|⟨_,h1⟩
  · rw[hvloc] at h1; cases h1; exact h2
  rw[hvloc] at h1; cases h1
 have hSw:=hS.widen hcs hloc hsh 2 (by omega);obtain⟨hS1,hx1⟩:=hSw.grew (ZY.drew E.w);have hcsw:Store.at (σ.set id (.cells ver (cells++qH 2 AV.u))) id ver=some (cells++qH 2 AV.u):=Store.at_set hcs;have hlt:=Store.at_lt hcs
 have hvw:Store.at (σ.set id (.cells ver (cells++qH 2 AV.u))) vid vver=some new:=by
  unfold Store.at at hv ⊢; rw[qQ (fun e=>hvid e.symm)]; exact hv
 have os1:∀ {E':Env} (hx:Ext E E') (k:Nat),k≤n→VR E' (.os true 2 id ver (k*2) (n+1-k) false) (.slice (some ⟨b,k*2,none⟩) (n+1-k) (cap-k)):=by
  intro E' hx k hk
  refine VR.ext hx (.os _ _ _ _ _ _ _ _ _ hok (by omega) (fun h=>by cases h) (by omega) fun ob hob=>?_)
  rw[hloc] at hob; cases hob
  exact⟨b,rfl,.inr rfl,t,m,hsh,hts,by omega⟩
 have osv:∀ {E':Env} (hx:Ext E E'),VR E' (.os true 2 vid vver 0 1 true) (.slice (some ⟨vb,0,none⟩) 1 1):=by
  intro E' hx
  refine VR.ext hx (.os _ _ _ _ _ _ _ _ _ hvok (by omega) (fun _=>rfl) (by omega) fun ob hob=>?_)
  rw[hvloc] at hob; cases hob
  exact⟨vb,rfl,.inr rfl,tv,mv,hvsh,hvts,by omega⟩
 have hov:∀ lb cb,(callFunc 247 #[.slice (some ⟨vb,0,none⟩) 1 1,.slice (some ⟨b,(i+1)*2,none⟩) lb cb]).run qg E.w=.ok (.value (.bool false)) E.w:=fun lb cb=>by
  rw[run_callFunc_extern Tryz.func247 (by kernel_rfl) (by kernel_rfl) (by kernel_rfl) (e:=Extern.SlicesOverlaps.overlaps #[34,34] #[4]) (by kernel_rfl),
   Lib.run_overlaps_apart E.w 34 4 40 (tok _ _ YX).desc 2 (fun w=>xE w (tok _ _ YW)) ⟨vb,0,none⟩ ⟨b,(i+1)*2,none⟩ 1 1 lb cb hvb tv t mv m hvsh hsh (by omega) (frozen_end hB2 hvsh hvts _) (frozen_end hB2 hvsh hvts _)]
  rfl
 have hdl:(cells.drop (i*2)).length=(n-i)*2:=by rw[List.length_drop,hlen,Nat.sub_mul]
 have hlw:(cells++qH 2 AV.u).length=(n+1)*2:=by rw[qG,hlen,List.length_replicate,uR]
 have hW:∀ ty,∃ v E2,(Builtin.copy_ #[34,34] ty #[.slice (some ⟨b,(i+1)*2,none⟩) (n+1-(i+1)) (cap-(i+1)),.slice (some ⟨b,i*2,none⟩) (n+1-i) (cap-i)]).run qg E.w.drew=.ok v E2.w∧
  SR E2 (σ.set id (.cells ver (y0 (cells++[.u,.u]) (i*2+2) (cells.drop (i*2)))))∧Ext E E2:=by
  intro ty
  have hx0:Ext E { E with w:=E.w.drew }:=hx1;have hd:=os1 hx0 (i+1) (by omega);have hs:=os1 hx0 i (by omega)
  have hev:Yz tab 34 (.os true 2 id ver ((i+1)*2) (n+1-(i+1)) false) (.os true 2 id ver (i*2) (n+1-i) false) (σ.set id (.cells ver (cells++qH 2 AV.u)))=
   some (.int .i64 ((min (n+1-i) (n+1-(i+1)):Nat):Int),(σ.set id (.cells ver (cells++qH 2 AV.u))).set id (.cells ver (y0 (cells++qH 2 AV.u) ((i+1)*2) (cells.drop (i*2))))):=by
   have e1:z1 (σ.set id (.cells ver (cells++qH 2 AV.u))) 2 (.os true 2 id ver (i*2) (n+1-i) false)=some (n+1-i,((cells++qH 2 AV.u).drop (i*2)).take ((n+1-i)*2)):=by
    simp only[z1,hcsw];rw[if_pos (by rw[hlw,← uR]; exact qY _ (by omega))]
   have e2:min (n+1-i) (n+1-(i+1))=n-i:=by omega
   have e3:(((cells++qH 2 AV.u).drop (i*2)).take ((n+1-i)*2)).take ((n-i)*2)=cells.drop (i*2):=by
    rw[List.take_take,Nat.min_eq_left (qY _ (by omega)),List.drop_append_of_le_length (by rw[hlen]; exact qY _ (by omega)),List.take_append_of_le_length (by rw[hdl]; exact qu _),← hdl,qV]
   have hp:wX (σ.set id (.cells ver (cells++qH 2 AV.u))) (.os true 2 id ver ((i+1)*2) (n+1-(i+1)) false) (n-i) 2 (cells.drop (i*2))=some ((σ.set id (.cells ver (cells++qH 2 AV.u))).set id (.cells ver (y0 (cells++qH 2 AV.u) ((i+1)*2) (cells.drop (i*2))))):=by
    unfold wX;rw[if_neg (by omega)];simp only[hcsw];rw[if_pos ⟨trivial,by rw[hlw,hdl,← uR]; exact qY _ (by omega),all_drop hone⟩]
   simp only[Yz,YX,YW,ti34,ti40,e1,e2,e3,hp]
  obtain⟨v,E2,h1,h2,h3,h4⟩:=Ys (P:=qg) (st:=34) (ty:=ty) tok hS1 hd hs hev;refine⟨v,E2,h1,?_,hx0.trans h4⟩;rw[List.set_set] at h3
  have e:(i+1)*2=i*2+2:=by omega
  rw[e] at h3;exact h3
 obtain⟨v1,E2,hc1,hS2,hx2⟩:=hW 3;rw[show n+1-(i+1)=n-i by omega] at hc1;have hcs2:Store.at (σ.set id (.cells ver (y0 (cells++[.u,.u]) (i*2+2) (cells.drop (i*2))))) id ver=some (y0 (cells++[.u,.u]) (i*2+2) (cells.drop (i*2))):=Store.at_set hcs
 have hv2:Store.at (σ.set id (.cells ver (y0 (cells++[.u,.u]) (i*2+2) (cells.drop (i*2))))) vid vver=some new:=by
  unfold Store.at at hv ⊢; rw[qQ (fun e=>hvid e.symm)]; exact hv
 have hW2:∃ v E3,(Builtin.copy_ #[34,34] 3 #[.slice (some ⟨b,i*2,none⟩) (n+1-i) (cap-i),.slice (some ⟨vb,0,none⟩) 1 1]).run qg E2.w=.ok v E3.w∧
  SR E3 (σ.set id (.cells ver (cells.take (i*2)++(new++cells.drop (i*2)))))∧Ext E E3:=by
  have hd:=os1 hx2 i (by omega);have hs:=osv hx2
  have hev:Yz tab 34 (.os true 2 id ver (i*2) (n+1-i) false) (.os true 2 vid vver 0 1 true) (σ.set id (.cells ver (y0 (cells++[.u,.u]) (i*2+2) (cells.drop (i*2)))))=
   some (.int .i64 ((min 1 (n+1-i):Nat):Int),(σ.set id (.cells ver (y0 (cells++[.u,.u]) (i*2+2) (cells.drop (i*2))))).set id (.cells ver (y0 (y0 (cells++[.u,.u]) (i*2+2) (cells.drop (i*2))) (i*2) new))):=by
   have e1:z1 (σ.set id (.cells ver (y0 (cells++[.u,.u]) (i*2+2) (cells.drop (i*2))))) 2 (.os true 2 vid vver 0 1 true)=some (1,new):=by
    simp only[z1,hv2];rw[if_pos (by omega),qv,← hnew,Nat.one_mul] ;rw[show new.length=new.length from rfl,qV]
   have e2:min 1 (n+1-i)=1:=by omega
   have e3:new.take (1*2)=new:=by rw[Nat.one_mul,← hnew,qV]
   have hp:wX (σ.set id (.cells ver (y0 (cells++[.u,.u]) (i*2+2) (cells.drop (i*2))))) (.os true 2 id ver (i*2) (n+1-i) false) 1 2 new=some ((σ.set id (.cells ver (y0 (cells++[.u,.u]) (i*2+2) (cells.drop (i*2))))).set id (.cells ver (y0 (y0 (cells++[.u,.u]) (i*2+2) (cells.drop (i*2))) (i*2) new))):=by
    unfold wX;rw[if_neg (by omega)];simp only[hcs2];rw[if_pos ⟨trivial,by rw[YN,hnew]; simp only[qG,qs,qt,hlen]; omega,honev⟩]
   simp only[Yz,YX,YW,ti34,ti40,e1,e2,e3,hp]
  obtain⟨v,E3,h1,h2,h3,h4⟩:=Ys (P:=qg) (st:=34) (ty:=3) tok hS2 hd hs hev;refine⟨v,E3,h1,?_,hx2.trans h4⟩;rw[List.set_set,setRun_ins _ _ _ (by omega) hnew] at h3;exact h3
 obtain⟨v2,E3,hc2,hS3,hx3⟩:=hW2;have hfin:=os1 hx3 0 (uu _);rw[q9,uE,uE] at hfin
 have hz1:¬ ((i:Int)=(n:Int)):=by omega
 have hw1:IntKind.i64.wrap ((i:Int)+1)=(i:Int)+1:=by rw[IntKind.wrap_i64]; omega
 have hw2:IntKind.i64.wrap ((n:Int)+1)=(n:Int)+1:=by rw[IntKind.wrap_i64]; omega
 have hb1:(0:Int)≤(i:Int)+1:=by omega
 have hin:i≤n:=by omega
 have htn:((i:Int)+1).toNat=i+1:=by omega
 have hb2:¬ (cap=i+1):=by omega
 have hb3:(i:Int)≤(n:Int)+1:=by omega
 have hb4:¬ (cap=i):=by omega
 have mixed:Tryz.prog.follows .mixedOrders=true:=by kernel_rfl
 clear hS hcs hcsw hvw hcs2 hv2 hS1 hSw os1 osv hB1 hB2 hW
 go_enter Tryz.func234,Tryz.ntmps234
 go_wp2_with (simp only[hov])
 go_region_law_o (refine step_copy_runI rfl _ _ 34 34 rfl _ _ (by simp[Act.eval,Act.put]) (by simp[Act.eval,Act.put]) hc1 ?_)
 go_wp2_with (at_builtin; refine wpList_copy_runI _ rfl _ _ 34 34 rfl _ _ rfl rfl hc2 ?_)
 go_ret
 exact⟨E3,rfl,rfl,hfin,hS3,hx3⟩
theorem setRun_ins2 (cs new:List AV)(k:Nat)(hk:k≤cs.length)(hn:new.length=2)(q:Nat)(hq:q=cs.length-k+2):
 y0 (y0 (cs.take k++qH q AV.u) k new) (k+2) (cs.drop k)=cs.take k++(new++cs.drop k):=by
 have l3:(cs.take k).length=k:=by rw[uN,Nat.min_eq_left hk]
 have e0:cs.take k++qH q AV.u=cs.take k++(qH 2 AV.u++qH (cs.length-k) AV.u):=by
  rw[List.replicate_append_replicate,hq,Nat.add_comm]
 have e1:y0 (cs.take k++qH q AV.u) k new=cs.take k++(new++qH (cs.length-k) AV.u):=by
  rw[e0];have:=Zy new (cs.take k) (qH 2 AV.u) (qH (cs.length-k) AV.u) (by simp[hn])
  rw[l3] at this; exact this
 have l4:(cs.take k++new).length=k+2:=by rw[qG,l3,hn]
 rw[e1,← ue,← l4];have:=Zy (cs.drop k) (cs.take k++new) (qH (cs.length-k) AV.u) [] (by simp);rw[q1,q1] at this;rw[this,ue]
set_option maxHeartbeats 4000000 in
set_option maxRecDepth 100000 in
theorem ins_grow {E:Env}{σ:Store}(hS:SR E σ){id ver n i b vid vver vb:Nat}{cells new:List AV}(hcs:Store.at σ id ver=some cells)(hlen:cells.length=n*2)(hone:cells.all AV.one=true)(hi:i<n)
 (hloc:E.loc id=some (ver,some b)) (hok:E.ok id ver) {t m:Nat} (hsh:E.w.shape? b=some (t,m)) (hts:tsize t=2) (hm:n*2≤m) (hn:(n+1)*32≤140737488355328)
 (hv:Store.at σ vid vver=some new) (hnew:new.length=2) (honev:new.all AV.one=true) (hvid:vid≠id) (hvloc:E.loc vid=some (vver,some vb)) (hvok:E.ok vid vver) {tv mv:Nat} (hvsh:E.w.shape? vb=some (tv,mv)) (hvts:tsize tv=2) (hvc:2≤mv):
 Calls qg 234 #[.slice (some ⟨b,0,none⟩) n n,.int .i64 i,.slice (some ⟨vb,0,none⟩) 1 1] E.w fun e w'=>
  ∃ E' v,e=.returned v∧w'=E'.w∧VR E' (.os true 2 σ.length 0 0 (n+1) false) v∧SR E' (σ++[.cells 0 (cells.take (i*2)++(new++cells.drop (i*2)))])∧Ext E E'∧∀ i2 v2 nb,E.loc i2=some (v2,some nb)→E'.loc σ.length=some (0,some nb)→False:=by
 have hvb:vb≠b:=fun e=>hvid (hS.inj _ _ _ _ b (e▸hvloc) hloc)
 have hlt:=Store.at_lt hcs;have hltv:=Store.at_lt hv;obtain⟨hS1,hx1⟩:=hS.grew (ZY.drew E.w)
 have os1:∀ {E':Env} (hx:Ext E E') (k q:Nat),k+q≤n→VR E' (.os true 2 id ver (k*2) q false) (.slice (some ⟨b,k*2,none⟩) q (n-k)):=by
  intro E' hx k q hk
  refine VR.ext hx (.os _ _ _ _ _ _ _ _ _ hok (by omega) (fun h=>by cases h) (by omega) fun ob hob=>?_)
  rw[hloc] at hob; cases hob
  exact⟨b,rfl,.inr rfl,t,m,hsh,hts,by omega⟩
 have osv:∀ {E':Env} (hx:Ext E E'),VR E' (.os true 2 vid vver 0 1 true) (.slice (some ⟨vb,0,none⟩) 1 1):=by
  intro E' hx
  refine VR.ext hx (.os _ _ _ _ _ _ _ _ _ hvok (by omega) (fun h=>rfl) (by omega) fun ob hob=>?_)
  rw[hvloc] at hob; cases hob
  exact⟨vb,rfl,.inr rfl,tv,mv,hvsh,hvts,by omega⟩
 have htl:(cells.take (i*2)).length=i*2:=by rw[uN,hlen]; omega
 have hdl:(cells.drop (i*2)).length=(n-i)*2:=by rw[List.length_drop,hlen,Nat.sub_mul]
 -- what is copied by append
 have hold0:=os1 hx1 0 i (by omega);rw[q9] at hold0
 obtain⟨_,_,hrd⟩:=Y4 (P:=qg) hS1 hold0 (size:=2) (n:=i) (cs:=cells.take (i*2)) (by
  simp only[z1,hcs]
  rw[if_pos (by omega),qv])
 obtain⟨os,hos,hto⟩:=hrd i (qu _);rw[show (cells.take (i*2)).take (i*2)=cells.take (i*2) by rw[List.take_take,Nat.min_self]] at hto
 obtain⟨G,hG⟩:∃ G,G=grownCap E.w (n+1) n 40:=⟨_,rfl⟩
 have hGn:n+1≤G:=by rw[hG]; unfold grownCap; simp only[Question.cut]; omega
 obtain⟨conc,hconc⟩:∃ conc:Array Value,conc=os++Builtin.zeroCells (Value.agg #[Value.int IntKind.i64 0,Value.slice none 0 0]).cells (n+1-i)++Builtin.zeroCells (Value.agg #[Value.int IntKind.i64 0,Value.slice none 0 0]).cells (G-(n+1)):=⟨_,rfl⟩
 have hrz:∀ ty,(Builtin.append_ #[34,3] ty #[.slice (some ⟨b,0,none⟩) i n,.int .i64 ((n:Int)+1-(i:Int))]).run qg E.w=
  .ok (.slice (some ⟨E.w.heap.size,0,none⟩) (n+1) G) (E.w.drew.alloc (.cells conc 40)):=fun ty=>by
  have h:=Lib.run_append_grow_zeros (P:=qg) E.w 34 3 ty 40 Tryz.t40 _ .i64 .i64 Tryz.underlying34 Tryz.underlying3 Tryz.type40 rfl (some ⟨b,0,none⟩) i n os.toList (by rw[Array.toArray_toList]; exact hos) (n+1-i) (by omega) (by decide) (by omega) (by omega) (by show (n+1-i)*32≤_; omega) (by
   rw[show i+(n+1-i)=n+1 by omega]
   exact growslice_fits (by omega) (by show (n+1)*32≤_; omega))
  rw[show i+(n+1-i)=n+1 by omega,← hG,Array.toArray_toList,← hconc] at h;rw[show (n:Int)+1-(i:Int)=((n+1-i:Nat):Int) by omega];exact h
 have hsz1:os.size=i*2:=by rw[hto.1,htl]
 have hcsz:G*2≤conc.size:=by
  rw[hconc];simp only[Array.size_append,hsz1,Builtin.zeroCells,Value.cells]
  simp
  omega
 have hnr:=hS1.newRow conc 40 (cells.take (i*2)++qH ((n+1-i)*2) AV.u) (by rw[qG,htl,List.length_replicate]; omega) (by
  intro k hk
  by_cases hki:k<i*2
  · rw[Yn _ _ _ (by rw[htl]; exact hki)];have:=hto.2 k (by rw[htl]; exact hki)
    have e:conc.getD k undef=os.getD k undef:=by
     rw[hconc,Array.append_assoc]
     simp[Array.getElem?_append_left (show k<os.size by omega)]
    rw[e]; exact this
  rw[Zv _ _ _ (by rw[htl]; omega)]
  have:gc (qH ((n+1-i)*2) AV.u) (k-(cells.take (i*2)).length)=.u:=by
   unfold gc;rw[qy,List.getElem?_replicate]
   split<;>rfl
  rw[this]; exact .u _)
 obtain⟨hS2,hx2⟩:=hnr
 obtain⟨E2,hE2⟩:∃ E2,E2=Env.new { E with w:=E.w.drew } (E.w.drew.alloc (.cells conc 40)) (some E.w.drew.heap.size):=⟨_,rfl⟩
 have hloc2:E2.loc σ.length=some (0,some E.w.heap.size):=by rw[hE2]; exact Env.loc_new hS1 _ _
 have hok2:E2.ok σ.length 0:=by rw[hE2]; exact Env.ok_new hS1 _ _
 have hE2w:E2.w=E.w.drew.alloc (.cells conc 40):=by rw[hE2]; rfl
 rw[← hE2] at hS2 hx2;have hx02:Ext E E2:=Ext.trans hx1 hx2
 have hsh2:E2.w.shape? E.w.heap.size=some (40,conc.size):=by
  rw[hE2w];have:=xe E.w.drew (.cells conc 40);simp only[World.shape?];rw[show E.w.heap.size=E.w.drew.heap.size from rfl,this]
 have osn:∀ {E':Env} (hx:Ext E2 E') (k q:Nat),k+q≤n+1→VR E' (.os true 2 σ.length 0 (k*2) q false) (.slice (some ⟨E.w.heap.size,k*2,none⟩) q (G-k)):=by
  intro E' hx k q hk
  refine VR.ext hx (.os _ _ _ _ _ _ _ _ _ hok2 (by omega) (fun h=>by cases h) (by omega) fun ob hob=>?_)
  rw[hloc2] at hob; cases hob
  exact⟨_,rfl,.inr rfl,_,_,hsh2,rfl,by omega⟩
 have hat2:∀ cs,Store.at (σ++[.cells 0 cs]) σ.length 0=some cs:=fun cs=>Store.at_new σ 0 cs
 have hset2:∀ cs cs',(σ++[AObj.cells 0 cs]).set σ.length (.cells 0 cs')=σ++[.cells 0 cs']:=fun cs cs'=>by
  rw[List.set_append_right _ _ (qu _),uJ]; rfl
 have hold2:∀ {id ver:Nat} {c cs:List AV},Store.at σ id ver=some c→Store.at (σ++[AObj.cells 0 cs]) id ver=some c:=by
  intro id ver c cs h
  have:=Store.at_lt h
  unfold Store.at at h ⊢; rw[qM this]; exact h
 -- the first copy
 have hW2:∃ v E3,(Builtin.copy_ #[34,34] 3 #[.slice (some ⟨E.w.heap.size,i*2,none⟩) (n+1-i) (G-i),.slice (some ⟨vb,0,none⟩) 1 1]).run qg E2.w=.ok v E3.w∧
  SR E3 (σ++[.cells 0 (y0 (cells.take (i*2)++qH ((n+1-i)*2) AV.u) (i*2) new)])∧Ext E2 E3:=by
  have hd:=osn (Ext.refl E2) i (n+1-i) (by omega);have hs:=osv hx02
  have hev:Yz tab 34 (.os true 2 σ.length 0 (i*2) (n+1-i) false) (.os true 2 vid vver 0 1 true) (σ++[.cells 0 (cells.take (i*2)++qH ((n+1-i)*2) AV.u)])=
   some (.int .i64 ((min 1 (n+1-i):Nat):Int),σ++[.cells 0 (y0 (cells.take (i*2)++qH ((n+1-i)*2) AV.u) (i*2) new)]):=by
   have e1:z1 (σ++[.cells 0 (cells.take (i*2)++qH ((n+1-i)*2) AV.u)]) 2 (.os true 2 vid vver 0 1 true)=some (1,new):=by
    simp only[z1,hold2 hv];rw[if_pos (by omega),qv,Nat.one_mul,← hnew,qV]
   have e2:min 1 (n+1-i)=1:=by omega
   have e3:new.take (1*2)=new:=by rw[Nat.one_mul,← hnew,qV]
   have hp:wX (σ++[.cells 0 (cells.take (i*2)++qH ((n+1-i)*2) AV.u)]) (.os true 2 σ.length 0 (i*2) (n+1-i) false) 1 2 new=some (σ++[.cells 0 (y0 (cells.take (i*2)++qH ((n+1-i)*2) AV.u) (i*2) new)]):=by
    unfold wX;rw[if_neg (by omega)];simp only[hat2,hset2];rw[if_pos ⟨trivial,by rw[hnew,qG,htl,List.length_replicate]; omega,honev⟩]
   simp only[Yz,YX,YW,ti34,ti40,e1,e2,e3,hp]
  obtain⟨v,E3,h1,h2,h3,h4⟩:=Ys (P:=qg) (st:=34) (ty:=3) tok hS2 hd hs hev;exact⟨v,E3,h1,h3,h4⟩
 obtain⟨v1,E3,hc1,hS3,hx3⟩:=hW2;obtain⟨hS4,hx4⟩:=hS3.grew (ZY.drew E3.w)
 -- the second copy
 have hW3:∀ ty,∃ v E4,(Builtin.copy_ #[34,34] ty #[.slice (some ⟨E.w.heap.size,(i+1)*2,none⟩) (n-i) (G-(i+1)),.slice (some ⟨b,i*2,none⟩) (n-i) (n-i)]).run qg E3.w.drew=.ok v E4.w∧
  SR E4 (σ++[.cells 0 (cells.take (i*2)++(new++cells.drop (i*2)))])∧Ext E2 E4:=by
  intro ty
  have hx24:Ext E2 { E3 with w:=E3.w.drew }:=Ext.trans hx3 hx4;have hd:=osn hx24 (i+1) (n-i) (by omega);have hs:=os1 (hx02.trans hx24) i (n-i) (by omega)
  have hev:Yz tab 34 (.os true 2 σ.length 0 ((i+1)*2) (n-i) false) (.os true 2 id ver (i*2) (n-i) false) (σ++[.cells 0 (y0 (cells.take (i*2)++qH ((n+1-i)*2) AV.u) (i*2) new)])=
   some (.int .i64 ((min (n-i) (n-i):Nat):Int),σ++[.cells 0 (cells.take (i*2)++(new++cells.drop (i*2)))]):=by
   have e1:z1 (σ++[.cells 0 (y0 (cells.take (i*2)++qH ((n+1-i)*2) AV.u) (i*2) new)]) 2 (.os true 2 id ver (i*2) (n-i) false)=some (n-i,cells.drop (i*2)):=by
    simp only[z1,hold2 hcs];rw[if_pos (by rw[hlen,← uR]; exact qY _ (by omega)),← hdl,qV]
   have e2:min (n-i) (n-i)=n-i:=by omega
   have e3:(cells.drop (i*2)).take ((n-i)*2)=cells.drop (i*2):=by rw[← hdl,qV]
   have hp:wX (σ++[.cells 0 (y0 (cells.take (i*2)++qH ((n+1-i)*2) AV.u) (i*2) new)]) (.os true 2 σ.length 0 ((i+1)*2) (n-i) false) (n-i) 2 (cells.drop (i*2))=some (σ++[.cells 0 (cells.take (i*2)++(new++cells.drop (i*2)))]):=by
    unfold wX;rw[if_neg (by omega)];simp only[hat2,hset2];rw[if_pos ⟨trivial,by rw[hdl,YN,qG,htl,List.length_replicate]; omega,all_drop hone⟩];rw[show (i+1)*2=i*2+2 by omega,setRun_ins2 _ _ _ (by omega) hnew _ (by rw[hlen]; omega)]
   simp only[Yz,YX,YW,ti34,ti40,e1,e2,e3,hp]
  obtain⟨v,E4,h1,h2,h3,h4⟩:=Ys (P:=qg) (st:=34) (ty:=ty) tok hS4 hd hs hev;exact⟨v,E4,h1,h3,hx24.trans h4⟩
 obtain⟨v2,E4,hc2,hS5,hx5⟩:=hW3 3
 have hfin:VR E4 (.os true 2 σ.length 0 0 (n+1) false) (.slice (some ⟨E.w.heap.size,0,none⟩) (n+1) G):=by
  have:=osn hx5 0 (n+1) (by omega)
  rwa [q9,uE] at this
 have hxf:Ext E E4:=hx02.trans hx5
 have hnew':∀ i2 v2 nb,E.loc i2=some (v2,some nb)→E4.loc σ.length=some (0,some nb)→False:=by
  intro i2 v2 nb h1 h2
  have h3:=hx5.back hok2 h2
  rw[hloc2] at h3; cases h3
  have:=(hS.blk _ _ _ h1).1
  omega
 have hz1:¬ ((i:Int)=(n:Int)):=by omega
 have hw1:IntKind.i64.wrap ((i:Int)+1)=(i:Int)+1:=by rw[IntKind.wrap_i64]; omega
 have hw2:IntKind.i64.wrap ((n:Int)+1)=(n:Int)+1:=by rw[IntKind.wrap_i64]; omega
 have hw3:IntKind.i64.wrap ((n:Int)+1-(i:Int))=(n:Int)+1-(i:Int):=by rw[IntKind.wrap_i64]; omega
 have hb1:(0:Int)≤(i:Int)+1:=by omega
 have hin:i≤n:=by omega
 have htn:((i:Int)+1).toNat=i+1:=by omega
 have hb2:¬ (G=i+1):=by omega
 have hb3:(i:Int)≤(n:Int)+1:=by omega
 have hb4:¬ (G=i):=by omega
 have hb5:¬ (n=i):=by omega
 have hz3:(n:Int)<(n:Int)+1:=by omega
 have mixed:Tryz.prog.follows .mixedOrders=true:=by kernel_rfl
 have hrz1:=hrz 34;rw[← hE2w] at hrz1
 clear hS hcs hS1 os1 osv hrz hrd hos hto hS2 hx2 osn hold2 hset2 hat2 hW3 hE2 hE2w hloc2 hok2 hsh2 hx02 hold0 hG hconc hcsz
 go_enter Tryz.func234,Tryz.ntmps234
 go_wp2_with (first
  |(at_builtin; refine Lib.wpList_append_run _ rfl _ _ _ _ rfl _ _ rfl rfl _ _ hrz1 ?_)
  |(at_builtin; refine wpList_copy_runI _ rfl _ _ 34 34 rfl _ _ rfl rfl hc1 ?_))
 go_region_law_o (refine step_copy_runI rfl _ _ 34 34 rfl _ _ (by simp[Act.eval,Act.put]) (by simp[Act.eval,Act.put]) hc2 ?_)
 go_wp2
 go_ret
 exact⟨E4,_,rfl,rfl,hfin,hS5,hxf,hnew'⟩
end
section
set_option maxRecDepth 20000
open Go.RowKit AM
theorem SR.die {E:Env}{σ:Store}(hS:SR E σ):SR { E with n:=E.n+1 } (σ++[.dead])∧Ext E { E with n:=E.n+1 }:=by
 have hx:Ext E { E with n:=E.n+1 } := {
  os:=rfl,tape:=rfl,output:=rfl,size:=qu _,shape:=fun _ _ h=>h,st:=fun _ h=>⟨h,rfl⟩,n:=Nat.le_succ _,
  loc:=fun _ _ v o h=>⟨v,o,h,qu _,fun _=>rfl⟩,old:=fun _ _ _=>rfl,own:=fun id v _ h _=>⟨id,v,h⟩,stn:=fun _ h=>.inl h }
 have hn:E.loc σ.length=none:=by
  have:=hS.obj σ.length;rw[uh (qu _)] at this;exact this
 refine⟨⟨by simp[hS.len],fun id=>?_,hS.inj,hS.blk,hS.stb,hS.glb⟩,hx⟩
 by_cases h1:id<σ.length
 · rw[qM h1]
   exact (hS.obj id).ext hx rfl fun _ _ _=>rfl
 by_cases h2:id=σ.length
 · subst h2;rw[uf (qu _),uJ];exact hn
 rw[uh (by simp; omega)];have:=hS.obj id;rw[uh (by omega)] at this;exact this
theorem SR.swap {E:Env}{σ:Store}{cs:List AV}(hS:SR E (σ++[.cells 0 cs])){id ver b nb:Nat}(hlt:id<σ.length)(hl:E.loc id=some (ver,some b))(hn:E.loc σ.length=some (0,some nb)):
 let E':Env := { E with loc:=fun i=>if i=id then some (ver+1,some nb) else if i=σ.length then none else E.loc i }
 SR E' (σ.set id (.cells (ver+1) cs)++[.dead])∧ExtV E E'∧∀ sz len v,VR E (.os true sz σ.length 0 0 len false) v→VR E' (.os true sz id (ver+1) 0 len false) v:=by
 intro E'
 have hid:E'.loc id=some (ver+1,some nb):=by simp[E']
 have hlast:E'.loc σ.length=none:=by simp[E']; omega
 have hother:∀ i,i≠id→i≠σ.length→E'.loc i=E.loc i:=fun i h1 h2=>by simp[E',h1,h2]
 have hx:ExtV E E' := {
  shape:=fun _ _ h=>h
  st:=fun _ h=>⟨h,rfl⟩
  n:=qu _
  loc:=fun i _ v o h=>by
   by_cases h1:i=id
   · subst h1; rw[hid] at h; cases h; exact⟨ver,some b,hl,by omega,fun e=>by omega⟩
   by_cases h2:i=σ.length
   · subst h2; rw[hlast] at h; cases h
   rw[hother i h1 h2] at h; exact⟨v,o,h,qu _,fun _=>rfl⟩ }
 have hnE:E.n=σ.length+1:=by have:=hS.len; simp at this; omega
 have hold:∀ i v c,E'.loc i=some (v,some c)→(i=id∧c=nb)∨(i≠id∧i≠σ.length∧E.loc i=some (v,some c)):=by
  intro i v c h
  by_cases h1:i=id
  · subst h1; rw[hid] at h; cases h; exact .inl ⟨rfl,rfl⟩
  by_cases h2:i=σ.length
  · subst h2; rw[hlast] at h; cases h
  rw[hother i h1 h2] at h; exact .inr ⟨h1,h2,h⟩
 refine⟨⟨by simp[hnE,E'],fun i=>?_,fun i i' v v' c h1 h2=>?_,fun i v c h=>?_,hS.stb,hS.glb⟩,hx,fun sz len v h=>?_⟩
 · by_cases h1:i=id
   · subst h1;rw[qM (by simpa using hlt),ua hlt];have:=hS.obj σ.length;rw[uf (qu _),uJ] at this
     rcases this with ⟨c,e1,e2⟩|⟨_,e1⟩
     · rw[hn] at e1; cases e1
       refine .inl ⟨nb,hid,?_⟩;obtain⟨conc,t,fr,a1,a2,a3,a4⟩:=e2.blk;exact⟨conc,t,fr,a1,a2,a3,fun k hk=>(a4 k hk).extV hx⟩
     rw[hn] at e1; cases e1
   by_cases h2:i=σ.length
   · subst h2;rw[uf (by simp)];simp only[List.length_set,uJ,ur];exact hlast
   have ho:=hS.obj i
   by_cases h3:i<σ.length
   · rw[qM (by simpa using h3),qQ (fun e=>h1 e.symm)];rw[qM h3] at ho
     exact ho.extV hx (hother i h1 h2) fun _ _ _=>rfl
   rw[uh (by simp; omega)] at ho ⊢;exact (hother i h1 h2).trans ho
 · rcases hold _ _ _ h1 with ⟨e1,e2⟩|⟨e1,e2,e3⟩
   · subst e1; subst e2
     rcases hold _ _ _ h2 with ⟨f1,f2⟩|⟨f1,f2,f3⟩
     · exact f1.symm
     exact absurd (hS.inj _ _ _ _ _ f3 hn) f2
   rcases hold _ _ _ h2 with ⟨f1,f2⟩|⟨f1,f2,f3⟩
   · subst f2; exact absurd (hS.inj _ _ _ _ _ e3 hn) e2
   exact hS.inj _ _ _ _ _ e3 f3
 · rcases hold _ _ _ h with ⟨e1,e2⟩|⟨e1,e2,e3⟩
   · subst e2; exact hS.blk _ _ _ hn
   exact hS.blk _ _ _ e3
 have hok:E'.ok id (ver+1):=⟨by show id<E.n; omega,fun v o h=>by rw[hid] at h; cases h; exact qu _⟩
 cases h with
 |osn _ _ _ _ _ a hk h=>
  have:=h _ hn; cases this
 |os _ _ _ _ _ _ _ a cap hk hc ht hB h=>
  refine .os _ _ _ _ _ _ _ a cap hok hc ht hB fun ob hob=>?_
  rw[hid] at hob; cases hob
  exact h _ hn
theorem Ext.swap {E0 E:Env}(hx:Ext E0 E){σ0:Store}(h0:SR E0 σ0){id ver b nb:Nat}(hl:E.loc id=some (ver,some b))(hn:E.loc σ0.length=some (0,some nb))(hnb:E0.w.heap.size≤nb)(hlt:id<σ0.length):
 Ext E0 { E with loc:=fun i=>if i=id then some (ver+1,some nb) else if i=σ0.length then none else E.loc i }:=by
 refine { hx with loc:=fun i hi v o h=>?_,own:=fun i v c h hc=>?_,n:=hx.n,st:=hx.st }
 · by_cases h1:i=id
   · subst h1;simp only[if_true,Option.some.injEq,Prod.mk.injEq] at h;obtain⟨v0,o0,e1,e2,e3⟩:=hx.loc _ hi _ _ hl;exact⟨v0,o0,e1,by omega,fun e=>by omega⟩
   simp only[if_neg h1] at h
   split at h
   · cases h
   exact hx.loc i hi v o h
 by_cases h1:i=id
 · subst h1;simp only[if_true,Option.some.injEq,Prod.mk.injEq] at h
   omega
 simp only[if_neg h1] at h
 split at h
 · cases h
 exact hx.own i v c h hc
theorem ACalls.dies {P:Program}{f:FuncId}{args:List AV}{σ:Store}{x:AV}{τ:Store}(h:ACalls P f args σ fun r σ'=>r=x∧σ'=τ):ACalls P f args σ fun r σ'=>r=x∧σ'=τ++[.dead]:=by
 refine⟨h.1,fun E vs hS hl=>(h.2 E vs hS hl).mono ?_⟩;rintro e w ⟨v,r,σ',E',rfl,rfl,h3,h4,h5,rfl,rfl⟩;obtain⟨g1,g2⟩:=SR.die h4;exact⟨_,_,_,{ E' with n:=E'.n+1 },rfl,rfl,h3.ext g2,g1,h5.trans g2,rfl,rfl⟩
theorem bump {E E':Env}{σ:Store}(hS:SR E σ){id ver b:Nat}{cs cs':List AV}(hcs:Store.at σ id ver=some cs)(hk:E.ok id ver)(hloc:E.loc id=some (ver,some b))(hne:cs.length≠0)(hlen:cs'.length≠0)(h4:SR E' (σ.set id (.cells ver cs')))(h5:Ext E E'){sz len:Nat}{v:Value}
 (h3:VR E' (.os true sz id ver 0 len false) v):
 ∃ E2:Env,E2.w=E'.w∧SR E2 (σ.set id (.cells (ver+1) cs'))∧VR E2 (.os true sz id (ver+1) 0 len false) v∧Ext E E2:=by
 have hat:=Store.at_set (ver':=ver) (cs':=cs') hcs
 have hl':E'.loc id=some (ver,some b):=by
  rcases h4.at hat with ⟨b',e1,_⟩|⟨e1,_⟩
  · have:=h5.back hk e1; rw[hloc] at this; cases this; exact e1
  rw[e1] at hlen; exact absurd rfl hlen
 obtain⟨hS3,hx3⟩:=h4.move (ZY.refl E'.w) hat hl' (ob:=some b) (fun b hb=>by cases hb; exact⟨.inr rfl,(h4.blk _ _ _ hl').1⟩) (cs:=cs') (.inl ⟨b,by simp[Env.move],by
  rcases h4.at hat with ⟨b1,h1,hblk1⟩|⟨_,h1⟩
  · rw[hl'] at h1; cases h1
    obtain⟨conc,t,fr,a1,a2,a3,a4⟩:=hblk1.blk;exact⟨conc,t,fr,a1,a2,a3,fun k hk=>(a4 k hk).ext (Ext.move h4.stb (ZY.refl _) hl' _ fun b hb=>by cases hb; exact .inr rfl)⟩
  rw[hl'] at h1; cases h1⟩)
 rw[List.set_set] at hS3;refine⟨E'.move E'.w id (ver+1) (some b),rfl,hS3,?_,h5.trans hx3⟩;have hok:(E'.move E'.w id (ver+1) (some b)).ok id (ver+1):=⟨q3 hk.1 h5.n,fun v o hvo=>by simp[Env.move] at hvo; omega⟩
 cases h3 with
 |osn _ _ _ _ _ a hk h=>have:=h _ hl'; cases this
 |os _ _ _ _ _ _ _ a cap hk hc ht hB h=>
  refine .os _ _ _ _ _ _ _ a cap hok hc ht hB fun ob hob=>?_
  simp only[Env.move,if_true,Option.some.injEq,Prod.mk.injEq,true_and] at hob;subst hob;exact h _ hl'
theorem Insert_at {σ:Store}{id ver n i vid vver:Nat}{nl:Bool}{cells new:List AV}(hcs:Store.at σ id ver=some cells)(hlen:cells.length=n*2)(hone:cells.all AV.one=true)(hi:i≤n)(hn:(n+1)*32≤140737488355328)
 (hv:Store.at σ vid vver=some new) (hnew:new.length=2) (honev:new.all AV.one=true) (hvid:vid≠id):
 ACalls qg 234 [.os nl 2 id ver 0 n false,.int .i64 (i:Int),.os true 2 vid vver 0 1 true] σ (fun r σ'=>r=.os true 2 id (ver+1) 0 (n+1) false∧
  σ'=σ.set id (.cells (ver+1) (cells.take (i*2)++(new++cells.drop (i*2))))++[.dead]):=by
 have hlt:=Store.at_lt hcs
 by_cases hin:i=n
 · subst hin;refine ACalls.dies ?_;refine w8 (rs:=[.tmp 6]) tok Tryz.func234 rfl Tryz.ntmps234 rfl Tryz.call234 (by simp) ?_
   have hap:ye tab 34 34 (.os nl 2 id ver 0 i false) (.os true 2 vid vver 0 1 true) σ=some (.os true 2 id (ver+1) 0 (i+1) false,σ.set id (.cells (ver+1) (cells++new))):=by
    have e1:z1 σ 2 (.os true 2 vid vver 0 1 true)=some (1,new):=by
     simp only[z1,hv];rw[if_pos (by omega),qv,Nat.one_mul,← hnew,qV]
    have hg:((i+1)*32≤140737488355328)=True:=eq_true (by omega);simp only[ye,YX,YW,e1,yd,hg,honev,qd,and_self,if_true,zO,hcs,hlen]
   have hsl:wG tab 34 (.os nl 2 id ver 0 i false) (some (.int .i64 (i:Int))) none none=some (.os nl 2 id ver (i*2) (i-i) false):=by
    simp only[wG,YX,YW,vas]
    simp
   refine zk [(0,.os nl 2 id ver 0 i false),(1,.int .i64 (i:Int)),(2,.os true 2 vid vver 0 1 true)] ⟨rfl,rfl,rfl,trivial⟩ ?_
   refine rg tok [0,1,2,6] fun K hK=>?_
   simp only[go_sem,qd,qb,reduceCtorEq];apply hK
   clear hK K
   refine rg tok [0,1,2,6] fun K hK=>?_
   simp only[go_sem,qd,qb,reduceCtorEq,hsl];apply hK
   clear hK K
   refine rg tok [0,1,2,6,7] fun K hK=>?_
   simp only[go_sem,qd,qb,reduceCtorEq];apply hK
   clear hK K
   refine za fun Z hZ=>?_
   refine rg tok [0,1,2,6,7,16] fun K hK=>?_
   simp only[go_sem,qd,qb,reduceCtorEq];apply hK
   clear hK K
   refine zF rfl (fun h=>absurd h (by decide)) (fun _=>?_);refine zd ?_;refine hZ _ _ ?_
   clear hZ Z
   refine rg tok [0,1,2,6,7,8] fun K hK=>?_
   simp only[go_sem,qd,qb,reduceCtorEq];apply hK
   clear hK K
   refine za fun Z hZ=>?_
   refine rg tok [0,1,2,6,7,8,22] fun K hK=>?_
   simp only[go_sem,qd,qb,reduceCtorEq,decide_true];apply hK
   clear hK K
   refine zq rfl ?_
   refine rg tok [6] fun K hK=>?_
   simp only[go_sem,qd,qb,reduceCtorEq,hap];apply hK
   clear hK K
   refine zE ?_;simp only[wg,zX,z7,yN,exists_eq_left',go_sem];rw[← hlen,qV,List.drop_length,q1]
 have hi':i<n:=by omega
 refine⟨Tryz.call234,fun E vs hS hl=>?_⟩;obtain⟨l1,l2⟩:=hl.arr
 rcases vs with ⟨_|⟨v0,_|⟨v1,_|⟨v2,_|⟨v3,l⟩⟩⟩⟩⟩<;>simp only[List.size_toArray,qs,qt,qe,reduceCtorEq,qb] at l1
 have h0:VR E (.os nl 2 id ver 0 n false) v0:=l2 0 (by simp);have h1:VR E (.int .i64 (i:Int)) v1:=l2 1 (by simp);have h2:VR E (.os true 2 vid vver 0 1 true) v2:=l2 2 (by simp)
 clear l2 hl
 cases h1
 cases h0 with
 |osn=>omega
 |os _ _ _ _ _ _ _ a cap hk hc ht hB hp=>
 cases h2 with
 |os _ _ _ _ _ _ _ av capv hkv hcv htv hBv hpv=>
 have:=htv rfl; subst this
 obtain⟨b,hloc,_⟩:=hS.block_of hcs (show 0<cells.length by omega);obtain⟨vb,hvloc,_⟩:=hS.block_of hv (show 0<new.length by omega);obtain⟨b',e1,e2,t,m,hsh,hts,hm⟩:=hp _ hloc;cases e1
 have:=e2.resolve_left (by omega); subst this
 obtain⟨b',e1,e2,tv,mv,hvsh,hvts,hmv⟩:=hpv _ hvloc;cases e1
 have:=e2.resolve_left (by omega); subst this
 by_cases hroom:n+1≤cap
 · refine (ins_shift hS hcs hlen hone hi' hloc hk hsh hts (by omega) hroom hn hv hnew honev hvid hvloc hkv hvsh hvts (by omega)).mono ?_;rintro e w ⟨E',rfl,rfl,h3,h4,h5⟩;obtain⟨E2,g1,g2,g3,g4⟩:=bump hS hcs hk hloc (by omega) (by simp only[qG,hnew]; omega) h4 h5 h3;obtain⟨hS3,hx3⟩:=SR.die g2;exact⟨_,_,_,{ E2 with n:=E2.n+1 },rfl,g1,g3.ext hx3,hS3,g4.trans hx3,rfl,rfl⟩
 have hcn:cap=n:=by omega
 subst hcn;refine (ins_grow hS hcs hlen hone hi' hloc hk hsh hts (by omega) hn hv hnew honev hvid hvloc hkv hvsh hvts (by omega)).mono ?_;rintro e w ⟨E',v,rfl,rfl,h3,h4,h5,hnew'⟩
 have hl':E'.loc id=some (ver,some b):=by
  have:=(h4.at (id:=id) (ver:=ver) (cs:=cells) (by
   have:=Store.at_lt hcs
   unfold Store.at at hcs ⊢; rw[qM this]; exact hcs))
  rcases this with ⟨b',e1,_⟩|⟨e1,_⟩
  · have:=h5.back hk e1; rw[hloc] at this; cases this; exact e1
  rw[e1] at hlen; simp at hlen; omega
 have hn':∃ nb,E'.loc σ.length=some (0,some nb)∧E.w.heap.size≤nb:=by
  rcases h4.at (Store.at_new σ 0 _) with ⟨nb,e1,_⟩|⟨e1,_⟩
  · refine⟨nb,e1,Nat.le_of_not_lt fun hlt'=>?_⟩;obtain⟨i2,v2,e2⟩:=h5.own _ _ _ e1 hlt';exact hnew' i2 v2 nb e2 e1
  have:(cells.take (i*2)++(new++cells.drop (i*2))).length=0:=by rw[e1]; rfl
  simp only[qG,hnew] at this; omega
 obtain⟨nb,hn1,hn2⟩:=hn';obtain⟨g1,g2,g3⟩:=SR.swap h4 hlt hl' hn1;exact⟨_,_,_,{ E' with loc:=fun i=>if i=id then some (ver+1,some nb) else if i=σ.length then none else E'.loc i },rfl,rfl,g3 _ _ _ h3,g1,Ext.swap h5 hS hl' hn1 hn2 hlt,rfl,rfl⟩
end
section
set_option maxRecDepth 8000
set_option maxHeartbeats 1000000
open Go.RowKit AM
structure Ent where
 tag:Int
 id:Nat
 ver:Nat
 trees:List GTree
def Ent.cells (e:Ent):List AV:=[.int .i64 e.tag,.os true 5 e.id e.ver 0 e.trees.length false]
def Ent.val (e:Ent):GEntry:=⟨e.tag,e.trees⟩
structure Rep (σ:Store)(tid eid ever:Nat)(L:List Ent):Prop where
 t:Store.at σ tid 0=some [.int .i64 3,.int .i64 0,.str [],.os true 2 eid ever 0 L.length false,.ds true [] 0 true]
 e:Store.at σ eid ever=some (L.flatMap Ent.cells)
 tr:∀ x∈L,Store.at σ x.id x.ver=some (x.trees.flatMap encGTree)
 nd:(tid::eid::L.map Ent.id).Nodup
def X8 (es:List GEntry)(f:GField)(x:GTree):Option (List GEntry×Bool):=
 (zt es f.fTag).bind fun p=>
 (if p.2=true then some es else (grd (0≤p.1∧p.1≤(es.length:Int))).bind fun _=>(Xm (es.length+1) 32).bind fun _=>some (es.take p.1.toNat++⟨f.fTag,[]⟩::es.drop p.1.toNat)).bind fun es1=>
 (YS es1 p.1).bind fun e=>
 (Xm ((if f.fLabel=3 then e.fTrees.length else 0)+1) 80).bind fun _=>
 some (es1.set p.1.toNat ⟨e.fTag,(if f.fLabel=3 then e.fTrees else [])++[x]⟩,decide ((((if f.fLabel=3 then e.fTrees else [])++[x]).length:Int)≤64))
theorem wJ {σ:Store}{id ver:Nat}{cs:List AV}(h:Store.at σ id ver=some cs)(l:Store):Store.at (σ++l) id ver=some cs:=by
 have:=Store.at_lt h
 unfold Store.at at h ⊢; rw[qM this]; exact h
theorem xJ {σ:Store}{id id' ver:Nat}{cs:List AV}(h:Store.at σ id ver=some cs)(hne:id≠id')(o:AObj):Store.at (σ.set id' o) id ver=some cs:=by
 unfold Store.at at h ⊢; rw[qQ (fun e=>hne e.symm)]; exact h
theorem XT (σ:Store)(cs:List AV)(l:Store):Store.at (σ++.cells 0 cs::l) σ.length 0=some cs:=by
 unfold Store.at; rw[uf (qu _),uJ]; rfl
theorem at_end1 (σ:Store)(o:AObj)(cs:List AV)(l:Store):Store.at (σ++o::.cells 0 cs::l) (σ.length+1) 0=some cs:=by
 unfold Store.at; rw[uf (by omega)]; simp
theorem Rep.app {σ:Store}{tid eid ever:Nat}{L:List Ent}(h:Rep σ tid eid ever L)(l:Store):Rep (σ++l) tid eid ever L:=
 ⟨wJ h.t l,wJ h.e l,fun x hx=>wJ (h.tr x hx) l,h.nd⟩
theorem Rep.toldC {σ:Store}{tid eid ever:Nat}{L:List Ent}(h:Rep σ tid eid ever L)(keep:List Nat)(ls:Bool)(f:Nat)(hk:∀ y∈L,Zt keep y.id 0=none):(L.flatMap Ent.cells).map (tell σ keep ls (f+2))=(L.map Ent.val).flatMap encGEntry:=by
 have key:∀ l:List Ent,(∀ x∈l,x∈L)→(l.flatMap Ent.cells).map (tell σ keep ls (f+2))=(l.map Ent.val).flatMap encGEntry:=by
  intro l
  induction l with
  |nil=>intro _; rfl
  |cons a l ih=>
   intro hl
   have h1:=h.tr a (hl a (List.mem_cons_self ..));have h2:=hk a (hl a (List.mem_cons_self ..));simp only[qP,qx,qn,ih fun x hx=>hl x (ub _ hx)]
   congr 1
   simp only[Ent.cells,Ent.val,qn,qj,Xl,wf,h2,h1,yq,cellsGEntry,GEntry.fTag,GEntry.fTrees];have hl:(a.trees.flatMap encGTree).length=a.trees.length*5:=zz E38.len a.trees;rw[if_pos (by rw[hl]; omega),qv,← hl,qV,zg]
 exact key L (fun _ h=>h)
theorem Rep.told {σ:Store}{tid eid ever:Nat}{L:List Ent}(h:Rep σ tid eid ever L)(nl:Bool):tell σ [] true 12 (.os nl 2 eid ever 0 L.length false)=.ds true ((L.map Ent.val).flatMap encGEntry) (L.map Ent.val).length false:=by
 have hl:(L.flatMap Ent.cells).length=L.length*2:=by
  clear h
  induction L with
  |nil=>rfl
  |cons a l ih=>rw[qP,qG,ih]; simp[Ent.cells]; omega
 simp only[wf,xI,h.e];rw[if_pos (by rw[hl]; omega),qv,← hl,qV,h.toldC [] true 9 (fun _ _=>rfl),q5]
theorem Rep.set_ne {σ:Store}{tid eid ever:Nat}{L:List Ent}(h:Rep σ tid eid ever L){j:Nat}(hj:j∉tid::eid::L.map Ent.id)(o:AObj):Rep (σ.set j o) tid eid ever L:=by
 refine⟨xJ h.t (fun e=>hj (by rw[← e]; simp)) o,xJ h.e (fun e=>hj (by rw[← e]; simp)) o,fun x hx=>xJ (h.tr x hx) (fun e=>hj ?_) o,h.nd⟩;rw[← e];exact ub _ (ub _ (uo.2 ⟨x,hx,rfl⟩))
structure Mid (σ τ:Store)(tid eid ever:Nat)(ids:List Nat)(pre post:List Ent)(tag:Int)(av:AV)(trees:List GTree):Prop where
 t:Store.at τ tid 0=some [.int .i64 3,.int .i64 0,.str [],.os true 2 eid ever 0 (pre.length+(1+post.length)) false,.ds true [] 0 true]
 e:Store.at τ eid ever=some (pre.flatMap Ent.cells++([.int .i64 tag,av]++post.flatMap Ent.cells))
 tr:∀ y∈pre++post,Store.at τ y.id y.ver=some (y.trees.flatMap encGTree)
 nd:(tid::eid::(pre++post).map Ent.id).Nodup
 c:(av=.ds true [] 0 true∧trees=[])∨∃ id ver,av=.os true 5 id ver 0 trees.length false∧Store.at τ id ver=some (trees.flatMap encGTree)∧id∉tid::eid::(pre++post).map Ent.id∧id∈ids
 sub:∀ y∈pre++post,y.id∈ids
 len:σ.length+2≤τ.length
 fr:∀ j,j<σ.length→j∉tid::eid::ids→τ[j]?=σ[j]?
 lt:∀ j∈tid::eid::ids,j<σ.length
theorem agr_app {x:List Nat}:∀ {s:Store} {i:Nat} (l:Store),agr x i s s (s++l)=True:=by
 intro s
 induction s with
 |nil=>intro i l; rfl
 |cons a s ih=>intro i l; simp only[qN,agr,ih]; simp
theorem XR (l:List Ent):(l.flatMap Ent.cells).length=l.length*2:=by
 induction l with
 |nil=>rfl
 |cons a l ih=>rw[qP,qG,ih]; simp[Ent.cells]; omega
theorem cells_one (l:List Ent):(l.flatMap Ent.cells).all AV.one=true:=by
 induction l with
 |nil=>rfl
 |cons a l ih=>rw[qP,List.all_append,ih]; rfl
theorem split_at {α:Type}{l:List α}{k:Nat}(h:k≤l.length):∃ a b,l=a++b∧a.length=k:=⟨l.take k,l.drop k,(ug k l).symm,by simp[h]⟩
theorem split_el {α:Type}{l:List α}{k:Nat}(h:k<l.length):∃ a x b,l=a++x::b∧a.length=k:=by
 refine⟨l.take k,l[k],l.drop (k+1),?_,by simp; omega⟩;rw[← List.drop_eq_getElem_cons h,ug]
theorem set_mid {α:Type}(a:List α)(x y:α)(b:List α):(a++x::b).set a.length y=a++y::b:=by
 rw[List.set_append_right _ _ (qu _),uJ]; rfl
theorem gc_mid (a b:List AV)(x y:AV):gc (a++([x,y]++b)) (a.length+1)=y:=by
 rw[Zv _ _ _ (by omega),Nat.add_sub_cancel_left]; rfl
theorem set_mid1 (a b:List AV)(x y z:AV):(a++([x,y]++b)).set (a.length+1) z=a++([x,z]++b):=by
 rw[List.set_append_right _ _ (by omega),Nat.add_sub_cancel_left]; rfl
theorem put_at {σ:Store}{tid eid ever:Nat}{L:List Ent}(hR:Rep σ tid eid ever L)(f:GField)(x:GTree){es':List GEntry}{b:Bool}(h:X8 (L.map Ent.val) f x=some (es',b)):
 ACalls qg 195 [.op tid 0 0,.agg (encGField f),.agg (cellsGTree x)] σ (fun r σ'=>∃ ever' L',r=.bool b∧Rep σ' tid eid ever' L'∧L'.map Ent.val=es'∧
  (∀ y∈L',y.id∈L.map Ent.id∨σ.length≤y.id)∧σ.length≤σ'.length∧∀ j,j<σ.length→j∉tid::eid::L.map Ent.id→σ'[j]?=σ[j]?):=by
 refine w8 (rs:=[.tmp 6]) tok Tryz.func195 rfl Tryz.ntmps195 rfl Tryz.call195 (by simp) ?_;refine zk [(0,.op tid 0 0),(1,.agg (encGField f)),(2,.agg (cellsGTree x))] ⟨rfl,rfl,rfl,trivial⟩ ?_
 refine rg tok [0,4,5,6] fun K hK=>?_
 simp only[go_sem,qd,qb,qe,reduceCtorEq,encGField,cellsGTree];apply hK
 clear hK K
 simp only[ue,qN,qL,qG,qs,qt,qk]
 obtain⟨σ1,hσ1⟩:∃ s,s=σ++[.cells 0 [.str f.fName,.int .i64 f.fTag,.int .i64 f.fLabel,.int .i64 f.fType.fKind,.str f.fType.fName],
  .cells 0 [.int .i64 x.fKind,.int .i64 x.fN,.str x.fS,.ds true (qc encGEntry x.fEntries) x.fEntries.length false,.ds true (qc encGRaw x.fRest) x.fRest.length false]]:=⟨_,rfl⟩
 rw[← hσ1];have hR1:Rep σ1 tid eid ever L:=hσ1▸hR.app _;have h4:Store.at σ1 σ.length 0=some [.str f.fName,.int .i64 f.fTag,.int .i64 f.fLabel,.int .i64 f.fType.fKind,.str f.fType.fName]:=hσ1▸XT _ _ _;have h5:Store.at σ1 (σ.length+1) 0=some [.int .i64 x.fKind,.int .i64 x.fN,.str x.fS,.ds true (qc encGEntry x.fEntries) x.fEntries.length false,.ds true (qc encGRaw x.fRest) x.fRest.length false]:=hσ1▸at_end1 _ _ _ _
 have hn1:σ1.length=σ.length+2:=by rw[hσ1]; simp
 have hfr:∀ j,j<σ.length→σ1[j]?=σ[j]?:=fun j hj=>by rw[hσ1,qM hj]
 have hlt:∀ j∈tid::eid::L.map Ent.id,j<σ.length:=by
  intro j hj
  rcases ul.1 hj with rfl|hj
  · exact Store.at_lt hR.t
  rcases ul.1 hj with rfl|hj
  · exact Store.at_lt hR.e
  obtain⟨y,hy,rfl⟩:=uo.1 hj;exact Store.at_lt (hR.tr y hy)
 clear hσ1
 unfold X8 at h;obtain⟨p,hp,h⟩:=bind_some h;have ht1:=hR1.t
 refine rd [0,4,5,6,7,8] fun K hK=>?_
 refine DW.start (T:=tab) [.any,.any,.any,.at [],.any,.at [],.eff,.any,.any,.any,.any,.any] [] ?_;refine DW.runN tok 6 ?_;simp only[go_sem,qd,qb,qe,reduceCtorEq,ht1,h4];refine DW.call rfl rfl rfl ((zt.ok _ _ p hp).lend rfl true 12 (by simp only[qn,qj,go_sem,qb,reduceCtorEq,hR1.told true,Xl]; rfl)) ?_;refine DW.runN tok 5 ?_;simp only[go_sem,qd,qb,qe,reduceCtorEq];refine DW.fin tok (by decide +kernel) rfl ?_;simp only[zn,upd,qb,reduceIte,ym,y1];apply hK
 clear hK K
 obtain⟨es1,hes1,h⟩:=bind_some h;obtain⟨e,he,h⟩:=bind_some h;obtain⟨u,hu,h⟩:=bind_some h;have hg:=yy hu
 have hidL:∀ l:List Ent,(l.map Ent.val).length=l.length:=fun l=>q5 _
 refine yR (fun F τ=>F=[(0,AV.op tid 0 0),(4,.op σ.length 0 0),(5,.op (σ.length+1) 0 0),(6,.bool false),(7,.int .i64 p.1)]∧∃ ever' pre post av,p.1=(pre.length:Int)∧es1=pre.map Ent.val++e::post.map Ent.val∧Mid σ τ tid eid ever' (L.map Ent.id) pre post e.fTag av e.fTrees∧
  Store.at τ σ.length 0=some [.str f.fName,.int .i64 f.fTag,.int .i64 f.fLabel,.int .i64 f.fType.fKind,.str f.fType.fName]∧
  Store.at τ (σ.length+1) 0=some [.int .i64 x.fKind,.int .i64 x.fN,.str x.fS,.ds true (qc encGEntry x.fEntries) x.fEntries.length false,.ds true (qc encGRaw x.fRest) x.fRest.length false]) ?_ ?_
 · refine rg tok [0,4,5,6,7,21] fun K hK=>?_
   simp only[go_sem,qd,qb,reduceCtorEq];apply hK
   clear hK K
   refine zw (b := !p.2) rfl (fun hc=>?_) (fun hc=>?_)
   · have hc':p.2=false:=by simpa using hc
     rw[xU hc'] at hes1;obtain⟨_,h1,hes1⟩:=bind_some hes1;obtain⟨_,h2,hes1⟩:=bind_some hes1;have h1:=wF h1;have h2:=yy h2;obtain rfl:=Option.some.inj hes1
     obtain⟨k,hk⟩:∃ k:Nat,p.1=k:=⟨p.1.toNat,by omega⟩
     rw[hk] at he h1 ⊢;simp only[uG,hidL] at he h1 h2
     have hkl:k≤L.length:=by omega
     obtain⟨pre,post,rfl,rfl⟩:=split_at hkl;have hl2:(pre++post).length=pre.length+post.length:=qG
     have e1:List.take pre.length ((pre++post).map Ent.val)=pre.map Ent.val:=by rw[qx,← q5 (f:=Ent.val),List.take_left]
     have e2:List.drop pre.length ((pre++post).map Ent.val)=post.map Ent.val:=by rw[qx,← q5 (f:=Ent.val),List.drop_left]
     rw[e1,e2] at he
     have hee:e=⟨f.fTag,[]⟩:=by
      obtain⟨_,_,_,g3⟩:=wI he
      rw[← g3]; simp
     subst hee;rw[uG,e1,e2]
     have hc1:((pre++post).flatMap Ent.cells).take (pre.length*2)=pre.flatMap Ent.cells:=by rw[qZ,← XR,List.take_left]
     have hc2:((pre++post).flatMap Ent.cells).drop (pre.length*2)=post.flatMap Ent.cells:=by rw[qZ,← XR,List.drop_left]
     have htl:(tid<σ1.length)=True:=eq_true (by have:=hlt tid (by simp); omega);have htl2:(tid<σ.length)=True:=eq_true (hlt tid (by simp));have hel:=hlt eid (by simp)
     have hte:tid≠eid:=by have:=hR1.nd; simp at this; exact this.1.1
     have hins:=Insert_at (σ:=σ1++[AObj.cells 0 [AV.int .i64 f.fTag,AV.ds true [] 0 true]]) (nl:=true) (i:=pre.length) (wJ hR1.e _) (XR _) (cells_one _) (by omega) (by have:=of_eq_true h2; omega) (XT σ1 _ []) (new:=[AV.int .i64 f.fTag,AV.ds true [] 0 true]) rfl rfl (by omega);rw[hc1,hc2] at hins
     obtain⟨σ2,hσ2⟩:∃ s,s=List.set (σ1++[AObj.cells 0 [AV.int .i64 f.fTag,AV.ds true [] 0 true]]) eid (AObj.cells (ever+1) (pre.flatMap Ent.cells++([AV.int .i64 f.fTag,AV.ds true [] 0 true]++post.flatMap Ent.cells)))++[AObj.dead]:=⟨_,rfl⟩
     rw[← hσ2] at hins
     have ht2:Store.at σ2 tid 0=some [.int .i64 3,.int .i64 0,.str [],.os true 2 eid ever 0 (pre++post).length false,.ds true [] 0 true]:=by
      rw[hσ2]; exact wJ (xJ (wJ hR1.t _) hte _) _
     refine rdE [0,4,5,6,7] fun K hK=>?_
     refine DW.start (T:=tab) [.any,.any,.any,.any,.own 1 [],.any,.any,.at [],.any,.eff,.eff,.any,.any,.eff] [(1,[])] ?_;refine DW.runN tok 6 ?_;simp only[go_sem,qd,qb,qe,reduceCtorEq,ht1,htl];refine DW.runN tok 4 ?_;simp only[go_sem,qd,qf,qb,qe,qi,reduceCtorEq,h4,zv,zQ,qO,qI,true_and,qT,agr_app];refine DW.callS rfl rfl rfl hins (fun m x hm hle=>by simp at hm hle; omega) ?_;refine DW.runN tok 3 ?_;simp only[go_sem,qd,qf,qb,qe,reduceCtorEq,ht2];refine DW.fin tok (by decide +kernel) rfl ?_;simp only[zn,upd,qb,reduceIte,ym,y1];apply hK
     clear hK K
     have hnd:=hR1.nd
     have keep:∀ {j v:Nat} {cs:List AV},Store.at σ1 j v=some cs→j≠eid→j≠tid→Store.at (σ2.set tid (.cells 0 [.int .i64 3,.int .i64 0,.str [],.os true 2 eid (ever+1) 0 ((pre++post).length+1) false,.ds true [] 0 true])) j v=some cs:=by
      intro j v cs hj h1 h2
      refine xJ ?_ h2 _
      rw[hσ2]; exact wJ (xJ (wJ hj _) h1 _) _
     have hnid:∀ y∈pre++post,y.id≠eid∧y.id≠tid:=by
      intro y hy
      have hm:y.id∈(pre++post).map Ent.id:=uo.2 ⟨y,hy,rfl⟩;rw[uP,uP] at hnd;exact⟨fun e=>hnd.2.1 (e▸hm),fun e=>hnd.1 (ub _ (e▸hm))⟩
     simp only[zn];refine⟨_,_,⟨rfl,ever+1,pre,post,.ds true [] 0 true,rfl,rfl,⟨?_,?_,?_,hnd,.inl ⟨rfl,rfl⟩,?_,?_,?_,hlt⟩,keep h4 (by omega) (by have:=of_eq_true htl2; omega),keep h5 (by omega) (by have:=of_eq_true htl2; omega)⟩,.same ⟨rfl,rfl,rfl,rfl,rfl,trivial⟩ rfl⟩
     · have:=Store.at_set (ver':=0) (cs':=[.int .i64 3,.int .i64 0,.str [],.os true 2 eid (ever+1) 0 ((pre++post).length+1) false,.ds true [] 0 true]) ht2;rw[this,hl2];simp only[Option.some.injEq,List.cons.injEq,AV.os.injEq,true_and,and_true]
       omega
     · refine xJ ?_ hte.symm _
       rw[hσ2]; exact wJ (Store.at_set (wJ hR1.e _)) _
     · intro y hy; exact keep (hR1.tr y hy) (hnid y hy).1 (hnid y hy).2
     · intro y hy; exact uo.2 ⟨y,hy,rfl⟩
     · rw[hσ2]; simp; omega
     intro j hj hjn
     simp only[ul,not_or] at hjn;rw[qQ (fun e=>hjn.1 e.symm),hσ2,qM (by simp; omega),qQ (fun e=>hjn.2.1 e.symm),qM (by omega)];exact hfr j hj
   have hc':p.2=true:=by simpa using hc
   rw[if_pos hc'] at hes1;obtain rfl:=Option.some.inj hes1
   obtain⟨k,hk⟩:∃ k:Nat,p.1=k:=⟨p.1.toNat,by have:=(wI he).1; omega⟩
   have he':=he;rw[hk] at he';obtain⟨g0,g1,g2,g3⟩:=wI he';simp only[uG,hidL] at g1 g2 g3;obtain⟨pre,a,post,rfl,rfl⟩:=split_el (show k<L.length by omega)
   have hea:e=a.val:=by
    rw[← g3]; simp
   subst hea;refine zd ?_;simp only[zn];refine⟨_,σ1,⟨rfl,ever,pre,post,.os true 5 a.id a.ver 0 a.trees.length false,hk,by simp,⟨?_,?_,?_,?_,?_,?_,?_,?_,?_⟩,h4,h5⟩,.same ⟨rfl,rfl,rfl,rfl,rfl,trivial⟩ rfl⟩
   · have:=hR1.t
     rw[qG,qs,Nat.add_comm post.length 1] at this; exact this
   · have:=hR1.e
     rw[qZ,qP] at this; exact this
   · intro y hy
     refine hR1.tr y ?_
     rcases List.mem_append.1 hy with h|h
     · exact uH _ h
     exact List.mem_append_right _ (ub _ h)
   · have:=hR1.nd;refine List.Nodup.sublist ?_ this;refine List.Sublist.cons_cons _ (List.Sublist.cons_cons _ ?_);exact (List.Sublist.append_left (List.sublist_cons_self _ _) _).map _
   · refine .inr ⟨a.id,a.ver,rfl,hR1.tr a (by simp),?_,by simp⟩;have:=hR1.nd;simp only[qx,qn,uP,ul,List.mem_append,List.nodup_append,not_or] at this ⊢;obtain⟨⟨h1,h2,h3,h4⟩,⟨h5,h6,h7⟩,h8,⟨h9,h10⟩,h11⟩:=this;exact⟨fun e=>h3 e.symm,fun e=>h6 e.symm,fun hm=>h11 _ hm _ (.inl rfl) rfl,h9⟩
   · intro y hy
     rcases List.mem_append.1 hy with h|h
     · exact uo.2 ⟨y,uH _ h,rfl⟩
     exact uo.2 ⟨y,List.mem_append_right _ (ub _ h),rfl⟩
   · omega
   · intro j hj _; exact hfr j hj
   exact hlt
 clear hes1 hp ht1 hR1 h4 h5 hn1 hfr σ1
 rintro _ τ ⟨rfl,ever1,pre,post,av,hp1,rfl,hM,h4,h5⟩;rw[hp1] at he h;simp only[uG] at h
 have hix:wb tab 34 (.os true 2 eid ever1 0 (pre.length+(1+post.length)) false) (.int .i64 p.1)=some (.op eid ever1 (pre.length*2)):=by
  rw[hp1];simp only[wb,YX,YW]
  simp
  omega
 have ht:=hM.t
 refine rg tok [4,5,6,9] fun K hK=>?_
 simp only[go_sem,qd,qb,qe,reduceCtorEq,ht,hix];apply hK
 clear hK K
 have hcl:(pre.flatMap Ent.cells).length=pre.length*2:=XR pre
 refine yR (fun F τ'=>F=[(5,AV.op (σ.length+1) 0 0),(6,.bool false),(9,.op eid ever1 (pre.length*2))]∧∃ av',Mid σ τ' tid eid ever1 (L.map Ent.id) pre post e.fTag av' (if f.fLabel=3 then e.fTrees else [])∧
  Store.at τ' (σ.length+1) 0=some [.int .i64 x.fKind,.int .i64 x.fN,.str x.fS,.ds true (qc encGEntry x.fEntries) x.fEntries.length false,.ds true (qc encGRaw x.fRest) x.fRest.length false]) ?_ ?_
 · refine rg tok [5,6,9,43] fun K hK=>?_
   simp only[go_sem,qd,qb,qe,h4];apply hK
   clear hK K
   refine zF rfl (fun hc=>?_) (fun hc=>?_)
   · obtain⟨cs,hcs⟩:∃ cs,cs=pre.flatMap Ent.cells++([.int .i64 e.fTag,av]++post.flatMap Ent.cells):=⟨_,rfl⟩
     have hMe:=hM.e;rw[← hcs] at hMe;have hle:(pre.length*2+1<cs.length)=True:=eq_true (by rw[hcs]; simp only[qG,hcl,qs,qt]; omega);have hle':(pre.length*2+1+1≤cs.length)=True:=eq_true (by have:=of_eq_true hle; omega)
     refine rgE tok [5,6,9] fun K hK=>?_
     simp only[go_sem,qd,qb,hMe,hle'];apply hK
     clear hK K
     have hset:cs.set (pre.length*2+1) (.ds true [] 0 true)=pre.flatMap Ent.cells++([.int .i64 e.fTag,.ds true [] 0 true]++post.flatMap Ent.cells):=by
      rw[hcs,← hcl,set_mid1]
     rw[hset];simp only[zn];rw[if_neg hc];have hnd:=hM.nd;have hlt:=hM.lt;rw[uP,uP] at hnd
     have hte:tid≠eid:=fun e=>hnd.1 (e▸List.mem_cons_self ..)
     refine⟨_,_,⟨rfl,.ds true [] 0 true,⟨xJ hM.t hte _,Store.at_set hM.e,?_,hM.nd,.inl ⟨rfl,rfl⟩,hM.sub,?_,?_,hM.lt⟩,xJ h5 ?_ _⟩,.same ⟨rfl,rfl,rfl,trivial⟩ rfl⟩
     · intro y hy
       refine xJ (hM.tr y hy) ?_ _
       intro e; exact hnd.2.1 (e▸uo.2 ⟨y,hy,rfl⟩)
     · have:=hM.len; simpa using this
     · intro j hj hjn
       rw[qQ]
       · exact hM.fr j hj hjn
       intro e; exact hjn (e▸by simp)
     have:=hlt eid (by simp); omega
   refine zd ?_;simp only[zn];rw[if_pos hc];exact⟨_,τ,⟨rfl,av,hM,h5⟩,.same ⟨rfl,rfl,rfl,trivial⟩ rfl⟩
 clear hM h4 h5 hix ht τ av
 rintro _ τ ⟨rfl,av,hM,h5⟩
 obtain⟨cs,hcs⟩:∃ cs,cs=pre.flatMap Ent.cells++([.int .i64 e.fTag,av]++post.flatMap Ent.cells):=⟨_,rfl⟩
 have hMe:=hM.e;rw[← hcs] at hMe;have hle:(pre.length*2+1<cs.length)=True:=eq_true (by rw[hcs]; simp only[qG,hcl,qs,qt]; omega);have hle':(pre.length*2+1+1≤cs.length)=True:=eq_true (by have:=of_eq_true hle; omega)
 have hgc:gc cs (pre.length*2+1)=av:=by rw[hcs,← hcl,gc_mid]
 have heid:(eid<τ.length)=True:=eq_true (Store.at_lt hMe)
 refine rd [6,9] fun K hK=>?_
 refine DW.start (T:=tab) [.any,.any,.any,.any,.own 1 [],.at [],.eff,.eff,.any,.any,.eff] [(1,[])] ?_;refine DW.runN tok 6 ?_;simp only[go_sem,qd,qf,qb,qe,hMe,hle,hgc,heid,h5]
 obtain⟨xc,hxc⟩:∃ xc,xc=[AV.int .i64 x.fKind,.int .i64 x.fN,.str x.fS,.ds true (qc encGEntry x.fEntries) x.fEntries.length false,.ds true (qc encGRaw x.fRest) x.fRest.length false]:=⟨_,rfl⟩
 have hx5:xc.length=5:=by rw[hxc]; rfl
 have hx1:xc.all AV.one=true:=by rw[hxc]; rfl
 have hxe:xc=encGTree x:=by rw[hxc,zM]<;>rfl
 generalize htr:(if f.fLabel=3 then e.fTrees else [])=trees at *
 have key:∃ nid nver τ3,ye tab 38 38 av (.os true 5 τ.length 0 0 1 true) (τ++[.cells 0 xc])=some (.os true 5 nid nver 0 (trees.length+1) false,τ3)∧Store.at τ3 nid nver=some (trees.flatMap encGTree++xc)∧
  (∀ j v cs,Store.at τ j v=some cs→j≠nid→Store.at τ3 j v=some cs)∧nid∉tid::eid::(pre++post).map Ent.id∧(nid∈L.map Ent.id∨σ.length≤nid)∧τ.length≤τ3.length∧∀ j,j<σ.length→j∉tid::eid::L.map Ent.id→τ3[j]?=τ[j]?:=by
  have e1:z1 (τ++[.cells 0 xc]) 5 (.os true 5 τ.length 0 0 1 true)=some (1,xc):=by
   simp only[z1,XT τ xc []];rw[if_pos (by omega),qv,Nat.one_mul,← hx5,qV]
  rcases hM.c with ⟨rfl,h0⟩|⟨id,ver,rfl,h1,h2,h3⟩
  · refine⟨τ.length+1,0,τ++[.cells 0 xc]++[.cells 0 xc],?_,?_,fun j v cs hj _=>wJ (wJ hj _) _,fun hj=>?_,.inr (by have:=hM.len; omega),by simp,fun j hj _=>?_⟩
    · subst h0;simp only[ye,tab_38,tab_37,e1,yd,hx1,zO,if_true,qG,qs,qt]
      simp
    · subst h0;simp only[ue,qN,qL];exact at_end1 _ _ _ _
    · have:τ.length+1<σ.length:=hM.lt _ (by
       rcases ul.1 hj with h|h
       · rw[h]; simp
       rcases ul.1 h with h|h
       · rw[h]; simp
       obtain⟨y,hy,h'⟩:=uo.1 h
       rw[← h']; exact ub _ (ub _ (hM.sub y hy)))
      have:=hM.len; omega
    have:=hM.len;rw[ue,qM (by omega)]
  refine⟨id,ver+1,List.set (τ++[AObj.cells 0 xc]) id (AObj.cells (ver+1) (trees.flatMap encGTree++xc)),?_,Store.at_set (wJ h1 _),fun j v cs hj hne=>xJ (wJ hj _) hne _,h2,.inl h3,by simp,fun j hj hjn=>?_⟩
  · have hl:(trees.flatMap encGTree).length=trees.length*5:=zz E38.len trees
    have hg':((trees.length+1)*80≤140737488355328)=True:=by
     rw[← htr]
     by_cases hl3:f.fLabel=3
     · rw[if_pos hl3]; rw[if_pos hl3] at hg; exact hg
     rw[if_neg hl3]; simp
    simp only[ye,tab_38,tab_37,e1,yd,hx1,zO,wJ h1,hl,hg',and_self,qd,if_true]
  have:=hM.len;rw[qQ,qM (by omega)]
  intro e; exact hjn (e▸ub _ (ub _ h3))
 obtain⟨nid,nver,τ3,k1,k2,k3,k4,k5,k6,k7⟩:=key
 have hne:eid≠nid:=fun e=>k4 (e▸by simp)
 have hMe3:=k3 _ _ _ hMe hne;refine DW.runN tok 1 ?_;simp only[go_sem,qd,qf,qb,qe,qi,zv,zQ,qO,qI,true_and,qT,agr_app];rw[← hxc];refine DW.runN tok 1 ?_;simp only[go_sem,qd,qf,qb,qe,k1];refine DW.runN tok 3 ?_;simp only[go_sem,qd,qf,qb,qe,hMe3,hle'];refine DW.fin tok (by decide +kernel) rfl ?_;simp only[zn,upd,qb,reduceIte,ym,y1];apply hK
 clear hK K
 have hset:cs.set (pre.length*2+1) (.os true 5 nid nver 0 (trees.length+1) false)=pre.flatMap Ent.cells++([.int .i64 e.fTag,.os true 5 nid nver 0 (trees.length+1) false]++post.flatMap Ent.cells):=by
  rw[hcs,← hcl,set_mid1]
 have hat4:=Store.at_set (ver':=ever1) (cs':=cs.set (pre.length*2+1) (.os true 5 nid nver 0 (trees.length+1) false)) hMe3
 generalize cs.set (pre.length*2+1) (.os true 5 nid nver 0 (trees.length+1) false)=cs4 at *
 have hgc4:gc cs4 (pre.length*2+1)=.os true 5 nid nver 0 (trees.length+1) false:=by rw[hset,← hcl,gc_mid]
 have hle4:(pre.length*2+1<cs4.length)=True:=eq_true (by rw[hset]; simp only[qG,hcl,qs,qt]; omega)
 refine rg tok [6] fun K hK=>?_
 simp only[go_sem,qd,qb,hat4,hgc4,hle4];apply hK
 clear hK K
 refine zE ?_;simp only[wg,zX,z7,yN,exists_eq_left',go_sem];have h':=Option.some.inj h;obtain⟨h1,h2⟩:=Prod.mk.inj h';have hnd:=hM.nd;have hlt:=hM.lt;rw[uP,uP] at hnd
 have hte:tid≠eid:=fun e=>hnd.1 (e▸List.mem_cons_self ..)
 have htn:tid≠nid:=fun e=>k4 (e▸by simp)
 have hll:(trees++[x]).length=trees.length+1:=by simp
 refine⟨ever1,pre++⟨e.fTag,nid,nver,trees++[x]⟩::post,?_,⟨?_,?_,?_,?_⟩,?_,?_,?_,?_⟩
 · rw[← h2,hll]
 · refine xJ ?_ hte _;have:=k3 _ _ _ hM.t htn;rw[this];simp only[Option.some.injEq,List.cons.injEq,AV.os.injEq,true_and,and_true,qG,qs]
   omega
 · rw[hat4,hset]
   simp[Ent.cells]
 · intro y hy
   rcases List.mem_append.1 hy with hy|hy
   · refine xJ (k3 _ _ _ (hM.tr y (uH _ hy)) ?_) ?_ _
     · intro e'; exact k4 (e'▸ub _ (ub _ (uo.2 ⟨y,uH _ hy,rfl⟩)))
     intro e'; exact hnd.2.1 (e'▸uo.2 ⟨y,uH _ hy,rfl⟩)
   rcases ul.1 hy with rfl|hy
   · refine xJ ?_ hne.symm _
     show Store.at τ3 nid nver=some ((trees++[x]).flatMap encGTree)
     rw[k2,qZ,hxe]; simp
   refine xJ (k3 _ _ _ (hM.tr y (List.mem_append_right _ hy)) ?_) ?_ _
   · intro e'; exact k4 (e'▸ub _ (ub _ (uo.2 ⟨y,List.mem_append_right _ hy,rfl⟩)))
   intro e'; exact hnd.2.1 (e'▸uo.2 ⟨y,List.mem_append_right _ hy,rfl⟩)
 · have hp:(nid::tid::eid::(pre++post).map Ent.id).Nodup:=uP.2 ⟨k4,hM.nd⟩;refine (List.Perm.nodup_iff ?_).1 hp;refine (List.Perm.swap _ _ _).trans (List.Perm.cons _ ((List.Perm.swap _ _ _).trans (List.Perm.cons _ ?_)));rw[qx,qx,qn];exact (List.perm_middle).symm
 · rw[← h1,← hidL pre,set_mid]
   simp[Ent.val]
 · intro y hy
   rcases List.mem_append.1 hy with hy|hy
   · exact .inl (hM.sub y (uH _ hy))
   rcases ul.1 hy with rfl|hy
   · exact k5
   exact .inl (hM.sub y (List.mem_append_right _ hy))
 · have:=hM.len; simp; omega
 intro j hj hjn
 rw[qQ (fun e=>hjn (by rw[← e]; simp)),k7 j hj hjn];exact hM.fr j hj hjn
end
section
set_option maxRecDepth 8000
set_option maxHeartbeats 1000000
open Go.RowKit AM
def Zf (m:GMessage):List GEntry→Option (List GEntry)
 |[]=>some []
 |e::l=>(xi e m).bind fun b=>(Zf m l).bind fun l'=>some (if b=true then l' else e::l')
theorem idx_del (m:GMessage):∀ (es:List GEntry) (x:Int) (es':List GEntry),Zf m es=some es'→
 ∃ r,zs.l4 m es x=some r∧((r = -1∧es'=es)∨∃ pre e post post',es=pre++e::post∧r=x+pre.length∧Zf m post=some post'∧es'=pre++post'):=by
 intro es
 induction es with
 |nil=>intro x es' h; cases h; exact⟨-1,rfl,.inl ⟨rfl,rfl⟩⟩
 |cons e l ih=>
  intro x es' h
  simp only[Zf] at h;obtain⟨b,hb,h⟩:=bind_some h;obtain⟨l',hl,h⟩:=bind_some h;obtain rfl:=Option.some.inj h;simp only[zs.l4,hb,uA]
  cases b with
  |true=>exact⟨x,rfl,.inr ⟨[],e,l,l',rfl,by simp,hl,rfl⟩⟩
  |false=>
   obtain⟨r,h1,h2⟩:=ih (x+1) l' hl;refine⟨r,h1,?_⟩
   rcases h2 with ⟨rfl,rfl⟩|⟨pre,e2,post,post',rfl,rfl,h3,rfl⟩
   · exact .inl ⟨rfl,rfl⟩
   exact .inr ⟨e::pre,e2,post,post',rfl,by simp; omega,h3,rfl⟩
theorem tell_fn {σ:Store}{keep:List Nat}{ls:Bool}{f:Nat}{g:Fn}{a b:List AV}:tell σ keep ls (f+1) (.fn g a b)=.fn g (a.map (tell σ keep ls f)) (b.map (tell σ keep ls f)):=rfl
theorem tell_msg {σ:Store}{keep:List Nat}{f:Nat}{g:Fn}{m:GMessage}:tell σ keep true (f+1+1+1) (.fn g [] [.dp (encGMessage m) 0])=.fn g [] [.dp (encGMessage m) 0]:=by
 simp only[tell_fn,qj,qn,tell_dp,encGMessage,Xk,Zw,zg,qo,qq,qr]
theorem vaC (n:Nat):(zQ [AV.int .i64 0,.ds true [] 0 true] n).all AV.one=true:=by
 rw[ud]
 intro x hx
 obtain⟨k,_,rfl⟩:=uo.1 hx
 have:k % 2=0∨k % 2=1:=by omega
 rcases this with h|h<;>simp[h,AV.one,gc]
theorem DeleteFunc_at {σ:Store}{id ver:Nat}{nl:Bool}{es es':List GEntry}(m:GMessage)(hcs:Store.at σ id ver=some (es.flatMap encGEntry))(h:Zf m es=some es')(hB:es.length≤1000000000000000):
 ACalls qg 196 [.os nl 2 id ver 0 es.length false,.fn (.func 197) [] [.dp (encGMessage m) 0]] σ (fun r σ'=>∃ cs g,r=.os nl 2 id ver 0 es'.length false∧σ'=List.set σ id (.cells ver (es'.flatMap encGEntry++cs))++g):=by
 obtain⟨r,hr,hcase⟩:=idx_del m es 0 es' h;refine w8 (rs:=[.tmp 4]) tok Tryz.func196 rfl Tryz.ntmps196 rfl Tryz.call196 (by simp) ?_;refine zk [(0,.os nl 2 id ver 0 es.length false),(1,.fn (.func 197) [] [.dp (encGMessage m) 0])] ⟨rfl,rfl,trivial⟩ ?_
 refine rg tok [0,1] fun K hK=>?_
 simp only[go_sem,qd,qb,reduceCtorEq];apply hK
 clear hK K
 have htold:tell σ [] true 12 (.os nl 2 id ver 0 es.length false)=.ds true (es.flatMap encGEntry) es.length false:=by
  have hl:(es.flatMap encGEntry).length=es.length*2:=zz E34.len es;simp only[wf,xI,hcs];rw[if_pos (by rw[hl]; omega),qv,← hl,qV,zg]
 refine rc [0,1,5] fun K hK=>?_
 refine zj tok 2 ?_;simp only[go_sem,qd,qb,reduceCtorEq];refine wC rfl rfl rfl ((zs.ok es m r hr).lend rfl true 12 (by simp only[qn,qj,go_sem,qb,reduceCtorEq,htold,tell_msg])) ?_;rintro _ _ ⟨rfl,hσ⟩
 rw[hσ]; clear hσ
 refine zj tok 1 ?_;simp only[go_sem,qd,qb,reduceCtorEq];refine zb ?_;simp only[zn,upd,qb,reduceIte,ym,y1];apply hK
 clear hK K
 refine za fun Z hZ=>?_
 refine rg tok [0,1,5,12] fun K hK=>?_
 simp only[go_sem,qd,qb,reduceCtorEq];apply hK
 clear hK K
 refine zF rfl (fun hc=>?_) (fun hc=>?_)
 · have he:es'=es:=by
    rcases hcase with ⟨_,h⟩|⟨pre,e,post,post',_,h2,_⟩
    · exact h
    omega
   subst he
   refine rg tok [4] fun K hK=>?_
   simp only[go_sem,qd,qb,reduceCtorEq];apply hK
   clear hK K
   refine zE ?_;simp only[wg,zX,z7,yN,exists_eq_left',go_sem];exact⟨[],[],by rw[q1,q1,Store.set_at hcs]⟩
 obtain⟨pre,e,post,post',he,h2,h3,h4⟩:∃ pre e post post',es=pre++e::post∧r=0+(pre.length:Int)∧Zf m post=some post'∧es'=pre++post':=by
  rcases hcase with ⟨h,_⟩|h
  · exact absurd h hc
  exact h
 rw[Int.zero_add] at h2;subst h2
 have hl0:es.length=pre.length+(post.length+1):=by rw[he]; simp
 refine zd ?_;refine hZ _ _ ?_
 clear hZ Z
 have hw1:IntKind.i64.wrap ((pre.length:Int)+1)=(pre.length:Int)+1:=by rw[IntKind.wrap_i64]; omega
 refine za fun Z hZ=>?_
 refine rg tok [0,1,5,6] fun K hK=>?_
 simp only[go_sem,qd,qb,reduceCtorEq,hw1];apply hK
 clear hK K
 refine ze ?_
 refine zN (fun k F τ=>∃ (cur kept rest rest':List GEntry) (j:Nat) (g:Store),k=rest.length∧F=[(0,AV.os nl 2 id ver 0 es.length false),(1,.fn (.func 197) [] [.dp (encGMessage m) 0]),(5,.int .i64 (kept.length:Int)),(6,.int .i64 (j:Int))]∧
  τ=List.set σ id (.cells ver (cur.flatMap encGEntry))++g∧cur.length=es.length∧cur.take kept.length=kept∧cur.drop j=rest∧j+rest.length=es.length∧kept.length<j∧Zf m rest=some rest'∧es'=kept++rest') post.length
  ⟨es,pre,post,post',pre.length+1,[],rfl,rfl,by rw[Store.set_at hcs,q1],rfl,by rw[he,List.take_left],by rw[he,← uS,List.drop_left]; rfl,by omega,by omega,h3,h4⟩ (.same ⟨rfl,rfl,rfl,rfl,trivial⟩ rfl) ?_
 rintro k _ _ ⟨cur,kept,rest,rest',j,g,rfl,rfl,rfl,c1,c2,c3,c4,c5,c6,c7⟩;have hat:Store.at (List.set σ id (.cells ver (cur.flatMap encGEntry))++g) id ver=some (cur.flatMap encGEntry):=wJ (Store.at_set hcs) _
 obtain⟨τ,hτ⟩:∃ τ,τ=List.set σ id (.cells ver (cur.flatMap encGEntry))++g:=⟨_,rfl⟩
 rw[← hτ] at hat ⊢
 refine za fun Y hY=>?_
 refine rg tok [0,1,5,6,19] fun K hK=>?_
 simp only[go_sem,qd,qb,reduceCtorEq];apply hK
 clear hK K
 refine zF rfl (fun hc=>?_) (fun hc=>?_)
 · refine zd ?_;refine hY _ _ ?_
   clear hY Y
   rcases rest with _|⟨e2,rest⟩
   · simp only[qt] at c4; omega
   simp only[Zf] at c6;obtain⟨b,hb,c6⟩:=bind_some c6;obtain⟨l',hl',c6⟩:=bind_some c6;obtain rfl:=Option.some.inj c6;simp only[qs] at c4
   have hx:YS cur (j:Int)=some e2:=by
    unfold YS;rw[if_pos (by omega),uG]
    have:(cur.drop j)[0]?=some e2:=by rw[c3]; rfl
    rwa [List.getElem?_drop,uF] at this
   have hcd:cur.drop (j+1)=rest:=by rw[← uS,c3]; rfl
   have hw6:IntKind.i64.wrap ((j:Int)+1)=((j+1:Nat):Int):=by rw[IntKind.wrap_i64]; omega
   have hix:=E34.idxO hx nl false .i64 2 id ver;rw[c1] at hix;have hrd:=E34.rdO hx
   refine za fun X hX=>?_
   have fin:∀ (cur' kept':List GEntry) (F:Fr) (τ':Store),Fits F [(0,AV.os nl 2 id ver 0 es.length false),(1,.fn (.func 197) [] [.dp (encGMessage m) 0]),(5,.int .i64 (kept'.length:Int)),(6,.int .i64 (j:Int))]→(∃ g',τ'=List.set σ id (.cells ver (cur'.flatMap encGEntry))++g')→cur'.length=es.length→cur'.take kept'.length=kept'→cur'.drop (j+1)=rest→kept'.length<j+1→es'=kept'++l'→
    X F τ':=by
    rintro cur' kept' F _ hF ⟨g',rfl⟩ d1 d2 d3 d4 d5;refine hX _ _ (yz (.same hF rfl) ?_)
    refine rgE tok [0,1,5,6] fun K hK=>?_
    simp only[go_sem,qd,qb,reduceCtorEq,hw6];apply hK
    clear hK K
    simp only[zn];exact⟨rest.length,_,_,by simp,⟨cur',kept',rest,l',j+1,g',rfl,rfl,rfl,d1,d2,d3,by omega,by omega,hl',d5⟩,.same ⟨rfl,rfl,rfl,rfl,trivial⟩ rfl⟩
   clear hX
   have hae:∀ cs,Store.at (τ++[.cells 0 cs]) τ.length 0=some cs:=fun cs=>XT τ cs []
   have hse:∀ cs cs',(τ++[AObj.cells 0 cs]).set τ.length (.cells 0 cs')=τ++[.cells 0 cs']:=fun cs cs'=>set_mid τ _ _ []
   have hw5:IntKind.i64.wrap ((kept.length:Int)+1)=((kept.length+1:Nat):Int):=by rw[IntKind.wrap_i64]; omega
   refine ze ?_
   refine rg tok [0,1,5,6,7] fun K hK=>?_
   simp only[go_sem,qd,qf,qb,qe,reduceCtorEq,hat,hix,hrd,yq,cellsGEntry,hae,hse,qs,qt,ux,uy];apply hK
   clear hK K
   refine rc [0,5,6,7,1,29] fun K hK=>?_
   refine zj tok 2 ?_;simp only[go_sem,qd,qf,qb,qe,reduceCtorEq,hae,qs,qt];refine wC rfl rfl rfl (xi.ev e2 m b hb _) ?_;rintro _ _ ⟨rfl,hσ⟩
   rw[hσ]; clear hσ
   refine zj tok 1 ?_;simp only[go_sem,qd,qb,reduceCtorEq];refine zb ?_;simp only[zn,upd,qb,reduceIte,ym,y1];apply hK
   clear hK K
   cases b with
   |true=>
    refine zp rfl ?_;refine zd ?_;simp only[ZR,zn];exact fin cur kept _ _ ⟨rfl,rfl,rfl,rfl,trivial⟩ ⟨g++[.cells 0 [.int .i64 e2.fTag,.ds true (qc encGTree e2.fTrees) e2.fTrees.length false]],by rw[hτ,ue]⟩ c1 c2 hcd (by omega) c7
   |false=>
    refine zq rfl ?_
    have hkl:kept.length<cur.length:=by omega
    have hx2:YS cur (kept.length:Int)=some cur[kept.length]:=by
     unfold YS;rw[if_pos (by omega),uG,qU hkl]
    have hix2:=E34.idxO hx2 nl false .i64 2 id ver;rw[c1] at hix2;have hsc:=E34.stOc hx2;have hsr:=E34.stOr hx2 (y:=e2) (cs:=[.int .i64 e2.fTag,.ds true (qc encGTree e2.fTrees) e2.fTrees.length false]) (by rw[yq]<;>rfl);simp only[y0] at hsr;have hat1:Store.at (τ++[.cells 0 [.int .i64 e2.fTag,.ds true (qc encGTree e2.fTrees) e2.fTrees.length false]]) id ver=some (cur.flatMap encGEntry):=wJ hat _
    refine rg tok [0,1,5,6] fun K hK=>?_
    simp only[go_sem,qd,qf,qb,qe,reduceCtorEq,hae,hix2,hsc,hsr,hat1,qs,qt];apply hK
    clear hK K
    refine rgE tok [0,1,5,6] fun K hK=>?_
    simp only[go_sem,qd,qb,reduceCtorEq,hw5];apply hK
    clear hK K
    simp only[ZR,zn]
    have hlen:(kept++[e2]).length=kept.length+1:=by simp
    refine fin (setI cur (kept.length:Int) e2) (kept++[e2]) _ _ ⟨rfl,rfl,by rw[hlen]; rfl,rfl,trivial⟩ ⟨g++[.cells 0 [.int .i64 e2.fTag,.ds true (qc encGTree e2.fTrees) e2.fTrees.length false]],?_⟩ ?_ ?_ ?_ (by rw[hlen]; omega) (by rw[c7]; simp)
    · rw[hτ,ue,List.set_append_left _ _ (by simpa using Store.at_lt hcs),List.set_set]
    · rw[Zz]; exact c1
    · rw[hlen];unfold setI;rw[uG,List.take_set,List.take_add_one,c2,qU hkl]
      simp
    unfold setI;rw[uG,List.drop_set_of_lt (by omega)];exact hcd
 refine zI ?_;simp only[go_sem];have hr0:rest=[]:=qC.1 (by omega);subst hr0;cases c6;rw[q1] at c7;subst c7;simp only[qt,uF] at c4
 have hkn:es'.length<es.length:=by omega
 have hsl1:wG tab 34 (.os nl 2 id ver 0 es.length false) (some (.int .i64 (es'.length:Int))) none none=some (.os nl 2 id ver (es'.length*2) (es.length-es'.length) false):=by
  simp only[wG,YX,YW,vas]
  simp
  omega
 have hsl2:wG tab 34 (.os nl 2 id ver 0 es.length false) none (some (.int .i64 (es'.length:Int))) none=some (.os nl 2 id ver 0 es'.length false):=by
  simp only[wG,YX,YW,vas]
  simp
  omega
 have hcl:(cur.flatMap encGEntry).length=es.length*2:=by rw[← c1]; exact zz E34.len cur
 have hzl:∀ n,(zQ [AV.int .i64 0,.ds true [] 0 true] n).length=n:=fun n=>by simp[zQ]
 have hsr:y0 (cur.flatMap encGEntry) (es'.length*2) (zQ [AV.int .i64 0,.ds true [] 0 true] ((es.length-es'.length)*2))=es'.flatMap encGEntry++zQ [AV.int .i64 0,.ds true [] 0 true] ((es.length-es'.length)*2):=by
  have e0:cur.flatMap encGEntry=es'.flatMap encGEntry++((cur.drop es'.length).flatMap encGEntry++[]):=by
   rw[q1,← qZ]
   congr 1
   conv=>lhs; rw[← ug es'.length cur,c2]
  have l1:(es'.flatMap encGEntry).length=es'.length*2:=zz E34.len _;rw[e0,← l1,Zy _ _ _ _ (by rw[hzl,zz E34.len,List.length_drop,c1]),q1]
 have hclr:vaR tab 34 (.os nl 2 id ver (es'.length*2) (es.length-es'.length) false) τ=some (.tup [],τ.set id (.cells ver (es'.flatMap encGEntry++zQ [AV.int .i64 0,.ds true [] 0 true] ((es.length-es'.length)*2)))):=by
  have hp:wX τ (.os nl 2 id ver (es'.length*2) (es.length-es'.length) false) (es.length-es'.length) 2 (zQ [AV.int .i64 0,.ds true [] 0 true] ((es.length-es'.length)*2))=some (τ.set id (.cells ver (es'.flatMap encGEntry++zQ [AV.int .i64 0,.ds true [] 0 true] ((es.length-es'.length)*2)))):=by
   unfold wX;rw[if_neg (by omega)];simp only[hat];rw[if_pos ⟨trivial,by rw[hzl,hcl,← uR]; exact qY _ (by omega),vaC _⟩,hsr]
  simp only[vaR,YX,YW,AV.cells,hp]
  simp[AV.okc,AV.one]
 refine hZ _ _ ?_
 refine rg tok [0,5] fun K hK=>?_
 simp only[go_sem,qd,qb,reduceCtorEq,hsl1,hclr];apply hK
 clear hK K
 refine rg tok [4] fun K hK=>?_
 simp only[go_sem,qd,qb,reduceCtorEq,hsl2];apply hK
 clear hK K
 refine zE ?_;simp only[wg,zX,z7,yN,exists_eq_left',go_sem];refine⟨zQ [AV.int .i64 0,.ds true [] 0 true] ((es.length-es'.length)*2),g,?_⟩;rw[hτ,List.set_append_left _ _ (by simpa using Store.at_lt hcs),List.set_set]
end
section
set_option maxRecDepth 8000
set_option maxHeartbeats 1000000
open Go.RowKit AM
def zL.l (yM:GSchema→GType→GRaw→Int→Option (GTree×Int))(a0:GSchema)(a1:GMessage)(a3:Int):List GRaw→List GEntry→List GRaw→Option (GTree×Int)
 |[],es,rest=>(Xm es.length 32).bind fun _=>(Zf a1 es).bind fun es'=>(z8 rest).bind fun r=>some ((⟨3,0,[],es',r⟩:GTree),0)
 |r::q,es,rest=>bnd (yG a1 r.fTag) fun f=>(if f.2=true then (yM a0 f.1.fType r a3).bind fun x=>(if x.2=0 then (X8 es f.1 x.1).bind fun p=>(if p.2=true then zL.l yM a0 a1 a3 q p.1 rest else some ((⟨0,0,[],[],[]⟩:GTree),4)) else some ((⟨0,0,[],[],[]⟩:GTree),x.2))
  else (Xm (rest.length+1) 40).bind fun _=>zL.l yM a0 a1 a3 q es (rest++[r]))
def zL.body (zA:GSchema→GMessage→List UInt8→Int→Option (GTree×Int))(yM:GSchema→GType→GRaw→Int→Option (GTree×Int))(a0:GSchema)(a1:GMessage)(a2:List UInt8)(a3:Int):Option (GTree×Int):=
 if 10<a3 then some ((⟨0,0,[],[],[]⟩:GTree),10) else (Zc a2).bind fun g=>if g.2=0 then zL.l yM a0 a1 a3 g.1 [] [] else some ((⟨0,0,[],[],[]⟩:GTree),g.2)
structure Loop (τ:Store)(a0:GSchema)(a1:GMessage)(ever rver:Nat)(L:List Ent)(rest:List GRaw):Prop where
 h0:Store.at τ 0 0=some (encGSchema a0)
 h1:Store.at τ 1 0=some (encGMessage a1)
 h2:Store.at τ 2 0=some [.int .i64 0,.int .i64 0,.str [],.ds true [] 0 true,.ds true [] 0 true]
 rep:Rep τ 3 4 ever L
 h5:Store.at τ 5 rver=some (rest.flatMap encGRaw)
 ids:∀ y∈L,6≤y.id
theorem Loop.app {τ:Store}{a0:GSchema}{a1:GMessage}{ever rver:Nat}{L:List Ent}{rest:List GRaw}(h:Loop τ a0 a1 ever rver L rest)(l:Store):Loop (τ++l) a0 a1 ever rver L rest:=
 ⟨wJ h.h0 l,wJ h.h1 l,wJ h.h2 l,h.rep.app l,wJ h.h5 l,h.ids⟩
theorem XB {σ:Store}{keep:List Nat}{e:Int}:tell σ keep true 12 (.tup [.agg [.int .i64 0,.int .i64 0,.str [],.ds true [] 0 true,.ds true [] 0 true],.int .i64 e])=.tup [.agg (cellsGTree ⟨0,0,[],[],[]⟩),.int .i64 e]:=by
 simp only[tell_tup,qn,qj,tell_agg,Xl,Xk,Zw]
 rfl
theorem zL.step (zA:GSchema→GMessage→List UInt8→Int→Option (GTree×Int))(yM:GSchema→GType→GRaw→Int→Option (GTree×Int))
 (YO:∀ (a0:GSchema) (a1:GType) (a2:GRaw) (a3:Int) (r:GTree×Int),yM a0 a1 a2 a3=some r→ACalls qg 194 [.agg (encGSchema a0),.agg (encGType a1),.agg (encGRaw a2),.int .i64 a3] [] (fun r' _=>r'=.tup [.agg (cellsGTree r.1),.int .i64 r.2]))
 (a0:GSchema) (a1:GMessage) (a2:List UInt8) (a3:Int) (r:GTree×Int) (h:zL.body zA yM a0 a1 a2 a3=some r):
 ACalls qg 149 [.agg (encGSchema a0),.agg (encGMessage a1),.ds true (qc encB a2) (qa a2) false,.int .i64 a3] [] (fun r' _=>r'=.tup [.agg (cellsGTree r.1),.int .i64 r.2]):=by
 have ev_one:=fun a0 a1 a2 a3 r h σ=>(YO a0 a1 a2 a3 r h).pureAt (by simp only[AV.canon,canonL,canon_all,qB,qp,qo,encGRaw,encGSchema,encGType]) (by simp only[AV.canon,canonL,canon_all,qB,qp,qo,cellsGTree]) σ
 refine zf (rs:=[.cell 8 37,.tmp 9]) tok Tryz.func149 rfl Tryz.ntmps149 rfl Tryz.call149 (by simp) ?_;refine zk [(0,.agg (encGSchema a0)),(1,.agg (encGMessage a1)),(2,.ds true (qc encB a2) (qa a2) false),(3,.int .i64 a3)] ⟨rfl,rfl,rfl,rfl,trivial⟩ ?_;unfold zL.body at h
 refine rg tok [2,3,4,5,8,9] fun K hK=>?_
 simp only[go_sem,qd,qb,qe,reduceCtorEq,encGSchema,encGMessage];apply hK
 clear hK K
 refine za fun Z hZ=>?_
 refine rg tok [2,3,4,5,8,9,21] fun K hK=>?_
 simp only[go_sem,qd,qb];apply hK
 clear hK K
 refine zF rfl (fun hc=>?_) (fun hc=>?_)
 · rw[if_pos hc] at h;obtain rfl:=Option.some.inj h
   refine rg tok [8,9] fun K hK=>?_
   simp only[go_sem,qd,qf,qb,qe];apply hK
   clear hK K
   refine zE ?_;simp only[wg,zX,z7,yN,exists_eq_left',go_sem,qf,qb,qe];exact XB
 rw[if_neg hc] at h;obtain⟨g,hg,h⟩:=bind_some h;refine zd ?_;refine hZ _ _ ?_
 clear hZ Z
 refine rc [3,4,5,8,9,10,11] fun K hK=>?_
 refine zj tok 1 ?_;simp only[go_sem,qd,qb];refine wC rfl rfl rfl (Zc.ev a2 g hg _) ?_;rintro _ _ ⟨rfl,hσ⟩
 rw[hσ]; clear hσ
 refine zj tok 5 ?_;simp only[go_sem,qd,qb,qe];refine zb ?_;simp only[zn,upd,qb,reduceIte,ym,y1];apply hK
 clear hK K
 refine za fun Z hZ=>?_
 refine rg tok [3,4,5,8,9,10,11,29] fun K hK=>?_
 simp only[go_sem,qd,qb];apply hK
 clear hK K
 refine zF rfl (fun hc2=>?_) (fun hc2=>?_)
 · rw[if_neg hc2] at h;obtain rfl:=Option.some.inj h
   refine rg tok [8,9] fun K hK=>?_
   simp only[go_sem,qd,qf,qb,qe];apply hK
   clear hK K
   refine zE ?_;simp only[wg,zX,z7,yN,exists_eq_left',go_sem,qf,qb,qe];exact XB
 rw[if_pos hc2] at h;refine zd ?_;refine hZ _ _ ?_
 clear hZ Z
 refine rg tok [3,4,5,8,9,10,12] fun K hK=>?_
 simp only[go_sem,qd,qf,qb,qe];apply hK
 clear hK K
 refine wd 3 3 2 rfl (by simp) rfl (L:=[(3,.int .i64 a3),(4,.op 0 0 0),(5,.op 1 0 0),(8,.op 2 0 0),(9,.int .i64 0),(10,.ds true (qc encGRaw g.1) (qa g.1) false),(12,.op 3 0 0)]) (.same ⟨rfl,rfl,rfl,rfl,rfl,rfl,rfl,trivial⟩ rfl) ?_
 refine rg tok [3,4,5,8,9,10,12,13] fun K hK=>?_
 simp only[go_sem,qd,qb,qe];apply hK
 clear hK K
 refine YG 13 4 rfl ?_;refine yz (L:=[(3,.int .i64 a3),(4,.op 0 0 0),(5,.op 1 0 0),(8,.op 2 0 0),(9,.int .i64 0),(10,.ds true (qc encGRaw g.1) (qa g.1) false),(12,.op 3 0 0),(13,.os true 4 5 0 0 0 false)]) (.same ⟨rfl,rfl,rfl,rfl,rfl,rfl,rfl,rfl,trivial⟩ rfl) ?_
 refine za fun Z hZ=>?_
 refine yl 10 fun hb=>?_
 replace hb:qa g.1≤9223372036854775807:=hb.1
 refine rg tok [3,4,5,8,9,12,13,33,34,35] fun K hK=>?_
 simp only[go_sem,qd,qb];apply hK
 clear hK K
 refine ze ?_
 refine zN (fun k F τ=>∃ (p q:List GRaw) (i:Int) (L:List Ent) (rest:List GRaw) (ever rver:Nat),k=q.length∧F=[(3,AV.int .i64 a3),(4,.op 0 0 0),(5,.op 1 0 0),(8,.op 2 0 0),(9,.int .i64 0),(12,.op 3 0 0),(13,.os true 4 5 rver 0 rest.length false),(33,.ds true (qc encGRaw g.1) (qa g.1) false),(34,.int .i64 (qa g.1:Int)),(35,.int .i64 i)]∧Loop τ a0 a1 ever rver L rest∧g.1=p++q∧i=(p.length:Int)∧zL.l yM a0 a1 a3 q (L.map Ent.val) rest=some r) g.1.length
  ⟨[],g.1,0,[],[],0,0,rfl,rfl,⟨rfl,rfl,rfl,⟨rfl,rfl,fun _ h=>(by cases h),by simp⟩,rfl,fun _ h=>(by cases h)⟩,rfl,rfl,h⟩ (.same ⟨rfl,rfl,rfl,rfl,rfl,rfl,rfl,rfl,rfl,rfl,trivial⟩ rfl) ?_
 clear h
 rintro k _ τ ⟨p,q,i,L,rest,ever,rver,rfl,rfl,hL,hE,hi,h⟩
 refine rg tok [3,4,5,8,9,12,13,33,34,35,36] fun K hK=>?_
 simp only[go_sem,qd,qb];apply hK
 clear hK K
 refine za fun Y hY=>?_
 rcases q with _|⟨y,q⟩
 · have hz:=yJ hE hi;refine zF rfl (fun hc=>absurd hc (by rw[hz]; exact id)) (fun _=>?_);refine zI ?_;simp only[zn,go_sem];simp only[zL.l] at h;obtain⟨u,hu,h⟩:=bind_some h;have hrm:=of_eq_true (yy hu);obtain⟨es',hes,h⟩:=bind_some h;obtain⟨rr,hrr,h⟩:=bind_some h;obtain rfl:=Option.some.inj h
   have hid:∀ y∈L,Zt [2,3,4] y.id 0=none:=by
    intro y hy
    have:=hL.ids y hy;simp only[wO,xI];rw[if_neg (by omega),if_neg (by omega),if_neg (by omega)]
   have hget:∀ {j v:Nat} {cs:List AV},Store.at τ j v=some cs→τ.getD j .dead=.cells v cs:=by
    intro j v cs hj
    rw[qy,Store.at_some hj]; rfl
   have hl4:(rest.flatMap encGRaw).length=rest.length*4:=zz E35.len rest;have hcells:=hL.rep.toldC [2,3,4] false 10 hid
   have htS:tellS τ [2,3,4] false 12=[.cells 0 [.int .i64 0,.int .i64 0,.str [],.ds true [] 0 true,.ds true [] 0 true],.cells 0 [.int .i64 3,.int .i64 0,.str [],.os true 2 2 ever 0 (L.map Ent.val).length false,.ds true [] 0 true],.cells ever ((L.map Ent.val).flatMap encGEntry)]:=by
    simp only[tellS,qn,qj,hget hL.h2,hget hL.rep.t,hget hL.rep.e,Y3,Xl,Xk,Zw,wf,wO,xI,qb,if_true,if_false,hcells,q5,qE,qp,qz,qe]
   have hrest:tell τ [2,3,4] false 12 (.os true 4 5 rver 0 rest.length false)=.ds true (rest.flatMap encGRaw) rest.length false:=by
    simp only[wf,wO,xI,qb,if_false,hL.h5];rw[if_pos (by rw[hl4]; omega),qv,← hl4,qV,zg]
   have hmsg:tell τ [2,3,4] false 12 (.op 1 0 0)=.dp (encGMessage a1) 0:=by
    simp only[tell_op,wO,xI,qb,if_false,hL.h1,encGMessage,qn,qj,Xk,Zw,zg,qE,qp,qz]
   have hk3:[2,3,4].Nodup:=by decide
   have hlt5:=Store.at_lt hL.h5;refine hZ _ _ ?_;refine yz (L:=[(5,.dp (encGMessage a1) 0),(8,.op 0 0 0),(12,.op 1 0 0),(13,.ds true (rest.flatMap encGRaw) rest.length false)]) (.told [2,3,4] false hk3 (by intro id hid'; simp at hid'; omega) rfl htS ⟨hmsg,rfl,rfl,hrest,trivial⟩) ?_
   refine rc [8,12,13] fun K hK=>?_
   refine zj tok 3 ?_;simp only[go_sem,qd,qb,qe,q5];have hdel:=DeleteFunc_at (σ:=[.cells 0 [.int .i64 0,.int .i64 0,.str [],.ds true [] 0 true,.ds true [] 0 true],.cells 0 [.int .i64 3,.int .i64 0,.str [],.os true 2 2 ever 0 L.length false,.ds true [] 0 true],.cells ever ((L.map Ent.val).flatMap encGEntry)]) (id:=2) (ver:=ever) (nl:=true) a1 (by simp only[Store.at_hd,Store.at_tl,if_true]) hes (by omega);rw[q5] at hdel;refine wC rfl rfl rfl hdel ?_;rintro _ _ ⟨cs,g',rfl,rfl⟩;refine zj tok 2 ?_;simp only[go_sem,qd,qf,qb,qe,qN,qL,uy,ux];refine zb ?_;simp only[zn,upd,qb,reduceIte,ym,y1];apply hK
   clear hK K
   refine rc [8,12] fun K hK=>?_
   refine zj tok 1 ?_;simp only[go_sem,qd,qb];refine wC rfl rfl rfl (z8.ev rest rr hrr _) ?_;rintro _ _ ⟨rfl,hσ⟩
   rw[hσ]; clear hσ
   refine zj tok 2 ?_;simp only[go_sem,qd,qf,qb,qe,uy,ux];refine zb ?_;simp only[zn,upd,qb,reduceIte,ym,y1];apply hK
   clear hK K
   refine rg tok [8,9] fun K hK=>?_
   simp only[go_sem,qd,qf,qb,qe,uy,ux];apply hK
   clear hK K
   refine zE ?_;simp only[wg,zX,z7,yN,exists_eq_left',go_sem,qf,qb,qe];have hle:(es'.flatMap encGEntry).length=es'.length*2:=zz E34.len es';simp only[tell_tup,qn,qj,tell_agg,Xl,Xk,Zw,wf,xI,Store.at_hd,Store.at_tl,if_true,zg,cellsGTree,GTree.fKind,GTree.fN,GTree.fS,GTree.fEntries,GTree.fRest];rw[if_pos (by rw[qG,hle]; omega),qv,← hle,List.take_left,zg]
   rfl
 obtain⟨hz,hw,hx,hE',hi'⟩:=yk hE hi hb;refine zF rfl (fun _=>?_) (fun hc=>absurd (of_eq_true hz) hc);refine zd ?_;refine hY _ _ ?_
 clear hY Y
 refine za fun X hX=>?_
 have fin:∀ (F:Fr) (τ':Store) (L':List Ent) (rest':List GRaw) (ever' rver':Nat),Fits F [(3,AV.int .i64 a3),(4,.op 0 0 0),(5,.op 1 0 0),(8,.op 2 0 0),(9,.int .i64 0),(12,.op 3 0 0),(13,.os true 4 5 rver' 0 rest'.length false),(33,.ds true (qc encGRaw g.1) (qa g.1) false),(34,.int .i64 (qa g.1:Int)),(35,.int .i64 i)]→Loop τ' a0 a1 ever' rver' L' rest'→zL.l yM a0 a1 a3 q (L'.map Ent.val) rest'=some r→X F τ':=by
  intro F τ' L' rest' ever' rver' hF hL' h'
  refine hX _ _ (yz (.same hF rfl) ?_)
  refine rgE tok [3,4,5,8,9,12,13,33,34,35] fun K hK=>?_
  simp only[go_sem,qd,qb,hw];apply hK
  clear hK K
  simp only[zn];exact⟨q.length,_,_,by simp,⟨p++[y],q,i+1,L',rest',ever',rver',rfl,rfl,hL',hE',hi',h'⟩,.same ⟨rfl,rfl,rfl,rfl,rfl,rfl,rfl,rfl,rfl,rfl,trivial⟩ rfl⟩
 clear hX
 refine ze ?_;have hix:=E35.idxS hx;have hld:=E35.loadS rfl rfl hx
 have hae:∀ (τ:Store) cs,Store.at (τ++[.cells 0 cs]) τ.length 0=some cs:=fun τ cs=>XT τ cs []
 have hse:∀ (τ:Store) cs cs',(τ++[AObj.cells 0 cs]).set τ.length (.cells 0 cs')=τ++[.cells 0 cs']:=fun τ cs cs'=>set_mid τ _ _ []
 refine rg tok [3,4,5,8,9,12,13,15,33,34,35] fun K hK=>?_
 simp only[go_sem,qd,qf,qb,qe,hix,hld,encGRaw,hae,hse,qs,qt,ux,uy];apply hK
 clear hK K
 simp only[zL.l] at h;obtain⟨f,hf,h⟩:=zH h;have hL1:=hL.app [.cells 0 [.int .i64 y.fTag,.int .i64 y.fWire,.int .i64 y.fN,.str y.fB]];have hr1:=XT τ [.int .i64 y.fTag,.int .i64 y.fWire,.int .i64 y.fN,.str y.fB] []
 generalize τ.length=k1 at *
 generalize τ++[.cells 0 [.int .i64 y.fTag,.int .i64 y.fWire,.int .i64 y.fN,.str y.fB]]=τ1 at *
 have hm1:=hL1.h1;have hs1:=hL1.h0;simp only[encGMessage] at hm1;simp only[encGSchema] at hs1
 refine rc [3,4,5,8,9,12,13,15,16,17,33,34,35] fun K hK=>?_
 refine zj tok 3 ?_;simp only[go_sem,qd,qf,qb,qe,hm1,hr1,qs,qt];refine wC rfl rfl rfl (yG.ev a1 y.fTag f hf _) ?_;rintro _ _ ⟨rfl,hσ⟩
 rw[hσ]; clear hσ
 refine zj tok 6 ?_;simp only[go_sem,qd,qf,qb,qe,encGField,hae,hse,qs,qt,ux,uy];refine zb ?_;simp only[zn,upd,qb,reduceIte,ym,y1];apply hK
 clear hK K
 have hL2:=hL1.app [.cells 0 [.str f.1.fName,.int .i64 f.1.fTag,.int .i64 f.1.fLabel,.int .i64 f.1.fType.fKind,.str f.1.fType.fName]];have hr2:=wJ hr1 [.cells 0 [.str f.1.fName,.int .i64 f.1.fTag,.int .i64 f.1.fLabel,.int .i64 f.1.fType.fKind,.str f.1.fType.fName]];have hm2:=wJ hs1 [.cells 0 [.str f.1.fName,.int .i64 f.1.fTag,.int .i64 f.1.fLabel,.int .i64 f.1.fType.fKind,.str f.1.fType.fName]];have hf2:=XT τ1 [.str f.1.fName,.int .i64 f.1.fTag,.int .i64 f.1.fLabel,.int .i64 f.1.fType.fKind,.str f.1.fType.fName] []
 clear hm1 hs1 hr1
 generalize τ1.length=k2 at *
 generalize τ1++[.cells 0 [.str f.1.fName,.int .i64 f.1.fTag,.int .i64 f.1.fLabel,.int .i64 f.1.fType.fKind,.str f.1.fType.fName]]=τ2 at *
 refine za fun Y hY=>?_
 refine rg tok [3,4,5,8,9,12,13,15,16,17,33,34,35,47] fun K hK=>?_
 simp only[go_sem,qd,qb];apply hK
 clear hK K
 have hb2:∀ (b:Bool),(!b)=true→b=false:=by decide
 refine zw (b := !f.2) rfl (fun hc3=>?_) (fun hc3=>?_)
 · have hc4:f.2=false:=by simpa using hc3
   rw[xU hc4] at h;obtain⟨u,hu,h⟩:=bind_some h;have hrm:=yy hu;have hL5:=hL2.h5;have hl4:(rest.flatMap encGRaw).length=rest.length*4:=zz E35.len rest
   refine rg tok [3,4,5,8,9,12,13,33,34,35] fun K hK=>?_
   have hlit:=XT τ2 [.int .i64 y.fTag,.int .i64 y.fWire,.int .i64 y.fN,.str y.fB] [];have hat5:=wJ hL5 [.cells 0 [.int .i64 y.fTag,.int .i64 y.fWire,.int .i64 y.fN,.str y.fB]]
   have hap:ye tab 35 35 (.os true 4 5 rver 0 rest.length false) (.os true 4 τ2.length 0 0 1 true) (τ2++[.cells 0 [.int .i64 y.fTag,.int .i64 y.fWire,.int .i64 y.fN,.str y.fB]])=
    some (.os true 4 5 (rver+1) 0 (rest.length+1) false,List.set (τ2++[.cells 0 [.int .i64 y.fTag,.int .i64 y.fWire,.int .i64 y.fN,.str y.fB]]) 5 (.cells (rver+1) (rest.flatMap encGRaw++[.int .i64 y.fTag,.int .i64 y.fWire,.int .i64 y.fN,.str y.fB]))):=by
    have e1:z1 (τ2++[.cells 0 [.int .i64 y.fTag,.int .i64 y.fWire,.int .i64 y.fN,.str y.fB]]) 4 (.os true 4 τ2.length 0 0 1 true)=some (1,[.int .i64 y.fTag,.int .i64 y.fWire,.int .i64 y.fN,.str y.fB]):=by
     simp only[z1,hlit]; simp
    simp only[ye,tab_35,tab_139,e1,yd,zO,hat5,hl4,hrm]
    simp[AV.one]
   simp only[go_sem,qd,qf,qb,qe,qi,hr2,zv,zQ,qO,qI,true_and,qT,qs,qt,hap];apply hK
   clear hK K
   refine zI ?_;simp only[go_sem,reduceCtorEq]
   have hLs:Loop (List.set (τ2++[.cells 0 [.int .i64 y.fTag,.int .i64 y.fWire,.int .i64 y.fN,.str y.fB]]) 5 (.cells (rver+1) (rest.flatMap encGRaw++[.int .i64 y.fTag,.int .i64 y.fWire,.int .i64 y.fN,.str y.fB]))) a0 a1 ever (rver+1) L (rest++[y]):=by
    have hL3:=hL2.app [.cells 0 [.int .i64 y.fTag,.int .i64 y.fWire,.int .i64 y.fN,.str y.fB]];refine⟨xJ hL3.h0 (by decide) _,xJ hL3.h1 (by decide) _,xJ hL3.h2 (by decide) _,hL3.rep.set_ne (fun hm=>?_) _,?_,hL3.ids⟩
    · simp only[ul,uo] at hm
      rcases hm with h|h|⟨z,hz,h⟩
      · cases h
      · cases h
      have:=hL3.ids z hz; omega
    rw[Store.at_set hL3.h5,qZ]
    simp[encGRaw]
   exact fin _ _ L (rest++[y]) ever (rver+1) ⟨rfl,rfl,rfl,rfl,rfl,rfl,by rw[qG]; rfl,rfl,rfl,rfl,trivial⟩ hLs h
 have hc4:f.2=true:=by simpa using hc3
 rw[if_pos hc4] at h;refine zd ?_;refine hY _ _ ?_
 clear hY Y
 obtain⟨x,hx1,h⟩:=bind_some h;have hty:AV.agg (encGType f.1.fType)=.agg [.int .i64 f.1.fType.fKind,.str f.1.fType.fName]:=rfl
 refine rc [3,4,5,8,9,12,13,16,18,19,33,34,35] fun K hK=>?_
 refine zj tok 5 ?_;simp only[go_sem,qd,qf,qb,qe,hm2,hr2,hf2,qs,qt,List.drop_succ_cons,qv,List.take_succ_cons,List.take_zero];refine wC rfl rfl rfl (ev_one a0 f.1.fType y a3 x hx1 _) ?_;rintro _ _ ⟨rfl,hσ⟩
 rw[hσ]; clear hσ
 refine zj tok 6 ?_;simp only[go_sem,qd,qf,qb,qe,cellsGTree,hae,hse,qs,qt,ux,uy];refine zb ?_;simp only[zn,upd,qb,reduceIte,ym,y1];apply hK
 clear hK K hr2 hm2
 obtain⟨xc,hxc⟩:∃ xc,xc=[AV.int .i64 x.1.fKind,.int .i64 x.1.fN,.str x.1.fS,.ds true (qc encGEntry x.1.fEntries) x.1.fEntries.length false,.ds true (qc encGRaw x.1.fRest) x.1.fRest.length false]:=⟨_,rfl⟩
 rw[← hxc];have hL3:=hL2.app [.cells 0 xc];have hf3:=wJ hf2 [.cells 0 xc];have hx3:=XT τ2 xc []
 clear hf2 hL2
 generalize τ2.length=k3 at *
 generalize τ2++[.cells 0 xc]=τ3 at *
 subst hxc
 refine za fun Y hY=>?_
 refine rg tok [3,4,5,8,9,12,13,16,18,19,33,34,35,62] fun K hK=>?_
 simp only[go_sem,qd,qb];apply hK
 clear hK K
 have h23:=hL3.h2;have h24:=Store.at_set (ver':=0) (cs':=[.int .i64 0,.int .i64 0,.str [],.ds true [] 0 true,.ds true [] 0 true]) h23;refine zF rfl (fun hc5=>?_) (fun hc5=>?_)
 · rw[if_neg hc5] at h;obtain rfl:=Option.some.inj h
   refine rg tok [8,9] fun K hK=>?_
   simp only[go_sem,qd,qf,qb,qe,h23,qs,qt,ux,uy];apply hK
   clear hK K
   refine zE ?_;simp only[vaW,wg,zX,z7,yN,exists_eq_left',go_sem,qf,qb,qe,h24,qs,qt];exact XB
 rw[if_pos hc5] at h;obtain⟨pp,hp,h⟩:=bind_some h;refine zd ?_;refine hY _ _ ?_
 clear hY Y
 refine rc [3,4,5,8,9,12,13,33,34,35,68] fun K hK=>?_
 refine zj tok 2 ?_;simp only[go_sem,qd,qf,qb,qe,hf3,hx3,qs,qt];refine wC rfl rfl rfl (put_at hL3.rep f.1 x.1 (es':=pp.1) (b:=pp.2) hp) ?_;rintro _ τ4 ⟨ever',L',rfl,hR4,he4,hid4,hle4,hfr4⟩;refine zj tok 1 ?_;simp only[go_sem,qd,qb];refine zb ?_;simp only[zn,upd,qb,reduceIte,ym,y1];apply hK
 clear hK K
 have hkeep:∀ {j v:Nat} {cs:List AV},Store.at τ3 j v=some cs→j<6→j≠3→j≠4→Store.at τ4 j v=some cs:=by
  intro j v cs hj h6 h3 h4
  have hlt:=Store.at_lt hj;unfold Store.at at hj ⊢;rw[hfr4 j hlt (fun hm=>?_)]
  · exact hj
  simp only[ul,uo] at hm
  rcases hm with h|h|⟨z,hz,h⟩
  · exact h3 h
  · exact h4 h
  have:=hL3.ids z hz; omega
 have h45:6≤τ3.length:=by
  have:=Store.at_lt hL3.h5; omega
 have hL4:Loop τ4 a0 a1 ever' rver L' rest:=by
  refine⟨hkeep hL3.h0 (by decide) (by decide) (by decide),hkeep hL3.h1 (by decide) (by decide) (by decide),hkeep hL3.h2 (by decide) (by decide) (by decide),hR4,hkeep hL3.h5 (by decide) (by decide) (by decide),fun z hz=>?_⟩
  rcases hid4 z hz with h|h
  · obtain⟨w,hw,h'⟩:=uo.1 h
    have:=hL3.ids w hw; omega
  omega
 have h43:=hL4.h2;have h44:=Store.at_set (ver':=0) (cs':=[.int .i64 0,.int .i64 0,.str [],.ds true [] 0 true,.ds true [] 0 true]) h43;refine zw (b := !pp.2) rfl (fun hc6=>?_) (fun hc6=>?_)
 · have hc7:pp.2=false:=by simpa using hc6
   rw[xU hc7] at h;obtain rfl:=Option.some.inj h
   refine rg tok [8,9] fun K hK=>?_
   simp only[go_sem,qd,qf,qb,qe,h43,qs,qt,ux,uy];apply hK
   clear hK K
   refine zE ?_;simp only[vaW,wg,zX,z7,yN,exists_eq_left',go_sem,qf,qb,qe,h44,qs,qt];exact XB
 have hc7:pp.2=true:=by simpa using hc6
 rw[if_pos hc7] at h;refine zd ?_;simp only[ZR,zn];exact fin _ _ L' rest ever' rver ⟨rfl,rfl,rfl,rfl,rfl,rfl,rfl,rfl,rfl,rfl,trivial⟩ hL4 (by rw[he4]; exact h)
end
section
set_option maxRecDepth 8000
open Go.RowKit AM
mutual
def zL : Nat→GSchema→GMessage→List UInt8→Int→Option (GTree×Int)
 |0,_,_,_,_=>none
 |k+1,a0,a1,a2,a3=>zL.body (zL k) (zU k) a0 a1 a2 a3
def zU : Nat→GSchema→GType→GRaw→Int→Option (GTree×Int)
 |0,_,_,_,_=>none
 |k+1,a0,a1,a2,a3=>zU.body (zL k) (zU k) a0 a1 a2 a3
end
theorem zL.all (k:Nat):
 (∀ (a0:GSchema) (a1:GMessage) (a2:List UInt8) (a3:Int) (r:GTree×Int),zL k a0 a1 a2 a3=some r→ACalls qg 149 [.agg (encGSchema a0),.agg (encGMessage a1),.ds true (qc encB a2) (qa a2) false,.int .i64 a3] [] (fun r' _=>r'=.tup [.agg (cellsGTree r.1),.int .i64 r.2]))∧
 (∀ (a0:GSchema) (a1:GType) (a2:GRaw) (a3:Int) (r:GTree×Int),zU k a0 a1 a2 a3=some r→ACalls qg 194 [.agg (encGSchema a0),.agg (encGType a1),.agg (encGRaw a2),.int .i64 a3] [] (fun r' _=>r'=.tup [.agg (cellsGTree r.1),.int .i64 r.2])):=by
 induction k with
 |zero=>exact⟨fun a0 a1 a2 a3 r h=>(by simp only[zL] at h; cases h),fun a0 a1 a2 a3 r h=>(by simp only[zU] at h; cases h)⟩
 |succ k ih=>
  exact⟨fun a0 a1 a2 a3 r h=>zL.step (zL k) (zU k) ih.2 a0 a1 a2 a3 r (by simpa only [zL] using h),
   fun a0 a1 a2 a3 r h=>zU.step (zL k) (zU k) ih.1 ih.2 a0 a1 a2 a3 r (by simpa only [zU] using h)⟩
theorem zL.ok (k:Nat)(a0:GSchema)(a1:GMessage)(a2:List UInt8)(a3:Int)(r:GTree×Int)(h:zL k a0 a1 a2 a3=some r):ACalls qg 149 [.agg (encGSchema a0),.agg (encGMessage a1),.ds true (qc encB a2) (qa a2) false,.int .i64 a3] [] (fun r' _=>r'=.tup [.agg (cellsGTree r.1),.int .i64 r.2]):=
 (zL.all k).1 a0 a1 a2 a3 r h
theorem zL.ev (k:Nat)(a0:GSchema)(a1:GMessage)(a2:List UInt8)(a3:Int)(r:GTree×Int)(h:zL k a0 a1 a2 a3=some r)(σ:Store):ACalls qg 149 [.agg (encGSchema a0),.agg (encGMessage a1),.ds true (qc encB a2) (qa a2) false,.int .i64 a3] σ (fun r' σ'=>r'=.tup [.agg (cellsGTree r.1),.int .i64 r.2]∧σ'=σ):=
 (zL.ok k a0 a1 a2 a3 r h).pureAt (by simp only[AV.canon,canonL,canon_all,qB,qz,Bool.true_and,qp,qq,qo,uU,uC,cellsGTree,encGMessage,encGSchema]) (by simp only[AV.canon,canonL,canon_all,qB,qz,Bool.true_and,qp,qq,qo,uU,uC,cellsGTree,zM]) σ
end
section
namespace AM
open Go.RowKit
end AM
end
section
set_option maxRecDepth 8000
open Go.RowKit AM
section
variable {P:Program} {n k:Nat} {Q:Exit→Fr→Store→Prop} {F:Fr} {σ:Store}
theorem AM.opsWp_inil {T:TT}(hT:TOK P T){ops:Array Oper}{o:Oper}{l:List Oper}{x:Operand}{t yt:TypeId}{i:TI}{e:Array (String×TypeId)}(hg:w4 ops F o=some true)(ho:o.op=.binOp .eql t x (.const .nilIface) yt)(hi:T t=some i)(hd:i.desc=.interface e)
 (hs:ev F x=.nilI) (hdst:dstOk n o.dst=true) (h:wv P n k ops l Q (Z0 F o.dst (.bool true)) σ):wv P n k ops (o::l) Q F σ:=by
 intro E a hk hS hF
 unfold wpList;rw[if_pos (xV hF hg)];refine .inl ?_;have hx:=hF.ev x;rw[hs] at hx
 have hv:a.eval x=.nilIface:=by
  generalize a.eval x=v at hx
  cases hx; rfl
 unfold Oper.wp
 have hrun:(execOp a.eval o).run P E.w=.ok (.value (.bool true)) E.w:=by
  obtain⟨dst,op,ty,pos,after,guard⟩:=o;simp only at ho;subst ho
  show (do pure (.value (← (do eqGuard .eql t x (.const .nilIface) (a.eval x) .nilIface; Go.binOp .eql t (a.eval x) .nilIface:Sem Value))):Sem Next).run P E.w=_
  have h3:∀ d,(Op.equalIn (d+1) t .nilIface .nilIface).run P E.w=.ok true E.w:=by
   intro d
   simp only[Op.equalIn,ql,zD _ (hT _ _ hi),qh,hd]; rfl
  have h2:(Op.equal t .nilIface .nilIface).run P E.w=.ok true E.w:=h3 9999
  have h1:(do eqGuard .eql t x (.const .nilIface) .nilIface .nilIface; Go.binOp .eql t .nilIface .nilIface:Sem Value).run P E.w=.ok (.bool true) E.w:=by
   have hgd:(eqGuard .eql t x (.const .nilIface) .nilIface .nilIface).run P E.w=.ok () E.w:=by
    unfold eqGuard
    cases x<;>rfl
   rw[ql,hgd,qh];simp only[Go.binOp,ql,h2,qh,qA]
  rw[hv,ql,h1,qh]; rfl
 rw[hrun];exact h E _ hk hS (hF.put (ZQ hdst) (.bool true))
end
theorem kind_num (m:Int)(σ:Store):ACalls qg 275 [.int .i64 m] σ (fun r' σ'=>r'=.int .i64 1∧σ'=σ):=by
 refine ACalls.c (x:=.int .i64 1) ?_ σ;refine zf (rs:=[.tmp 2]) tok Tryz.func275 rfl Tryz.ntmps275 rfl Tryz.call275 (by simp) ?_;refine zk [(0,.int .i64 m)] ⟨rfl,trivial⟩ ?_
 refine rg tok [2] fun K hK=>?_
 simp only[go_sem,qd,qf,qb,qe,qi,qm,reduceIte,reduceCtorEq];apply hK
 clear hK K
 refine rg tok [2] fun K hK=>?_
 simp only[go_sem,qd,qf,qb,qe,qi,qm,reduceIte,reduceCtorEq];apply hK
 clear hK K
 refine zE ?_;exact retA
theorem kind_str (m:List UInt8)(σ:Store):ACalls qg 276 [.str m] σ (fun r' σ'=>r'=.int .i64 2∧σ'=σ):=by
 refine ACalls.c (x:=.int .i64 2) ?_ σ;refine zf (rs:=[.tmp 2]) tok Tryz.func276 rfl Tryz.ntmps276 rfl Tryz.call276 (by simp) ?_;refine zk [(0,.str m)] ⟨rfl,trivial⟩ ?_
 refine rg tok [2] fun K hK=>?_
 simp only[go_sem,qd,qf,qb,qe,qi,qm,reduceIte,reduceCtorEq];apply hK
 clear hK K
 refine rg tok [2] fun K hK=>?_
 simp only[go_sem,qd,qf,qb,qe,qi,qm,reduceIte,reduceCtorEq];apply hK
 clear hK K
 refine zE ?_;exact retA
theorem kind_node (m:GValueNode)(σ:Store):ACalls qg 274 [.dp (encGValueNode m) 0] σ (fun r' σ'=>r'=.int .i64 3∧σ'=σ):=by
 refine ACalls.c (x:=.int .i64 3) ?_ σ;refine zf (rs:=[.tmp 2]) tok Tryz.func274 rfl Tryz.ntmps274 rfl Tryz.call274 (by simp) ?_;refine zk [(0,.dp (encGValueNode m) 0)] ⟨rfl,trivial⟩ ?_
 refine rg tok [2] fun K hK=>?_
 simp only[go_sem,qd,qf,qb,qe,qi,qm,reduceIte,reduceCtorEq];apply hK
 clear hK K
 refine rg tok [2] fun K hK=>?_
 simp only[go_sem,qd,qf,qb,qe,qi,qm,reduceIte,reduceCtorEq];apply hK
 clear hK K
 refine zE ?_;exact retA
theorem has_num : XV qg 348 "concordat/value.kind" 275:=by intro v w; kernel_rfl
theorem has_str : XV qg 349 "concordat/value.kind" 276:=by intro v w; kernel_rfl
theorem has_node : XV qg 232 "concordat/value.kind" 274:=by intro v w; kernel_rfl
def xG (a0:GValueValue):Int:=
 match a0 with|.nil=>0|.num _=>1|.str _=>2|.node _ _=>3
theorem xG.ok (a0:GValueValue)(r:Int)(h:xG a0=r):ACalls qg 253 [.agg (encGValueValue a0)] [] (fun r' _=>r'=.int .i64 r):=by
 refine zf (rs:=[.tmp 2]) tok Tryz.func253 rfl Tryz.ntmps253 rfl Tryz.call253 (by simp) ?_;refine zk [(0,.agg (encGValueValue a0))] ⟨rfl,trivial⟩ ?_;unfold xG at h;have f1:=wD a0;unfold AV.one at f1
 refine rg tok [1] fun K hK=>?_
 simp only[go_sem,qd,qf,qb,qe,qi,qm,reduceIte,reduceCtorEq,encGValueValue,f1];apply hK
 clear hK K
 rcases a0 with _|n2|s2|⟨e2,r2⟩
 · dsimp only at h
   try simp only[YR]
   refine za fun Z hZ=>?_
   refine rc [1,5] fun K hK=>?_
   refine zj tok 2 ?_;simp only[go_sem,qd,qf,qb,qe,qi,qm,reduceIte,reduceCtorEq];refine opsWp_inil tok rfl rfl rfl rfl rfl rfl ?_;refine zb ?_;simp only[zn,ZT,Yw,Z0,upd,qb,reduceIte,ym,y1];apply hK
   clear hK K
   refine zq rfl ?_
   refine rg tok [2] fun K hK=>?_
   simp only[go_sem,qd,qf,qb,qe,qi,qm,reduceIte,reduceCtorEq];apply hK
   clear hK K
   refine zE ?_;obtain rfl:=h;exact retA
 · dsimp only at h
   try simp only[YQ]
   refine za fun Z hZ=>?_
   refine rg tok [1,5] fun K hK=>?_
   simp only[go_sem,qd,qf,qb,qe,qi,qm,reduceIte,reduceCtorEq,evEq];apply hK
   clear hK K
   refine zp rfl ?_;refine zd ?_;refine hZ _ _ ?_
   clear hZ Z
   refine rc [2] fun K hK=>?_
   refine zj tok 2 ?_;simp only[go_sem,qd,qf,qb,qe,qi,qm,reduceIte,reduceCtorEq];refine Xc rfl rfl rfl has_num rfl (kind_num n2 _) ?_;rintro _ _ ⟨rfl,rfl⟩;refine zj tok 1 ?_;simp only[go_sem,qd,qf,qb,qe,qi,qm,reduceIte,reduceCtorEq];refine zb ?_;simp only[zn,ZT,Yw,Z0,upd,qb,reduceIte,ym,y1];apply hK
   clear hK K
   refine zE ?_;obtain rfl:=h;exact retA
 · dsimp only at h
   try simp only[YP]
   refine za fun Z hZ=>?_
   refine rg tok [1,5] fun K hK=>?_
   simp only[go_sem,qd,qf,qb,qe,qi,qm,reduceIte,reduceCtorEq,evEq];apply hK
   clear hK K
   refine zp rfl ?_;refine zd ?_;refine hZ _ _ ?_
   clear hZ Z
   refine rc [2] fun K hK=>?_
   refine zj tok 2 ?_;simp only[go_sem,qd,qf,qb,qe,qi,qm,reduceIte,reduceCtorEq];refine Xc rfl rfl rfl has_str rfl (kind_str s2 _) ?_;rintro _ _ ⟨rfl,rfl⟩;refine zj tok 1 ?_;simp only[go_sem,qd,qf,qb,qe,qi,qm,reduceIte,reduceCtorEq];refine zb ?_;simp only[zn,ZT,Yw,Z0,upd,qb,reduceIte,ym,y1];apply hK
   clear hK K
   refine zE ?_;obtain rfl:=h;exact retA
 dsimp only at h
 try simp only[ZI]
 refine za fun Z hZ=>?_
 refine rg tok [1,5] fun K hK=>?_
 simp only[go_sem,qd,qf,qb,qe,qi,qm,reduceIte,reduceCtorEq,evEq];apply hK
 clear hK K
 refine zp rfl ?_;refine zd ?_;refine hZ _ _ ?_
 clear hZ Z
 refine rc [2] fun K hK=>?_
 refine zj tok 2 ?_;simp only[go_sem,qd,qf,qb,qe,qi,qm,reduceIte,reduceCtorEq];refine Xc rfl rfl rfl has_node rfl (kind_node ⟨e2,r2⟩ _) ?_;rintro _ _ ⟨rfl,rfl⟩;refine zj tok 1 ?_;simp only[go_sem,qd,qf,qb,qe,qi,qm,reduceIte,reduceCtorEq];refine zb ?_;simp only[zn,ZT,Yw,Z0,upd,qb,reduceIte,ym,y1];apply hK
 clear hK K
 refine zE ?_;obtain rfl:=h;exact retA
theorem xG.ev (a0:GValueValue)(r:Int)(h:xG a0=r)(σ:Store):ACalls qg 253 [.agg (encGValueValue a0)] σ (fun r' σ'=>r'=.int .i64 r∧σ'=σ):=
 (xG.ok a0 r h).c σ
theorem asNode_nil (σ:Store):ACalls qg 254 [.agg ([.nilI])] σ (fun r' σ'=>r'=.tup [.nilp,.bool false]∧σ'=σ):=by
 refine ACalls.c (x:=.tup [.nilp,.bool false]) ?_ σ;refine zf (rs:=[.tmp 2,.tmp 3]) tok Tryz.func254 rfl Tryz.ntmps254 rfl Tryz.call254 (by simp) ?_;refine zk [(0,.agg ([.nilI]))] ⟨rfl,trivial⟩ ?_
 refine rg tok [1] fun K hK=>?_
 simp only[go_sem,qd,qf,qb,qe,qi,qm,reduceIte,reduceCtorEq];apply hK
 clear hK K
 refine rg tok [4,5] fun K hK=>?_
 simp only[go_sem,qd,qf,qb,qe,qi,qm,reduceIte,reduceCtorEq,yr,yw,TypeDesc.isIface];apply hK
 clear hK K
 refine rg tok [2,3] fun K hK=>?_
 simp only[go_sem,qd,qf,qb,qe,qi,qm,reduceIte,reduceCtorEq];apply hK
 clear hK K
 refine zE ?_;exact retA
theorem asNode_num (n:Int)(σ:Store):ACalls qg 254 [.agg ([.ifc 348 (.int .i64 n)])] σ (fun r' σ'=>r'=.tup [.nilp,.bool false]∧σ'=σ):=by
 refine ACalls.c (x:=.tup [.nilp,.bool false]) ?_ σ;refine zf (rs:=[.tmp 2,.tmp 3]) tok Tryz.func254 rfl Tryz.ntmps254 rfl Tryz.call254 (by simp) ?_;refine zk [(0,.agg ([.ifc 348 (.int .i64 n)]))] ⟨rfl,trivial⟩ ?_
 refine rg tok [1] fun K hK=>?_
 simp only[go_sem,qd,qf,qb,qe,qi,qm,reduceIte,reduceCtorEq];apply hK
 clear hK K
 refine rg tok [4,5] fun K hK=>?_
 simp only[go_sem,qd,qf,qb,qe,qi,qm,reduceIte,reduceCtorEq,yr,yw,TypeDesc.isIface];apply hK
 clear hK K
 refine rg tok [2,3] fun K hK=>?_
 simp only[go_sem,qd,qf,qb,qe,qi,qm,reduceIte,reduceCtorEq];apply hK
 clear hK K
 refine zE ?_;exact retA
theorem asNode_str (s:List UInt8)(σ:Store):ACalls qg 254 [.agg ([.ifc 349 (.str s)])] σ (fun r' σ'=>r'=.tup [.nilp,.bool false]∧σ'=σ):=by
 refine ACalls.c (x:=.tup [.nilp,.bool false]) ?_ σ;refine zf (rs:=[.tmp 2,.tmp 3]) tok Tryz.func254 rfl Tryz.ntmps254 rfl Tryz.call254 (by simp) ?_;refine zk [(0,.agg ([.ifc 349 (.str s)]))] ⟨rfl,trivial⟩ ?_
 refine rg tok [1] fun K hK=>?_
 simp only[go_sem,qd,qf,qb,qe,qi,qm,reduceIte,reduceCtorEq];apply hK
 clear hK K
 refine rg tok [4,5] fun K hK=>?_
 simp only[go_sem,qd,qf,qb,qe,qi,qm,reduceIte,reduceCtorEq,yr,yw,TypeDesc.isIface];apply hK
 clear hK K
 refine rg tok [2,3] fun K hK=>?_
 simp only[go_sem,qd,qf,qb,qe,qi,qm,reduceIte,reduceCtorEq];apply hK
 clear hK K
 refine zE ?_;exact retA
theorem asNode_node (e:List GValueEntry)(q:List GRaw)(σ:Store):ACalls qg 254 [.agg ([.ifc 232 (.dp [.ds true (qc encGValueEntry e) (qa e) false,.ds true (qc encGRaw q) (qa q) false] 0)])] σ (fun r' σ'=>r'=.tup [.dp (encGValueNode ⟨e,q⟩) 0,.bool true]∧σ'=σ):=by
 refine ACalls.c (x:=.tup [.dp (encGValueNode ⟨e,q⟩) 0,.bool true]) ?_ σ;refine zf (rs:=[.tmp 2,.tmp 3]) tok Tryz.func254 rfl Tryz.ntmps254 rfl Tryz.call254 (by simp) ?_;refine zk [(0,.agg ([.ifc 232 (.dp [.ds true (qc encGValueEntry e) (qa e) false,.ds true (qc encGRaw q) (qa q) false] 0)]))] ⟨rfl,trivial⟩ ?_
 refine rg tok [1] fun K hK=>?_
 simp only[go_sem,qd,qf,qb,qe,qi,qm,reduceIte,reduceCtorEq];apply hK
 clear hK K
 refine rg tok [4,5] fun K hK=>?_
 simp only[go_sem,qd,qf,qb,qe,qi,qm,reduceIte,reduceCtorEq,yr,yw,TypeDesc.isIface];apply hK
 clear hK K
 refine rg tok [2,3] fun K hK=>?_
 simp only[go_sem,qd,qf,qb,qe,qi,qm,reduceIte,reduceCtorEq];apply hK
 clear hK K
 refine zE ?_;exact retA
end
section
set_option maxRecDepth 4000
set_option maxHeartbeats 1000000
open AM
def xM.l9 (a0:List UInt8):Nat→Nat→Int→Option Int
 |0,_,_=>none
 |k9+1,p5,x6=>(if p5<qa a0 then ((xM.l9 a0 k9) (p5+(decU a0 p5).2) (IntKind.i64.wrap (x6+1))) else some x6)
def xM (a0:List UInt8):Option Int:=
 (xb a0).bind fun r2=>(if (!r2)=true then some 0 else (xM.l9 a0 xo 0 0))
theorem xM.ok (a0:List UInt8)(r:Int)(h:xM a0=some r):ACalls qg 167 [.str a0] [] (fun r' _=>r'=.int .i64 r):=by
 refine zf (rs:=[.tmp 2]) tok Tryz.func167 rfl Tryz.ntmps167 rfl Tryz.call167 (by simp) ?_;refine zk [(0,.str a0)] ⟨rfl,trivial⟩ ?_;unfold xM at h;refine rgN [0] ?_
 refine za fun Z1 hZ1=>?_
 refine rc [0,6] fun K hK=>?_
 obtain⟨r2,hr2,h⟩:=bind_some h;refine rnN 1 ?_;refine clN rfl rfl rfl (xb.ev a0 r2 hr2 _) ?_;refine rnN 1 ?_;refine nkN hK ?_;refine zw (b:=(!r2)) rfl (fun hc3=>?_) (fun hc3=>?_)
 · rw[if_pos hc3] at h;refine rgN [2] ?_;cases h;exact rtA
 rw[xU hc3] at h;apply zd;apply hZ1;refine rgN [0,3] ?_
 refine za fun Z4 hZ4=>?_
 refine rgN [3,8] ?_;apply ze;refine zN (fun m L τ=>∃ (k9:Nat) (p5:Nat) (x6:Int),m=0+k9∧L=[(3,.int .i64 x6),(8,.it 0)]∧τ=[.iter a0 p5]∧xM.l9 a0 k9 p5 x6=some r) _ ⟨xo,0,0,rfl,rfl,rfl,h⟩ .s ?_;rintro m L τ ⟨k9,p5,x6,rfl,rfl,rfl,h⟩
 rcases k9 with _|k9
 · cases h
 simp only[xM.l9] at h
 by_cases hn10:p5<qa a0
 · rw[if_pos hn10] at h;have t11:=eq_true hn10
   refine rg tok [3,8,10] fun K hK=>?_
   simp only[go_sem,qd,qb,qe,XJ,if_true,if_false,t11];apply hK
   refine za fun Z12 hZ12=>?_
   refine zq rfl ?_;apply zd;apply hZ12;apply ze
   refine rgE tok [3,8] fun K hK=>?_
   simp only[go_sem,qd,qb];apply hK
   exact⟨_,_,_,qw (0+k9),⟨k9,p5+(decU a0 p5).2,IntKind.i64.wrap (x6+1),rfl,rfl,rfl,h⟩,.s⟩
 rw[if_neg hn10] at h;have t13:=eq_false hn10
 refine rg tok [3,8,10] fun K hK=>?_
 simp only[go_sem,qd,qb,XJ,if_true,if_false,t13];apply hK
 refine za fun Z14 hZ14=>?_
 refine zp rfl ?_;apply zI;apply hZ4;refine rgN [2] ?_;cases h;exact rtA
theorem xM.ev (a0:List UInt8)(r:Int)(h:xM a0=some r)(σ:Store):ACalls qg 167 [.str a0] σ (fun r' σ'=>r'=.int .i64 r∧σ'=σ):=
 (xM.ok a0 r h).c σ
def xd.j3 (x2:Bool):Bool:=
 (if x2=true then true else false)
def xd (a0:List UInt8):Bool:=
 (if a0=[115,99,104,101,109,97] then (xd.j3 (decide (a0=[115,99,104,101,109,97]))) else (if a0=[109,101,115,115,97,103,101] then (xd.j3 (decide (a0=[109,101,115,115,97,103,101]))) else (if a0=[101,110,117,109] then (xd.j3 (decide (a0=[101,110,117,109]))) else (if a0=[99,97,108,108] then (xd.j3 (decide (a0=[99,97,108,108]))) else (if a0=[114,101,116,117,114,110,115] then (xd.j3 (decide (a0=[114,101,116,117,114,110,115]))) else (if a0=[114,101,115,101,114,118,101,100] then (xd.j3 (decide (a0=[114,101,115,101,114,118,101,100]))) else (if a0=[111,112,116,105,111,110,97,108] then (xd.j3 (decide (a0=[111,112,116,105,111,110,97,108]))) else (if a0=[114,101,112,101,97,116,101,100] then (xd.j3 (decide (a0=[114,101,112,101,97,116,101,100]))) else (if a0=[105,110,116,51,50] then (xd.j3 (decide (a0=[105,110,116,51,50]))) else (if a0=[105,110,116,54,52] then (xd.j3 (decide (a0=[105,110,116,54,52]))) else (if a0=[98,111,111,108] then (xd.j3 (decide (a0=[98,111,111,108]))) else (if a0=[116,101,120,116] then (xd.j3 (decide (a0=[116,101,120,116]))) else (xd.j3 (decide (a0=[98,121,116,101,115])))))))))))))))
theorem xd.ok (a0:List UInt8)(r:Bool)(h:xd a0=r):ACalls qg 168 [.str a0] [] (fun r' _=>r'=.bool r):=by
 refine zf (rs:=[.tmp 2]) tok Tryz.func168 rfl Tryz.ntmps168 rfl Tryz.call168 (by simp) ?_;refine zk [(0,.str a0)] ⟨rfl,trivial⟩ ?_;unfold xd at h;refine rgN [0] ?_
 refine za fun Z1 hZ1=>?_
 refine rgN [3] ?_;apply ze;refine yR (fun L τ=>∃ (x2:Bool),L=[(4,.bool x2)]∧τ=[]∧xd.j3 x2=r) ?_ ?_
 · refine rgN [3,4] ?_;refine zF rfl (fun hc5=>?_) (fun hc5=>?_)
   · rw[if_pos hc5] at h;have t6:=eq_true hc5;apply zd;exact⟨_,_,⟨decide (a0=[115,99,104,101,109,97]),rfl,rfl,h⟩,.s⟩
   rw[if_neg hc5] at h;have t7:=eq_false hc5
   refine rg tok [3,4] fun K hK=>?_
   simp only[go_sem,qd,qb,t7];apply hK
   refine zF rfl (fun hc8=>?_) (fun hc8=>?_)
   · rw[if_pos hc8] at h;have t9:=eq_true hc8;apply zd;exact⟨_,_,⟨decide (a0=[109,101,115,115,97,103,101]),rfl,rfl,h⟩,.s⟩
   rw[if_neg hc8] at h;have t10:=eq_false hc8
   refine rg tok [3,4] fun K hK=>?_
   simp only[go_sem,qd,qb,t10];apply hK
   refine zF rfl (fun hc11=>?_) (fun hc11=>?_)
   · rw[if_pos hc11] at h;have t12:=eq_true hc11;apply zd;exact⟨_,_,⟨decide (a0=[101,110,117,109]),rfl,rfl,h⟩,.s⟩
   rw[if_neg hc11] at h;have t13:=eq_false hc11
   refine rg tok [3,4] fun K hK=>?_
   simp only[go_sem,qd,qb,t13];apply hK
   refine zF rfl (fun hc14=>?_) (fun hc14=>?_)
   · rw[if_pos hc14] at h;have t15:=eq_true hc14;apply zd;exact⟨_,_,⟨decide (a0=[99,97,108,108]),rfl,rfl,h⟩,.s⟩
   rw[if_neg hc14] at h;have t16:=eq_false hc14
   refine rg tok [3,4] fun K hK=>?_
   simp only[go_sem,qd,qb,t16];apply hK
   refine zF rfl (fun hc17=>?_) (fun hc17=>?_)
   · rw[if_pos hc17] at h;have t18:=eq_true hc17;apply zd;exact⟨_,_,⟨decide (a0=[114,101,116,117,114,110,115]),rfl,rfl,h⟩,.s⟩
   rw[if_neg hc17] at h;have t19:=eq_false hc17
   refine rg tok [3,4] fun K hK=>?_
   simp only[go_sem,qd,qb,t19];apply hK
   refine zF rfl (fun hc20=>?_) (fun hc20=>?_)
   · rw[if_pos hc20] at h;have t21:=eq_true hc20;apply zd;exact⟨_,_,⟨decide (a0=[114,101,115,101,114,118,101,100]),rfl,rfl,h⟩,.s⟩
   rw[if_neg hc20] at h;have t22:=eq_false hc20
   refine rg tok [3,4] fun K hK=>?_
   simp only[go_sem,qd,qb,t22];apply hK
   refine zF rfl (fun hc23=>?_) (fun hc23=>?_)
   · rw[if_pos hc23] at h;have t24:=eq_true hc23;apply zd;exact⟨_,_,⟨decide (a0=[111,112,116,105,111,110,97,108]),rfl,rfl,h⟩,.s⟩
   rw[if_neg hc23] at h;have t25:=eq_false hc23
   refine rg tok [3,4] fun K hK=>?_
   simp only[go_sem,qd,qb,t25];apply hK
   refine zF rfl (fun hc26=>?_) (fun hc26=>?_)
   · rw[if_pos hc26] at h;have t27:=eq_true hc26;apply zd;exact⟨_,_,⟨decide (a0=[114,101,112,101,97,116,101,100]),rfl,rfl,h⟩,.s⟩
   rw[if_neg hc26] at h;have t28:=eq_false hc26
   refine rg tok [3,4] fun K hK=>?_
   simp only[go_sem,qd,qb,t28];apply hK
   refine zF rfl (fun hc29=>?_) (fun hc29=>?_)
   · rw[if_pos hc29] at h;have t30:=eq_true hc29;apply zd;exact⟨_,_,⟨decide (a0=[105,110,116,51,50]),rfl,rfl,h⟩,.s⟩
   rw[if_neg hc29] at h;have t31:=eq_false hc29
   refine rg tok [3,4] fun K hK=>?_
   simp only[go_sem,qd,qb,t31];apply hK
   refine zF rfl (fun hc32=>?_) (fun hc32=>?_)
   · rw[if_pos hc32] at h;have t33:=eq_true hc32;apply zd;exact⟨_,_,⟨decide (a0=[105,110,116,54,52]),rfl,rfl,h⟩,.s⟩
   rw[if_neg hc32] at h;have t34:=eq_false hc32
   refine rg tok [3,4] fun K hK=>?_
   simp only[go_sem,qd,qb,t34];apply hK
   refine zF rfl (fun hc35=>?_) (fun hc35=>?_)
   · rw[if_pos hc35] at h;have t36:=eq_true hc35;apply zd;exact⟨_,_,⟨decide (a0=[98,111,111,108]),rfl,rfl,h⟩,.s⟩
   rw[if_neg hc35] at h;have t37:=eq_false hc35
   refine rg tok [3,4] fun K hK=>?_
   simp only[go_sem,qd,qb,t37];apply hK
   refine zF rfl (fun hc38=>?_) (fun hc38=>?_)
   · rw[if_pos hc38] at h;have t39:=eq_true hc38;apply zd;exact⟨_,_,⟨decide (a0=[116,101,120,116]),rfl,rfl,h⟩,.s⟩
   rw[if_neg hc38] at h;have t40:=eq_false hc38
   refine rgE tok [4] fun K hK=>?_
   simp only[go_sem,qd,qb,t40];apply hK
   exact⟨_,_,⟨decide (a0=[98,121,116,101,115]),rfl,rfl,h⟩,.s⟩
 rintro _ _ ⟨x2,rfl,rfl,h⟩;unfold xd.j3 at h;refine zw (b:=x2) rfl (fun hc4=>?_) (fun hc4=>?_)
 · rw[if_pos hc4] at h;refine rgN [2] ?_;cases h;exact rtA
 rw[xU hc4] at h;apply zd;apply hZ1;refine rgN [2] ?_;cases h;exact rtA
theorem xd.ev (a0:List UInt8)(r:Bool)(h:xd a0=r)(σ:Store):ACalls qg 168 [.str a0] σ (fun r' σ'=>r'=.bool r∧σ'=σ):=
 (xd.ok a0 r h).c σ
def wq (a0:Int)(a1:Int)(a2:Int):Bool:=
 ((decide (a1≤a0))&&(decide (a0≤a2)))
theorem wq.ok (a0:Int)(a1:Int)(a2:Int)(r:Bool)(h:wq a0 a1 a2=r):ACalls qg 212 [.int .i32 a0,.int .i32 a1,.int .i32 a2] [] (fun r' _=>r'=.bool r):=by
 refine zf (rs:=[.tmp 6]) tok Tryz.func212 rfl Tryz.ntmps212 rfl Tryz.call212 (by simp) ?_;refine zk [(0,.int .i32 a0),(1,.int .i32 a1),(2,.int .i32 a2)] ⟨rfl,rfl,rfl,trivial⟩ ?_;unfold wq at h;refine rgN [0,1,2] ?_
 refine rc [6] fun K hK=>?_
 refine rnN 4 ?_;refine zo 4 (fun L τ=>L=[(14,.bool ((decide (a1≤a0))&&(decide (a0≤a2))))]∧τ=[]) ?_ ?_
 · refine xj 10 rfl (fun hg10=>?_) (fun hg10=>?_)
   · have t1:=eq_true hg10;refine rnN 4 ?_;refine zb ⟨rfl,_,_,⟨rfl,rfl⟩,.p t1⟩
   have t2:=eq_false hg10;refine rnN 4 ?_;refine zb ⟨rfl,_,_,⟨rfl,rfl⟩,.p t2⟩
 rintro _ _ ⟨rfl,rfl⟩;refine rnN 1 ?_;refine nkN hK ?_;cases h;exact rtA
theorem wq.ev (a0:Int)(a1:Int)(a2:Int)(r:Bool)(h:wq a0 a1 a2=r)(σ:Store):ACalls qg 212 [.int .i32 a0,.int .i32 a1,.int .i32 a2] σ (fun r' σ'=>r'=.bool r∧σ'=σ):=
 (wq.ok a0 a1 a2 r h).c σ
def xn.j6 (a0:Int)(x5:Bool):Bool:=
 (if x5=true then false else bnd (wq a0 97 122) fun r8=>bnd (if r8=true then true else bnd (wq a0 65 90) fun r9=>r9) fun c9=>bnd (if c9=true then true else bnd (wq a0 192 591) fun r11=>r11) fun c11=>bnd (if c11=true then true else bnd (wq a0 913 969) fun r13=>r13) fun c13=>c13)
def xn (a0:Int):Bool:=
 (if a0=95 then true else (if a0=215 then (xn.j6 a0 (decide (a0=215))) else (if a0=247 then (xn.j6 a0 (decide (a0=247))) else (xn.j6 a0 (decide (a0=930))))))
theorem xn.ok (a0:Int)(r:Bool)(h:xn a0=r):ACalls qg 169 [.int .i32 a0] [] (fun r' _=>r'=.bool r):=by
 refine zf (rs:=[.tmp 2]) tok Tryz.func169 rfl Tryz.ntmps169 rfl Tryz.call169 (by simp) ?_;refine zk [(0,.int .i32 a0)] ⟨rfl,trivial⟩ ?_;unfold xn at h;refine rgN [0] ?_
 refine za fun Z1 hZ1=>?_
 refine rgN [0,3] ?_;apply ze;refine rgN [0,3,4] ?_;refine zF rfl (fun hc2=>?_) (fun hc2=>?_)
 · rw[if_pos hc2] at h;have t3:=eq_true hc2
   refine rg tok [2] fun K hK=>?_
   simp only[go_sem,qd,qb,reduceCtorEq,t3];apply hK
   cases h;exact rtA
 rw[if_neg hc2] at h;have t4:=eq_false hc2;refine yR (fun L τ=>∃ (x5:Bool),L=[(0,.int .i32 a0),(6,.bool x5)]∧τ=[]∧xn.j6 a0 x5=r) ?_ ?_
 · refine rg tok [0,3,6] fun K hK=>?_
   simp only[go_sem,qd,qb,reduceCtorEq,t4];apply hK
   refine zF rfl (fun hc15=>?_) (fun hc15=>?_)
   · rw[if_pos hc15] at h;have t16:=eq_true hc15;apply zd;exact⟨_,_,⟨decide (a0=215),rfl,rfl,h⟩,.s⟩
   rw[if_neg hc15] at h;have t17:=eq_false hc15
   refine rg tok [0,3,6] fun K hK=>?_
   simp only[go_sem,qd,qb,reduceCtorEq,t17];apply hK
   refine zF rfl (fun hc18=>?_) (fun hc18=>?_)
   · rw[if_pos hc18] at h;have t19:=eq_true hc18;apply zd;exact⟨_,_,⟨decide (a0=247),rfl,rfl,h⟩,.s⟩
   rw[if_neg hc18] at h;have t20:=eq_false hc18
   refine rgE tok [0,6] fun K hK=>?_
   simp only[go_sem,qd,qb,reduceCtorEq,t20];apply hK
   exact⟨_,_,⟨decide (a0=930),rfl,rfl,h⟩,.s⟩
 rintro _ _ ⟨x5,rfl,rfl,h⟩;unfold xn.j6 at h;refine zw (b:=x5) rfl (fun hc7=>?_) (fun hc7=>?_)
 · rw[if_pos hc7] at h;refine rgN [2] ?_;cases h;exact rtA
 rw[xU hc7] at h;apply zd;apply hZ1
 refine rc [2] fun K hK=>?_
 obtain⟨r8,hr8,h⟩:=zH h;refine rnN 1 ?_;refine clN rfl rfl rfl (wq.ev a0 97 122 r8 hr8 _) ?_;refine rnN 1 ?_;obtain⟨c9,hc9,h⟩:=zH h;refine zo 3 (fun L τ=>L=[(0,.int .i32 a0),(15,.bool c9)]∧τ=[]) ?_ ?_
 · refine zP (b:=r8) 12 rfl (fun hg12=>?_) (fun hg12=>?_)
   · rw[if_pos hg12] at hc9;refine rnN 3 ?_;subst hc9;refine zb ⟨rfl,_,_,⟨rfl,rfl⟩,.b hg12⟩
   rw[xU hg12] at hc9;obtain⟨r10,hr10,hc9⟩:=zH hc9;refine rnN 1 ?_;refine clN rfl rfl rfl (wq.ev a0 65 90 r10 hr10 _) ?_;refine rnN 1 ?_;subst hc9;refine zb ⟨rfl,_,_,⟨rfl,rfl⟩,.b hg12⟩
 rintro _ _ ⟨rfl,rfl⟩;refine rnN 1 ?_;obtain⟨c11,hc11,h⟩:=zH h;refine zo 3 (fun L τ=>L=[(0,.int .i32 a0),(19,.bool c11)]∧τ=[]) ?_ ?_
 · refine zP (b:=c9) 16 rfl (fun hg16=>?_) (fun hg16=>?_)
   · rw[if_pos hg16] at hc11;refine rnN 3 ?_;subst hc11;refine zb ⟨rfl,_,_,⟨rfl,rfl⟩,.b hg16⟩
   rw[xU hg16] at hc11;obtain⟨r12,hr12,hc11⟩:=zH hc11;refine rnN 1 ?_;refine clN rfl rfl rfl (wq.ev a0 192 591 r12 hr12 _) ?_;refine rnN 1 ?_;subst hc11;refine zb ⟨rfl,_,_,⟨rfl,rfl⟩,.b hg16⟩
 rintro _ _ ⟨rfl,rfl⟩;refine rnN 1 ?_;obtain⟨c13,hc13,h⟩:=zH h;refine zo 3 (fun L τ=>L=[(23,.bool c13)]∧τ=[]) ?_ ?_
 · refine zP (b:=c11) 20 rfl (fun hg20=>?_) (fun hg20=>?_)
   · rw[if_pos hg20] at hc13;refine rnN 3 ?_;subst hc13;refine zb ⟨rfl,_,_,⟨rfl,rfl⟩,.b hg20⟩
   rw[xU hg20] at hc13;obtain⟨r14,hr14,hc13⟩:=zH hc13;refine rnN 1 ?_;refine clN rfl rfl rfl (wq.ev a0 913 969 r14 hr14 _) ?_;refine rnN 1 ?_;subst hc13;refine zb ⟨rfl,_,_,⟨rfl,rfl⟩,.b hg20⟩
 rintro _ _ ⟨rfl,rfl⟩;refine rnN 1 ?_;refine nkN hK ?_;cases h;exact rtA
theorem xn.ev (a0:Int)(r:Bool)(h:xn a0=r)(σ:Store):ACalls qg 169 [.int .i32 a0] σ (fun r' σ'=>r'=.bool r∧σ'=σ):=
 (xn.ok a0 r h).c σ
def wV (a0:Int):Bool:=
 bnd (wq a0 48 57) fun r1=>r1
theorem wV.ok (a0:Int)(r:Bool)(h:wV a0=r):ACalls qg 170 [.int .i32 a0] [] (fun r' _=>r'=.bool r):=by
 refine zf (rs:=[.tmp 2]) tok Tryz.func170 rfl Tryz.ntmps170 rfl Tryz.call170 (by simp) ?_;refine zk [(0,.int .i32 a0)] ⟨rfl,trivial⟩ ?_;unfold wV at h;refine rgN [0] ?_
 refine rc [2] fun K hK=>?_
 obtain⟨r1,hr1,h⟩:=zH h;refine rnN 1 ?_;refine clN rfl rfl rfl (wq.ev a0 48 57 r1 hr1 _) ?_;refine rnN 1 ?_;refine nkN hK ?_;cases h;exact rtA
theorem wV.ev (a0:Int)(r:Bool)(h:wV a0=r)(σ:Store):ACalls qg 170 [.int .i32 a0] σ (fun r' σ'=>r'=.bool r∧σ'=σ):=
 (wV.ok a0 r h).c σ
def xL.l11 (a0:List UInt8):Nat→Nat→Option Bool
 |0,_=>none
 |k11+1,p9=>(if p9<qa a0 then bnd (xn ((decU a0 p9).1:Int)) fun r15=>bnd (if (!r15)=true then bnd (if ((p9:Nat):Int)=0 then true else bnd (wV ((decU a0 p9).1:Int)) fun r16 => !r16) fun c16=>c16 else false) fun c16=>(if c16=true then some false else ((xL.l11 a0 k11) (p9+(decU a0 p9).2))) else some true)
def xL (a0:List UInt8):Option Bool:=
 (xM a0).bind fun r1=>bnd (if ((decide (r1<1))||(decide (20<r1)))=true then true else bnd (xd a0) fun r5=>r5) fun c5=>(if c5=true then some false else (xL.l11 a0 xo 0))
theorem xL.ok (a0:List UInt8)(r:Bool)(h:xL a0=some r):ACalls qg 125 [.str a0] [] (fun r' _=>r'=.bool r):=by
 refine zf (rs:=[.tmp 2]) tok Tryz.func125 rfl Tryz.ntmps125 rfl Tryz.call125 (by simp) ?_;refine zk [(0,.str a0)] ⟨rfl,trivial⟩ ?_;unfold xL at h;refine rgN [0] ?_
 refine rc [0,3] fun K hK=>?_
 obtain⟨r1,hr1,h⟩:=bind_some h;refine rnN 1 ?_;refine clN rfl rfl rfl (xM.ev a0 r1 hr1 _) ?_;refine rnN 1 ?_;refine nkN hK ?_
 refine za fun Z2 hZ2=>?_
 refine rc [0,17] fun K hK=>?_
 refine rnN 3 ?_;refine zo 3 (fun L τ=>L=[(0,.str a0),(13,.bool ((decide (r1<1))||(decide (20<r1))))]∧τ=[]) ?_ ?_
 · refine xj 10 rfl (fun hg10=>?_) (fun hg10=>?_)
   · have t3:=eq_true hg10;refine rnN 3 ?_;refine zb ⟨rfl,_,_,⟨rfl,rfl⟩,.p t3⟩
   have t4:=eq_false hg10;refine rnN 3 ?_;refine zb ⟨rfl,_,_,⟨rfl,rfl⟩,.p t4⟩
 rintro _ _ ⟨rfl,rfl⟩;refine rnN 1 ?_;obtain⟨c5,hc5,h⟩:=zH h;refine zo 3 (fun L τ=>L=[(0,.str a0),(17,.bool c5)]∧τ=[]) ?_ ?_
 · refine zP (b:=((decide (r1<1))||(decide (20<r1)))) 14 rfl (fun hg14=>?_) (fun hg14=>?_)
   · rw[if_pos hg14] at hc5;refine rnN 3 ?_;subst hc5;refine zb ⟨rfl,_,_,⟨rfl,rfl⟩,.b hg14⟩
   rw[xU hg14] at hc5;obtain⟨r6,hr6,hc5⟩:=zH hc5;refine rnN 1 ?_;refine clN rfl rfl rfl (xd.ev a0 r6 hr6 _) ?_;refine rnN 1 ?_;subst hc5;refine zb ⟨rfl,_,_,⟨rfl,rfl⟩,.b hg14⟩
 rintro _ _ ⟨rfl,rfl⟩;refine nkN hK ?_;refine zw (b:=c5) rfl (fun hc7=>?_) (fun hc7=>?_)
 · rw[if_pos hc7] at h;refine rgN [2] ?_;cases h;exact rtA
 rw[xU hc7] at h;apply zd;apply hZ2
 refine za fun Z8 hZ8=>?_
 refine rgN [19] ?_;apply ze;refine zN (fun m L τ=>∃ (k11:Nat) (p9:Nat),m=0+k11∧L=[(19,.it 0)]∧τ=[.iter a0 p9]∧xL.l11 a0 k11 p9=some r) _ ⟨xo,0,rfl,rfl,rfl,h⟩ .s ?_;rintro m L τ ⟨k11,p9,rfl,rfl,rfl,h⟩
 rcases k11 with _|k11
 · cases h
 simp only[xL.l11] at h
 by_cases hn12:p9<qa a0
 · rw[if_pos hn12] at h;have t13:=eq_true hn12
   refine rg tok [19,20,21] fun K hK=>?_
   simp only[go_sem,qd,qb,qe,XJ,if_true,if_false,t13];apply hK
   refine za fun Z14 hZ14=>?_
   refine zq rfl ?_;apply zd;apply hZ14;apply ze;refine rgN [4,5,19] ?_
   refine rc [19,35] fun K hK=>?_
   obtain⟨r15,hr15,h⟩:=zH h;refine rnN 1 ?_;refine clN rfl rfl rfl (xn.ev ((decU a0 p9).1:Int) r15 hr15 _) ?_;refine rnN 2 ?_;obtain⟨c16,hc16,h⟩:=zH h;refine zo 8 (fun L τ=>L=[(19,.it 0),(35,.bool c16)]∧τ=[.iter a0 (p9+(decU a0 p9).2)]) ?_ ?_
   · refine zP (b:=(!r15)) 27 rfl (fun hg27=>?_) (fun hg27=>?_)
     · rw[if_pos hg27] at hc16;refine rnN 3 ?_;obtain⟨c17,hc17,hc16⟩:=zH hc16;refine zo 4 (fun L τ=>L=[(19,.it 0),(27,.bool true),(34,.bool c17)]∧τ=[.iter a0 (p9+(decU a0 p9).2)]) ?_ ?_
       · refine xj 30 rfl (fun hg30=>?_) (fun hg30=>?_)
         · have t18:=eq_true hg30;rw[if_pos hg30] at hc17;refine rnN 4 ?_;subst hc17;refine zb ⟨rfl,_,_,⟨rfl,rfl⟩,.p t18⟩
         have t19:=eq_false hg30;rw[if_neg hg30] at hc17;obtain⟨r20,hr20,hc17⟩:=zH hc17;refine rnN 1 ?_;refine clN rfl rfl rfl (wV.ev ((decU a0 p9).1:Int) r20 hr20 _) ?_;refine rnN 2 ?_;subst hc17;refine zb ⟨rfl,_,_,⟨rfl,rfl⟩,.p t19⟩
       rintro _ _ ⟨rfl,rfl⟩;refine rnN 1 ?_;subst hc16;refine zb ⟨rfl,_,_,⟨rfl,rfl⟩,.b hg27⟩
     rw[xU hg27] at hc16;refine rnN 8 ?_;subst hc16;refine zb ⟨rfl,_,_,⟨rfl,rfl⟩,.b hg27⟩
   rintro _ _ ⟨rfl,rfl⟩;refine nkN hK ?_;refine zw (b:=c16) rfl (fun hc21=>?_) (fun hc21=>?_)
   · rw[if_pos hc21] at h;refine rgN [2] ?_;cases h;exact rtA
   rw[xU hc21] at h;apply zd;exact⟨_,_,_,qw (0+k11),⟨k11,p9+(decU a0 p9).2,rfl,rfl,rfl,h⟩,.s⟩
 rw[if_neg hn12] at h;have t22:=eq_false hn12
 refine rg tok [19,20,21] fun K hK=>?_
 simp only[go_sem,qd,qb,XJ,if_true,if_false,t22];apply hK
 refine za fun Z23 hZ23=>?_
 refine zp rfl ?_;apply zI;apply hZ8;refine rgN [2] ?_;cases h;exact rtA
theorem xL.ev (a0:List UInt8)(r:Bool)(h:xL a0=some r)(σ:Store):ACalls qg 125 [.str a0] σ (fun r' σ'=>r'=.bool r∧σ'=σ):=
 (xL.ok a0 r h).c σ
def yA (a0:List (List UInt8×Bool))(a1:List UInt8):Option (Bool×List (List UInt8×Bool)):=
 (xL a1).bind fun r2=>(if ((!r2)||((Ya a0 a1).getD false))=true then some (false,a0) else some (true,setM a0 a1 true))
theorem yA.ok (a0:List (List UInt8×Bool))(a1:List UInt8)(r:Bool×List (List UInt8×Bool))(h:yA a0 a1=some r):ACalls qg 128 [.mp 0,.str a1] [.map (zR AV.str AV.bool a0)] (fun r' σ'=>r'=.bool r.1∧σ'=[.map (zR AV.str AV.bool r.2)]):=by
 refine we [0] (rs:=[.tmp 4]) tok Tryz.func128 rfl Tryz.ntmps128 rfl Tryz.call128 (by simp) rfl ?_;refine zk [(0,.mp 0),(1,.str a1)] ⟨rfl,rfl,trivial⟩ ?_;unfold yA at h;refine rgN [0,1] ?_
 refine za fun Z1 hZ1=>?_
 refine rc [0,1,12] fun K hK=>?_
 obtain⟨r2,hr2,h⟩:=bind_some h;refine rnN 1 ?_;refine clN rfl rfl rfl (xL.ev a1 r2 hr2 _) ?_;refine rnN 2 ?_;refine zo 4 (fun L τ=>L=[(0,.mp 0),(1,.str a1),(12,.bool ((!r2)||((Ya a0 a1).getD false)))]∧τ=[.map (zR AV.str AV.bool a0)]) ?_ ?_
 · refine zP (b:=(!r2)) 8 rfl (fun hg8=>?_) (fun hg8=>?_)
   · refine zj tok 4 ?_;simp only[go_sem,qd,qb,reduceCtorEq,if_false,if_true];refine zb ⟨rfl,_,_,⟨rfl,rfl⟩,.b hg8⟩
   have f3:=fun (x:Store)=>YM (T:=tab) (t:=202) (ek:=AV.str) (ev:=AV.bool) (z:=false) (vaB.str rfl rfl rfl rfl) rfl rfl rfl rfl a0 a1 false (.map (zR AV.str AV.bool a0)::x) 0 rfl
   refine zj tok 4 ?_;simp only[go_sem,qd,qb,reduceCtorEq,Yu,q2,if_false,if_true,f3];refine zb ⟨rfl,_,_,⟨rfl,rfl⟩,.b hg8⟩
 rintro _ _ ⟨rfl,rfl⟩;refine nkN hK ?_;refine zw (b:=((!r2)||((Ya a0 a1).getD false))) rfl (fun hc4=>?_) (fun hc4=>?_)
 · rw[if_pos hc4] at h;refine rgN [4] ?_;apply zE;cases h;simp only[wg,zX,z7,yN,exists_eq_left',go_sem];refine⟨by decide,by simp,?_,?_⟩
   · first|rfl|(simp only[go_sem,qd,qf,qb,qe,qi,qm,reduceIte,reduceCtorEq,push_cast,if_true,qv,qk,qn,qj,qx,qo,qE,qz,qr,qq,qp,zg]<;>rfl)
   first|rfl|(simp only[go_sem,push_cast,qj]<;>rfl)
 rw[xU hc4] at h;apply zd;apply hZ1
 have f5:=fun (x:Store)=>XA (T:=tab) (t:=202) (ek:=AV.str) (ev:=AV.bool) (vaB.str rfl rfl rfl rfl) rfl rfl a0 a1 true (.map (zR AV.str AV.bool a0)::x) 0 rfl
 refine rg tok [] fun K hK=>?_
 simp only[go_sem,qd,qb,reduceCtorEq,f5];apply hK
 refine rgN [4] ?_;apply zE;cases h;simp only[wg,zX,z7,yN,exists_eq_left',go_sem];refine⟨by decide,by simp,?_,?_⟩
 · first|rfl|(simp only[go_sem,qd,qf,qb,qe,qi,qm,reduceIte,reduceCtorEq,push_cast,if_true,qv,qk,qn,qj,qx,qo,qE,qz,qr,qq,qp,zg]<;>rfl)
 first|rfl|(simp only[go_sem,push_cast,qj]<;>rfl)
def Zh (a0:Int):Bool:=
 ((decide (1≤a0))&&(decide (a0≤500)))
theorem Zh.ok (a0:Int)(r:Bool)(h:Zh a0=r):ACalls qg 171 [.int .i64 a0] [] (fun r' _=>r'=.bool r):=by
 refine zf (rs:=[.tmp 2]) tok Tryz.func171 rfl Tryz.ntmps171 rfl Tryz.call171 (by simp) ?_;refine zk [(0,.int .i64 a0)] ⟨rfl,trivial⟩ ?_;unfold Zh at h;refine rgN [0] ?_
 refine rc [2] fun K hK=>?_
 refine rnN 3 ?_;refine zo 3 (fun L τ=>L=[(8,.bool ((decide (1≤a0))&&(decide (a0≤500))))]∧τ=[]) ?_ ?_
 · refine xj 5 rfl (fun hg5=>?_) (fun hg5=>?_)
   · have t1:=eq_true hg5;refine rnN 3 ?_;refine zb ⟨rfl,_,_,⟨rfl,rfl⟩,.p t1⟩
   have t2:=eq_false hg5;refine rnN 3 ?_;refine zb ⟨rfl,_,_,⟨rfl,rfl⟩,.p t2⟩
 rintro _ _ ⟨rfl,rfl⟩;refine rnN 1 ?_;refine nkN hK ?_;cases h;exact rtA
theorem Zh.ev (a0:Int)(r:Bool)(h:Zh a0=r)(σ:Store):ACalls qg 171 [.int .i64 a0] σ (fun r' σ'=>r'=.bool r∧σ'=σ):=
 (Zh.ok a0 r h).c σ
def xP.l4 (a1:List UInt8):List GEnumeration→Int→GEnumeration×Bool
 |[],x2=>((⟨[],([]:List GNamed)⟩:GEnumeration),false)
 |y4::q4,x2=>(if y4.fName=a1 then (y4,true) else ((xP.l4 a1 q4) (x2+1)))
def xP (a0:GSchema)(a1:List UInt8):GEnumeration×Bool:=
 (xP.l4 a1 a0.fEnums 0)
theorem xP.ok (a0:GSchema)(a1:List UInt8)(r:GEnumeration×Bool)(h:xP a0 a1=r):ACalls qg 213 [.agg (encGSchema a0),.str a1] [] (fun r' _=>r'=.tup [.agg (encGEnumeration r.1),.bool r.2]):=by
 refine zf (rs:=[.cell 4 142,.tmp 5]) tok Tryz.func213 rfl Tryz.ntmps213 rfl Tryz.call213 (by simp) ?_;refine zk [(0,.agg (encGSchema a0)),(1,.str a1)] ⟨rfl,rfl,trivial⟩ ?_;unfold xP at h
 refine rg tok [1,2,4] fun K hK=>?_
 simp only[go_sem,qd,qb,qe,reduceCtorEq,encGSchema];apply hK
 refine za fun Z1 hZ1=>?_
 refine rgN [1,4,9,10,11] ?_;apply ze
 refine yl 9 fun hb4=>?_
 replace hb4:qa a0.fEnums≤9223372036854775807:=hb4.1;refine zN (fun m L τ=>∃ (p4 q4:List GEnumeration) (x2:Int),m=qa q4∧L=[(1,.str a1),(4,.op 0 0 0),(9,.ds true (qc encGEnumeration a0.fEnums) (qa a0.fEnums) false),(10,.int .i64 (qa a0.fEnums:Int)),(11,.int .i64 x2)]∧τ=[.cells 0 [.str [],.ds true [] 0 true]]∧a0.fEnums=p4++q4∧x2=(qa p4:Int)∧xP.l4 a1 q4 x2=r) _ ⟨[],a0.fEnums,0,rfl,rfl,rfl,rfl,rfl,h⟩ (.t [1] false) ?_;rintro m L τ ⟨p4,q4,x2,rfl,rfl,rfl,hE4,hi4,h⟩
 rcases q4 with _|⟨y4,q4⟩
 · have hz4:=yJ hE4 hi4;simp only[xP.l4] at h
   refine rg tok [1,4,9,10,11,12] fun K hK=>?_
   simp only[go_sem,qd,qb,hz4];apply hK
   refine za fun Z5 hZ5=>?_
   refine zp rfl ?_;apply zI;apply hZ1;refine rgN [4,5] ?_;cases h;exact rtA
 obtain⟨hz4,hw4,hx4,hE'4,hi'4⟩:=yk hE4 hi4 hb4;simp only[xP.l4] at h
 refine rg tok [1,4,9,10,11,12] fun K hK=>?_
 simp only[go_sem,qd,qb,hz4];apply hK
 refine za fun Z6 hZ6=>?_
 refine zq rfl ?_;apply zd;apply hZ6
 refine za fun Z7 hZ7=>?_
 apply ze;have f8:=E28.idxS hx4;have f9:=E28.loadS rfl rfl hx4
 refine rg tok [1,4,7,9,10,11] fun K hK=>?_
 simp only[go_sem,qd,qf,qb,qe,encGEnumeration,f8,f9];apply hK
 refine rgN [1,4,7,9,10,11,18] ?_;refine zF rfl (fun hc10=>?_) (fun hc10=>?_)
 · rw[if_pos hc10] at h;have t11:=eq_true hc10
   refine rg tok [4,5] fun K hK=>?_
   simp only[go_sem,qd,qf,qb,qe,t11];apply hK
   cases h;exact rtA
 rw[if_neg hc10] at h;have t12:=eq_false hc10;apply zd;apply hZ7
 refine rgE tok [1,4,9,10,11] fun K hK=>?_
 simp only[go_sem,qd,qb,hw4,t12];apply hK
 exact⟨_,_,_,qw q4.length,⟨p4++[y4],q4,x2+1,rfl,rfl,rfl,hE'4,hi'4,h⟩,(.t [0] false)⟩
theorem xP.ev (a0:GSchema)(a1:List UInt8)(r:GEnumeration×Bool)(h:xP a0 a1=r)(σ:Store):ACalls qg 213 [.agg (encGSchema a0),.str a1] σ (fun r' σ'=>r'=.tup [.agg (encGEnumeration r.1),.bool r.2]∧σ'=σ):=
 (xP.ok a0 a1 r h).c σ
def w7 (a0:GSchema)(a1:GField):Bool:=
 (if a1.fType.fKind=6 then bnd (xP a0 a1.fType.fName) fun r6=>(((decide (1≤a1.fLabel))&&(decide (a1.fLabel≤3)))&&r6.2) else (if a1.fType.fKind=7 then bnd (zK a0 a1.fType.fName) fun r10=>(((decide (1≤a1.fLabel))&&(decide (a1.fLabel≤3)))&&r10.2) else (((((decide (1≤a1.fLabel))&&(decide (a1.fLabel≤3)))&&(decide (1≤a1.fType.fKind)))&&(decide (a1.fType.fName=[])))&&(decide (a1.fType.fKind<6)))))
theorem w7.ok (a0:GSchema)(a1:GField)(r:Bool)(h:w7 a0 a1=r):ACalls qg 172 [.agg (encGSchema a0),.agg (encGField a1)] [] (fun r' _=>r'=.bool r):=by
 refine zf (rs:=[.tmp 4]) tok Tryz.func172 rfl Tryz.ntmps172 rfl Tryz.call172 (by simp) ?_;refine zk [(0,.agg (encGSchema a0)),(1,.agg (encGField a1))] ⟨rfl,rfl,trivial⟩ ?_;unfold w7 at h
 refine rg tok [2,3] fun K hK=>?_
 simp only[go_sem,qd,qb,qe,reduceCtorEq,encGField,encGSchema];apply hK
 refine rc [2,3,5] fun K hK=>?_
 refine rnN 4 ?_;refine zo 4 (fun L τ=>L=[(2,.op 0 0 0),(3,.op 1 0 0),(17,.bool ((decide (1≤a1.fLabel))&&(decide (a1.fLabel≤3))))]∧τ=[.cells 0 (encGSchema a0),.cells 0 (encGField a1)]) ?_ ?_
 · refine xj 13 rfl (fun hg13=>?_) (fun hg13=>?_)
   · have t1:=eq_true hg13;refine rnN 4 ?_;refine zb ⟨rfl,_,_,⟨rfl,rfl⟩,.p t1⟩
   have t2:=eq_false hg13;refine rnN 4 ?_;refine zb ⟨rfl,_,_,⟨rfl,rfl⟩,.p t2⟩
 rintro _ _ ⟨rfl,rfl⟩;refine rnN 1 ?_;refine nkN hK ?_
 refine za fun Z3 hZ3=>?_
 refine rgN [2,3,5,20] ?_;apply ze;refine rgN [2,3,5,20,21] ?_;refine zF rfl (fun hc4=>?_) (fun hc4=>?_)
 · rw[if_pos hc4] at h;have t5:=eq_true hc4
   refine rc [5,7] fun K hK=>?_
   obtain⟨r6,hr6,h⟩:=zH h;refine zj tok 4 ?_;simp only[go_sem,qd,qf,qb,qe,t5];refine clN rfl rfl rfl (xP.ev a0 a1.fType.fName r6 hr6 _) ?_;refine zj tok 6 ?_;simp only[go_sem,qd,qf,qb,qe,encGEnumeration];refine nkN hK ?_
   refine rc [4] fun K hK=>?_
   refine rnN 2 ?_;refine zo 2 (fun L τ=>L=[(34,.bool (((decide (1≤a1.fLabel))&&(decide (a1.fLabel≤3)))&&r6.2))]∧τ=[.cells 0 (encGSchema a0),.cells 0 (encGField a1),.cells 0 (encGEnumeration r6.1)]) ?_ ?_
   · refine zP (b:=((decide (1≤a1.fLabel))&&(decide (a1.fLabel≤3)))) 32 rfl (fun hg32=>?_) (fun hg32=>?_)
     · refine rnN 2 ?_;refine zb ⟨rfl,_,_,⟨rfl,rfl⟩,.b hg32⟩
     refine rnN 2 ?_;refine zb ⟨rfl,_,_,⟨rfl,rfl⟩,.b hg32⟩
   rintro _ _ ⟨rfl,rfl⟩;refine rnN 1 ?_;refine nkN hK ?_;cases h;exact rtA
 rw[if_neg hc4] at h;have t7:=eq_false hc4
 refine rg tok [2,3,5,35] fun K hK=>?_
 simp only[go_sem,qd,qb,t7];apply hK
 refine zF rfl (fun hc8=>?_) (fun hc8=>?_)
 · rw[if_pos hc8] at h;have t9:=eq_true hc8
   refine rc [5,9] fun K hK=>?_
   obtain⟨r10,hr10,h⟩:=zH h;refine zj tok 4 ?_;simp only[go_sem,qd,qf,qb,qe,t9];refine clN rfl rfl rfl (zK.ev a0 a1.fType.fName r10 hr10 _) ?_;refine zj tok 6 ?_;simp only[go_sem,qd,qf,qb,qe,encGMessage];refine nkN hK ?_
   refine rc [4] fun K hK=>?_
   refine rnN 2 ?_;refine zo 2 (fun L τ=>L=[(48,.bool (((decide (1≤a1.fLabel))&&(decide (a1.fLabel≤3)))&&r10.2))]∧τ=[.cells 0 (encGSchema a0),.cells 0 (encGField a1),.cells 0 (encGMessage r10.1)]) ?_ ?_
   · refine zP (b:=((decide (1≤a1.fLabel))&&(decide (a1.fLabel≤3)))) 46 rfl (fun hg46=>?_) (fun hg46=>?_)
     · refine rnN 2 ?_;refine zb ⟨rfl,_,_,⟨rfl,rfl⟩,.b hg46⟩
     refine rnN 2 ?_;refine zb ⟨rfl,_,_,⟨rfl,rfl⟩,.b hg46⟩
   rintro _ _ ⟨rfl,rfl⟩;refine rnN 1 ?_;refine nkN hK ?_;cases h;exact rtA
 rw[if_neg hc8] at h;have t11:=eq_false hc8;apply zd;apply hZ3
 refine rc [4] fun K hK=>?_
 refine zj tok 2 ?_;simp only[go_sem,qd,qb,t11];refine zo 5 (fun L τ=>L=[(3,.op 1 0 0),(55,.bool (((decide (1≤a1.fLabel))&&(decide (a1.fLabel≤3)))&&(decide (1≤a1.fType.fKind))))]∧τ=[.cells 0 (encGSchema a0),.cells 0 (encGField a1)]) ?_ ?_
 · refine zP (b:=((decide (1≤a1.fLabel))&&(decide (a1.fLabel≤3)))) 50 rfl (fun hg50=>?_) (fun hg50=>?_)
   · refine rnN 5 ?_;refine zb ⟨rfl,_,_,⟨rfl,rfl⟩,.b hg50⟩
   refine rnN 5 ?_;refine zb ⟨rfl,_,_,⟨rfl,rfl⟩,.b hg50⟩
 rintro _ _ ⟨rfl,rfl⟩;refine rnN 1 ?_;refine zo 8 (fun L τ=>L=[(3,.op 1 0 0),(64,.bool ((((decide (1≤a1.fLabel))&&(decide (a1.fLabel≤3)))&&(decide (1≤a1.fType.fKind)))&&(decide (a1.fType.fName=[]))))]∧τ=[.cells 0 (encGSchema a0),.cells 0 (encGField a1)]) ?_ ?_
 · refine zP (b:=(((decide (1≤a1.fLabel))&&(decide (a1.fLabel≤3)))&&(decide (1≤a1.fType.fKind)))) 56 rfl (fun hg56=>?_) (fun hg56=>?_)
   · refine zj tok 8 ?_;simp only[go_sem,qd,qf,qb,qe,evEqA,ceqL,ceq];refine zb ⟨rfl,_,_,⟨rfl,rfl⟩,.b hg56⟩
   refine rnN 8 ?_;refine zb ⟨rfl,_,_,⟨rfl,rfl⟩,.b hg56⟩
 rintro _ _ ⟨rfl,rfl⟩;refine rnN 1 ?_;refine zo 5 (fun L τ=>L=[(70,.bool (((((decide (1≤a1.fLabel))&&(decide (a1.fLabel≤3)))&&(decide (1≤a1.fType.fKind)))&&(decide (a1.fType.fName=[])))&&(decide (a1.fType.fKind<6))))]∧τ=[.cells 0 (encGSchema a0),.cells 0 (encGField a1)]) ?_ ?_
 · refine zP (b:=((((decide (1≤a1.fLabel))&&(decide (a1.fLabel≤3)))&&(decide (1≤a1.fType.fKind)))&&(decide (a1.fType.fName=[])))) 65 rfl (fun hg65=>?_) (fun hg65=>?_)
   · refine rnN 5 ?_;refine zb ⟨rfl,_,_,⟨rfl,rfl⟩,.b hg65⟩
   refine rnN 5 ?_;refine zb ⟨rfl,_,_,⟨rfl,rfl⟩,.b hg65⟩
 rintro _ _ ⟨rfl,rfl⟩;refine rnN 1 ?_;refine nkN hK ?_;cases h;exact rtA
theorem w7.ev (a0:GSchema)(a1:GField)(r:Bool)(h:w7 a0 a1=r)(σ:Store):ACalls qg 172 [.agg (encGSchema a0),.agg (encGField a1)] σ (fun r' σ'=>r'=.bool r∧σ'=σ):=
 (w7.ok a0 a1 r h).c σ
def yO.l21 (a0:GSchema)(r2:Bool×List (List UInt8×Bool)):List GField→Int→List (Int×Bool)→List (List UInt8×Bool)→Option (Int×List (List UInt8×Bool))
 |[],x17,l15,l16=>some (0,r2.2)
 |y21::q21,x17,l15,l16=>(yA l16 y21.fName).bind fun r28=>(if (!r28.1)=true then some (6,r2.2) else bnd (Zh y21.fTag) fun r30=>(if ((!r30)||((Ya l15 y21.fTag).getD false))=true then some (7,r2.2) else bnd (w7 a0 y21) fun r33=>(if (!r33)=true then some (8,r2.2) else ((yO.l21 a0 r2 q21) (x17+1) (setM l15 y21.fTag true) r28.2))))
def yO.l12 (a0:GSchema)(a2:GMessage)(r2:Bool×List (List UInt8×Bool)):List Int→Int→List (Int×Bool)→Option (Int×List (List UInt8×Bool))
 |[],x9,l8=>(yO.l21 a0 r2 a2.fFields 0 l8 [])
 |y12::q12,x9,l8=>bnd (Zh y12) fun r41=>(if ((!r41)||((Ya l8 y12).getD false))=true then some (7,r2.2) else ((yO.l12 a0 a2 r2 q12) (x9+1) (setM l8 y12 true)))
def yO (a0:GSchema)(a1:List (List UInt8×Bool))(a2:GMessage):Option (Int×List (List UInt8×Bool)):=
 (yA a1 a2.fName).bind fun r2=>(if (!r2.1)=true then some (6,r2.2) else (if ((decide (16<(qa a2.fFields:Int)))||(decide (32<(qa a2.fReserved:Int))))=true then some (4,r2.2) else (yO.l12 a0 a2 r2 a2.fReserved 0 [])))
theorem yO.ok (a0:GSchema)(a1:List (List UInt8×Bool))(a2:GMessage)(r:Int×List (List UInt8×Bool))(h:yO a0 a1 a2=some r):ACalls qg 126 [.agg (encGSchema a0),.mp 0,.agg (encGMessage a2)] [.map (zR AV.str AV.bool a1)] (fun r' σ'=>r'=.int .i64 r.1∧σ'=[.map (zR AV.str AV.bool r.2)]):=by
 refine we [0] (rs:=[.tmp 6]) tok Tryz.func126 rfl Tryz.ntmps126 rfl Tryz.call126 (by simp) rfl ?_;refine zk [(0,.agg (encGSchema a0)),(1,.mp 0),(2,.agg (encGMessage a2))] ⟨rfl,rfl,rfl,trivial⟩ ?_;unfold yO at h
 refine rg tok [1,3,5] fun K hK=>?_
 simp only[go_sem,qd,qb,qe,reduceCtorEq,encGMessage,encGSchema];apply hK
 refine za fun Z1 hZ1=>?_
 apply ze
 refine rc [3,5,13] fun K hK=>?_
 obtain⟨r2,hr2,h⟩:=bind_some h;refine rnN 3 ?_;refine clN rfl rfl rfl (@id (ACalls qg 128 [.mp 0,.str a2.fName] [.map (zR AV.str AV.bool a1),.cells 0 (encGSchema a0),.cells 0 (encGMessage a2)] (fun r' σ'=>r'=.bool r2.1∧σ'=[.map (zR AV.str AV.bool r2.2),.cells 0 (encGSchema a0),.cells 0 (encGMessage a2)])) ((yA.ok a1 a2.fName r2 hr2).i [0])) ?_;refine rnN 2 ?_;refine nkN hK ?_;refine zw (b:=(!r2.1)) rfl (fun hc3=>?_) (fun hc3=>?_)
 · rw[if_pos hc3] at h;refine rgN [6] ?_;apply zE;cases h;simp only[wg,zX,z7,yN,exists_eq_left',go_sem,qe];refine⟨by decide,by simp,?_,?_⟩
   · first|rfl|(simp only[go_sem,qd,qf,qb,qe,qi,qm,reduceIte,reduceCtorEq,push_cast,if_true,qv,qk,qn,qj,qx,qo,qE,qz,qr,qq,qp,zg]<;>rfl)
   first|rfl|(simp only[go_sem,push_cast,qj]<;>rfl)
 rw[xU hc3] at h
 refine rc [3,5,19] fun K hK=>?_
 refine rnN 5 ?_;refine zo 5 (fun L τ=>L=[(3,.op 1 0 0),(5,.op 2 0 0),(29,.bool ((decide (16<(qa a2.fFields:Int)))||(decide (32<(qa a2.fReserved:Int)))))]∧τ=[.map (zR AV.str AV.bool r2.2),.cells 0 (encGSchema a0),.cells 0 (encGMessage a2)]) ?_ ?_
 · refine xj 24 rfl (fun hg24=>?_) (fun hg24=>?_)
   · have t4:=eq_true hg24;refine rnN 5 ?_;refine zb ⟨rfl,_,_,⟨rfl,rfl⟩,.p t4⟩
   have t5:=eq_false hg24;refine rnN 5 ?_;refine zb ⟨rfl,_,_,⟨rfl,rfl⟩,.p t5⟩
 rintro _ _ ⟨rfl,rfl⟩;refine rnN 1 ?_;refine nkN hK ?_;refine zw (b:=((decide (16<(qa a2.fFields:Int)))||(decide (32<(qa a2.fReserved:Int))))) rfl (fun hc6=>?_) (fun hc6=>?_)
 · rw[if_pos hc6] at h;refine rgN [6] ?_;apply zE;cases h;simp only[wg,zX,z7,yN,exists_eq_left',go_sem,qe];refine⟨by decide,by simp,?_,?_⟩
   · first|rfl|(simp only[go_sem,qd,qf,qb,qe,qi,qm,reduceIte,reduceCtorEq,push_cast,if_true,qv,qk,qn,qj,qx,qo,qE,qz,qr,qq,qp,zg]<;>rfl)
   first|rfl|(simp only[go_sem,push_cast,qj]<;>rfl)
 rw[xU hc6] at h;apply zd;apply hZ1;refine rgN [3,5,7] ?_;refine ZD 3 rfl (τ:=[.map (zR AV.str AV.bool r2.2),.cells 0 (encGSchema a0),.cells 0 (encGMessage a2),.map (zR (AV.int .i64) AV.bool [])]) rfl ?_;refine yz (L:=[(3,.op 1 0 0),(5,.op 2 0 0),(7,.mp 3)]) (τ:=[.map (zR AV.str AV.bool r2.2),.cells 0 (encGSchema a0),.cells 0 (encGMessage a2),.map (zR (AV.int .i64) AV.bool [])]) .s ?_
 refine za fun Z7 hZ7=>?_
 refine rgN [3,5,7,32,33,34] ?_;apply ze
 refine yl 32 fun hb12=>?_
 replace hb12:qa a2.fReserved≤9223372036854775807:=hb12.1;refine zN (fun m L τ=>∃ (p12 q12:List Int) (x9:Int) (l8:List (Int×Bool)),m=qa q12∧L=[(3,.op 1 0 0),(5,.op 2 0 0),(7,.mp 3),(32,.ds true (qc encI a2.fReserved) (qa a2.fReserved) false),(33,.int .i64 (qa a2.fReserved:Int)),(34,.int .i64 x9)]∧τ=[.map (zR AV.str AV.bool r2.2),.cells 0 (encGSchema a0),.cells 0 (encGMessage a2),.map (zR (AV.int .i64) AV.bool l8)]∧a2.fReserved=p12++q12∧x9=(qa p12:Int)∧yO.l12 a0 a2 r2 q12 x9 l8=some r) _ ⟨[],a2.fReserved,0,[],rfl,rfl,rfl,rfl,rfl,h⟩ .s ?_;rintro m L τ ⟨p12,q12,x9,l8,rfl,rfl,rfl,hE12,hi12,h⟩
 rcases q12 with _|⟨y12,q12⟩
 · have hz12:=yJ hE12 hi12;simp only[yO.l12] at h
   refine rg tok [3,5,7,32,33,34,35] fun K hK=>?_
   simp only[go_sem,qd,qb,hz12];apply hK
   refine za fun Z13 hZ13=>?_
   refine zp rfl ?_;apply zI;apply hZ7;refine rgN [3,5,7,10] ?_;refine ZD 4 rfl (τ:=[.map (zR AV.str AV.bool r2.2),.cells 0 (encGSchema a0),.cells 0 (encGMessage a2),.map (zR (AV.int .i64) AV.bool l8),.map (zR AV.str AV.bool [])]) rfl ?_;refine yz (L:=[(3,.op 1 0 0),(5,.op 2 0 0),(7,.mp 3),(10,.mp 4)]) (τ:=[.map (zR AV.str AV.bool r2.2),.cells 0 (encGSchema a0),.cells 0 (encGMessage a2),.map (zR (AV.int .i64) AV.bool l8),.map (zR AV.str AV.bool [])]) .s ?_
   refine za fun Z14 hZ14=>?_
   refine rgN [3,7,10,51,52,53] ?_;apply ze
   refine yl 51 fun hb21=>?_
   replace hb21:qa a2.fFields≤9223372036854775807:=hb21.1;refine zN (fun m L τ=>∃ (p21 q21:List GField) (x17:Int) (l15:List (Int×Bool)) (l16:List (List UInt8×Bool)),m=qa q21∧L=[(3,.op 1 0 0),(7,.mp 2),(10,.mp 3),(51,.ds true (qc encGField a2.fFields) (qa a2.fFields) false),(52,.int .i64 (qa a2.fFields:Int)),(53,.int .i64 x17)]∧τ=[.map (zR AV.str AV.bool r2.2),.cells 0 (encGSchema a0),.map (zR (AV.int .i64) AV.bool l15),.map (zR AV.str AV.bool l16)]∧a2.fFields=p21++q21∧x17=(qa p21:Int)∧yO.l21 a0 r2 q21 x17 l15 l16=some r) _ ⟨[],a2.fFields,0,l8,[],rfl,rfl,rfl,rfl,rfl,h⟩ (.t [0,1,3,4] false) ?_;rintro m L τ ⟨p21,q21,x17,l15,l16,rfl,rfl,rfl,hE21,hi21,h⟩
   rcases q21 with _|⟨y21,q21⟩
   · have hz21:=yJ hE21 hi21;simp only[yO.l21] at h
     refine rg tok [3,7,10,51,52,53,54] fun K hK=>?_
     simp only[go_sem,qd,qb,hz21];apply hK
     refine za fun Z22 hZ22=>?_
     refine zp rfl ?_;apply zI;apply hZ14;refine rgN [6] ?_;apply zE;cases h;simp only[wg,zX,z7,yN,exists_eq_left',go_sem,qe];refine⟨by decide,by simp,?_,?_⟩
     · first|rfl|(simp only[go_sem,qd,qf,qb,qe,qi,qm,reduceIte,reduceCtorEq,push_cast,if_true,qv,qk,qn,qj,qx,qo,qE,qz,qr,qq,qp,zg]<;>rfl)
     first|rfl|(simp only[go_sem,push_cast,qj]<;>rfl)
   obtain⟨hz21,hw21,hx21,hE'21,hi'21⟩:=yk hE21 hi21 hb21;simp only[yO.l21] at h
   refine rg tok [3,7,10,51,52,53,54] fun K hK=>?_
   simp only[go_sem,qd,qb,hz21];apply hK
   refine za fun Z23 hZ23=>?_
   refine zq rfl ?_;apply zd;apply hZ23
   refine za fun Z24 hZ24=>?_
   apply ze;have f25:=E127.idxS hx21;have f26:=E127.loadS rfl rfl hx21
   refine rg tok [3,7,10,12,51,52,53] fun K hK=>?_
   simp only[go_sem,qd,qf,qb,qe,encGField,f25,f26];apply hK
   refine za fun Z27 hZ27=>?_
   apply ze
   refine rc [3,7,10,12,51,52,53,57] fun K hK=>?_
   obtain⟨r28,hr28,h⟩:=bind_some h;refine rnN 3 ?_;refine clN rfl rfl rfl (@id (ACalls qg 128 [.mp 3,.str y21.fName] [.map (zR AV.str AV.bool r2.2),.cells 0 (encGSchema a0),.map (zR (AV.int .i64) AV.bool l15),.map (zR AV.str AV.bool l16),.cells 0 (encGField y21)] (fun r' σ'=>r'=.bool r28.1∧σ'=[.map (zR AV.str AV.bool r2.2),.cells 0 (encGSchema a0),.map (zR (AV.int .i64) AV.bool l15),.map (zR AV.str AV.bool r28.2),.cells 0 (encGField y21)])) ((yA.ok l16 y21.fName r28 hr28).i [3])) ?_;refine rnN 2 ?_;refine nkN hK ?_;refine zw (b:=(!r28.1)) rfl (fun hc29=>?_) (fun hc29=>?_)
   · rw[if_pos hc29] at h;refine rgN [6] ?_;apply zE;cases h;simp only[wg,zX,z7,yN,exists_eq_left',go_sem,qe];refine⟨by decide,by simp,?_,?_⟩
     · first|rfl|(simp only[go_sem,qd,qf,qb,qe,qi,qm,reduceIte,reduceCtorEq,push_cast,if_true,qv,qk,qn,qj,qx,qo,qE,qz,qr,qq,qp,zg]<;>rfl)
     first|rfl|(simp only[go_sem,push_cast,qj]<;>rfl)
   rw[xU hc29] at h
   refine rc [3,7,10,12,51,52,53,63] fun K hK=>?_
   obtain⟨r30,hr30,h⟩:=zH h;refine rnN 2 ?_;refine clN rfl rfl rfl (Zh.ev y21.fTag r30 hr30 _) ?_;refine rnN 2 ?_;refine zo 5 (fun L τ=>L=[(3,.op 1 0 0),(7,.mp 2),(10,.mp 3),(12,.op 4 0 0),(51,.ds true (qc encGField a2.fFields) (qa a2.fFields) false),(52,.int .i64 (qa a2.fFields:Int)),(53,.int .i64 x17),(73,.bool ((!r30)||((Ya l15 y21.fTag).getD false)))]∧τ=[.map (zR AV.str AV.bool r2.2),.cells 0 (encGSchema a0),.map (zR (AV.int .i64) AV.bool l15),.map (zR AV.str AV.bool r28.2),.cells 0 (encGField y21)]) ?_ ?_
   · refine zP (b:=(!r30)) 68 rfl (fun hg68=>?_) (fun hg68=>?_)
     · refine zj tok 5 ?_;simp only[go_sem,qd,qb,if_false,if_true];refine zb ⟨rfl,_,_,⟨rfl,rfl⟩,.b hg68⟩
     have f31:=fun (o0:AObj) (o1:AObj) (x:Store)=>YM (T:=tab) (t:=265) (ek:=(AV.int .i64)) (ev:=AV.bool) (z:=false) (vaB.int rfl rfl rfl rfl) rfl rfl rfl rfl l15 y21.fTag false (o0::o1::.map (zR (AV.int .i64) AV.bool l15)::x) 2 rfl
     refine zj tok 5 ?_;simp only[go_sem,qd,qb,qe,Yu,q2,if_false,if_true,f31];refine zb ⟨rfl,_,_,⟨rfl,rfl⟩,.b hg68⟩
   rintro _ _ ⟨rfl,rfl⟩;refine rnN 1 ?_;refine nkN hK ?_;refine zw (b:=((!r30)||((Ya l15 y21.fTag).getD false))) rfl (fun hc32=>?_) (fun hc32=>?_)
   · rw[if_pos hc32] at h;refine rgN [6] ?_;apply zE;cases h;simp only[wg,zX,z7,yN,exists_eq_left',go_sem,qe];refine⟨by decide,by simp,?_,?_⟩
     · first|rfl|(simp only[go_sem,qd,qf,qb,qe,qi,qm,reduceIte,reduceCtorEq,push_cast,if_true,qv,qk,qn,qj,qx,qo,qE,qz,qr,qq,qp,zg]<;>rfl)
     first|rfl|(simp only[go_sem,push_cast,qj]<;>rfl)
   rw[xU hc32] at h
   refine rc [3,7,10,12,51,52,53,74] fun K hK=>?_
   obtain⟨r33,hr33,h⟩:=zH h;refine rnN 2 ?_;refine clN rfl rfl rfl (w7.ev a0 y21 r33 hr33 _) ?_;refine rnN 2 ?_;refine nkN hK ?_;refine zw (b:=(!r33)) rfl (fun hc34=>?_) (fun hc34=>?_)
   · rw[if_pos hc34] at h;refine rgN [6] ?_;apply zE;cases h;simp only[wg,zX,z7,yN,exists_eq_left',go_sem,qe];refine⟨by decide,by simp,?_,?_⟩
     · first|rfl|(simp only[go_sem,qd,qf,qb,qe,qi,qm,reduceIte,reduceCtorEq,push_cast,if_true,qv,qk,qn,qj,qx,qo,qE,qz,qr,qq,qp,zg]<;>rfl)
     first|rfl|(simp only[go_sem,push_cast,qj]<;>rfl)
   rw[xU hc34] at h;apply zd;apply hZ27
   have f35:=fun (o0:AObj) (o1:AObj) (x:Store)=>XA (T:=tab) (t:=265) (ek:=(AV.int .i64)) (ev:=AV.bool) (vaB.int rfl rfl rfl rfl) rfl rfl l15 y21.fTag true (o0::o1::.map (zR (AV.int .i64) AV.bool l15)::x) 2 rfl
   refine rgE tok [3,7,10,51,52,53] fun K hK=>?_
   simp only[go_sem,qd,qb,qe,f35];apply hK
   apply hZ24
   refine rgE tok [3,7,10,51,52,53] fun K hK=>?_
   simp only[go_sem,qd,qb,hw21];apply hK
   exact⟨_,_,_,qw q21.length,⟨p21++[y21],q21,x17+1,setM l15 y21.fTag true,r28.2,rfl,rfl,rfl,hE'21,hi'21,h⟩,(.t [0,1,2,3] false)⟩
 obtain⟨hz12,hw12,hx12,hE'12,hi'12⟩:=yk hE12 hi12 hb12;simp only[yO.l12] at h
 refine rg tok [3,5,7,32,33,34,35] fun K hK=>?_
 simp only[go_sem,qd,qb,hz12];apply hK
 refine za fun Z36 hZ36=>?_
 refine zq rfl ?_;apply zd;apply hZ36
 refine za fun Z37 hZ37=>?_
 apply ze;have f38:=E26.idxS hx12;have f39:=E26.fldS0 (f:=3) rfl rfl hx12
 refine rg tok [3,5,7,9,32,33,34] fun K hK=>?_
 simp only[go_sem,qd,qb,encI,f38,f39];apply hK
 refine za fun Z40 hZ40=>?_
 refine rc [3,5,7,9,32,33,34,45] fun K hK=>?_
 obtain⟨r41,hr41,h⟩:=zH h;refine rnN 1 ?_;refine clN rfl rfl rfl (Zh.ev y12 r41 hr41 _) ?_;refine rnN 2 ?_;refine zo 4 (fun L τ=>L=[(3,.op 1 0 0),(5,.op 2 0 0),(7,.mp 3),(9,.int .i64 y12),(32,.ds true (qc encI a2.fReserved) (qa a2.fReserved) false),(33,.int .i64 (qa a2.fReserved:Int)),(34,.int .i64 x9),(45,.bool ((!r41)||((Ya l8 y12).getD false)))]∧τ=[.map (zR AV.str AV.bool r2.2),.cells 0 (encGSchema a0),.cells 0 (encGMessage a2),.map (zR (AV.int .i64) AV.bool l8)]) ?_ ?_
 · refine zP (b:=(!r41)) 41 rfl (fun hg41=>?_) (fun hg41=>?_)
   · refine zj tok 4 ?_;simp only[go_sem,qd,qb,if_false,if_true];refine zb ⟨rfl,_,_,⟨rfl,rfl⟩,.b hg41⟩
   have f42:=fun (o0:AObj) (o1:AObj) (o2:AObj) (x:Store)=>YM (T:=tab) (t:=265) (ek:=(AV.int .i64)) (ev:=AV.bool) (z:=false) (vaB.int rfl rfl rfl rfl) rfl rfl rfl rfl l8 y12 false (o0::o1::o2::.map (zR (AV.int .i64) AV.bool l8)::x) 3 rfl
   refine zj tok 4 ?_;simp only[go_sem,qd,qb,Yu,q2,if_false,if_true,f42];refine zb ⟨rfl,_,_,⟨rfl,rfl⟩,.b hg41⟩
 rintro _ _ ⟨rfl,rfl⟩;refine nkN hK ?_;refine zw (b:=((!r41)||((Ya l8 y12).getD false))) rfl (fun hc43=>?_) (fun hc43=>?_)
 · rw[if_pos hc43] at h;refine rgN [6] ?_;apply zE;cases h;simp only[wg,zX,z7,yN,exists_eq_left',go_sem,qe];refine⟨by decide,by simp,?_,?_⟩
   · first|rfl|(simp only[go_sem,qd,qf,qb,qe,qi,qm,reduceIte,reduceCtorEq,push_cast,if_true,qv,qk,qn,qj,qx,qo,qE,qz,qr,qq,qp,zg]<;>rfl)
   first|rfl|(simp only[go_sem,push_cast,qj]<;>rfl)
 rw[xU hc43] at h;apply zd;apply hZ40
 have f44:=fun (o0:AObj) (o1:AObj) (o2:AObj) (x:Store)=>XA (T:=tab) (t:=265) (ek:=(AV.int .i64)) (ev:=AV.bool) (vaB.int rfl rfl rfl rfl) rfl rfl l8 y12 true (o0::o1::o2::.map (zR (AV.int .i64) AV.bool l8)::x) 3 rfl
 refine rgE tok [3,5,7,32,33,34] fun K hK=>?_
 simp only[go_sem,qd,qb,f44];apply hK
 apply hZ37
 refine rgE tok [3,5,7,32,33,34] fun K hK=>?_
 simp only[go_sem,qd,qb,hw12];apply hK
 exact⟨_,_,_,qw q12.length,⟨p12++[y12],q12,x9+1,setM l8 y12 true,rfl,rfl,rfl,hE'12,hi'12,h⟩,.s⟩
end
section
set_option maxRecDepth 4000
set_option maxHeartbeats 1000000
open AM
def xD.l23 (r2:Bool×List (List UInt8×Bool)):List GNamed→Int→List (List UInt8×Bool)→List (Int×Bool)→Option (Int×List (List UInt8×Bool))
 |[],x19,l17,l18=>some (0,r2.2)
 |y23::q23,x19,l17,l18=>(yA l17 y23.fName).bind fun r30=>(if (!r30.1)=true then some (6,r2.2) else (if (((decide (y23.fN<0))||(decide (2147483647<y23.fN)))||((Ya l18 y23.fN).getD false))=true then some (11,r2.2) else ((xD.l23 r2 q23) (x19+1) r30.2 (setM l18 y23.fN true))))
def xD.l12 (a1:GEnumeration)(r2:Bool×List (List UInt8×Bool)):List GNamed→Int→Bool→Option (Int×List (List UInt8×Bool))
 |[],x9,x8=>(if (!x8)=true then some (12,r2.2) else (xD.l23 r2 a1.fValues 0 [] []))
 |y12::q12,x9,x8=>((xD.l12 a1 r2 q12) (x9+1) (x8||(decide (y12.fN=0))))
def xD (a0:List (List UInt8×Bool))(a1:GEnumeration):Option (Int×List (List UInt8×Bool)):=
 (yA a0 a1.fName).bind fun r2=>(if (!r2.1)=true then some (6,r2.2) else (if 16<(qa a1.fValues:Int) then some (4,r2.2) else (xD.l12 a1 r2 a1.fValues 0 false)))
theorem xD.ok (a0:List (List UInt8×Bool))(a1:GEnumeration)(r:Int×List (List UInt8×Bool))(h:xD a0 a1=some r):ACalls qg 127 [.mp 0,.agg (encGEnumeration a1)] [.map (zR AV.str AV.bool a0)] (fun r' σ'=>r'=.int .i64 r.1∧σ'=[.map (zR AV.str AV.bool r.2)]):=by
 refine we [0] (rs:=[.tmp 4]) tok Tryz.func127 rfl Tryz.ntmps127 rfl Tryz.call127 (by simp) rfl ?_;refine zk [(0,.mp 0),(1,.agg (encGEnumeration a1))] ⟨rfl,rfl,trivial⟩ ?_;unfold xD at h
 refine rg tok [0,3] fun K hK=>?_
 simp only[go_sem,qd,qb,qe,reduceCtorEq,encGEnumeration];apply hK
 refine za fun Z1 hZ1=>?_
 apply ze
 refine rc [3,12] fun K hK=>?_
 obtain⟨r2,hr2,h⟩:=bind_some h;refine rnN 3 ?_;refine clN rfl rfl rfl (@id (ACalls qg 128 [.mp 0,.str a1.fName] [.map (zR AV.str AV.bool a0),.cells 0 (encGEnumeration a1)] (fun r' σ'=>r'=.bool r2.1∧σ'=[.map (zR AV.str AV.bool r2.2),.cells 0 (encGEnumeration a1)])) ((yA.ok a0 a1.fName r2 hr2).i [0])) ?_;refine rnN 2 ?_;refine nkN hK ?_;refine zw (b:=(!r2.1)) rfl (fun hc3=>?_) (fun hc3=>?_)
 · rw[if_pos hc3] at h;refine rgN [4] ?_;apply zE;cases h;simp only[wg,zX,z7,yN,exists_eq_left',go_sem,qe];refine⟨by decide,by simp,?_,?_⟩
   · first|rfl|(simp only[go_sem,qd,qf,qb,qe,qi,qm,reduceIte,reduceCtorEq,push_cast,if_true,qv,qk,qn,qj,qx,qo,qE,qz,qr,qq,qp,zg]<;>rfl)
   first|rfl|(simp only[go_sem,push_cast,qj]<;>rfl)
 rw[xU hc3] at h;refine rgN [3,18] ?_;refine zF rfl (fun hc4=>?_) (fun hc4=>?_)
 · rw[if_pos hc4] at h;have t5:=eq_true hc4
   refine rg tok [4] fun K hK=>?_
   simp only[go_sem,qd,qb,t5];apply hK
   apply zE;cases h;simp only[wg,zX,z7,yN,exists_eq_left',go_sem,qe];refine⟨by decide,by simp,?_,?_⟩
   · first|rfl|(simp only[go_sem,qd,qf,qb,qe,qi,qm,reduceIte,reduceCtorEq,push_cast,if_true,qv,qk,qn,qj,qx,qo,qE,qz,qr,qq,qp,zg]<;>rfl)
   first|rfl|(simp only[go_sem,push_cast,qj]<;>rfl)
 rw[if_neg hc4] at h;have t6:=eq_false hc4;apply zd;apply hZ1
 refine rg tok [3,5] fun K hK=>?_
 simp only[go_sem,qd,qb,t6];apply hK
 refine za fun Z7 hZ7=>?_
 refine rgN [3,5,24,25,26] ?_;apply ze
 refine yl 24 fun hb12=>?_
 replace hb12:qa a1.fValues≤9223372036854775807:=hb12.1;refine zN (fun m L τ=>∃ (p12 q12:List GNamed) (x9:Int) (x8:Bool),m=qa q12∧L=[(3,.op 1 0 0),(5,.bool x8),(24,.ds true (qc encGNamed a1.fValues) (qa a1.fValues) false),(25,.int .i64 (qa a1.fValues:Int)),(26,.int .i64 x9)]∧τ=[.map (zR AV.str AV.bool r2.2),.cells 0 (encGEnumeration a1)]∧a1.fValues=p12++q12∧x9=(qa p12:Int)∧xD.l12 a1 r2 q12 x9 x8=some r) _ ⟨[],a1.fValues,0,false,rfl,rfl,rfl,rfl,rfl,h⟩ .s ?_;rintro m L τ ⟨p12,q12,x9,x8,rfl,rfl,rfl,hE12,hi12,h⟩
 rcases q12 with _|⟨y12,q12⟩
 · have hz12:=yJ hE12 hi12;simp only[xD.l12] at h
   refine rg tok [3,5,24,25,26,27] fun K hK=>?_
   simp only[go_sem,qd,qb,hz12];apply hK
   refine za fun Z13 hZ13=>?_
   refine zp rfl ?_;apply zI;apply hZ7
   refine za fun Z14 hZ14=>?_
   refine rgN [3,38] ?_;refine zw (b:=(!x8)) rfl (fun hc15=>?_) (fun hc15=>?_)
   · rw[if_pos hc15] at h;refine rgN [4] ?_;apply zE;cases h;simp only[wg,zX,z7,yN,exists_eq_left',go_sem,qe];refine⟨by decide,by simp,?_,?_⟩
     · first|rfl|(simp only[go_sem,qd,qf,qb,qe,qi,qm,reduceIte,reduceCtorEq,push_cast,if_true,qv,qk,qn,qj,qx,qo,qE,qz,qr,qq,qp,zg]<;>rfl)
     first|rfl|(simp only[go_sem,push_cast,qj]<;>rfl)
   rw[xU hc15] at h;apply zd;apply hZ14;refine rgN [3,8,9] ?_;refine ZD 2 rfl rfl ?_;refine ZD 3 rfl (τ:=[.map (zR AV.str AV.bool r2.2),.cells 0 (encGEnumeration a1),.map (zR AV.str AV.bool []),.map (zR (AV.int .i64) AV.bool [])]) rfl ?_;refine yz (L:=[(3,.op 1 0 0),(8,.mp 2),(9,.mp 3)]) (τ:=[.map (zR AV.str AV.bool r2.2),.cells 0 (encGEnumeration a1),.map (zR AV.str AV.bool []),.map (zR (AV.int .i64) AV.bool [])]) .s ?_
   refine za fun Z16 hZ16=>?_
   refine rgN [8,9,42,43,44] ?_;apply ze
   refine yl 42 fun hb23=>?_
   replace hb23:qa a1.fValues≤9223372036854775807:=hb23.1;refine zN (fun m L τ=>∃ (p23 q23:List GNamed) (x19:Int) (l17:List (List UInt8×Bool)) (l18:List (Int×Bool)),m=qa q23∧L=[(8,.mp 1),(9,.mp 2),(42,.ds true (qc encGNamed a1.fValues) (qa a1.fValues) false),(43,.int .i64 (qa a1.fValues:Int)),(44,.int .i64 x19)]∧τ=[.map (zR AV.str AV.bool r2.2),.map (zR AV.str AV.bool l17),.map (zR (AV.int .i64) AV.bool l18)]∧a1.fValues=p23++q23∧x19=(qa p23:Int)∧xD.l23 r2 q23 x19 l17 l18=some r) _ ⟨[],a1.fValues,0,[],[],rfl,rfl,rfl,rfl,rfl,h⟩ (.t [0,2,3] false) ?_;rintro m L τ ⟨p23,q23,x19,l17,l18,rfl,rfl,rfl,hE23,hi23,h⟩
   rcases q23 with _|⟨y23,q23⟩
   · have hz23:=yJ hE23 hi23;simp only[xD.l23] at h
     refine rg tok [8,9,42,43,44,45] fun K hK=>?_
     simp only[go_sem,qd,qb,hz23];apply hK
     refine za fun Z24 hZ24=>?_
     refine zp rfl ?_;apply zI;apply hZ16;refine rgN [4] ?_;apply zE;cases h;simp only[wg,zX,z7,yN,exists_eq_left',go_sem,qe];refine⟨by decide,by simp,?_,?_⟩
     · first|rfl|(simp only[go_sem,qd,qf,qb,qe,qi,qm,reduceIte,reduceCtorEq,push_cast,if_true,qv,qk,qn,qj,qx,qo,qE,qz,qr,qq,qp,zg]<;>rfl)
     first|rfl|(simp only[go_sem,push_cast,qj]<;>rfl)
   obtain⟨hz23,hw23,hx23,hE'23,hi'23⟩:=yk hE23 hi23 hb23;simp only[xD.l23] at h
   refine rg tok [8,9,42,43,44,45] fun K hK=>?_
   simp only[go_sem,qd,qb,hz23];apply hK
   refine za fun Z25 hZ25=>?_
   refine zq rfl ?_;apply zd;apply hZ25
   refine za fun Z26 hZ26=>?_
   apply ze;have f27:=E140.idxS hx23;have f28:=E140.loadS rfl rfl hx23
   refine rg tok [8,9,11,42,43,44] fun K hK=>?_
   simp only[go_sem,qd,qf,qb,qe,encGNamed,f27,f28];apply hK
   refine za fun Z29 hZ29=>?_
   apply ze
   refine rc [8,9,11,42,43,44,48] fun K hK=>?_
   obtain⟨r30,hr30,h⟩:=bind_some h;refine rnN 3 ?_;refine clN rfl rfl rfl (@id (ACalls qg 128 [.mp 1,.str y23.fName] [.map (zR AV.str AV.bool r2.2),.map (zR AV.str AV.bool l17),.map (zR (AV.int .i64) AV.bool l18),.cells 0 [.str y23.fName,.int .i64 y23.fN]] (fun r' σ'=>r'=.bool r30.1∧σ'=[.map (zR AV.str AV.bool r2.2),.map (zR AV.str AV.bool r30.2),.map (zR (AV.int .i64) AV.bool l18),.cells 0 [.str y23.fName,.int .i64 y23.fN]])) ((yA.ok l17 y23.fName r30 hr30).i [1])) ?_;refine rnN 2 ?_;refine nkN hK ?_;refine zw (b:=(!r30.1)) rfl (fun hc31=>?_) (fun hc31=>?_)
   · rw[if_pos hc31] at h;refine rgN [4] ?_;apply zE;cases h;simp only[wg,zX,z7,yN,exists_eq_left',go_sem,qe];refine⟨by decide,by simp,?_,?_⟩
     · first|rfl|(simp only[go_sem,qd,qf,qb,qe,qi,qm,reduceIte,reduceCtorEq,push_cast,if_true,qv,qk,qn,qj,qx,qo,qE,qz,qr,qq,qp,zg]<;>rfl)
     first|rfl|(simp only[go_sem,push_cast,qj]<;>rfl)
   rw[xU hc31] at h
   refine rc [8,9,11,42,43,44,54] fun K hK=>?_
   refine rnN 4 ?_;refine zo 4 (fun L τ=>L=[(8,.mp 1),(9,.mp 2),(11,.op 3 0 0),(42,.ds true (qc encGNamed a1.fValues) (qa a1.fValues) false),(43,.int .i64 (qa a1.fValues:Int)),(44,.int .i64 x19),(62,.bool ((decide (y23.fN<0))||(decide (2147483647<y23.fN))))]∧τ=[.map (zR AV.str AV.bool r2.2),.map (zR AV.str AV.bool r30.2),.map (zR (AV.int .i64) AV.bool l18),.cells 0 [.str y23.fName,.int .i64 y23.fN]]) ?_ ?_
   · refine xj 58 rfl (fun hg58=>?_) (fun hg58=>?_)
     · have t32:=eq_true hg58;refine rnN 4 ?_;refine zb ⟨rfl,_,_,⟨rfl,rfl⟩,.p t32⟩
     have t33:=eq_false hg58;refine rnN 4 ?_;refine zb ⟨rfl,_,_,⟨rfl,rfl⟩,.p t33⟩
   rintro _ _ ⟨rfl,rfl⟩;refine rnN 1 ?_;refine zo 5 (fun L τ=>L=[(8,.mp 1),(9,.mp 2),(11,.op 3 0 0),(42,.ds true (qc encGNamed a1.fValues) (qa a1.fValues) false),(43,.int .i64 (qa a1.fValues:Int)),(44,.int .i64 x19),(68,.bool (((decide (y23.fN<0))||(decide (2147483647<y23.fN)))||((Ya l18 y23.fN).getD false)))]∧τ=[.map (zR AV.str AV.bool r2.2),.map (zR AV.str AV.bool r30.2),.map (zR (AV.int .i64) AV.bool l18),.cells 0 [.str y23.fName,.int .i64 y23.fN]]) ?_ ?_
   · refine zP (b:=((decide (y23.fN<0))||(decide (2147483647<y23.fN)))) 63 rfl (fun hg63=>?_) (fun hg63=>?_)
     · refine zj tok 5 ?_;simp only[go_sem,qd,qb,if_false,if_true];refine zb ⟨rfl,_,_,⟨rfl,rfl⟩,.b hg63⟩
     have f34:=fun (o0:AObj) (o1:AObj) (x:Store)=>YM (T:=tab) (t:=265) (ek:=(AV.int .i64)) (ev:=AV.bool) (z:=false) (vaB.int rfl rfl rfl rfl) rfl rfl rfl rfl l18 y23.fN false (o0::o1::.map (zR (AV.int .i64) AV.bool l18)::x) 2 rfl
     refine zj tok 5 ?_;simp only[go_sem,qd,qb,qe,Yu,q2,if_false,if_true,f34];refine zb ⟨rfl,_,_,⟨rfl,rfl⟩,.b hg63⟩
   rintro _ _ ⟨rfl,rfl⟩;refine rnN 1 ?_;refine nkN hK ?_;refine zw (b:=(((decide (y23.fN<0))||(decide (2147483647<y23.fN)))||((Ya l18 y23.fN).getD false))) rfl (fun hc35=>?_) (fun hc35=>?_)
   · rw[if_pos hc35] at h;refine rgN [4] ?_;apply zE;cases h;simp only[wg,zX,z7,yN,exists_eq_left',go_sem,qe];refine⟨by decide,by simp,?_,?_⟩
     · first|rfl|(simp only[go_sem,qd,qf,qb,qe,qi,qm,reduceIte,reduceCtorEq,push_cast,if_true,qv,qk,qn,qj,qx,qo,qE,qz,qr,qq,qp,zg]<;>rfl)
     first|rfl|(simp only[go_sem,push_cast,qj]<;>rfl)
   rw[xU hc35] at h;apply zd;apply hZ29
   have f36:=fun (o0:AObj) (o1:AObj) (x:Store)=>XA (T:=tab) (t:=265) (ek:=(AV.int .i64)) (ev:=AV.bool) (vaB.int rfl rfl rfl rfl) rfl rfl l18 y23.fN true (o0::o1::.map (zR (AV.int .i64) AV.bool l18)::x) 2 rfl
   refine rgE tok [8,9,42,43,44] fun K hK=>?_
   simp only[go_sem,qd,qb,qe,f36];apply hK
   apply hZ26
   refine rgE tok [8,9,42,43,44] fun K hK=>?_
   simp only[go_sem,qd,qb,hw23];apply hK
   exact⟨_,_,_,qw q23.length,⟨p23++[y23],q23,x19+1,r30.2,setM l18 y23.fN true,rfl,rfl,rfl,hE'23,hi'23,h⟩,(.t [0,1,2] false)⟩
 obtain⟨hz12,hw12,hx12,hE'12,hi'12⟩:=yk hE12 hi12 hb12;simp only[xD.l12] at h
 refine rg tok [3,5,24,25,26,27] fun K hK=>?_
 simp only[go_sem,qd,qb,hz12];apply hK
 refine za fun Z37 hZ37=>?_
 refine zq rfl ?_;apply zd;apply hZ37
 refine za fun Z38 hZ38=>?_
 apply ze;have f39:=E140.idxS hx12;have f40:=E140.loadS rfl rfl hx12
 refine rg tok [3,5,7,24,25,26] fun K hK=>?_
 simp only[go_sem,qd,qf,qb,qe,encGNamed,f39,f40];apply hK
 refine rcE [3,5,24,25,26] fun K hK=>?_
 refine rnN 2 ?_;refine zo 4 (fun L τ=>L=[(3,.op 1 0 0),(5,.bool x8),(24,.ds true (qc encGNamed a1.fValues) (qa a1.fValues) false),(25,.int .i64 (qa a1.fValues:Int)),(26,.int .i64 x9),(35,.bool (x8||(decide (y12.fN=0))))]∧τ=[.map (zR AV.str AV.bool r2.2),.cells 0 (encGEnumeration a1),.cells 0 [.str y12.fName,.int .i64 y12.fN]]) ?_ ?_
 · refine zP (b:=x8) 31 rfl (fun hg31=>?_) (fun hg31=>?_)
   · refine rnN 4 ?_;refine zb ⟨rfl,_,_,⟨rfl,rfl⟩,.b hg31⟩
   refine rnN 4 ?_;refine zb ⟨rfl,_,_,⟨rfl,rfl⟩,.b hg31⟩
 rintro _ _ ⟨rfl,rfl⟩;refine rnN 1 ?_;refine nkN hK ?_;apply hZ38
 refine rgE tok [3,5,24,25,26] fun K hK=>?_
 simp only[go_sem,qd,qb,hw12];apply hK
 exact⟨_,_,_,qw q12.length,⟨p12++[y12],q12,x9+1,(x8||(decide (y12.fN=0))),rfl,rfl,rfl,hE'12,hi'12,h⟩,(.t [0,1] false)⟩
def zS.l29 (a0:GSchema):List GMethod→Int→List (List UInt8×Bool)→Option Int
 |[],x26,l25=>some 0
 |y29::q29,x26,l25=>bnd (zK a0 y29.fIn) fun r35=>bnd (zK a0 y29.fOut) fun r36=>(yA l25 y29.fName).bind fun r37=>(if (!r37.1)=true then some 6 else (if ((!r35.2)||(!r36.2))=true then some 8 else ((zS.l29 a0 q29) (x26+1) r37.2)))
def zS.l22 (a0:GSchema):List GEnumeration→Int→List (List UInt8×Bool)→Option Int
 |[],x19,l18=>(zS.l29 a0 a0.fMethods 0 [])
 |y22::q22,x19,l18=>(xD l18 y22).bind fun r44=>(if r44.1=0 then ((zS.l22 a0 q22) (x19+1) r44.2) else some r44.1)
def zS.l15 (a0:GSchema):List GMessage→Int→List (List UInt8×Bool)→Option Int
 |[],x12,l11=>(zS.l22 a0 a0.fEnums 0 l11)
 |y15::q15,x12,l11=>(yO a0 l11 y15).bind fun r52=>(if r52.1=0 then ((zS.l15 a0 q15) (x12+1) r52.2) else some r52.1)
def zS (a0:GSchema):Option Int:=
 (xL a0.fName).bind fun r2=>(if (!r2)=true then some 6 else (if (qa a0.fMessages:Int)=0 then some 12 else (if (((decide (10<(qa a0.fMessages:Int)))||(decide (6<(qa a0.fEnums:Int))))||(decide (6<(qa a0.fMethods:Int))))=true then some 4 else (zS.l15 a0 a0.fMessages 0 []))))
theorem zS.ok (a0:GSchema)(r:Int)(h:zS a0=some r):ACalls qg 82 [.agg (encGSchema a0)] [] (fun r' _=>r'=.int .i64 r):=by
 refine zf (rs:=[.tmp 2]) tok Tryz.func82 rfl Tryz.ntmps82 rfl Tryz.call82 (by simp) ?_;refine zk [(0,.agg (encGSchema a0))] ⟨rfl,trivial⟩ ?_;unfold zS at h
 refine rg tok [1] fun K hK=>?_
 simp only[go_sem,qd,qb,qe,reduceCtorEq,encGSchema];apply hK
 refine za fun Z1 hZ1=>?_
 apply ze
 refine rc [1,17] fun K hK=>?_
 obtain⟨r2,hr2,h⟩:=bind_some h;refine rnN 2 ?_;refine clN rfl rfl rfl (xL.ev a0.fName r2 hr2 _) ?_;refine rnN 2 ?_;refine nkN hK ?_;refine zw (b:=(!r2)) rfl (fun hc3=>?_) (fun hc3=>?_)
 · rw[if_pos hc3] at h;refine rgN [2] ?_;cases h;exact rtA
 rw[xU hc3] at h;refine rgN [1,22] ?_;refine zF rfl (fun hc4=>?_) (fun hc4=>?_)
 · rw[if_pos hc4] at h;have t5:=eq_true hc4
   refine rg tok [2] fun K hK=>?_
   simp only[go_sem,qd,qb,t5];apply hK
   cases h;exact rtA
 rw[if_neg hc4] at h;have t6:=eq_false hc4
 refine rc [1,27] fun K hK=>?_
 refine zj tok 5 ?_;simp only[go_sem,qd,qb,qe,t6];refine zo 5 (fun L τ=>L=[(1,.op 0 0 0),(37,.bool ((decide (10<(qa a0.fMessages:Int)))||(decide (6<(qa a0.fEnums:Int)))))]∧τ=[.cells 0 (encGSchema a0)]) ?_ ?_
 · refine xj 32 rfl (fun hg32=>?_) (fun hg32=>?_)
   · have t7:=eq_true hg32;refine rnN 5 ?_;refine zb ⟨rfl,_,_,⟨rfl,rfl⟩,.p t7⟩
   have t8:=eq_false hg32;refine rnN 5 ?_;refine zb ⟨rfl,_,_,⟨rfl,rfl⟩,.p t8⟩
 rintro _ _ ⟨rfl,rfl⟩;refine rnN 1 ?_;refine zo 5 (fun L τ=>L=[(1,.op 0 0 0),(43,.bool (((decide (10<(qa a0.fMessages:Int)))||(decide (6<(qa a0.fEnums:Int))))||(decide (6<(qa a0.fMethods:Int)))))]∧τ=[.cells 0 (encGSchema a0)]) ?_ ?_
 · refine zP (b:=((decide (10<(qa a0.fMessages:Int)))||(decide (6<(qa a0.fEnums:Int))))) 38 rfl (fun hg38=>?_) (fun hg38=>?_)
   · refine rnN 5 ?_;refine zb ⟨rfl,_,_,⟨rfl,rfl⟩,.b hg38⟩
   refine rnN 5 ?_;refine zb ⟨rfl,_,_,⟨rfl,rfl⟩,.b hg38⟩
 rintro _ _ ⟨rfl,rfl⟩;refine rnN 1 ?_;refine nkN hK ?_;refine zw (b:=(((decide (10<(qa a0.fMessages:Int)))||(decide (6<(qa a0.fEnums:Int))))||(decide (6<(qa a0.fMethods:Int))))) rfl (fun hc9=>?_) (fun hc9=>?_)
 · rw[if_pos hc9] at h;refine rgN [2] ?_;cases h;exact rtA
 rw[xU hc9] at h;apply zd;apply hZ1;refine rgN [1,3] ?_;refine ZD 1 rfl (τ:=[.cells 0 (encGSchema a0),.map (zR AV.str AV.bool [])]) rfl ?_;refine yz (L:=[(1,.op 0 0 0),(3,.mp 1)]) (τ:=[.cells 0 (encGSchema a0),.map (zR AV.str AV.bool [])]) .s ?_
 refine za fun Z10 hZ10=>?_
 refine rgN [1,3,46,47,48] ?_;apply ze
 refine yl 46 fun hb15=>?_
 replace hb15:qa a0.fMessages≤9223372036854775807:=hb15.1;refine zN (fun m L τ=>∃ (p15 q15:List GMessage) (x12:Int) (l11:List (List UInt8×Bool)),m=qa q15∧L=[(1,.op 0 0 0),(3,.mp 1),(46,.ds true (qc encGMessage a0.fMessages) (qa a0.fMessages) false),(47,.int .i64 (qa a0.fMessages:Int)),(48,.int .i64 x12)]∧τ=[.cells 0 (encGSchema a0),.map (zR AV.str AV.bool l11)]∧a0.fMessages=p15++q15∧x12=(qa p15:Int)∧zS.l15 a0 q15 x12 l11=some r) _ ⟨[],a0.fMessages,0,[],rfl,rfl,rfl,rfl,rfl,h⟩ .s ?_;rintro m L τ ⟨p15,q15,x12,l11,rfl,rfl,rfl,hE15,hi15,h⟩
 rcases q15 with _|⟨y15,q15⟩
 · have hz15:=yJ hE15 hi15;simp only[zS.l15] at h
   refine rg tok [1,3,46,47,48,49] fun K hK=>?_
   simp only[go_sem,qd,qb,hz15];apply hK
   refine za fun Z16 hZ16=>?_
   refine zp rfl ?_;apply zI;apply hZ10
   refine za fun Z17 hZ17=>?_
   refine rgN [1,3,61,62,63] ?_;apply ze
   refine yl 61 fun hb22=>?_
   replace hb22:qa a0.fEnums≤9223372036854775807:=hb22.1;refine zN (fun m L τ=>∃ (p22 q22:List GEnumeration) (x19:Int) (l18:List (List UInt8×Bool)),m=qa q22∧L=[(1,.op 0 0 0),(3,.mp 1),(61,.ds true (qc encGEnumeration a0.fEnums) (qa a0.fEnums) false),(62,.int .i64 (qa a0.fEnums:Int)),(63,.int .i64 x19)]∧τ=[.cells 0 (encGSchema a0),.map (zR AV.str AV.bool l18)]∧a0.fEnums=p22++q22∧x19=(qa p22:Int)∧zS.l22 a0 q22 x19 l18=some r) _ ⟨[],a0.fEnums,0,l11,rfl,rfl,rfl,rfl,rfl,h⟩ .s ?_;rintro m L τ ⟨p22,q22,x19,l18,rfl,rfl,rfl,hE22,hi22,h⟩
   rcases q22 with _|⟨y22,q22⟩
   · have hz22:=yJ hE22 hi22;simp only[zS.l22] at h
     refine rg tok [1,3,61,62,63,64] fun K hK=>?_
     simp only[go_sem,qd,qb,hz22];apply hK
     refine za fun Z23 hZ23=>?_
     refine zp rfl ?_;apply zI;apply hZ17;refine rgN [1,10] ?_;refine ZD 2 rfl (τ:=[.cells 0 (encGSchema a0),.map (zR AV.str AV.bool l18),.map (zR AV.str AV.bool [])]) rfl ?_;refine yz (L:=[(1,.op 0 0 0),(10,.mp 2)]) (τ:=[.cells 0 (encGSchema a0),.map (zR AV.str AV.bool l18),.map (zR AV.str AV.bool [])]) .s ?_
     refine za fun Z24 hZ24=>?_
     refine rgN [1,10,76,77,78] ?_;apply ze
     refine yl 76 fun hb29=>?_
     replace hb29:qa a0.fMethods≤9223372036854775807:=hb29.1;refine zN (fun m L τ=>∃ (p29 q29:List GMethod) (x26:Int) (l25:List (List UInt8×Bool)),m=qa q29∧L=[(1,.op 0 0 0),(10,.mp 1),(76,.ds true (qc encGMethod a0.fMethods) (qa a0.fMethods) false),(77,.int .i64 (qa a0.fMethods:Int)),(78,.int .i64 x26)]∧τ=[.cells 0 (encGSchema a0),.map (zR AV.str AV.bool l25)]∧a0.fMethods=p29++q29∧x26=(qa p29:Int)∧zS.l29 a0 q29 x26 l25=some r) _ ⟨[],a0.fMethods,0,[],rfl,rfl,rfl,rfl,rfl,h⟩ (.t [0,2] false) ?_;rintro m L τ ⟨p29,q29,x26,l25,rfl,rfl,rfl,hE29,hi29,h⟩
     rcases q29 with _|⟨y29,q29⟩
     · have hz29:=yJ hE29 hi29;simp only[zS.l29] at h
       refine rg tok [1,10,76,77,78,79] fun K hK=>?_
       simp only[go_sem,qd,qb,hz29];apply hK
       refine za fun Z30 hZ30=>?_
       refine zp rfl ?_;apply zI;apply hZ24;refine rgN [2] ?_;cases h;exact rtA
     obtain⟨hz29,hw29,hx29,hE'29,hi'29⟩:=yk hE29 hi29 hb29;simp only[zS.l29] at h
     refine rg tok [1,10,76,77,78,79] fun K hK=>?_
     simp only[go_sem,qd,qb,hz29];apply hK
     refine za fun Z31 hZ31=>?_
     refine zq rfl ?_;apply zd;apply hZ31
     refine za fun Z32 hZ32=>?_
     apply ze;have f33:=E29.idxS hx29;have f34:=E29.loadS rfl rfl hx29
     refine rg tok [1,10,12,76,77,78] fun K hK=>?_
     simp only[go_sem,qd,qf,qb,qe,encGMethod,f33,f34];apply hK
     refine rc [1,10,12,14,76,77,78] fun K hK=>?_
     obtain⟨r35,hr35,h⟩:=zH h;refine rnN 3 ?_;refine clN rfl rfl rfl (zK.ev a0 y29.fIn r35 hr35 _) ?_;refine zj tok 6 ?_;simp only[go_sem,qd,qf,qb,qe,encGMessage];refine nkN hK ?_
     refine rc [1,10,12,14,16,76,77,78] fun K hK=>?_
     obtain⟨r36,hr36,h⟩:=zH h;refine rnN 3 ?_;refine clN rfl rfl rfl (zK.ev a0 y29.fOut r36 hr36 _) ?_;refine zj tok 6 ?_;simp only[go_sem,qd,qf,qb,qe,encGMessage];refine nkN hK ?_;apply ze
     refine rc [1,10,14,16,76,77,78,96] fun K hK=>?_
     obtain⟨r37,hr37,h⟩:=bind_some h;refine rnN 3 ?_;refine clN rfl rfl rfl (@id (ACalls qg 128 [.mp 1,.str y29.fName] [.cells 0 (encGSchema a0),.map (zR AV.str AV.bool l25),.cells 0 [.str y29.fName,.str y29.fIn,.str y29.fOut],.cells 0 (encGMessage r35.1),.cells 0 (encGMessage r36.1)] (fun r' σ'=>r'=.bool r37.1∧σ'=[.cells 0 (encGSchema a0),.map (zR AV.str AV.bool r37.2),.cells 0 [.str y29.fName,.str y29.fIn,.str y29.fOut],.cells 0 (encGMessage r35.1),.cells 0 (encGMessage r36.1)])) ((yA.ok l25 y29.fName r37 hr37).i [1])) ?_;refine rnN 2 ?_;refine nkN hK ?_;refine zw (b:=(!r37.1)) rfl (fun hc38=>?_) (fun hc38=>?_)
     · rw[if_pos hc38] at h;refine rgN [2] ?_;cases h;exact rtA
     rw[xU hc38] at h
     refine rc [1,10,76,77,78,102] fun K hK=>?_
     refine rnN 3 ?_;refine zo 3 (fun L τ=>L=[(1,.op 0 0 0),(10,.mp 1),(76,.ds true (qc encGMethod a0.fMethods) (qa a0.fMethods) false),(77,.int .i64 (qa a0.fMethods:Int)),(78,.int .i64 x26),(108,.bool ((!r35.2)||(!r36.2)))]∧τ=[.cells 0 (encGSchema a0),.map (zR AV.str AV.bool r37.2),.cells 0 [.str y29.fName,.str y29.fIn,.str y29.fOut],.cells 0 (encGMessage r35.1),.cells 0 (encGMessage r36.1)]) ?_ ?_
     · refine zP (b:=(!r35.2)) 105 rfl (fun hg105=>?_) (fun hg105=>?_)
       · refine rnN 3 ?_;refine zb ⟨rfl,_,_,⟨rfl,rfl⟩,.b hg105⟩
       refine rnN 3 ?_;refine zb ⟨rfl,_,_,⟨rfl,rfl⟩,.b hg105⟩
     rintro _ _ ⟨rfl,rfl⟩;refine rnN 1 ?_;refine nkN hK ?_;refine zw (b:=((!r35.2)||(!r36.2))) rfl (fun hc39=>?_) (fun hc39=>?_)
     · rw[if_pos hc39] at h;refine rgN [2] ?_;cases h;exact rtA
     rw[xU hc39] at h;apply zd;apply hZ32
     refine rgE tok [1,10,76,77,78] fun K hK=>?_
     simp only[go_sem,qd,qb,hw29];apply hK
     exact⟨_,_,_,qw q29.length,⟨p29++[y29],q29,x26+1,r37.2,rfl,rfl,rfl,hE'29,hi'29,h⟩,(.t [0,1] false)⟩
   obtain⟨hz22,hw22,hx22,hE'22,hi'22⟩:=yk hE22 hi22 hb22;simp only[zS.l22] at h
   refine rg tok [1,3,61,62,63,64] fun K hK=>?_
   simp only[go_sem,qd,qb,hz22];apply hK
   refine za fun Z40 hZ40=>?_
   refine zq rfl ?_;apply zd;apply hZ40
   refine za fun Z41 hZ41=>?_
   apply ze;have f42:=E28.idxS hx22;have f43:=E28.loadS rfl rfl hx22
   refine rg tok [1,3,8,61,62,63] fun K hK=>?_
   simp only[go_sem,qd,qf,qb,qe,encGEnumeration,f42,f43];apply hK
   refine rc [1,3,9,61,62,63] fun K hK=>?_
   obtain⟨r44,hr44,h⟩:=bind_some h;refine rnN 2 ?_;refine clN rfl rfl rfl (@id (ACalls qg 127 [.mp 1,.agg (encGEnumeration y22)] [.cells 0 (encGSchema a0),.map (zR AV.str AV.bool l18),.cells 0 (encGEnumeration y22)] (fun r' σ'=>r'=.int .i64 r44.1∧σ'=[.cells 0 (encGSchema a0),.map (zR AV.str AV.bool r44.2),.cells 0 (encGEnumeration y22)])) ((xD.ok l18 y22 r44 hr44).i [1])) ?_;refine rnN 1 ?_;refine nkN hK ?_;refine rgN [1,3,9,61,62,63,71] ?_;refine zF rfl (fun hc45=>?_) (fun hc45=>?_)
   · rw[if_neg hc45] at h;have t46:=eq_false hc45
     refine rg tok [2] fun K hK=>?_
     simp only[go_sem,qd,qb,t46];apply hK
     cases h;exact rtA
   rw[if_pos hc45] at h;have t47:=eq_true hc45;apply zd;apply hZ41
   refine rgE tok [1,3,61,62,63] fun K hK=>?_
   simp only[go_sem,qd,qb,hw22,t47];apply hK
   exact⟨_,_,_,qw q22.length,⟨p22++[y22],q22,x19+1,r44.2,rfl,rfl,rfl,hE'22,hi'22,h⟩,(.t [0,1] false)⟩
 obtain⟨hz15,hw15,hx15,hE'15,hi'15⟩:=yk hE15 hi15 hb15;simp only[zS.l15] at h
 refine rg tok [1,3,46,47,48,49] fun K hK=>?_
 simp only[go_sem,qd,qb,hz15];apply hK
 refine za fun Z48 hZ48=>?_
 refine zq rfl ?_;apply zd;apply hZ48
 refine za fun Z49 hZ49=>?_
 apply ze;have f50:=E27.idxS hx15;have f51:=E27.loadS rfl rfl hx15
 refine rg tok [1,3,5,46,47,48] fun K hK=>?_
 simp only[go_sem,qd,qf,qb,qe,encGMessage,f50,f51];apply hK
 refine rc [1,3,6,46,47,48] fun K hK=>?_
 obtain⟨r52,hr52,h⟩:=bind_some h;refine rnN 3 ?_;refine clN rfl rfl rfl (@id (ACalls qg 126 [.agg (encGSchema a0),.mp 1,.agg (encGMessage y15)] [.cells 0 (encGSchema a0),.map (zR AV.str AV.bool l11),.cells 0 (encGMessage y15)] (fun r' σ'=>r'=.int .i64 r52.1∧σ'=[.cells 0 (encGSchema a0),.map (zR AV.str AV.bool r52.2),.cells 0 (encGMessage y15)])) ((yO.ok a0 l11 y15 r52 hr52).i [1])) ?_;refine rnN 1 ?_;refine nkN hK ?_;refine rgN [1,3,6,46,47,48,57] ?_;refine zF rfl (fun hc53=>?_) (fun hc53=>?_)
 · rw[if_neg hc53] at h;have t54:=eq_false hc53
   refine rg tok [2] fun K hK=>?_
   simp only[go_sem,qd,qb,t54];apply hK
   cases h;exact rtA
 rw[if_pos hc53] at h;have t55:=eq_true hc53;apply zd;apply hZ49
 refine rgE tok [1,3,46,47,48] fun K hK=>?_
 simp only[go_sem,qd,qb,hw15,t55];apply hK
 exact⟨_,_,_,qw q15.length,⟨p15++[y15],q15,x12+1,r52.2,rfl,rfl,rfl,hE'15,hi'15,h⟩,(.t [0,1] false)⟩
theorem zS.ev (a0:GSchema)(r:Int)(h:zS a0=some r)(σ:Store):ACalls qg 82 [.agg (encGSchema a0)] σ (fun r' σ'=>r'=.int .i64 r∧σ'=σ):=
 (zS.ok a0 r h).c σ
def xr.l10 (a2:List GSchema):List Int→Int→Int→Option Bool
 |[],x7,x6=>some true
 |y10::q10,x7,x6=>(if ((decide (y10≤x6))||(decide (12<y10)))=true then some true else (YS a2 x7).bind fun y19=>(zS y19).bind fun r22=>some (!(decide (r22=0)))).bind fun c19=>(if c19=true then some false else ((xr.l10 a2 q10) (x7+1) y10))
def xr (a0:Int)(a1:List Int)(a2:List GSchema):Option Bool:=
 (if (((((decide ((qa a1:Int)<1))||(decide (12<(qa a1:Int))))||(!(decide ((qa a2:Int)=(qa a1:Int)))))||(decide (a0<0)))||(decide (255<a0)))=true then some false else (xr.l10 a2 a1 0 0))
theorem xr.ok (a0:Int)(a1:List Int)(a2:List GSchema)(r:Bool)(h:xr a0 a1 a2=some r):ACalls qg 58 [.int .i64 a0,.ds true (qc encI a1) (qa a1) false,.ds true (qc encGSchema a2) (qa a2) false] [] (fun r' _=>r'=.bool r):=by
 refine zf (rs:=[.tmp 6]) tok Tryz.func58 rfl Tryz.ntmps58 rfl Tryz.call58 (by simp) ?_;refine zk [(0,.int .i64 a0),(1,.ds true (qc encI a1) (qa a1) false),(2,.ds true (qc encGSchema a2) (qa a2) false)] ⟨rfl,rfl,rfl,trivial⟩ ?_;unfold xr at h;refine rgN [0,1,2] ?_
 refine za fun Z1 hZ1=>?_
 refine rc [1,2,32] fun K hK=>?_
 refine rnN 4 ?_;refine zo 4 (fun L τ=>L=[(0,.int .i64 a0),(1,.ds true (qc encI a1) (qa a1) false),(2,.ds true (qc encGSchema a2) (qa a2) false),(17,.bool ((decide ((qa a1:Int)<1))||(decide (12<(qa a1:Int)))))]∧τ=[]) ?_ ?_
 · refine xj 13 rfl (fun hg13=>?_) (fun hg13=>?_)
   · have t2:=eq_true hg13;refine rnN 4 ?_;refine zb ⟨rfl,_,_,⟨rfl,rfl⟩,.p t2⟩
   have t3:=eq_false hg13;refine rnN 4 ?_;refine zb ⟨rfl,_,_,⟨rfl,rfl⟩,.p t3⟩
 rintro _ _ ⟨rfl,rfl⟩;refine rnN 1 ?_;refine zo 6 (fun L τ=>L=[(0,.int .i64 a0),(1,.ds true (qc encI a1) (qa a1) false),(2,.ds true (qc encGSchema a2) (qa a2) false),(24,.bool (((decide ((qa a1:Int)<1))||(decide (12<(qa a1:Int))))||(!(decide ((qa a2:Int)=(qa a1:Int))))))]∧τ=[]) ?_ ?_
 · refine zP (b:=((decide ((qa a1:Int)<1))||(decide (12<(qa a1:Int))))) 18 rfl (fun hg18=>?_) (fun hg18=>?_)
   · refine rnN 6 ?_;refine zb ⟨rfl,_,_,⟨rfl,rfl⟩,.b hg18⟩
   refine rnN 6 ?_;refine zb ⟨rfl,_,_,⟨rfl,rfl⟩,.b hg18⟩
 rintro _ _ ⟨rfl,rfl⟩;refine rnN 1 ?_;refine zo 3 (fun L τ=>L=[(0,.int .i64 a0),(1,.ds true (qc encI a1) (qa a1) false),(2,.ds true (qc encGSchema a2) (qa a2) false),(28,.bool ((((decide ((qa a1:Int)<1))||(decide (12<(qa a1:Int))))||(!(decide ((qa a2:Int)=(qa a1:Int)))))||(decide (a0<0))))]∧τ=[]) ?_ ?_
 · refine zP (b:=(((decide ((qa a1:Int)<1))||(decide (12<(qa a1:Int))))||(!(decide ((qa a2:Int)=(qa a1:Int)))))) 25 rfl (fun hg25=>?_) (fun hg25=>?_)
   · refine rnN 3 ?_;refine zb ⟨rfl,_,_,⟨rfl,rfl⟩,.b hg25⟩
   refine rnN 3 ?_;refine zb ⟨rfl,_,_,⟨rfl,rfl⟩,.b hg25⟩
 rintro _ _ ⟨rfl,rfl⟩;refine rnN 1 ?_;refine zo 3 (fun L τ=>L=[(1,.ds true (qc encI a1) (qa a1) false),(2,.ds true (qc encGSchema a2) (qa a2) false),(32,.bool (((((decide ((qa a1:Int)<1))||(decide (12<(qa a1:Int))))||(!(decide ((qa a2:Int)=(qa a1:Int)))))||(decide (a0<0)))||(decide (255<a0))))]∧τ=[]) ?_ ?_
 · refine zP (b:=((((decide ((qa a1:Int)<1))||(decide (12<(qa a1:Int))))||(!(decide ((qa a2:Int)=(qa a1:Int)))))||(decide (a0<0)))) 29 rfl (fun hg29=>?_) (fun hg29=>?_)
   · refine rnN 3 ?_;refine zb ⟨rfl,_,_,⟨rfl,rfl⟩,.b hg29⟩
   refine rnN 3 ?_;refine zb ⟨rfl,_,_,⟨rfl,rfl⟩,.b hg29⟩
 rintro _ _ ⟨rfl,rfl⟩;refine nkN hK ?_;refine zw (b:=(((((decide ((qa a1:Int)<1))||(decide (12<(qa a1:Int))))||(!(decide ((qa a2:Int)=(qa a1:Int)))))||(decide (a0<0)))||(decide (255<a0)))) rfl (fun hc4=>?_) (fun hc4=>?_)
 · rw[if_pos hc4] at h;refine rgN [6] ?_;cases h;exact rtA
 rw[xU hc4] at h;apply zd;apply hZ1;refine rgN [1,2,7] ?_
 refine za fun Z5 hZ5=>?_
 refine rgN [2,7,33,34,35] ?_;apply ze
 refine yl 33 fun hb10=>?_
 replace hb10:qa a1≤9223372036854775807:=hb10.1;refine zN (fun m L τ=>∃ (p10 q10:List Int) (x7:Int) (x6:Int),m=qa q10∧L=[(2,.ds true (qc encGSchema a2) (qa a2) false),(7,.int .i64 x6),(33,.ds true (qc encI a1) (qa a1) false),(34,.int .i64 (qa a1:Int)),(35,.int .i64 x7)]∧τ=[]∧a1=p10++q10∧x7=(qa p10:Int)∧xr.l10 a2 q10 x7 x6=some r) _ ⟨[],a1,0,0,rfl,rfl,rfl,rfl,rfl,h⟩ .s ?_;rintro m L τ ⟨p10,q10,x7,x6,rfl,rfl,rfl,hE10,hi10,h⟩
 rcases q10 with _|⟨y10,q10⟩
 · have hz10:=yJ hE10 hi10;simp only[xr.l10] at h
   refine rg tok [2,7,33,34,35,36] fun K hK=>?_
   simp only[go_sem,qd,qb,hz10];apply hK
   refine za fun Z11 hZ11=>?_
   refine zp rfl ?_;apply zI;apply hZ5;refine rgN [6] ?_;cases h;exact rtA
 obtain⟨hz10,hw10,hx10,hE'10,hi'10⟩:=yk hE10 hi10 hb10;simp only[xr.l10] at h
 refine rg tok [2,7,33,34,35,36] fun K hK=>?_
 simp only[go_sem,qd,qb,hz10];apply hK
 refine za fun Z12 hZ12=>?_
 refine zq rfl ?_;apply zd;apply hZ12
 refine za fun Z13 hZ13=>?_
 apply ze;have f14:=E26.idxS hx10;have f15:=E26.fldS0 (f:=3) rfl rfl hx10
 refine rg tok [2,7,8,9,33,34,35] fun K hK=>?_
 simp only[go_sem,qd,qb,encI,f14,f15];apply hK
 refine za fun Z16 hZ16=>?_
 refine rc [2,9,33,34,35,54] fun K hK=>?_
 refine rnN 4 ?_;refine zo 3 (fun L τ=>L=[(2,.ds true (qc encGSchema a2) (qa a2) false),(8,.int .i64 x7),(9,.int .i64 y10),(33,.ds true (qc encI a1) (qa a1) false),(34,.int .i64 (qa a1:Int)),(35,.int .i64 x7),(46,.bool ((decide (y10≤x6))||(decide (12<y10))))]∧τ=[]) ?_ ?_
 · refine xj 43 rfl (fun hg43=>?_) (fun hg43=>?_)
   · have t17:=eq_true hg43;refine rnN 3 ?_;refine zb ⟨rfl,_,_,⟨rfl,rfl⟩,.p t17⟩
   have t18:=eq_false hg43;refine rnN 3 ?_;refine zb ⟨rfl,_,_,⟨rfl,rfl⟩,.p t18⟩
 rintro _ _ ⟨rfl,rfl⟩;refine rnN 1 ?_;obtain⟨c19,hc19,h⟩:=bind_some h;refine zo 7 (fun L τ=>L=[(2,.ds true (qc encGSchema a2) (qa a2) false),(9,.int .i64 y10),(33,.ds true (qc encI a1) (qa a1) false),(34,.int .i64 (qa a1:Int)),(35,.int .i64 x7),(54,.bool c19)]∧τ=[]) ?_ ?_
 · refine zP (b:=((decide (y10≤x6))||(decide (12<y10)))) 47 rfl (fun hg47=>?_) (fun hg47=>?_)
   · rw[if_pos hg47] at hc19;refine rnN 7 ?_;cases hc19;refine zb ⟨rfl,_,_,⟨rfl,rfl⟩,.b hg47⟩
   rw[xU hg47] at hc19;obtain⟨y20,hy20,hc19⟩:=bind_some hc19;have f21:=E33.idxS hy20;have f22:=E33.loadS rfl rfl hy20;obtain⟨r23,hr23,hc19⟩:=bind_some hc19;refine zj tok 4 ?_;simp only[go_sem,qd,qb,encGSchema,f21,f22];refine clN rfl rfl rfl (zS.ev y20 r23 hr23 _) ?_;refine rnN 2 ?_;cases hc19;refine zb ⟨rfl,_,_,⟨rfl,rfl⟩,.b hg47⟩
 rintro _ _ ⟨rfl,rfl⟩;refine nkN hK ?_;refine zw (b:=c19) rfl (fun hc24=>?_) (fun hc24=>?_)
 · rw[if_pos hc24] at h;refine rgN [6] ?_;cases h;exact rtA
 rw[xU hc24] at h;apply zd;apply hZ16
 refine rgE tok [2,7,33,34,35] fun K hK=>?_
 simp only[go_sem,qd,qb];apply hK
 apply hZ13
 refine rgE tok [2,7,33,34,35] fun K hK=>?_
 simp only[go_sem,qd,qb,hw10];apply hK
 exact⟨_,_,_,qw q10.length,⟨p10++[y10],q10,x7+1,y10,rfl,rfl,rfl,hE'10,hi'10,h⟩,.s⟩
theorem xr.ev (a0:Int)(a1:List Int)(a2:List GSchema)(r:Bool)(h:xr a0 a1 a2=some r)(σ:Store):ACalls qg 58 [.int .i64 a0,.ds true (qc encI a1) (qa a1) false,.ds true (qc encGSchema a2) (qa a2) false] σ (fun r' σ'=>r'=.bool r∧σ'=σ):=
 (xr.ok a0 a1 a2 r h).c σ
def yT.l4 (a1:List UInt8):List GMethod→Int→GMethod×Bool
 |[],x2=>((⟨[],[],[]⟩:GMethod),false)
 |y4::q4,x2=>(if y4.fName=a1 then (y4,true) else ((yT.l4 a1 q4) (x2+1)))
def yT (a0:GSchema)(a1:List UInt8):GMethod×Bool:=
 (yT.l4 a1 a0.fMethods 0)
end
end Go.Proofs.YtaahlckibpiphaaGreatDoor
