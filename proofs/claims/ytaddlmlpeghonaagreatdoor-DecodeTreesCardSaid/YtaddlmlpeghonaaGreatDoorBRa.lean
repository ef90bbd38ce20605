/- Parts of the proof, cut down to what it needs. -/
import Derived.Test.YtaddlmlpeghonaaGreatDoorBDc
import Derived.Test.YtaddlmlpeghonaaGreatDoorBFA
import Derived.Test.YtaddlmlpeghonaaGreatDoorRows
import Derived.Test.YtaddlmlpeghonaaGreatDoorChecked
import Derived.Test.YtaddlmlpeghonaaGreatDoorTie
import Derived.ProofKit
import Derived.OpenShut
import Derived.ShutString
import Derived.ChangeOld
import Derived.ChangeSame
import Derived.ChangeVars
import Derived.JoinedOf
import Derived.RowKit
import Derived.LaidLaws
import Derived.LaidHandle
import Derived.Lib.LaidIn
import Derived.Lib.LaidU8T
import Derived.SevenTiedAt
import Derived.Test.YtaddlmlpeghonaaGreatDoorBFB
set_option linter.constructorNameAsVariable false
set_option linter.unusedSimpArgs false
set_option linter.unusedVariables false
namespace Go.Proofs.YtaddlmlpeghonaaGreatDoor
open _root_.List renaming length → qc, flatMap → qe, length_append → qi, length_cons → qj, length_nil → ql, mem_cons_of_mem → qm, mem_cons_self → qn, append_assoc → qp, getD_eq_getElem?_getD → qu, map_nil → qw, nil_append → qx, append_nil → qz, drop_zero → qA, map_append → qB, length_singleton → qC, map_cons → qD, mem_cons → qF, cons_append → qG, length_eq_zero_iff → qK, getElem?_append_left → qL, replicate → qO, flatMap_cons → qP, flatMap_append → qR, range_zero → qV, getElem?_set_ne → qY, getElem?_eq_getElem → qZ, all_cons → q1, range_succ → q2, mem_append_right → q5, length_map → q7, getElem?_eq_some_iff → ua, mem_map → ud, all_nil → uf, all_eq_true → ug, mem_append → ui, take_length → uj, set_cons_zero → ul, take_of_length_le → um, getElem?_append_right → un, flatMap_nil → uo, mem_append_left → uq, take_append_drop → ut, set_cons_succ → uu, pairwise_cons → uv, mem_singleton → uw, getElem?_set_self → uz, nodup_cons → uA, getElem?_eq_none → uB, length_set → uD, filter_cons → uH, range → uJ, getElem?_cons_zero → uK, getElem?_cons_succ → uL, length_take → uN, drop_eq_getElem_cons → uP, length_drop → uR, getD_cons_zero → uY, getD_cons_succ → uZ, reverse_cons → u4, set → u5, eq_nil_of_length_eq_zero → u9, drop_drop → vg
open _root_.Option renaming bind_some → qf, map_some → uF, getD_some → uS
open _root_.Nat renaming reduceEqDiff → qa, reduceLT → qb, reduceAdd → qd, reduceLeDiff → qg, zero_add → qq, reduceMul → qs, lt_succ_self → qt, le_refl → qv, reduceSub → qH, mul_le_mul_right → q3, reduceMod → ub, lt_of_lt_of_le → uk, zero_le → ux, le_trans → uy, zero_mul → uI, sub_self → uO, sub_zero → uQ, succ_mul → uV, add_zero → uW, add_assoc → uX, add_mul → u0, lt_or_ge → u6
open _root_.Bool renaming and_eq_true → qo, not_false → qy, or_eq_true → qJ, or_true → qM, not_true → qQ, and_true → qS, and_self → qT, and_false → qU, or_false → qW, false_eq_true → ue, true_and → uC, false_ne_true → uG, false_or → uM, not_eq_true' → uT
open _root_.Int renaming toNat → qI, toNat_natCast → qX, reduceEq → u7, le_refl → ve
open _root_.BitVec renaming ofInt → qE, toNat → ur
open _root_.Array renaming length_toList → uh, getD_eq_getD_getElem? → uE, getElem?_eq_getElem → uU, getElem?_setIfInBounds_ne → u3, getElem?_modify → vj
open _root_.UInt8 renaming ofNat → uc
open Result renaming andThen_ok → qk
open Sem renaming run_bind → qr, run_pure → qN
open _root_.Go.Proofs.Tryz renaming prog → qh
section
set_option maxRecDepth 4000
set_option maxHeartbeats 1000000
open AM
theorem wg.ok (a0:Int)(r:Bool)(h:wg a0=r):ACalls qh 81 [.int .i32 a0] [] (fun r' _=>r'=.bool r):=by
 refine zf (rs:=[.tmp 2]) tok Tryz.func81 rfl Tryz.ntmps81 rfl Tryz.call81 (by simp) ?_;refine zl [(0,.int .i32 a0)] ⟨rfl,trivial⟩ ?_;unfold wg at h;refine rgN [0] ?_
 refine rc [2] fun K hK=>?_
 refine rnN 3 ?_;refine zh 3 (fun L τ=>L=[(8,.bool ((decide (48≤a0))&&(decide (a0≤57))))]∧τ=[]) ?_ ?_
 · refine yG 5 rfl (fun hg5=>?_) (fun hg5=>?_)
   · have t1:=eq_true hg5;refine rnN 3 ?_;refine zb ⟨rfl,_,_,⟨rfl,rfl⟩,.p t1⟩
   have t2:=eq_false hg5;refine rnN 3 ?_;refine zb ⟨rfl,_,_,⟨rfl,rfl⟩,.p t2⟩
 rintro _ _ ⟨rfl,rfl⟩;refine rnN 1 ?_;refine nkN hK ?_;cases h;exact rtA
theorem wg.ev (a0:Int)(r:Bool)(h:wg a0=r)(σ:Store):ACalls qh 81 [.int .i32 a0] σ (fun r' σ'=>r'=.bool r∧σ'=σ):=
 (wg.ok a0 r h).c σ
def xe.l14 (r1:List Int×Bool):Nat→Int→Option Bool
 |0,_=>none
 |k14+1,x12=>(if x12<(qc r1.1:Int) then (Zd r1.1 x12).bind fun y19=>bnd (xv y19) fun r22=>bnd (if (!r22)=true then bnd (wg y19) fun r25 => !r25 else false) fun c23=>(if c23=true then some false else ((xe.l14 r1 k14) (IntKind.i64.wrap (x12+1)))) else some true)
def xe (a0:List UInt8):Option Bool:=
 (xL a0).bind fun r1=>(if (((!r1.2)||(decide ((qc r1.1:Int)<1)))||(decide (20<(qc r1.1:Int))))=true then some true else (Zd r1.1 0).bind fun y3=>bnd (xv y3) fun r6=>some (!r6)).bind fun c3=>bnd (if c3=true then true else bnd (xh a0) fun r8=>r8) fun c8=>(if c8=true then some false else (xe.l14 r1 rounds 1))
theorem xe.ok (a0:List UInt8)(r:Bool)(h:xe a0=some r):ACalls qh 45 [.str a0] [] (fun r' _=>r'=.bool r):=by
 refine zf (rs:=[.tmp 2]) tok Tryz.func45 rfl Tryz.ntmps45 rfl Tryz.call45 (by simp) ?_;refine zl [(0,.str a0)] ⟨rfl,trivial⟩ ?_;unfold xe at h;refine rgN [0] ?_
 refine rc [0,3,4] fun K hK=>?_
 obtain⟨r1,hr1,h⟩:=bind_some h;refine rnN 1 ?_;refine clN rfl rfl rfl (xL.ev a0 r1 hr1 _) ?_;refine rnN 5 ?_;refine nkN hK ?_
 refine za fun Z2 hZ2=>?_
 refine rc [3,33] fun K hK=>?_
 refine rnN 3 ?_;refine zh 4 (fun L τ=>L=[(0,.str a0),(3,.ds true (qe (vbi .i32) r1.1) (qc r1.1) false),(17,.bool ((!r1.2)||(decide ((qc r1.1:Int)<1))))]∧τ=[]) ?_ ?_
 · refine zO (b:=(!r1.2)) 13 rfl (fun hg13=>?_) (fun hg13=>?_)
   · refine rnN 4 ?_;refine zb ⟨rfl,_,_,⟨rfl,rfl⟩,.b hg13⟩
   refine rnN 4 ?_;refine zb ⟨rfl,_,_,⟨rfl,rfl⟩,.b hg13⟩
 rintro _ _ ⟨rfl,rfl⟩;refine rnN 1 ?_;refine zh 4 (fun L τ=>L=[(0,.str a0),(3,.ds true (qe (vbi .i32) r1.1) (qc r1.1) false),(22,.bool (((!r1.2)||(decide ((qc r1.1:Int)<1)))||(decide (20<(qc r1.1:Int)))))]∧τ=[]) ?_ ?_
 · refine zO (b:=((!r1.2)||(decide ((qc r1.1:Int)<1)))) 18 rfl (fun hg18=>?_) (fun hg18=>?_)
   · refine rnN 4 ?_;refine zb ⟨rfl,_,_,⟨rfl,rfl⟩,.b hg18⟩
   refine rnN 4 ?_;refine zb ⟨rfl,_,_,⟨rfl,rfl⟩,.b hg18⟩
 rintro _ _ ⟨rfl,rfl⟩;refine rnN 1 ?_;obtain⟨c3,hc3,h⟩:=bind_some h;refine zh 6 (fun L τ=>L=[(0,.str a0),(3,.ds true (qe (vbi .i32) r1.1) (qc r1.1) false),(29,.bool c3)]∧τ=[]) ?_ ?_
 · refine zO (b:=(((!r1.2)||(decide ((qc r1.1:Int)<1)))||(decide (20<(qc r1.1:Int))))) 23 rfl (fun hg23=>?_) (fun hg23=>?_)
   · rw[if_pos hg23] at hc3;refine rnN 6 ?_;cases hc3;refine zb ⟨rfl,_,_,⟨rfl,rfl⟩,.b hg23⟩
   rw[xQ hg23] at hc3;obtain⟨y4,hy4,hc3⟩:=bind_some hc3;have f5:=E130.idxS hy4;have f6:=E130.fldS0 (f:=21) rfl rfl hy4;obtain⟨r7,hr7,hc3⟩:=zS hc3;refine zj tok 3 ?_;simp only[go_sem,qb,qa,reduceCtorEq,vbi,f5,f6];refine clN rfl rfl rfl (xv.ev y4 r7 hr7 _) ?_;refine rnN 2 ?_;cases hc3;refine zb ⟨rfl,_,_,⟨rfl,rfl⟩,.b hg23⟩
 rintro _ _ ⟨rfl,rfl⟩;refine rnN 1 ?_;obtain⟨c8,hc8,h⟩:=zS h;refine zh 3 (fun L τ=>L=[(3,.ds true (qe (vbi .i32) r1.1) (qc r1.1) false),(33,.bool c8)]∧τ=[]) ?_ ?_
 · refine zO (b:=c3) 30 rfl (fun hg30=>?_) (fun hg30=>?_)
   · rw[if_pos hg30] at hc8;refine rnN 3 ?_;subst hc8;refine zb ⟨rfl,_,_,⟨rfl,rfl⟩,.b hg30⟩
   rw[xQ hg30] at hc8;obtain⟨r9,hr9,hc8⟩:=zS hc8;refine rnN 1 ?_;refine clN rfl rfl rfl (xh.ev a0 r9 hr9 _) ?_;refine rnN 1 ?_;subst hc8;refine zb ⟨rfl,_,_,⟨rfl,rfl⟩,.b hg30⟩
 rintro _ _ ⟨rfl,rfl⟩;refine nkN hK ?_;refine zm (b:=c8) rfl (fun hc10=>?_) (fun hc10=>?_)
 · rw[if_pos hc10] at h;refine rgN [2] ?_;cases h;exact rtA
 rw[xQ hc10] at h;apply zd;apply hZ2
 refine za fun Z11 hZ11=>?_
 refine rgN [3,5] ?_;apply ze;refine zq (fun m L τ=>∃ (k14:Nat) (x12:Int),m=0+k14∧L=[(3,.ds true (qe (vbi .i32) r1.1) (qc r1.1) false),(5,.int .i64 x12)]∧τ=[]∧xe.l14 r1 k14 x12=some r) _ ⟨rounds,1,rfl,rfl,rfl,h⟩ .s ?_;rintro m L τ ⟨k14,x12,rfl,rfl,rfl,h⟩
 rcases k14 with _|k14
 · cases h
 simp only[xe.l14] at h
 refine za fun Z15 hZ15=>?_
 refine rgN [3,5,37] ?_;refine zx rfl (fun hc16=>?_) (fun hc16=>?_)
 · rw[if_pos hc16] at h;have t17:=eq_true hc16;apply zd;apply hZ15
   refine za fun Z18 hZ18=>?_
   apply ze
   refine rc [3,5,53] fun K hK=>?_
   obtain⟨y19,hy19,h⟩:=bind_some h;have f20:=E130.idxS hy19;have f21:=E130.fldS0 (f:=21) rfl rfl hy19;obtain⟨r22,hr22,h⟩:=zS h;refine zj tok 4 ?_;simp only[go_sem,qb,qa,vbi,t17,f20,f21];refine clN rfl rfl rfl (xv.ev y19 r22 hr22 _) ?_;refine rnN 2 ?_;obtain⟨c23,hc23,h⟩:=zS h;refine zh 7 (fun L τ=>L=[(3,.ds true (qe (vbi .i32) r1.1) (qc r1.1) false),(5,.int .i64 x12),(53,.bool c23)]∧τ=[]) ?_ ?_
   · refine zO (b:=(!r22)) 46 rfl (fun hg46=>?_) (fun hg46=>?_)
     · rw[if_pos hg46] at hc23;have f24:=E130.idxS hy19;have f25:=E130.fldS0 (f:=21) rfl rfl hy19;obtain⟨r26,hr26,hc23⟩:=zS hc23;refine zj tok 4 ?_;simp only[go_sem,qb,qa,vbi,f24,f25];refine clN rfl rfl rfl (wg.ev y19 r26 hr26 _) ?_;refine rnN 2 ?_;subst hc23;refine zb ⟨rfl,_,_,⟨rfl,rfl⟩,.b hg46⟩
     rw[xQ hg46] at hc23;refine rnN 7 ?_;subst hc23;refine zb ⟨rfl,_,_,⟨rfl,rfl⟩,.b hg46⟩
   rintro _ _ ⟨rfl,rfl⟩;refine nkN hK ?_;refine zm (b:=c23) rfl (fun hc27=>?_) (fun hc27=>?_)
   · rw[if_pos hc27] at h;refine rgN [2] ?_;cases h;exact rtA
   rw[xQ hc27] at h;apply zd;apply hZ18
   refine rgE tok [3,5] fun K hK=>?_
   simp only[go_sem,qb,qa];apply hK
   exact⟨_,_,_,qt (0+k14),⟨k14,IntKind.i64.wrap (x12+1),rfl,rfl,rfl,h⟩,.s⟩
 rw[if_neg hc16] at h;have t28:=eq_false hc16;apply zy;apply hZ11
 refine rg tok [2] fun K hK=>?_
 simp only[go_sem,qb,qa,t28];apply hK
 cases h;exact rtA
theorem xe.ev (a0:List UInt8)(r:Bool)(h:xe a0=some r)(σ:Store):ACalls qh 45 [.str a0] σ (fun r' σ'=>r'=.bool r∧σ'=σ):=
 (xe.ok a0 r h).c σ
def yr.l4 (a0:List UInt8):List (List UInt8)→Int→Option Bool
 |[],x2=>(xe a0).bind fun r6=>some r6
 |y4::q4,x2=>(if y4=a0 then some false else ((yr.l4 a0 q4) (x2+1)))
def yr (a0:List UInt8)(a1:List (List UInt8)):Option Bool:=
 (yr.l4 a0 a1 0)
theorem yr.ok (a0:List UInt8)(a1:List (List UInt8))(r:Bool)(h:yr a0 a1=some r):ACalls qh 47 [.str a0,.ds true (qe encS a1) (qc a1) false] [] (fun r' _=>r'=.bool r):=by
 refine zf (rs:=[.tmp 4]) tok Tryz.func47 rfl Tryz.ntmps47 rfl Tryz.call47 (by simp) ?_;refine zl [(0,.str a0),(1,.ds true (qe encS a1) (qc a1) false)] ⟨rfl,rfl,trivial⟩ ?_;unfold yr at h;refine rgN [0,1] ?_
 refine za fun Z1 hZ1=>?_
 refine rgN [0,1,5] ?_;apply ze
 refine xj 1 fun hb4=>?_
 replace hb4:qc a1≤9223372036854775807:=hb4.1;refine zq (fun m L τ=>∃ (p4 q4:List (List UInt8)) (x2:Int),m=qc q4∧L=[(0,.str a0),(1,.ds true (qe encS a1) (qc a1) false),(5,.int .i64 x2)]∧τ=[]∧a1=p4++q4∧x2=(qc p4:Int)∧yr.l4 a0 q4 x2=some r) _ ⟨[],a1,0,rfl,rfl,rfl,rfl,rfl,h⟩ .s ?_;rintro m L τ ⟨p4,q4,x2,rfl,rfl,rfl,hE4,hi4,h⟩
 rcases q4 with _|⟨y4,q4⟩
 · have hz4:=yy hE4 hi4;simp only[yr.l4] at h
   refine za fun Z5 hZ5=>?_
   refine rg tok [0,1,5,9] fun K hK=>?_
   simp only[go_sem,qb,qa,reduceCtorEq,hz4];apply hK
   refine zn rfl ?_;apply zy;apply hZ1
   refine rc [4] fun K hK=>?_
   obtain⟨r6,hr6,h⟩:=bind_some h;refine rnN 1 ?_;refine clN rfl rfl rfl (xe.ev a0 r6 hr6 _) ?_;refine rnN 1 ?_;refine nkN hK ?_;cases h;exact rtA
 obtain⟨hz4,hw4,hx4,hE'4,hi'4⟩:=zX hE4 hi4 hb4;simp only[yr.l4] at h
 refine za fun Z7 hZ7=>?_
 refine rg tok [0,1,5,9] fun K hK=>?_
 simp only[go_sem,qb,qa,reduceCtorEq,hz4];apply hK
 refine zo rfl ?_;apply zd;apply hZ7
 refine za fun Z8 hZ8=>?_
 apply ze;have f9:=E98.idxS hx4;have f10:=E98.fldS0 (f:=9) rfl rfl hx4
 refine rg tok [0,1,5,17] fun K hK=>?_
 simp only[go_sem,qb,qa,reduceCtorEq,encS,f9,f10];apply hK
 refine zx rfl (fun hc11=>?_) (fun hc11=>?_)
 · rw[if_pos hc11] at h;have t12:=eq_true hc11
   refine rg tok [4] fun K hK=>?_
   simp only[go_sem,qb,qa,reduceCtorEq,t12];apply hK
   cases h;exact rtA
 rw[if_neg hc11] at h;have t13:=eq_false hc11;apply zd;apply hZ8
 refine rgE tok [0,1,5] fun K hK=>?_
 simp only[go_sem,qb,qa,reduceCtorEq,hw4,t13];apply hK
 exact⟨_,_,_,qt q4.length,⟨p4++[y4],q4,x2+1,rfl,rfl,rfl,hE'4,hi'4,h⟩,.s⟩
def yv.l4 (a1:Int):List Int→Int→Bool
 |[],x2=>false
 |y4::q4,x2=>(if y4=a1 then true else ((yv.l4 a1 q4) (x2+1)))
def yv (a0:GMessage)(a1:Int):Bool:=
 (yv.l4 a1 a0.fReserved 0)
theorem yv.ok (a0:GMessage)(a1:Int)(r:Bool)(h:yv a0 a1=r):ACalls qh 121 [.agg (encGMessage a0),.int .i64 a1] [] (fun r' _=>r'=.bool r):=by
 refine zf (rs:=[.tmp 4]) tok Tryz.func121 rfl Tryz.ntmps121 rfl Tryz.call121 (by simp) ?_;refine zl [(0,.agg (encGMessage a0)),(1,.int .i64 a1)] ⟨rfl,rfl,trivial⟩ ?_;unfold yv at h
 refine rg tok [1,2] fun K hK=>?_
 simp only[go_sem,qb,qa,qd,reduceCtorEq,encGMessage];apply hK
 refine za fun Z1 hZ1=>?_
 refine rgN [1,2,5] ?_;apply ze
 refine xn 0 rfl fun hb4=>?_
 replace hb4:qc a0.fReserved≤9223372036854775807:=hb4.2.2.1.1;refine zq (fun m L τ=>∃ (p4 q4:List Int) (x2:Int),m=qc q4∧L=[(1,.int .i64 a1),(2,.op 0 0 0),(5,.int .i64 x2)]∧τ=[.cells 0 (encGMessage a0)]∧a0.fReserved=p4++q4∧x2=(qc p4:Int)∧yv.l4 a1 q4 x2=r) _ ⟨[],a0.fReserved,0,rfl,rfl,rfl,rfl,rfl,h⟩ .s ?_;rintro m L τ ⟨p4,q4,x2,rfl,rfl,rfl,hE4,hi4,h⟩
 rcases q4 with _|⟨y4,q4⟩
 · have hz4:=yy hE4 hi4;simp only[yv.l4] at h
   refine za fun Z5 hZ5=>?_
   refine rg tok [1,2,5,10] fun K hK=>?_
   simp only[go_sem,qb,qa,qd,hz4];apply hK
   refine zn rfl ?_;apply zy;apply hZ1;refine rgN [4] ?_;cases h;exact rtA
 obtain⟨hz4,hw4,hx4,hE'4,hi'4⟩:=zX hE4 hi4 hb4;simp only[yv.l4] at h
 refine za fun Z6 hZ6=>?_
 refine rg tok [1,2,5,10] fun K hK=>?_
 simp only[go_sem,qb,qa,qd,hz4];apply hK
 refine zo rfl ?_;apply zd;apply hZ6
 refine za fun Z7 hZ7=>?_
 apply ze;have f8:=E45.idxS hx4;have f9:=E45.fldS0 (f:=3) rfl rfl hx4
 refine rg tok [1,2,5,19] fun K hK=>?_
 simp only[go_sem,qb,qa,qd,encI,f8,f9];apply hK
 refine zx rfl (fun hc10=>?_) (fun hc10=>?_)
 · rw[if_pos hc10] at h;have t11:=eq_true hc10
   refine rg tok [4] fun K hK=>?_
   simp only[go_sem,qb,qa,t11];apply hK
   cases h;exact rtA
 rw[if_neg hc10] at h;have t12:=eq_false hc10;apply zd;apply hZ7
 refine rgE tok [1,2,5] fun K hK=>?_
 simp only[go_sem,qb,qa,hw4,t12];apply hK
 exact⟨_,_,_,qt q4.length,⟨p4++[y4],q4,x2+1,rfl,rfl,rfl,hE'4,hi'4,h⟩,.s⟩
theorem yv.ev (a0:GMessage)(a1:Int)(r:Bool)(h:yv a0 a1=r)(σ:Store):ACalls qh 121 [.agg (encGMessage a0),.int .i64 a1] σ (fun r' σ'=>r'=.bool r∧σ'=σ):=
 (yv.ok a0 a1 r h).c σ
def xK.l4 (a1:List UInt8):List GEnumeration→Int→GEnumeration×Bool
 |[],x2=>((⟨[],([]:List GNamed)⟩:GEnumeration),false)
 |y4::q4,x2=>(if y4.fName=a1 then (y4,true) else ((xK.l4 a1 q4) (x2+1)))
def xK (a0:GSchema)(a1:List UInt8):GEnumeration×Bool:=
 (xK.l4 a1 a0.fEnums 0)
theorem xK.ok (a0:GSchema)(a1:List UInt8)(r:GEnumeration×Bool)(h:xK a0 a1=r):ACalls qh 147 [.agg (encGSchema a0),.str a1] [] (fun r' _=>r'=.tup [.agg (encGEnumeration r.1),.bool r.2]):=by
 refine zf (rs:=[.cell 4 84,.tmp 5]) tok Tryz.func147 rfl Tryz.ntmps147 rfl Tryz.call147 (by simp) ?_;refine zl [(0,.agg (encGSchema a0)),(1,.str a1)] ⟨rfl,rfl,trivial⟩ ?_;unfold xK at h
 refine rg tok [1,2,4] fun K hK=>?_
 simp only[go_sem,qb,qa,qd,reduceCtorEq,encGSchema];apply hK
 refine za fun Z1 hZ1=>?_
 refine rgN [1,2,4,6] ?_;apply ze
 refine xn 0 rfl fun hb4=>?_
 replace hb4:qc a0.fEnums≤9223372036854775807:=hb4.2.2.1.1;refine zq (fun m L τ=>∃ (p4 q4:List GEnumeration) (x2:Int),m=qc q4∧L=[(1,.str a1),(2,.op 0 0 0),(4,.op 1 0 0),(6,.int .i64 x2)]∧τ=[.cells 0 (encGSchema a0),.cells 0 [.str [],.ds true [] 0 true]]∧a0.fEnums=p4++q4∧x2=(qc p4:Int)∧xK.l4 a1 q4 x2=r) _ ⟨[],a0.fEnums,0,rfl,rfl,rfl,rfl,rfl,h⟩ .s ?_;rintro m L τ ⟨p4,q4,x2,rfl,rfl,rfl,hE4,hi4,h⟩
 rcases q4 with _|⟨y4,q4⟩
 · have hz4:=yy hE4 hi4;simp only[xK.l4] at h
   refine za fun Z5 hZ5=>?_
   refine rg tok [1,2,4,6,11] fun K hK=>?_
   simp only[go_sem,qb,qa,qd,hz4];apply hK
   refine zn rfl ?_;apply zy;apply hZ1;refine rgN [4,5] ?_;cases h;exact rtA
 obtain⟨hz4,hw4,hx4,hE'4,hi'4⟩:=zX hE4 hi4 hb4;simp only[xK.l4] at h
 refine za fun Z6 hZ6=>?_
 refine rg tok [1,2,4,6,11] fun K hK=>?_
 simp only[go_sem,qb,qa,qd,hz4];apply hK
 refine zo rfl ?_;apply zd;apply hZ6
 refine za fun Z7 hZ7=>?_
 apply ze;have f8:=E23.idxS hx4;have f9:=E23.fldS0 (f:=9) rfl rfl hx4
 refine rg tok [1,2,4,6,21] fun K hK=>?_
 simp only[go_sem,qb,qa,qd,encGEnumeration,f8,f9];apply hK
 refine zx rfl (fun hc10=>?_) (fun hc10=>?_)
 · rw[if_pos hc10] at h;have t11:=eq_true hc10;have f12:=E23.idxS hx4;have f13:=E23.loadS rfl rfl hx4
   refine rg tok [4,5] fun K hK=>?_
   simp only[go_sem,qb,qg,qa,qd,encGEnumeration,t11,f12,f13];apply hK
   cases h;exact rtA
 rw[if_neg hc10] at h;have t14:=eq_false hc10;apply zd;apply hZ7
 refine rgE tok [1,2,4,6] fun K hK=>?_
 simp only[go_sem,qb,qa,hw4,t14];apply hK
 exact⟨_,_,_,qt q4.length,⟨p4++[y4],q4,x2+1,rfl,rfl,rfl,hE'4,hi'4,h⟩,.s⟩
theorem xK.ev (a0:GSchema)(a1:List UInt8)(r:GEnumeration×Bool)(h:xK a0 a1=r)(σ:Store):ACalls qh 147 [.agg (encGSchema a0),.str a1] σ (fun r' σ'=>r'=.tup [.agg (encGEnumeration r.1),.bool r.2]∧σ'=σ):=
 (xK.ok a0 a1 r h).c σ
def yW.j3 (a0:GSchema)(a1:GType)(x2:Bool):Bool:=
 (if x2=true then decide (a1.fName=[]) else (if a1.fKind=6 then bnd (xK a0 a1.fName) fun r7=>r7.2 else (if a1.fKind=7 then bnd (z7 a0 a1.fName) fun r11=>r11.2 else false)))
def yW (a0:GSchema)(a1:GType):Bool:=
 (if a1.fKind=1 then (yW.j3 a0 a1 (decide (a1.fKind=1))) else (if a1.fKind=2 then (yW.j3 a0 a1 (decide (a1.fKind=2))) else (if a1.fKind=3 then (yW.j3 a0 a1 (decide (a1.fKind=3))) else (if a1.fKind=4 then (yW.j3 a0 a1 (decide (a1.fKind=4))) else (yW.j3 a0 a1 (decide (a1.fKind=5)))))))
theorem yW.ok (a0:GSchema)(a1:GType)(r:Bool)(h:yW a0 a1=r):ACalls qh 122 [.agg (encGSchema a0),.agg (encGType a1)] [] (fun r' _=>r'=.bool r):=by
 refine zf (rs:=[.tmp 4]) tok Tryz.func122 rfl Tryz.ntmps122 rfl Tryz.call122 (by simp) ?_;refine zl [(0,.agg (encGSchema a0)),(1,.agg (encGType a1))] ⟨rfl,rfl,trivial⟩ ?_;unfold yW at h
 refine rg tok [2,3] fun K hK=>?_
 simp only[go_sem,qb,qa,qd,reduceCtorEq,encGSchema,encGType];apply hK
 refine za fun Z1 hZ1=>?_
 refine rgN [2,3,10] ?_;apply ze;refine wb (fun L τ=>∃ (x2:Bool),L=[(2,.op 0 0 0),(3,.op 1 0 0),(10,.int .i64 a1.fKind),(11,.bool x2)]∧τ=[.cells 0 (encGSchema a0),.cells 0 [.int .i64 a1.fKind,.str a1.fName]]∧yW.j3 a0 a1 x2=r) ?_ ?_
 · refine rgN [2,3,10,11] ?_;refine zx rfl (fun hc13=>?_) (fun hc13=>?_)
   · rw[if_pos hc13] at h;have t14:=eq_true hc13;apply zd;exact⟨_,_,⟨decide (a1.fKind=1),rfl,rfl,h⟩,.s⟩
   rw[if_neg hc13] at h;have t15:=eq_false hc13
   refine rg tok [2,3,10,11] fun K hK=>?_
   simp only[go_sem,qb,qa,t15];apply hK
   refine zx rfl (fun hc16=>?_) (fun hc16=>?_)
   · rw[if_pos hc16] at h;have t17:=eq_true hc16;apply zd;exact⟨_,_,⟨decide (a1.fKind=2),rfl,rfl,h⟩,.s⟩
   rw[if_neg hc16] at h;have t18:=eq_false hc16
   refine rg tok [2,3,10,11] fun K hK=>?_
   simp only[go_sem,qb,qa,t18];apply hK
   refine zx rfl (fun hc19=>?_) (fun hc19=>?_)
   · rw[if_pos hc19] at h;have t20:=eq_true hc19;apply zd;exact⟨_,_,⟨decide (a1.fKind=3),rfl,rfl,h⟩,.s⟩
   rw[if_neg hc19] at h;have t21:=eq_false hc19
   refine rg tok [2,3,10,11] fun K hK=>?_
   simp only[go_sem,qb,qa,t21];apply hK
   refine zx rfl (fun hc22=>?_) (fun hc22=>?_)
   · rw[if_pos hc22] at h;have t23:=eq_true hc22;apply zd;exact⟨_,_,⟨decide (a1.fKind=4),rfl,rfl,h⟩,.s⟩
   rw[if_neg hc22] at h;have t24:=eq_false hc22
   refine rgE tok [2,3,10,11] fun K hK=>?_
   simp only[go_sem,qb,qa,t24];apply hK
   exact⟨_,_,⟨decide (a1.fKind=5),rfl,rfl,h⟩,.s⟩
 rintro _ _ ⟨x2,rfl,rfl,h⟩;unfold yW.j3 at h;refine zm (b:=x2) rfl (fun hc4=>?_) (fun hc4=>?_)
 · rw[if_pos hc4] at h;refine rgN [4] ?_;cases h;exact rtA
 rw[xQ hc4] at h;refine rgN [2,3,10,20] ?_;refine zx rfl (fun hc5=>?_) (fun hc5=>?_)
 · rw[if_pos hc5] at h;have t6:=eq_true hc5
   refine rc [6] fun K hK=>?_
   obtain⟨r7,hr7,h⟩:=zS h;refine zj tok 3 ?_;simp only[go_sem,qb,qg,qa,qd,t6];refine clN rfl rfl rfl (xK.ev a0 a1.fName r7 hr7 _) ?_;refine zj tok 6 ?_;simp only[go_sem,qb,qg,qa,qd,encGEnumeration];refine nkN hK ?_;refine rgN [4] ?_;cases h;exact rtA
 rw[if_neg hc5] at h;have t8:=eq_false hc5
 refine rg tok [2,3,30] fun K hK=>?_
 simp only[go_sem,qb,qa,t8];apply hK
 refine zx rfl (fun hc9=>?_) (fun hc9=>?_)
 · rw[if_pos hc9] at h;have t10:=eq_true hc9
   refine rc [8] fun K hK=>?_
   obtain⟨r11,hr11,h⟩:=zS h;refine zj tok 3 ?_;simp only[go_sem,qb,qg,qa,qd,t10];refine clN rfl rfl rfl (z7.ev a0 a1.fName r11 hr11 _) ?_;refine zj tok 6 ?_;simp only[go_sem,qb,qg,qa,qd,encGMessage];refine nkN hK ?_;refine rgN [4] ?_;cases h;exact rtA
 rw[if_neg hc9] at h;have t12:=eq_false hc9;apply zd;apply hZ1
 refine rg tok [4] fun K hK=>?_
 simp only[go_sem,qb,qa,t12];apply hK
 cases h;exact rtA
theorem yW.ev (a0:GSchema)(a1:GType)(r:Bool)(h:yW a0 a1=r)(σ:Store):ACalls qh 122 [.agg (encGSchema a0),.agg (encGType a1)] σ (fun r' σ'=>r'=.bool r∧σ'=σ):=
 (yW.ok a0 a1 r h).c σ
def zE.l17 (a0:GSchema)(a1:GMessage):List GField→Int→List (List UInt8)→Option Int
 |[],x13,l11=>some 0
 |y17::q17,x13,l11=>(yr y17.fName l11).bind fun r24=>(if (!r24)=true then some 6 else (ZY (qc l11+1) 16).bind fun _u26=>(grd ((0:Int)≤0∧0≤x13∧x13≤(qc a1.fFields:Int))).bind fun _u29=>bnd (yK (⟨[],Y2 a1.fFields 0 x13,([]:List Int)⟩:GMessage) y17.fTag) fun r31=>bnd (if ((r31.2||(decide (y17.fTag<1)))||(decide (500<y17.fTag)))=true then true else bnd (yv a1 y17.fTag) fun r32=>r32) fun c32=>(if c32=true then some 7 else bnd (if ((decide (y17.fLabel<1))||(decide (3<y17.fLabel)))=true then true else bnd (yW a0 y17.fType) fun r37 => !r37) fun c37=>(if c37=true then some 8 else ((zE.l17 a0 a1 q17) (x13+1) (l11++[y17.fName])))))
def zE.j43 (x6:Int)(rec8:Int→Option Int)(x42:Bool):Option Int:=
 (if x42=true then some 7 else (rec8 (x6+1)))
def zE.l8 (a0:GSchema)(a1:GMessage):List Int→Int→Option Int
 |[],x6=>(zE.l17 a0 a1 a1.fFields 0 ([]:List (List UInt8)))
 |y8::q8,x6=>(if y8<1 then (zE.j43 x6 (zE.l8 a0 a1 q8) true) else (if 500<y8 then (zE.j43 x6 (zE.l8 a0 a1 q8) true) else (grd ((0:Int)≤0∧0≤x6∧x6≤(qc a1.fReserved:Int))).bind fun _u53=>bnd (yv (⟨[],([]:List GField),Y2 a1.fReserved 0 x6⟩:GMessage) y8) fun r57=>(zE.j43 x6 (zE.l8 a0 a1 q8) r57)))
def zE (a0:GSchema)(a1:GMessage):Option Int:=
 (if ((decide (16<(qc a1.fFields:Int)))||(decide (32<(qc a1.fReserved:Int))))=true then some 4 else (zE.l8 a0 a1 a1.fReserved 0))
theorem zE.ok (a0:GSchema)(a1:GMessage)(r:Int)(h:zE a0 a1=some r):ACalls qh 82 [.agg (encGSchema a0),.agg (encGMessage a1)] [] (fun r' _=>r'=.int .i64 r):=by
 refine zf (rs:=[.tmp 4]) tok Tryz.func82 rfl Tryz.ntmps82 rfl Tryz.call82 (by simp) ?_;refine zl [(0,.agg (encGSchema a0)),(1,.agg (encGMessage a1))] ⟨rfl,rfl,trivial⟩ ?_;unfold zE at h
 refine rg tok [2,3] fun K hK=>?_
 simp only[go_sem,qb,qa,qd,reduceCtorEq,encGMessage,encGSchema];apply hK
 refine za fun Z1 hZ1=>?_
 refine rc [2,3,20] fun K hK=>?_
 refine rnN 5 ?_;refine zh 5 (fun L τ=>L=[(2,.op 0 0 0),(3,.op 1 0 0),(20,.bool ((decide (16<(qc a1.fFields:Int)))||(decide (32<(qc a1.fReserved:Int)))))]∧τ=[.cells 0 (encGSchema a0),.cells 0 (encGMessage a1)]) ?_ ?_
 · refine yG 15 rfl (fun hg15=>?_) (fun hg15=>?_)
   · have t2:=eq_true hg15;refine rnN 5 ?_;refine zb ⟨rfl,_,_,⟨rfl,rfl⟩,.p t2⟩
   have t3:=eq_false hg15;refine rnN 5 ?_;refine zb ⟨rfl,_,_,⟨rfl,rfl⟩,.p t3⟩
 rintro _ _ ⟨rfl,rfl⟩;refine nkN hK ?_;refine zm (b:=((decide (16<(qc a1.fFields:Int)))||(decide (32<(qc a1.fReserved:Int))))) rfl (fun hc4=>?_) (fun hc4=>?_)
 · rw[if_pos hc4] at h;refine rgN [4] ?_;cases h;exact rtA
 rw[xQ hc4] at h;apply zd;apply hZ1
 refine za fun Z5 hZ5=>?_
 refine rgN [2,3,5] ?_;apply ze
 refine xn 1 rfl fun hb8=>?_
 replace hb8:qc a1.fReserved≤9223372036854775807:=hb8.2.2.1.1;refine zq (fun m L τ=>∃ (p8 q8:List Int) (x6:Int),m=qc q8∧L=[(2,.op 0 0 0),(3,.op 1 0 0),(5,.int .i64 x6)]∧τ=[.cells 0 (encGSchema a0),.cells 0 (encGMessage a1)]∧a1.fReserved=p8++q8∧x6=(qc p8:Int)∧zE.l8 a0 a1 q8 x6=some r) _ ⟨[],a1.fReserved,0,rfl,rfl,rfl,rfl,rfl,h⟩ .s ?_;rintro m L τ ⟨p8,q8,x6,rfl,rfl,rfl,hE8,hi8,h⟩
 rcases q8 with _|⟨y8,q8⟩
 · have hz8:=yy hE8 hi8;simp only[zE.l8] at h
   refine za fun Z9 hZ9=>?_
   refine rg tok [2,3,5,25] fun K hK=>?_
   simp only[go_sem,qb,qa,qd,hz8];apply hK
   refine zn rfl ?_;apply zy;apply hZ5;refine rgN [2,3,6] ?_;refine Zy 6 1 rfl ?_;refine zW (L:=[(2,.op 0 0 0),(3,.op 1 0 0),(6,.os true 1 2 0 0 (qc ([]:List (List UInt8))) false)]) (τ:=[.cells 0 (encGSchema a0),.cells 0 (encGMessage a1),.cells 0 (qe encS ([]:List (List UInt8)))]) .s ?_
   refine za fun Z10 hZ10=>?_
   refine rgN [2,3,6,7] ?_;apply ze
   refine xn 1 rfl fun hb17=>?_
   replace hb17:qc a1.fFields≤9223372036854775807:=hb17.2.1.1;refine zq (fun m L τ=>∃ (p17 q17:List GField) (x13:Int) (l11:List (List UInt8)) (v12:Nat),m=qc q17∧L=[(2,.op 0 0 0),(3,.op 1 0 0),(6,.os true 1 2 v12 0 (qc l11) false),(7,.int .i64 x13)]∧τ=[.cells 0 (encGSchema a0),.cells 0 (encGMessage a1),.cells v12 (qe encS l11)]∧a1.fFields=p17++q17∧x13=(qc p17:Int)∧zE.l17 a0 a1 q17 x13 l11=some r) _ ⟨[],a1.fFields,0,([]:List (List UInt8)),0,rfl,rfl,rfl,rfl,rfl,h⟩ .s ?_;rintro m L τ ⟨p17,q17,x13,l11,v12,rfl,rfl,rfl,hE17,hi17,h⟩
   rcases q17 with _|⟨y17,q17⟩
   · have hz17:=yy hE17 hi17;simp only[zE.l17] at h
     refine za fun Z18 hZ18=>?_
     refine rg tok [2,3,6,7,59] fun K hK=>?_
     simp only[go_sem,qb,qa,qd,hz17];apply hK
     refine zn rfl ?_;apply zy;apply hZ10;refine rgN [4] ?_;cases h;exact rtA
   obtain⟨hz17,hw17,hx17,hE'17,hi'17⟩:=zX hE17 hi17 hb17;simp only[zE.l17] at h
   refine za fun Z19 hZ19=>?_
   refine rg tok [2,3,6,7,59] fun K hK=>?_
   simp only[go_sem,qb,qa,qd,hz17];apply hK
   refine zo rfl ?_;apply zd;apply hZ19
   refine za fun Z20 hZ20=>?_
   apply ze;have f21:=E47.idxS hx17;have f22:=E47.loadS rfl rfl hx17
   refine rg tok [2,3,6,7,8] fun K hK=>?_
   simp only[go_sem,qb,qg,qa,qd,encGField,f21,f22];apply hK
   refine za fun Z23 hZ23=>?_
   refine rc [2,3,6,7,8,71] fun K hK=>?_
   obtain⟨r24,hr24,h⟩:=bind_some h;refine rnN 3 ?_;refine clN rfl rfl rfl (yr.ok y17.fName l11 r24 hr24).ld ?_;refine rnN 1 ?_;refine nkN hK ?_;refine zm (b:=(!r24)) rfl (fun hc25=>?_) (fun hc25=>?_)
   · rw[if_pos hc25] at h;refine rgN [4] ?_;cases h;exact rtA
   rw[xQ hc25] at h;apply zd;apply hZ23;obtain⟨_u26,hu26,h⟩:=bind_some h;have gu26:=ym hu26;have f27:=(zt E98.len l11)
   refine rg tok [2,3,6,7,8] fun K hK=>?_
   simp only[go_sem,qb,qg,qa,qd,qs,zB,zV,q2,qV,true_and,ub,z8,zP,yl,gu26,f27,yM,uf,q1,AV.one,qT,qx,qj,ql,qq,qG];apply hK
   refine zW (L:=[(2,.op 0 0 0),(3,.op 1 0 0),(6,.os true 1 2 (v12+1) 0 (qc (l11++[y17.fName])) false),(7,.int .i64 x13),(8,.op 3 0 0)]) (τ:=[.cells 0 (encGSchema a0),.cells 0 (encGMessage a1),.cells (v12+1) (qe encS (l11++[y17.fName])),.cells 0 (encGField y17),.cells 0 [.str y17.fName]]) .s ?_
   refine za fun Z28 hZ28=>?_
   obtain⟨_u29,hu29,h⟩:=bind_some h;have gu29:=wP hu29;have f30:=E47.sl_hi gu29;obtain⟨r31,hr31,h⟩:=zS h
   refine rd [2,3,6,7,8,10] fun K hK=>?_
   refine DW.start (T:=tab) [.any,.at [],.any,.any,.any,.any,.at [],.eff,.any,.any,.any,.flt,.eff,.any] [] ?_;refine DW.runN tok 7 ?_;simp only[go_sem,qb,qg,qa,qd,f30];refine DW.call rfl rfl rfl (ACalls.loose (yK.ev (⟨[],Y2 a1.fFields 0 x13,([]:List Int)⟩:GMessage) y17.fTag r31 hr31 _)) ?_;refine DW.runN tok 6 ?_;simp only[go_sem,qb,qg,qa,qd,encGField];refine DW.fin tok (by decide +kernel) rfl ?_;simp only[zi,upd,qa,reduceIte,yp,yY];apply hK
   refine rc [2,3,6,7,8,104] fun K hK=>?_
   refine rnN 2 ?_;refine zh 4 (fun L τ=>L=[(2,.op 0 0 0),(3,.op 1 0 0),(6,.os true 1 2 (v12+1) 0 (qc (l11++[y17.fName])) false),(7,.int .i64 x13),(8,.op 3 0 0),(93,.bool (r31.2||(decide (y17.fTag<1))))]∧τ=[.cells 0 (encGSchema a0),.cells 0 (encGMessage a1),.cells (v12+1) (qe encS (l11++[y17.fName])),.cells 0 (encGField y17),.cells 0 [.str y17.fName],.cells 0 (encGField r31.1)]) ?_ ?_
   · refine zO (b:=r31.2) 89 rfl (fun hg89=>?_) (fun hg89=>?_)
     · refine rnN 4 ?_;refine zb ⟨rfl,_,_,⟨rfl,rfl⟩,.b hg89⟩
     refine rnN 4 ?_;refine zb ⟨rfl,_,_,⟨rfl,rfl⟩,.b hg89⟩
   rintro _ _ ⟨rfl,rfl⟩;refine rnN 1 ?_;refine zh 4 (fun L τ=>L=[(2,.op 0 0 0),(3,.op 1 0 0),(6,.os true 1 2 (v12+1) 0 (qc (l11++[y17.fName])) false),(7,.int .i64 x13),(8,.op 3 0 0),(98,.bool ((r31.2||(decide (y17.fTag<1)))||(decide (500<y17.fTag))))]∧τ=[.cells 0 (encGSchema a0),.cells 0 (encGMessage a1),.cells (v12+1) (qe encS (l11++[y17.fName])),.cells 0 (encGField y17),.cells 0 [.str y17.fName],.cells 0 (encGField r31.1)]) ?_ ?_
   · refine zO (b:=(r31.2||(decide (y17.fTag<1)))) 94 rfl (fun hg94=>?_) (fun hg94=>?_)
     · refine rnN 4 ?_;refine zb ⟨rfl,_,_,⟨rfl,rfl⟩,.b hg94⟩
     refine rnN 4 ?_;refine zb ⟨rfl,_,_,⟨rfl,rfl⟩,.b hg94⟩
   rintro _ _ ⟨rfl,rfl⟩;refine rnN 1 ?_;obtain⟨c32,hc32,h⟩:=zS h;refine zh 5 (fun L τ=>L=[(2,.op 0 0 0),(3,.op 1 0 0),(6,.os true 1 2 (v12+1) 0 (qc (l11++[y17.fName])) false),(7,.int .i64 x13),(8,.op 3 0 0),(104,.bool c32)]∧τ=[.cells 0 (encGSchema a0),.cells 0 (encGMessage a1),.cells (v12+1) (qe encS (l11++[y17.fName])),.cells 0 (encGField y17),.cells 0 [.str y17.fName],.cells 0 (encGField r31.1)]) ?_ ?_
   · refine zO (b:=((r31.2||(decide (y17.fTag<1)))||(decide (500<y17.fTag)))) 99 rfl (fun hg99=>?_) (fun hg99=>?_)
     · rw[if_pos hg99] at hc32;refine rnN 5 ?_;subst hc32;refine zb ⟨rfl,_,_,⟨rfl,rfl⟩,.b hg99⟩
     rw[xQ hg99] at hc32;obtain⟨r33,hr33,hc32⟩:=zS hc32;refine rnN 3 ?_;refine clN rfl rfl rfl (yv.ev a1 y17.fTag r33 hr33 _) ?_;refine rnN 1 ?_;subst hc32;refine zb ⟨rfl,_,_,⟨rfl,rfl⟩,.b hg99⟩
   rintro _ _ ⟨rfl,rfl⟩;refine nkN hK ?_;refine zm (b:=c32) rfl (fun hc34=>?_) (fun hc34=>?_)
   · rw[if_pos hc34] at h;refine rgN [4] ?_;cases h;exact rtA
   rw[xQ hc34] at h;apply zd;apply hZ28
   refine rc [2,3,6,7,119] fun K hK=>?_
   refine rnN 4 ?_;refine zh 4 (fun L τ=>L=[(2,.op 0 0 0),(3,.op 1 0 0),(6,.os true 1 2 (v12+1) 0 (qc (l11++[y17.fName])) false),(7,.int .i64 x13),(8,.op 3 0 0),(112,.bool ((decide (y17.fLabel<1))||(decide (3<y17.fLabel))))]∧τ=[.cells 0 (encGSchema a0),.cells 0 (encGMessage a1),.cells (v12+1) (qe encS (l11++[y17.fName])),.cells 0 (encGField y17),.cells 0 [.str y17.fName],.cells 0 (encGField r31.1)]) ?_ ?_
   · refine yG 108 rfl (fun hg108=>?_) (fun hg108=>?_)
     · have t35:=eq_true hg108;refine rnN 4 ?_;refine zb ⟨rfl,_,_,⟨rfl,rfl⟩,.p t35⟩
     have t36:=eq_false hg108;refine rnN 4 ?_;refine zb ⟨rfl,_,_,⟨rfl,rfl⟩,.p t36⟩
   rintro _ _ ⟨rfl,rfl⟩;refine rnN 1 ?_;obtain⟨c37,hc37,h⟩:=zS h;refine zh 6 (fun L τ=>L=[(2,.op 0 0 0),(3,.op 1 0 0),(6,.os true 1 2 (v12+1) 0 (qc (l11++[y17.fName])) false),(7,.int .i64 x13),(119,.bool c37)]∧τ=[.cells 0 (encGSchema a0),.cells 0 (encGMessage a1),.cells (v12+1) (qe encS (l11++[y17.fName])),.cells 0 (encGField y17),.cells 0 [.str y17.fName],.cells 0 (encGField r31.1)]) ?_ ?_
   · refine zO (b:=((decide (y17.fLabel<1))||(decide (3<y17.fLabel)))) 113 rfl (fun hg113=>?_) (fun hg113=>?_)
     · rw[if_pos hg113] at hc37;refine rnN 6 ?_;subst hc37;refine zb ⟨rfl,_,_,⟨rfl,rfl⟩,.b hg113⟩
     rw[xQ hg113] at hc37;obtain⟨r38,hr38,hc37⟩:=zS hc37;refine rnN 3 ?_;refine clN rfl rfl rfl (yW.ev a0 y17.fType r38 hr38 _) ?_;refine rnN 2 ?_;subst hc37;refine zb ⟨rfl,_,_,⟨rfl,rfl⟩,.b hg113⟩
   rintro _ _ ⟨rfl,rfl⟩;refine nkN hK ?_;refine zm (b:=c37) rfl (fun hc39=>?_) (fun hc39=>?_)
   · rw[if_pos hc39] at h;refine rgN [4] ?_;cases h;exact rtA
   rw[xQ hc39] at h;apply zd;apply hZ20
   refine rgE tok [2,3,6,7] fun K hK=>?_
   simp only[go_sem,qb,qa,hw17];apply hK
   exact⟨_,_,_,qt q17.length,⟨p17++[y17],q17,x13+1,l11++[y17.fName],v12+1,rfl,rfl,rfl,hE'17,hi'17,h⟩,(.t [0,1,2] false)⟩
 obtain⟨hz8,hw8,hx8,hE'8,hi'8⟩:=zX hE8 hi8 hb8;simp only[zE.l8] at h
 refine za fun Z40 hZ40=>?_
 refine rg tok [2,3,5,25] fun K hK=>?_
 simp only[go_sem,qb,qa,qd,hz8];apply hK
 refine zo rfl ?_;apply zd;apply hZ40
 refine za fun Z41 hZ41=>?_
 apply ze;refine wb (fun L τ=>∃ (x42:Bool),L=[(2,.op 0 0 0),(3,.op 1 0 0),(5,.int .i64 x6),(54,.bool x42)]∧τ=[.cells 0 (encGSchema a0),.cells 0 (encGMessage a1)]∧zE.j43 x6 (zE.l8 a0 a1 q8) x42=some r) ?_ ?_
 · refine rdE [2,3,5,54] fun K hK=>?_
   refine DW.start (T:=tab) [.any,.at [],.any,.any,.at [],.any,.any,.any,.at [],.any,.any,.at [],.any,.any,.any,.any,.at [],.any,.any,.any,.any,.at [],.any,.any,.at [],.eff,.any] [] ?_;have f45:=E45.idxS hx8;have f46:=E45.fldS0 (f:=3) rfl rfl hx8;refine DW.runN tok 7 ?_;simp only[go_sem,qb,qa,qd,encI,f45,f46]
   refine DW.if 34 rfl (fun hg34=>?_) (fun hg34=>?_)
   · rw[if_pos hg34] at h;have t47:=eq_true hg34;refine DW.runN tok 8 ?_;simp only[go_sem,qb,qa,t47];refine DW.runN tok 8 ?_;simp only[go_sem,qb,qa];refine DW.runN tok 4 ?_;simp only[go_sem,qb,qa];refine DW.fin tok (by decide +kernel) rfl ?_;simp only[zi,upd,qa,reduceIte,yp,yY];apply hK
     exact⟨_,_,⟨true,rfl,rfl,h⟩,.s⟩
   rw[if_neg hg34] at h;have t48:=eq_false hg34;have f49:=E45.idxS hx8;have f50:=E45.fldS0 (f:=3) rfl rfl hx8;refine DW.runN tok 8 ?_;simp only[go_sem,qb,qa,qd,encI,t48,f49,f50]
   refine DW.if 42 rfl (fun hg42=>?_) (fun hg42=>?_)
   · rw[if_pos hg42] at h;have t51:=eq_true hg42;refine DW.runN tok 8 ?_;simp only[go_sem,qb,qa,t51];refine DW.runN tok 4 ?_;simp only[go_sem,qb,qa];refine DW.fin tok (by decide +kernel) rfl ?_;simp only[zi,upd,qa,reduceIte,yp,yY];apply hK
     exact⟨_,_,⟨true,rfl,rfl,h⟩,.s⟩
   rw[if_neg hg42] at h;have t52:=eq_false hg42;obtain⟨_u53,hu53,h⟩:=bind_some h;have gu53:=wP hu53;have f54:=E45.sl_hi gu53;have f55:=E45.idxS hx8;have f56:=E45.fldS0 (f:=3) rfl rfl hx8;obtain⟨r57,hr57,h⟩:=zS h;refine DW.runN tok 8 ?_;simp only[go_sem,qb,qg,qa,qd,t52,f54];refine DW.runN tok 2 ?_;simp only[go_sem,qb,qa,encI,f55,f56];refine DW.call rfl rfl rfl (ACalls.loose (yv.ev (⟨[],([]:List GField),Y2 a1.fReserved 0 x6⟩:GMessage) y8 r57 hr57 _)) ?_;refine DW.runN tok 1 ?_;simp only[go_sem,qb,qa];refine DW.fin tok (by decide +kernel) rfl ?_;simp only[zi,upd,qa,reduceIte,yp,yY];apply hK
   exact⟨_,_,⟨r57,rfl,rfl,h⟩,.s⟩
 rintro _ _ ⟨x42,rfl,rfl,h⟩;unfold zE.j43 at h;refine zm (b:=x42) rfl (fun hc44=>?_) (fun hc44=>?_)
 · rw[if_pos hc44] at h;refine rgN [4] ?_;cases h;exact rtA
 rw[xQ hc44] at h;apply zd;apply hZ41
 refine rgE tok [2,3,5] fun K hK=>?_
 simp only[go_sem,qb,qa,hw8];apply hK
 exact⟨_,_,_,qt q8.length,⟨p8++[y8],q8,x6+1,rfl,rfl,rfl,hE'8,hi'8,h⟩,.s⟩
theorem zE.ev (a0:GSchema)(a1:GMessage)(r:Int)(h:zE a0 a1=some r)(σ:Store):ACalls qh 82 [.agg (encGSchema a0),.agg (encGMessage a1)] σ (fun r' σ'=>r'=.int .i64 r∧σ'=σ):=
 (zE.ok a0 a1 r h).c σ
def z6.l38 (a0:GEnumeration)(x17:Int)(l15:List (List UInt8))(rec21:Int→List (List UInt8)→Option Int)(y21:GNamed):Nat→Int→Option Int
 |0,_=>none
 |k38+1,x36=>(if x36<x17 then (Zd a0.fValues x36).bind fun y43=>(if y43.fN=y21.fN then some 11 else ((z6.l38 a0 x17 l15 rec21 y21 k38) (IntKind.i64.wrap (x36+1)))) else (rec21 (x17+1) (l15++[y21.fName])))
def z6.l21 (a0:GEnumeration):List GNamed→Int→List (List UInt8)→Option Int
 |[],x17,l15=>some 0
 |y21::q21,x17,l15=>(yr y21.fName l15).bind fun r28=>(if (!r28)=true then some 6 else (ZY (qc l15+1) 16).bind fun _u30=>(if ((decide (y21.fN<0))||(decide (2147483647<y21.fN)))=true then some 11 else (z6.l38 a0 x17 l15 (z6.l21 a0 q21) y21 rounds 0)))
def z6.l10 (a0:GEnumeration):List GNamed→Int→Bool→Option Int
 |[],x7,x6=>(if (!x6)=true then some 12 else (z6.l21 a0 a0.fValues 0 ([]:List (List UInt8))))
 |y10::q10,x7,x6=>((z6.l10 a0 q10) (x7+1) (x6||(decide (y10.fN=0))))
def z6 (a0:GEnumeration):Option Int:=
 (if 16<(qc a0.fValues:Int) then some 4 else (z6.l10 a0 a0.fValues 0 false))
theorem z6.ok (a0:GEnumeration)(r:Int)(h:z6 a0=some r):ACalls qh 83 [.agg (encGEnumeration a0)] [] (fun r' _=>r'=.int .i64 r):=by
 refine zf (rs:=[.tmp 2]) tok Tryz.func83 rfl Tryz.ntmps83 rfl Tryz.call83 (by simp) ?_;refine zl [(0,.agg (encGEnumeration a0))] ⟨rfl,trivial⟩ ?_;unfold z6 at h
 refine rg tok [1] fun K hK=>?_
 simp only[go_sem,qb,qa,qd,reduceCtorEq,encGEnumeration];apply hK
 refine za fun Z1 hZ1=>?_
 refine rgN [1,12] ?_;refine zx rfl (fun hc2=>?_) (fun hc2=>?_)
 · rw[if_pos hc2] at h;have t3:=eq_true hc2
   refine rg tok [2] fun K hK=>?_
   simp only[go_sem,qb,qa,t3];apply hK
   cases h;exact rtA
 rw[if_neg hc2] at h;have t4:=eq_false hc2;apply zd;apply hZ1
 refine rg tok [1,3] fun K hK=>?_
 simp only[go_sem,qb,qa,t4];apply hK
 refine za fun Z5 hZ5=>?_
 refine rgN [1,3,4] ?_;apply ze
 refine xn 0 rfl fun hb10=>?_
 replace hb10:qc a0.fValues≤9223372036854775807:=hb10.2.1.1;refine zq (fun m L τ=>∃ (p10 q10:List GNamed) (x7:Int) (x6:Bool),m=qc q10∧L=[(1,.op 0 0 0),(3,.bool x6),(4,.int .i64 x7)]∧τ=[.cells 0 (encGEnumeration a0)]∧a0.fValues=p10++q10∧x7=(qc p10:Int)∧z6.l10 a0 q10 x7 x6=some r) _ ⟨[],a0.fValues,0,false,rfl,rfl,rfl,rfl,rfl,h⟩ .s ?_;rintro m L τ ⟨p10,q10,x7,x6,rfl,rfl,rfl,hE10,hi10,h⟩
 rcases q10 with _|⟨y10,q10⟩
 · have hz10:=yy hE10 hi10;simp only[z6.l10] at h
   refine za fun Z11 hZ11=>?_
   refine rg tok [1,3,4,17] fun K hK=>?_
   simp only[go_sem,qb,qa,qd,hz10];apply hK
   refine zn rfl ?_;apply zy;apply hZ5
   refine za fun Z12 hZ12=>?_
   refine rgN [1,31] ?_;refine zm (b:=(!x6)) rfl (fun hc13=>?_) (fun hc13=>?_)
   · rw[if_pos hc13] at h;refine rgN [2] ?_;cases h;exact rtA
   rw[xQ hc13] at h;apply zd;apply hZ12;refine rgN [1,5] ?_;refine Zy 5 1 rfl ?_;refine zW (L:=[(1,.op 0 0 0),(5,.os true 1 1 0 0 (qc ([]:List (List UInt8))) false)]) (τ:=[.cells 0 (encGEnumeration a0),.cells 0 (qe encS ([]:List (List UInt8)))]) .s ?_
   refine za fun Z14 hZ14=>?_
   refine rgN [1,5,6] ?_;apply ze
   refine xn 0 rfl fun hb21=>?_
   replace hb21:qc a0.fValues≤9223372036854775807:=hb21.2.1.1;refine zq (fun m L τ=>∃ (p21 q21:List GNamed) (x17:Int) (l15:List (List UInt8)) (v16:Nat),m=qc q21∧L=[(1,.op 0 0 0),(5,.os true 1 1 v16 0 (qc l15) false),(6,.int .i64 x17)]∧τ=[.cells 0 (encGEnumeration a0),.cells v16 (qe encS l15)]∧a0.fValues=p21++q21∧x17=(qc p21:Int)∧z6.l21 a0 q21 x17 l15=some r) _ ⟨[],a0.fValues,0,([]:List (List UInt8)),0,rfl,rfl,rfl,rfl,rfl,h⟩ .s ?_;rintro m L τ ⟨p21,q21,x17,l15,v16,rfl,rfl,rfl,hE21,hi21,h⟩
   rcases q21 with _|⟨y21,q21⟩
   · have hz21:=yy hE21 hi21;simp only[z6.l21] at h
     refine za fun Z22 hZ22=>?_
     refine rg tok [1,5,6,36] fun K hK=>?_
     simp only[go_sem,qb,qa,qd,hz21];apply hK
     refine zn rfl ?_;apply zy;apply hZ14;refine rgN [2] ?_;cases h;exact rtA
   obtain⟨hz21,hw21,hx21,hE'21,hi'21⟩:=zX hE21 hi21 hb21;simp only[z6.l21] at h
   refine za fun Z23 hZ23=>?_
   refine rg tok [1,5,6,36] fun K hK=>?_
   simp only[go_sem,qb,qa,qd,hz21];apply hK
   refine zo rfl ?_;apply zd;apply hZ23
   refine za fun Z24 hZ24=>?_
   apply ze;have f25:=E82.idxS hx21;have f26:=E82.loadS rfl rfl hx21
   refine rg tok [1,5,6,7] fun K hK=>?_
   simp only[go_sem,qb,qg,qa,qd,encGNamed,f25,f26];apply hK
   refine za fun Z27 hZ27=>?_
   refine rc [1,5,6,7,48] fun K hK=>?_
   obtain⟨r28,hr28,h⟩:=bind_some h;refine rnN 3 ?_;refine clN rfl rfl rfl (yr.ok y21.fName l15 r28 hr28).ld ?_;refine rnN 1 ?_;refine nkN hK ?_;refine zm (b:=(!r28)) rfl (fun hc29=>?_) (fun hc29=>?_)
   · rw[if_pos hc29] at h;refine rgN [2] ?_;cases h;exact rtA
   rw[xQ hc29] at h;apply zd;apply hZ27;obtain⟨_u30,hu30,h⟩:=bind_some h;have gu30:=ym hu30;have f31:=(zt E98.len l15)
   refine rg tok [1,5,6,7] fun K hK=>?_
   simp only[go_sem,qb,qg,qa,qd,qs,zB,zV,q2,qV,true_and,ub,z8,zP,yl,gu30,f31,yM,uf,q1,AV.one,qT,qx,qj,ql,qq,qG];apply hK
   refine zW (L:=[(1,.op 0 0 0),(5,.os true 1 1 (v16+1) 0 (qc (l15++[y21.fName])) false),(6,.int .i64 x17),(7,.op 2 0 0)]) (τ:=[.cells 0 (encGEnumeration a0),.cells (v16+1) (qe encS (l15++[y21.fName])),.cells 0 [.str y21.fName,.int .i64 y21.fN],.cells 0 [.str y21.fName]]) .s ?_
   refine za fun Z32 hZ32=>?_
   refine rc [1,5,6,7,61] fun K hK=>?_
   refine rnN 4 ?_;refine zh 4 (fun L τ=>L=[(1,.op 0 0 0),(5,.os true 1 1 (v16+1) 0 (qc (l15++[y21.fName])) false),(6,.int .i64 x17),(7,.op 2 0 0),(61,.bool ((decide (y21.fN<0))||(decide (2147483647<y21.fN))))]∧τ=[.cells 0 (encGEnumeration a0),.cells (v16+1) (qe encS (l15++[y21.fName])),.cells 0 [.str y21.fName,.int .i64 y21.fN],.cells 0 [.str y21.fName]]) ?_ ?_
   · refine yG 57 rfl (fun hg57=>?_) (fun hg57=>?_)
     · have t33:=eq_true hg57;refine rnN 4 ?_;refine zb ⟨rfl,_,_,⟨rfl,rfl⟩,.p t33⟩
     have t34:=eq_false hg57;refine rnN 4 ?_;refine zb ⟨rfl,_,_,⟨rfl,rfl⟩,.p t34⟩
   rintro _ _ ⟨rfl,rfl⟩;refine nkN hK ?_;refine zm (b:=((decide (y21.fN<0))||(decide (2147483647<y21.fN)))) rfl (fun hc35=>?_) (fun hc35=>?_)
   · rw[if_pos hc35] at h;refine rgN [2] ?_;cases h;exact rtA
   rw[xQ hc35] at h;apply zd;apply hZ32;refine rgN [1,5,6,7,8] ?_;apply ze;refine zq (fun m L τ=>∃ (k38:Nat) (x36:Int),m=0+k38∧L=[(1,.op 0 0 0),(5,.os true 1 1 (v16+1) 0 (qc (l15++[y21.fName])) false),(6,.int .i64 x17),(7,.op 2 0 0),(8,.int .i64 x36)]∧τ=[.cells 0 (encGEnumeration a0),.cells (v16+1) (qe encS (l15++[y21.fName])),.cells 0 [.str y21.fName,.int .i64 y21.fN]]∧z6.l38 a0 x17 l15 (z6.l21 a0 q21) y21 k38 x36=some r) _ ⟨rounds,0,rfl,rfl,rfl,h⟩ (.t [0,1,2] false) ?_;rintro m L τ ⟨k38,x36,rfl,rfl,rfl,h⟩
   rcases k38 with _|k38
   · cases h
   simp only[z6.l38] at h
   refine za fun Z39 hZ39=>?_
   refine rgN [1,5,6,7,8,64] ?_;refine zx rfl (fun hc40=>?_) (fun hc40=>?_)
   · rw[if_pos hc40] at h;have t41:=eq_true hc40;apply zd;apply hZ39
     refine za fun Z42 hZ42=>?_
     apply ze;obtain⟨y43,hy43,h⟩:=bind_some h;have f44:=E82.idxS hy43;have f45:=E82.fldS (f:=3) rfl rfl hy43 (o:=1) (by decide)
     refine rd [1,5,6,7,8,75] fun K hK=>?_
     refine DW.start (T:=tab) [.any,.at [],.any,.any,.any,.at [],.any,.at [],.any] [] ?_;refine DW.runN tok 8 ?_;simp only[go_sem,qb,qa,qd,encGNamed,t41,f44,f45];refine DW.runN tok 1 ?_;simp only[go_sem,qb,qa];refine DW.fin tok (by decide +kernel) rfl ?_;simp only[zi,upd,qa,reduceIte,yp,yY];apply hK
     refine zx rfl (fun hc46=>?_) (fun hc46=>?_)
     · rw[if_pos hc46] at h;have t47:=eq_true hc46
       refine rg tok [2] fun K hK=>?_
       simp only[go_sem,qb,qa,t47];apply hK
       cases h;exact rtA
     rw[if_neg hc46] at h;have t48:=eq_false hc46;apply zd;apply hZ42
     refine rgE tok [1,5,6,7,8] fun K hK=>?_
     simp only[go_sem,qb,qa,t48];apply hK
     exact⟨_,_,_,qt (0+k38),⟨k38,IntKind.i64.wrap (x36+1),rfl,rfl,rfl,h⟩,.s⟩
   rw[if_neg hc40] at h;have t49:=eq_false hc40;apply zy;apply hZ24
   refine rgE tok [1,5,6] fun K hK=>?_
   simp only[go_sem,qb,qa,hw21,t49];apply hK
   exact⟨_,_,_,qt q21.length,⟨p21++[y21],q21,x17+1,l15++[y21.fName],v16+1,rfl,rfl,rfl,hE'21,hi'21,h⟩,(.t [0,1] false)⟩
 obtain⟨hz10,hw10,hx10,hE'10,hi'10⟩:=zX hE10 hi10 hb10;simp only[z6.l10] at h
 refine za fun Z50 hZ50=>?_
 refine rg tok [1,3,4,17] fun K hK=>?_
 simp only[go_sem,qb,qa,qd,hz10];apply hK
 refine zo rfl ?_;apply zd;apply hZ50
 refine za fun Z51 hZ51=>?_
 apply ze
 refine rcE [1,3,4] fun K hK=>?_
 refine rnN 2 ?_;refine zh 8 (fun L τ=>L=[(1,.op 0 0 0),(3,.bool x6),(4,.int .i64 x7),(29,.bool (x6||(decide (y10.fN=0))))]∧τ=[.cells 0 (encGEnumeration a0)]) ?_ ?_
 · refine zO (b:=x6) 21 rfl (fun hg21=>?_) (fun hg21=>?_)
   · refine rnN 8 ?_;refine zb ⟨rfl,_,_,⟨rfl,rfl⟩,.b hg21⟩
   have f52:=E82.idxS hx10;have f53:=E82.fldS (f:=3) rfl rfl hx10 (o:=1) (by decide);refine zj tok 8 ?_;simp only[go_sem,qb,qa,qd,encGNamed,f52,f53];refine zb ⟨rfl,_,_,⟨rfl,rfl⟩,.b hg21⟩
 rintro _ _ ⟨rfl,rfl⟩;refine rnN 1 ?_;refine nkN hK ?_;apply hZ51
 refine rgE tok [1,3,4] fun K hK=>?_
 simp only[go_sem,qb,qa,hw10];apply hK
 exact⟨_,_,_,qt q10.length,⟨p10++[y10],q10,x7+1,(x6||(decide (y10.fN=0))),rfl,rfl,rfl,hE'10,hi'10,h⟩,.s⟩
end
section
set_option maxRecDepth 4000
set_option maxHeartbeats 1000000
open AM
theorem z6.ev (a0:GEnumeration)(r:Int)(h:z6 a0=some r)(σ:Store):ACalls qh 83 [.agg (encGEnumeration a0)] σ (fun r' σ'=>r'=.int .i64 r∧σ'=σ):=
 (z6.ok a0 r h).c σ
def yE.l17 : List GEnumeration→Int→List (List UInt8)→Option Int
 |[],x13,l11=>some 0
 |y17::q17,x13,l11=>(yr y17.fName l11).bind fun r24=>(if (!r24)=true then some 6 else (ZY (qc l11+1) 16).bind fun _u28=>(z6 y17).bind fun r32=>(if r32=0 then ((yE.l17 q17) (x13+1) (l11++[y17.fName])) else some r32))
def yE.l8 (a0:GSchema):List GMessage→Int→List (List UInt8)→Option Int
 |[],x4,l2=>(yE.l17 a0.fEnums 0 l2)
 |y8::q8,x4,l2=>(yr y8.fName l2).bind fun r41=>(if (!r41)=true then some 6 else (ZY (qc l2+1) 16).bind fun _u45=>(zE a0 y8).bind fun r49=>(if r49=0 then ((yE.l8 a0 q8) (x4+1) (l2++[y8.fName])) else some r49))
def yE (a0:GSchema):Option Int:=
 (yE.l8 a0 a0.fMessages 0 ([]:List (List UInt8)))
theorem yE.ok (a0:GSchema)(r:Int)(h:yE a0=some r):ACalls qh 46 [.agg (encGSchema a0)] [] (fun r' _=>r'=.int .i64 r):=by
 refine zf (rs:=[.tmp 2]) tok Tryz.func46 rfl Tryz.ntmps46 rfl Tryz.call46 (by simp) ?_;refine zl [(0,.agg (encGSchema a0))] ⟨rfl,trivial⟩ ?_;unfold yE at h
 refine rg tok [1] fun K hK=>?_
 simp only[go_sem,qb,qa,qd,reduceCtorEq,encGSchema];apply hK
 refine rgN [1,3] ?_;refine Zy 3 1 rfl ?_;refine zW (L:=[(1,.op 0 0 0),(3,.os true 1 1 0 0 (qc ([]:List (List UInt8))) false)]) (τ:=[.cells 0 (encGSchema a0),.cells 0 (qe encS ([]:List (List UInt8)))]) .s ?_
 refine za fun Z1 hZ1=>?_
 refine rgN [1,3,4] ?_;apply ze
 refine xn 0 rfl fun hb8=>?_
 replace hb8:qc a0.fMessages≤9223372036854775807:=hb8.2.1.1;refine zq (fun m L τ=>∃ (p8 q8:List GMessage) (x4:Int) (l2:List (List UInt8)) (v3:Nat),m=qc q8∧L=[(1,.op 0 0 0),(3,.os true 1 1 v3 0 (qc l2) false),(4,.int .i64 x4)]∧τ=[.cells 0 (encGSchema a0),.cells v3 (qe encS l2)]∧a0.fMessages=p8++q8∧x4=(qc p8:Int)∧yE.l8 a0 q8 x4 l2=some r) _ ⟨[],a0.fMessages,0,([]:List (List UInt8)),0,rfl,rfl,rfl,rfl,rfl,h⟩ .s ?_;rintro m L τ ⟨p8,q8,x4,l2,v3,rfl,rfl,rfl,hE8,hi8,h⟩
 rcases q8 with _|⟨y8,q8⟩
 · have hz8:=yy hE8 hi8;simp only[yE.l8] at h
   refine za fun Z9 hZ9=>?_
   refine rg tok [1,3,4,12] fun K hK=>?_
   simp only[go_sem,qb,qa,qd,hz8];apply hK
   refine zn rfl ?_;apply zy;apply hZ1
   refine za fun Z10 hZ10=>?_
   refine rgN [1,3,6] ?_;apply ze
   refine xn 0 rfl fun hb17=>?_
   replace hb17:qc a0.fEnums≤9223372036854775807:=hb17.2.2.1.1;refine zq (fun m L τ=>∃ (p17 q17:List GEnumeration) (x13:Int) (l11:List (List UInt8)) (v12:Nat),m=qc q17∧L=[(1,.op 0 0 0),(3,.os true 1 1 v12 0 (qc l11) false),(6,.int .i64 x13)]∧τ=[.cells 0 (encGSchema a0),.cells v12 (qe encS l11)]∧a0.fEnums=p17++q17∧x13=(qc p17:Int)∧yE.l17 q17 x13 l11=some r) _ ⟨[],a0.fEnums,0,l2,v3,rfl,rfl,rfl,rfl,rfl,h⟩ .s ?_;rintro m L τ ⟨p17,q17,x13,l11,v12,rfl,rfl,rfl,hE17,hi17,h⟩
   rcases q17 with _|⟨y17,q17⟩
   · have hz17:=yy hE17 hi17;simp only[yE.l17] at h
     refine za fun Z18 hZ18=>?_
     refine rg tok [1,3,6,47] fun K hK=>?_
     simp only[go_sem,qb,qa,qd,hz17];apply hK
     refine zn rfl ?_;apply zy;apply hZ10;refine rgN [2] ?_;cases h;exact rtA
   obtain⟨hz17,hw17,hx17,hE'17,hi'17⟩:=zX hE17 hi17 hb17;simp only[yE.l17] at h
   refine za fun Z19 hZ19=>?_
   refine rg tok [1,3,6,47] fun K hK=>?_
   simp only[go_sem,qb,qa,qd,hz17];apply hK
   refine zo rfl ?_;apply zd;apply hZ19
   refine za fun Z20 hZ20=>?_
   apply ze
   refine za fun Z21 hZ21=>?_
   refine rc [1,3,6,58] fun K hK=>?_
   have f22:=E23.idxS hx17;have f23:=E23.fldS0 (f:=9) rfl rfl hx17;obtain⟨r24,hr24,h⟩:=bind_some h;refine zj tok 7 ?_;simp only[go_sem,qb,qa,qd,encGEnumeration,f22,f23];refine clN rfl rfl rfl (yr.ok y17.fName l11 r24 hr24).ld ?_;refine rnN 1 ?_;refine nkN hK ?_;refine zm (b:=(!r24)) rfl (fun hc25=>?_) (fun hc25=>?_)
   · rw[if_pos hc25] at h;refine rgN [2] ?_;cases h;exact rtA
   rw[xQ hc25] at h;apply zd;apply hZ21;have f26:=E23.idxS hx17;have f27:=E23.fldS0 (f:=9) rfl rfl hx17;obtain⟨_u28,hu28,h⟩:=bind_some h;have gu28:=ym hu28;have f29:=(zt E98.len l11)
   refine rg tok [1,3,6] fun K hK=>?_
   simp only[go_sem,qb,qg,qa,qd,qs,zB,zV,q2,qV,true_and,ub,z8,zP,yl,encGEnumeration,f26,f27,gu28,f29,yM,uf,q1,AV.one,qT,qx,qj,ql,qq,qG];apply hK
   refine zW (L:=[(1,.op 0 0 0),(3,.os true 1 1 (v12+1) 0 (qc (l11++[y17.fName])) false),(6,.int .i64 x13)]) (τ:=[.cells 0 (encGSchema a0),.cells (v12+1) (qe encS (l11++[y17.fName])),.cells 0 [.str y17.fName]]) .s ?_
   refine rc [1,3,6,7] fun K hK=>?_
   have f30:=E23.idxS hx17;have f31:=E23.loadS rfl rfl hx17;obtain⟨r32,hr32,h⟩:=bind_some h;refine zj tok 5 ?_;simp only[go_sem,qb,qa,qd,encGEnumeration,f30,f31];refine clN rfl rfl rfl (z6.ev y17 r32 hr32 _) ?_;refine rnN 1 ?_;refine nkN hK ?_;refine rgN [1,3,6,7,75] ?_;refine zx rfl (fun hc33=>?_) (fun hc33=>?_)
   · rw[if_neg hc33] at h;have t34:=eq_false hc33
     refine rg tok [2] fun K hK=>?_
     simp only[go_sem,qb,qa,t34];apply hK
     cases h;exact rtA
   rw[if_pos hc33] at h;have t35:=eq_true hc33;apply zd;apply hZ20
   refine rgE tok [1,3,6] fun K hK=>?_
   simp only[go_sem,qb,qa,hw17,t35];apply hK
   exact⟨_,_,_,qt q17.length,⟨p17++[y17],q17,x13+1,l11++[y17.fName],v12+1,rfl,rfl,rfl,hE'17,hi'17,h⟩,(.t [0,1] false)⟩
 obtain⟨hz8,hw8,hx8,hE'8,hi'8⟩:=zX hE8 hi8 hb8;simp only[yE.l8] at h
 refine za fun Z36 hZ36=>?_
 refine rg tok [1,3,4,12] fun K hK=>?_
 simp only[go_sem,qb,qa,qd,hz8];apply hK
 refine zo rfl ?_;apply zd;apply hZ36
 refine za fun Z37 hZ37=>?_
 apply ze
 refine za fun Z38 hZ38=>?_
 refine rc [1,3,4,23] fun K hK=>?_
 have f39:=E22.idxS hx8;have f40:=E22.fldS0 (f:=9) rfl rfl hx8;obtain⟨r41,hr41,h⟩:=bind_some h;refine zj tok 7 ?_;simp only[go_sem,qb,qa,qd,encGMessage,f39,f40];refine clN rfl rfl rfl (yr.ok y8.fName l2 r41 hr41).ld ?_;refine rnN 1 ?_;refine nkN hK ?_;refine zm (b:=(!r41)) rfl (fun hc42=>?_) (fun hc42=>?_)
 · rw[if_pos hc42] at h;refine rgN [2] ?_;cases h;exact rtA
 rw[xQ hc42] at h;apply zd;apply hZ38;have f43:=E22.idxS hx8;have f44:=E22.fldS0 (f:=9) rfl rfl hx8;obtain⟨_u45,hu45,h⟩:=bind_some h;have gu45:=ym hu45;have f46:=(zt E98.len l2)
 refine rg tok [1,3,4] fun K hK=>?_
 simp only[go_sem,qb,qg,qa,qd,qs,zB,zV,q2,qV,true_and,ub,z8,zP,yl,encGMessage,f43,f44,gu45,f46,yM,uf,q1,AV.one,qT,qx,qj,ql,qq,qG];apply hK
 refine zW (L:=[(1,.op 0 0 0),(3,.os true 1 1 (v3+1) 0 (qc (l2++[y8.fName])) false),(4,.int .i64 x4)]) (τ:=[.cells 0 (encGSchema a0),.cells (v3+1) (qe encS (l2++[y8.fName])),.cells 0 [.str y8.fName]]) .s ?_;have f47:=E22.idxS hx8;have f48:=E22.loadS rfl rfl hx8;obtain⟨r49,hr49,h⟩:=bind_some h
 refine rd [1,3,4,5] fun K hK=>?_
 refine DW.start (T:=tab) [.at [],.any,.at [],.any,.any,.at [],.eff,.any] [] ?_;refine DW.runN tok 6 ?_;simp only[go_sem,qb,qg,qa,qd,encGMessage,f47,f48];refine DW.call rfl rfl rfl (zE.ev a0 y8 r49 hr49 _) ?_;refine DW.runN tok 1 ?_;simp only[go_sem,qb,qa];refine DW.fin tok (by decide +kernel) rfl ?_;simp only[zi,upd,qa,reduceIte,yp,yY];apply hK
 refine rgN [1,3,4,5,41] ?_;refine zx rfl (fun hc50=>?_) (fun hc50=>?_)
 · rw[if_neg hc50] at h;have t51:=eq_false hc50
   refine rg tok [2] fun K hK=>?_
   simp only[go_sem,qb,qa,t51];apply hK
   cases h;exact rtA
 rw[if_pos hc50] at h;have t52:=eq_true hc50;apply zd;apply hZ37
 refine rgE tok [1,3,4] fun K hK=>?_
 simp only[go_sem,qb,qa,hw8,t52];apply hK
 exact⟨_,_,_,qt q8.length,⟨p8++[y8],q8,x4+1,l2++[y8.fName],v3+1,rfl,rfl,rfl,hE'8,hi'8,h⟩,(.t [0,1] false)⟩
theorem yE.ev (a0:GSchema)(r:Int)(h:yE a0=some r)(σ:Store):ACalls qh 46 [.agg (encGSchema a0)] σ (fun r' σ'=>r'=.int .i64 r∧σ'=σ):=
 (yE.ok a0 r h).c σ
def xd.l22 (a0:GSchema):List GMethod→Int→List (List UInt8)→Option Int
 |[],x18,l16=>some 0
 |y22::q22,x18,l16=>(yr y22.fName l16).bind fun r29=>(if (!r29)=true then some 6 else (ZY (qc l16+1) 16).bind fun _u31=>bnd (z7 a0 y22.fIn) fun r33=>bnd (z7 a0 y22.fOut) fun r34=>(if ((!r33.2)||(!r34.2))=true then some 8 else ((xd.l22 a0 q22) (x18+1) (l16++[y22.fName]))))
def xd (a0:GSchema):Option Int:=
 (xe a0.fName).bind fun r2=>(if (!r2)=true then some 6 else (if (qc a0.fMessages:Int)=0 then some 12 else (if (((decide (10<(qc a0.fMessages:Int)))||(decide (6<(qc a0.fEnums:Int))))||(decide (6<(qc a0.fMethods:Int))))=true then some 4 else (yE a0).bind fun r11=>(if r11=0 then (xd.l22 a0 a0.fMethods 0 ([]:List (List UInt8))) else some r11))))
theorem xd.ok (a0:GSchema)(r:Int)(h:xd a0=some r):ACalls qh 21 [.agg (encGSchema a0)] [] (fun r' _=>r'=.int .i64 r):=by
 refine zf (rs:=[.tmp 2]) tok Tryz.func21 rfl Tryz.ntmps21 rfl Tryz.call21 (by simp) ?_;refine zl [(0,.agg (encGSchema a0))] ⟨rfl,trivial⟩ ?_;unfold xd at h
 refine rg tok [1] fun K hK=>?_
 simp only[go_sem,qb,qa,qd,reduceCtorEq,encGSchema];apply hK
 refine za fun Z1 hZ1=>?_
 apply ze
 refine rc [1,11] fun K hK=>?_
 obtain⟨r2,hr2,h⟩:=bind_some h;refine rnN 2 ?_;refine clN rfl rfl rfl (xe.ev a0.fName r2 hr2 _) ?_;refine rnN 2 ?_;refine nkN hK ?_;refine zm (b:=(!r2)) rfl (fun hc3=>?_) (fun hc3=>?_)
 · rw[if_pos hc3] at h;refine rgN [2] ?_;cases h;exact rtA
 rw[xQ hc3] at h;refine rgN [1,16] ?_;refine zx rfl (fun hc4=>?_) (fun hc4=>?_)
 · rw[if_pos hc4] at h;have t5:=eq_true hc4
   refine rg tok [2] fun K hK=>?_
   simp only[go_sem,qb,qa,t5];apply hK
   cases h;exact rtA
 rw[if_neg hc4] at h;have t6:=eq_false hc4
 refine rc [1,21] fun K hK=>?_
 refine zj tok 5 ?_;simp only[go_sem,qb,qa,qd,t6];refine zh 5 (fun L τ=>L=[(1,.op 0 0 0),(31,.bool ((decide (10<(qc a0.fMessages:Int)))||(decide (6<(qc a0.fEnums:Int)))))]∧τ=[.cells 0 (encGSchema a0)]) ?_ ?_
 · refine yG 26 rfl (fun hg26=>?_) (fun hg26=>?_)
   · have t7:=eq_true hg26;refine rnN 5 ?_;refine zb ⟨rfl,_,_,⟨rfl,rfl⟩,.p t7⟩
   have t8:=eq_false hg26;refine rnN 5 ?_;refine zb ⟨rfl,_,_,⟨rfl,rfl⟩,.p t8⟩
 rintro _ _ ⟨rfl,rfl⟩;refine rnN 1 ?_;refine zh 5 (fun L τ=>L=[(1,.op 0 0 0),(37,.bool (((decide (10<(qc a0.fMessages:Int)))||(decide (6<(qc a0.fEnums:Int))))||(decide (6<(qc a0.fMethods:Int)))))]∧τ=[.cells 0 (encGSchema a0)]) ?_ ?_
 · refine zO (b:=((decide (10<(qc a0.fMessages:Int)))||(decide (6<(qc a0.fEnums:Int))))) 32 rfl (fun hg32=>?_) (fun hg32=>?_)
   · refine rnN 5 ?_;refine zb ⟨rfl,_,_,⟨rfl,rfl⟩,.b hg32⟩
   refine rnN 5 ?_;refine zb ⟨rfl,_,_,⟨rfl,rfl⟩,.b hg32⟩
 rintro _ _ ⟨rfl,rfl⟩;refine rnN 1 ?_;refine nkN hK ?_;refine zm (b:=(((decide (10<(qc a0.fMessages:Int)))||(decide (6<(qc a0.fEnums:Int))))||(decide (6<(qc a0.fMethods:Int))))) rfl (fun hc9=>?_) (fun hc9=>?_)
 · rw[if_pos hc9] at h;refine rgN [2] ?_;cases h;exact rtA
 rw[xQ hc9] at h;apply zd;apply hZ1
 refine za fun Z10 hZ10=>?_
 refine rc [1,3] fun K hK=>?_
 obtain⟨r11,hr11,h⟩:=bind_some h;refine rnN 1 ?_;refine clN rfl rfl rfl (yE.ev a0 r11 hr11 _) ?_;refine rnN 1 ?_;refine nkN hK ?_;refine rgN [1,3,41] ?_;refine zx rfl (fun hc12=>?_) (fun hc12=>?_)
 · rw[if_neg hc12] at h;have t13:=eq_false hc12
   refine rg tok [2] fun K hK=>?_
   simp only[go_sem,qb,qa,t13];apply hK
   cases h;exact rtA
 rw[if_pos hc12] at h;have t14:=eq_true hc12;apply zd;apply hZ10
 refine rg tok [1,4] fun K hK=>?_
 simp only[go_sem,qb,qa,t14];apply hK
 refine Zy 4 1 rfl ?_;refine zW (L:=[(1,.op 0 0 0),(4,.os true 1 1 0 0 (qc ([]:List (List UInt8))) false)]) (τ:=[.cells 0 (encGSchema a0),.cells 0 (qe encS ([]:List (List UInt8)))]) .s ?_
 refine za fun Z15 hZ15=>?_
 refine rgN [1,4,5] ?_;apply ze
 refine xn 0 rfl fun hb22=>?_
 replace hb22:qc a0.fMethods≤9223372036854775807:=hb22.2.2.2.1.1;refine zq (fun m L τ=>∃ (p22 q22:List GMethod) (x18:Int) (l16:List (List UInt8)) (v17:Nat),m=qc q22∧L=[(1,.op 0 0 0),(4,.os true 1 1 v17 0 (qc l16) false),(5,.int .i64 x18)]∧τ=[.cells 0 (encGSchema a0),.cells v17 (qe encS l16)]∧a0.fMethods=p22++q22∧x18=(qc p22:Int)∧xd.l22 a0 q22 x18 l16=some r) _ ⟨[],a0.fMethods,0,([]:List (List UInt8)),0,rfl,rfl,rfl,rfl,rfl,h⟩ .s ?_;rintro m L τ ⟨p22,q22,x18,l16,v17,rfl,rfl,rfl,hE22,hi22,h⟩
 rcases q22 with _|⟨y22,q22⟩
 · have hz22:=yy hE22 hi22;simp only[xd.l22] at h
   refine za fun Z23 hZ23=>?_
   refine rg tok [1,4,5,47] fun K hK=>?_
   simp only[go_sem,qb,qa,qd,hz22];apply hK
   refine zn rfl ?_;apply zy;apply hZ15;refine rgN [2] ?_;cases h;exact rtA
 obtain⟨hz22,hw22,hx22,hE'22,hi'22⟩:=zX hE22 hi22 hb22;simp only[xd.l22] at h
 refine za fun Z24 hZ24=>?_
 refine rg tok [1,4,5,47] fun K hK=>?_
 simp only[go_sem,qb,qa,qd,hz22];apply hK
 refine zo rfl ?_;apply zd;apply hZ24
 refine za fun Z25 hZ25=>?_
 apply ze;have f26:=E24.idxS hx22;have f27:=E24.loadS rfl rfl hx22
 refine rg tok [1,4,5,6] fun K hK=>?_
 simp only[go_sem,qb,qg,qa,qd,encGMethod,f26,f27];apply hK
 refine za fun Z28 hZ28=>?_
 refine rc [1,4,5,6,59] fun K hK=>?_
 obtain⟨r29,hr29,h⟩:=bind_some h;refine rnN 3 ?_;refine clN rfl rfl rfl (yr.ok y22.fName l16 r29 hr29).ld ?_;refine rnN 1 ?_;refine nkN hK ?_;refine zm (b:=(!r29)) rfl (fun hc30=>?_) (fun hc30=>?_)
 · rw[if_pos hc30] at h;refine rgN [2] ?_;cases h;exact rtA
 rw[xQ hc30] at h;apply zd;apply hZ28;obtain⟨_u31,hu31,h⟩:=bind_some h;have gu31:=ym hu31;have f32:=(zt E98.len l16)
 refine rg tok [1,4,5,6] fun K hK=>?_
 simp only[go_sem,qb,qg,qa,qd,qs,zB,zV,q2,qV,true_and,ub,z8,zP,yl,gu31,f32,yM,uf,q1,AV.one,qT,qx,qj,ql,qq,qG];apply hK
 refine zW (L:=[(1,.op 0 0 0),(4,.os true 1 1 (v17+1) 0 (qc (l16++[y22.fName])) false),(5,.int .i64 x18),(6,.op 2 0 0)]) (τ:=[.cells 0 (encGSchema a0),.cells (v17+1) (qe encS (l16++[y22.fName])),.cells 0 [.str y22.fName,.str y22.fIn,.str y22.fOut],.cells 0 [.str y22.fName]]) .s ?_
 refine rc [1,4,5,6,8] fun K hK=>?_
 obtain⟨r33,hr33,h⟩:=zS h;refine rnN 3 ?_;refine clN rfl rfl rfl (z7.ev a0 y22.fIn r33 hr33 _) ?_;refine zj tok 6 ?_;simp only[go_sem,qb,qg,qa,qd,encGMessage];refine nkN hK ?_
 refine rc [1,4,5,8,10] fun K hK=>?_
 obtain⟨r34,hr34,h⟩:=zS h;refine rnN 3 ?_;refine clN rfl rfl rfl (z7.ev a0 y22.fOut r34 hr34 _) ?_;refine zj tok 6 ?_;simp only[go_sem,qb,qg,qa,qd,encGMessage];refine nkN hK ?_
 refine rc [1,4,5,84] fun K hK=>?_
 refine rnN 3 ?_;refine zh 3 (fun L τ=>L=[(1,.op 0 0 0),(4,.os true 1 1 (v17+1) 0 (qc (l16++[y22.fName])) false),(5,.int .i64 x18),(84,.bool ((!r33.2)||(!r34.2)))]∧τ=[.cells 0 (encGSchema a0),.cells (v17+1) (qe encS (l16++[y22.fName])),.cells 0 [.str y22.fName,.str y22.fIn,.str y22.fOut],.cells 0 [.str y22.fName],.cells 0 (encGMessage r33.1),.cells 0 (encGMessage r34.1)]) ?_ ?_
 · refine zO (b:=(!r33.2)) 81 rfl (fun hg81=>?_) (fun hg81=>?_)
   · refine rnN 3 ?_;refine zb ⟨rfl,_,_,⟨rfl,rfl⟩,.b hg81⟩
   refine rnN 3 ?_;refine zb ⟨rfl,_,_,⟨rfl,rfl⟩,.b hg81⟩
 rintro _ _ ⟨rfl,rfl⟩;refine nkN hK ?_;refine zm (b:=((!r33.2)||(!r34.2))) rfl (fun hc35=>?_) (fun hc35=>?_)
 · rw[if_pos hc35] at h;refine rgN [2] ?_;cases h;exact rtA
 rw[xQ hc35] at h;apply zd;apply hZ25
 refine rgE tok [1,4,5] fun K hK=>?_
 simp only[go_sem,qb,qa,hw22];apply hK
 exact⟨_,_,_,qt q22.length,⟨p22++[y22],q22,x18+1,l16++[y22.fName],v17+1,rfl,rfl,rfl,hE'22,hi'22,h⟩,(.t [0,1] false)⟩
theorem xd.ev (a0:GSchema)(r:Int)(h:xd a0=some r)(σ:Store):ACalls qh 21 [.agg (encGSchema a0)] σ (fun r' σ'=>r'=.int .i64 r∧σ'=σ):=
 (xd.ok a0 r h).c σ
def wk (a0:GSchema)(a1:List UInt8)(a2:List UInt8):Option (GTree×Int):=
 (xd a0).bind fun r2=>(if r2=0 then bnd (z7 a0 a1) fun r6=>(if (!r6.2)=true then some ((⟨0,0,[],([]:List GEntry),([]:List GRaw)⟩:GTree),14) else (zJ rounds a0 r6.1 a2 1).bind fun r9=>some (r9.1,r9.2)) else some ((⟨0,0,[],([]:List GEntry),([]:List GRaw)⟩:GTree),1))
theorem wk.ok (a0:GSchema)(a1:List UInt8)(a2:List UInt8)(r:GTree×Int)(h:wk a0 a1 a2=some r):ACalls qh 19 [.agg (encGSchema a0),.str a1,.ds true (qe encB a2) (qc a2) false] [] (fun r' _=>r'=.tup [.agg (cellsGTree r.1),.int .i64 r.2]):=by
 refine zf (rs:=[.cell 6 30,.tmp 7]) tok Tryz.func19 rfl Tryz.ntmps19 rfl Tryz.call19 (by simp) ?_;refine zl [(0,.agg (encGSchema a0)),(1,.str a1),(2,.ds true (qe encB a2) (qc a2) false)] ⟨rfl,rfl,rfl,trivial⟩ ?_;unfold wk at h
 refine rg tok [1,2,3,6] fun K hK=>?_
 simp only[go_sem,qb,qa,qd,reduceCtorEq,encGSchema];apply hK
 refine za fun Z1 hZ1=>?_
 refine rc [1,2,3,6,12] fun K hK=>?_
 obtain⟨r2,hr2,h⟩:=bind_some h;refine rnN 1 ?_;refine clN rfl rfl rfl (xd.ev a0 r2 hr2 _) ?_;refine rnN 1 ?_;refine nkN hK ?_;refine zx rfl (fun hc3=>?_) (fun hc3=>?_)
 · rw[if_neg hc3] at h;have t4:=eq_false hc3
   refine rg tok [6,7] fun K hK=>?_
   simp only[go_sem,qb,qg,qa,qd,t4];apply hK
   cases h;exact rtA
 rw[if_pos hc3] at h;have t5:=eq_true hc3;apply zd;apply hZ1
 refine rc [2,3,6,8,9] fun K hK=>?_
 obtain⟨r6,hr6,h⟩:=zS h;refine zj tok 2 ?_;simp only[go_sem,qb,qg,qa,qd,t5];refine clN rfl rfl rfl (z7.ev a0 a1 r6 hr6 _) ?_;refine zj tok 6 ?_;simp only[go_sem,qb,qg,qa,qd,encGMessage];refine nkN hK ?_
 refine za fun Z7 hZ7=>?_
 refine rgN [2,3,6,8,21] ?_;refine zm (b:=(!r6.2)) rfl (fun hc8=>?_) (fun hc8=>?_)
 · rw[if_pos hc8] at h;refine rgN [6,7] ?_;cases h;exact rtA
 rw[xQ hc8] at h;apply zd;apply hZ7
 refine rc [6,7] fun K hK=>?_
 obtain⟨r9,hr9,h⟩:=bind_some h;refine rnN 3 ?_;refine clN rfl rfl rfl (zJ.ev rounds a0 r6.1 a2 1 r9 hr9 _) ?_;refine zj tok 4 ?_;simp only[go_sem,qb,qg,qa,qd,cellsGTree];refine nkN hK ?_;cases h;exact rtA
theorem wk.ev (a0:GSchema)(a1:List UInt8)(a2:List UInt8)(r:GTree×Int)(h:wk a0 a1 a2=some r)(σ:Store):ACalls qh 19 [.agg (encGSchema a0),.str a1,.ds true (qe encB a2) (qc a2) false] σ (fun r' σ'=>r'=.tup [.agg (cellsGTree r.1),.int .i64 r.2]∧σ'=σ):=
 (wk.ok a0 a1 a2 r h).c σ
def zN.l28 (yC:GTree→GTree→Option Bool)(x11:Int)(rec13:Int→Option Bool)(y19:GEntry):List GTree→Int→Option Bool
 |[],x26=>(rec13 (x11+1))
 |y28::q28,x26=>(Zd y19.fTrees x26).bind fun y34=>(yC y28 y34).bind fun r37=>(if (!r37)=true then some false else ((zN.l28 yC x11 rec13 y19 q28) (x26+1)))
def zN.l13 (yC:GTree→GTree→Option Bool)(a1:GTree):List GEntry→Int→Option Bool
 |[],x11=>some true
 |y13::q13,x11=>(Zd a1.fEntries x11).bind fun y19=>(if ((!(decide (y13.fTag=y19.fTag)))||(!(decide ((qc y13.fTrees:Int)=(qc y19.fTrees:Int)))))=true then some false else (zN.l28 yC x11 (zN.l13 yC a1 q13) y19 y13.fTrees 0))
def zN.l8 (yC:GTree→GTree→Option Bool)(a0:GTree)(a1:GTree):List GRaw→Int→Option Bool
 |[],x6=>(zN.l13 yC a1 a0.fEntries 0)
 |y8::q8,x6=>(Zd a1.fRest x6).bind fun y43=>(if (!(decide (y8.fTag=y43.fTag)&&(decide (y8.fWire=y43.fWire)&&(decide (y8.fN=y43.fN)&&decide (y8.fB=y43.fB)))))=true then some false else ((zN.l8 yC a0 a1 q8) (x6+1)))
def zN.body (yC:GTree→GTree→Option Bool)(a0:GTree)(a1:GTree):Option Bool:=
 (if (((((!(decide (a0.fKind=a1.fKind)))||(!(decide (a0.fN=a1.fN))))||(!(decide (a0.fS=a1.fS))))||(!(decide ((qc a0.fEntries:Int)=(qc a1.fEntries:Int)))))||(!(decide ((qc a0.fRest:Int)=(qc a1.fRest:Int)))))=true then some false else (zN.l8 yC a0 a1 a0.fRest 0))
theorem zN.step (yC:GTree→GTree→Option Bool)(ih_ref09_Same:∀ (a0:GTree) (a1:GTree) (r:Bool),yC a0 a1=some r→ACalls qh 20 [.agg (cellsGTree a0),.agg (cellsGTree a1)] [] (fun r' _=>r'=.bool r))(a0:GTree)(a1:GTree)(r:Bool)(h:zN.body yC a0 a1=some r):ACalls qh 20 [.agg (cellsGTree a0),.agg (cellsGTree a1)] [] (fun r' _=>r'=.bool r):=by
 have ev_ref09_Same:=fun a0 a1 r h σ=>(ih_ref09_Same a0 a1 r h).c σ
 refine zf (rs:=[.tmp 4]) tok Tryz.func20 rfl Tryz.ntmps20 rfl Tryz.call20 (by simp) ?_;refine zl [(0,.agg (cellsGTree a0)),(1,.agg (cellsGTree a1))] ⟨rfl,rfl,trivial⟩ ?_;unfold zN.body at h
 refine rg tok [2,3] fun K hK=>?_
 simp only[go_sem,qb,qa,qd,reduceCtorEq,cellsGTree];apply hK
 refine za fun Z1 hZ1=>?_
 refine rc [2,3,46] fun K hK=>?_
 refine rnN 6 ?_;refine zh 6 (fun L τ=>L=[(2,.op 0 0 0),(3,.op 1 0 0),(21,.bool ((!(decide (a0.fKind=a1.fKind)))||(!(decide (a0.fN=a1.fN)))))]∧τ=[.cells 0 (cellsGTree a0),.cells 0 (cellsGTree a1)]) ?_ ?_
 · refine yG 15 rfl (fun hg15=>?_) (fun hg15=>?_)
   · have t2:=eq_false hg15;refine rnN 6 ?_;refine zb ⟨rfl,_,_,⟨rfl,rfl⟩,.p t2⟩
   have t3:=eq_true hg15;refine rnN 6 ?_;refine zb ⟨rfl,_,_,⟨rfl,rfl⟩,.p t3⟩
 rintro _ _ ⟨rfl,rfl⟩;refine rnN 1 ?_;refine zh 6 (fun L τ=>L=[(2,.op 0 0 0),(3,.op 1 0 0),(28,.bool (((!(decide (a0.fKind=a1.fKind)))||(!(decide (a0.fN=a1.fN))))||(!(decide (a0.fS=a1.fS)))))]∧τ=[.cells 0 (cellsGTree a0),.cells 0 (cellsGTree a1)]) ?_ ?_
 · refine zO (b:=((!(decide (a0.fKind=a1.fKind)))||(!(decide (a0.fN=a1.fN))))) 22 rfl (fun hg22=>?_) (fun hg22=>?_)
   · refine rnN 6 ?_;refine zb ⟨rfl,_,_,⟨rfl,rfl⟩,.b hg22⟩
   refine rnN 6 ?_;refine zb ⟨rfl,_,_,⟨rfl,rfl⟩,.b hg22⟩
 rintro _ _ ⟨rfl,rfl⟩;refine rnN 1 ?_;refine zh 8 (fun L τ=>L=[(2,.op 0 0 0),(3,.op 1 0 0),(37,.bool ((((!(decide (a0.fKind=a1.fKind)))||(!(decide (a0.fN=a1.fN))))||(!(decide (a0.fS=a1.fS))))||(!(decide ((qc a0.fEntries:Int)=(qc a1.fEntries:Int))))))]∧τ=[.cells 0 (cellsGTree a0),.cells 0 (cellsGTree a1)]) ?_ ?_
 · refine zO (b:=(((!(decide (a0.fKind=a1.fKind)))||(!(decide (a0.fN=a1.fN))))||(!(decide (a0.fS=a1.fS))))) 29 rfl (fun hg29=>?_) (fun hg29=>?_)
   · refine rnN 8 ?_;refine zb ⟨rfl,_,_,⟨rfl,rfl⟩,.b hg29⟩
   refine rnN 8 ?_;refine zb ⟨rfl,_,_,⟨rfl,rfl⟩,.b hg29⟩
 rintro _ _ ⟨rfl,rfl⟩;refine rnN 1 ?_;refine zh 8 (fun L τ=>L=[(2,.op 0 0 0),(3,.op 1 0 0),(46,.bool (((((!(decide (a0.fKind=a1.fKind)))||(!(decide (a0.fN=a1.fN))))||(!(decide (a0.fS=a1.fS))))||(!(decide ((qc a0.fEntries:Int)=(qc a1.fEntries:Int)))))||(!(decide ((qc a0.fRest:Int)=(qc a1.fRest:Int))))))]∧τ=[.cells 0 (cellsGTree a0),.cells 0 (cellsGTree a1)]) ?_ ?_
 · refine zO (b:=((((!(decide (a0.fKind=a1.fKind)))||(!(decide (a0.fN=a1.fN))))||(!(decide (a0.fS=a1.fS))))||(!(decide ((qc a0.fEntries:Int)=(qc a1.fEntries:Int)))))) 38 rfl (fun hg38=>?_) (fun hg38=>?_)
   · refine rnN 8 ?_;refine zb ⟨rfl,_,_,⟨rfl,rfl⟩,.b hg38⟩
   refine rnN 8 ?_;refine zb ⟨rfl,_,_,⟨rfl,rfl⟩,.b hg38⟩
 rintro _ _ ⟨rfl,rfl⟩;refine nkN hK ?_;refine zm (b:=(((((!(decide (a0.fKind=a1.fKind)))||(!(decide (a0.fN=a1.fN))))||(!(decide (a0.fS=a1.fS))))||(!(decide ((qc a0.fEntries:Int)=(qc a1.fEntries:Int)))))||(!(decide ((qc a0.fRest:Int)=(qc a1.fRest:Int)))))) rfl (fun hc4=>?_) (fun hc4=>?_)
 · rw[if_pos hc4] at h;refine rgN [4] ?_;cases h;exact rtA
 rw[xQ hc4] at h;apply zd;apply hZ1
 refine za fun Z5 hZ5=>?_
 refine rgN [2,3,5] ?_;apply ze
 refine xn 0 rfl fun hb8=>?_
 replace hb8:qc a0.fRest≤9223372036854775807:=hb8.2.2.2.2.1.1;refine zq (fun m L τ=>∃ (p8 q8:List GRaw) (x6:Int),m=qc q8∧L=[(2,.op 0 0 0),(3,.op 1 0 0),(5,.int .i64 x6)]∧τ=[.cells 0 (cellsGTree a0),.cells 0 (cellsGTree a1)]∧a0.fRest=p8++q8∧x6=(qc p8:Int)∧zN.l8 yC a0 a1 q8 x6=some r) _ ⟨[],a0.fRest,0,rfl,rfl,rfl,rfl,rfl,h⟩ .s ?_;rintro m L τ ⟨p8,q8,x6,rfl,rfl,rfl,hE8,hi8,h⟩
 rcases q8 with _|⟨y8,q8⟩
 · have hz8:=yy hE8 hi8;simp only[zN.l8] at h
   refine za fun Z9 hZ9=>?_
   refine rg tok [2,3,5,51] fun K hK=>?_
   simp only[go_sem,qb,qa,qd,hz8];apply hK
   refine zn rfl ?_;apply zy;apply hZ5
   refine za fun Z10 hZ10=>?_
   refine rgN [2,3,6] ?_;apply ze
   refine xn 0 rfl fun hb13=>?_
   replace hb13:qc a0.fEntries≤9223372036854775807:=hb13.2.2.2.1.1;refine zq (fun m L τ=>∃ (p13 q13:List GEntry) (x11:Int),m=qc q13∧L=[(2,.op 0 0 0),(3,.op 1 0 0),(6,.int .i64 x11)]∧τ=[.cells 0 (cellsGTree a0),.cells 0 (cellsGTree a1)]∧a0.fEntries=p13++q13∧x11=(qc p13:Int)∧zN.l13 yC a1 q13 x11=some r) _ ⟨[],a0.fEntries,0,rfl,rfl,rfl,rfl,rfl,h⟩ .s ?_;rintro m L τ ⟨p13,q13,x11,rfl,rfl,rfl,hE13,hi13,h⟩
   rcases q13 with _|⟨y13,q13⟩
   · have hz13:=yy hE13 hi13;simp only[zN.l13] at h
     refine za fun Z14 hZ14=>?_
     refine rg tok [2,3,6,69] fun K hK=>?_
     simp only[go_sem,qb,qa,qd,hz13];apply hK
     refine zn rfl ?_;apply zy;apply hZ10;refine rgN [4] ?_;cases h;exact rtA
   obtain⟨hz13,hw13,hx13,hE'13,hi'13⟩:=zX hE13 hi13 hb13;simp only[zN.l13] at h
   refine za fun Z15 hZ15=>?_
   refine rg tok [2,3,6,69] fun K hK=>?_
   simp only[go_sem,qb,qa,qd,hz13];apply hK
   refine zo rfl ?_;apply zd;apply hZ15
   refine za fun Z16 hZ16=>?_
   apply ze;have f17:=E27.idxS hx13;have f18:=E27.loadS rfl rfl hx13;obtain⟨y19,hy19,h⟩:=bind_some h;have f20:=E27.idxS hy19;have f21:=E27.loadS rfl rfl hy19
   refine rd [2,3,6,7,8] fun K hK=>?_
   refine DW.start (T:=tab) [.any,.own 2 [],.any,.any,.own 2 [],.any,.own 3 [],.any,.any,.own 3 [],.eff,.flt,.eff,.eff] [(2,[]),(3,[])] ?_;refine DW.runN tok 8 ?_;simp only[go_sem,qb,qa,qd,cellsGEntry,zU,f17,f18];refine DW.runN tok 6 ?_;simp only[go_sem,qb,qg,qa,qd,cellsGEntry,zU,f20,f21];refine DW.fin tok (by decide +kernel) rfl ?_;simp only[zi,upd,qa,reduceIte,yp,yY];apply hK
   refine za fun Z22 hZ22=>?_
   refine rc [2,3,6,7,8,95] fun K hK=>?_
   refine rnN 6 ?_;refine zh 8 (fun L τ=>L=[(2,.op 0 0 0),(3,.op 1 0 0),(6,.int .i64 x11),(7,.op 2 0 0),(8,.op 3 0 0),(95,.bool ((!(decide (y13.fTag=y19.fTag)))||(!(decide ((qc y13.fTrees:Int)=(qc y19.fTrees:Int))))))]∧τ=[.cells 0 (cellsGTree a0),.cells 0 (cellsGTree a1),.cells 0 (cellsGEntry y13),.cells 0 (cellsGEntry y19)]) ?_ ?_
   · refine yG 87 rfl (fun hg87=>?_) (fun hg87=>?_)
     · have t23:=eq_false hg87;refine rnN 8 ?_;refine zb ⟨rfl,_,_,⟨rfl,rfl⟩,.p t23⟩
     have t24:=eq_true hg87;refine rnN 8 ?_;refine zb ⟨rfl,_,_,⟨rfl,rfl⟩,.p t24⟩
   rintro _ _ ⟨rfl,rfl⟩;refine nkN hK ?_;refine zm (b:=((!(decide (y13.fTag=y19.fTag)))||(!(decide ((qc y13.fTrees:Int)=(qc y19.fTrees:Int)))))) rfl (fun hc25=>?_) (fun hc25=>?_)
   · rw[if_pos hc25] at h;refine rgN [4] ?_;cases h;exact rtA
   rw[xQ hc25] at h;apply zd;apply hZ22;refine rgN [2,3,6,7,8,9] ?_;apply ze
   refine xn 2 rfl fun hb28=>?_
   replace hb28:qc y13.fTrees≤9223372036854775807:=hb28.2.1.1;refine zq (fun m L τ=>∃ (p28 q28:List GTree) (x26:Int),m=qc q28∧L=[(2,.op 0 0 0),(3,.op 1 0 0),(6,.int .i64 x11),(7,.op 2 0 0),(8,.op 3 0 0),(9,.int .i64 x26)]∧τ=[.cells 0 (cellsGTree a0),.cells 0 (cellsGTree a1),.cells 0 (cellsGEntry y13),.cells 0 (cellsGEntry y19)]∧y13.fTrees=p28++q28∧x26=(qc p28:Int)∧zN.l28 yC x11 (zN.l13 yC a1 q13) y19 q28 x26=some r) _ ⟨[],y13.fTrees,0,rfl,rfl,rfl,rfl,rfl,h⟩ .s ?_;rintro m L τ ⟨p28,q28,x26,rfl,rfl,rfl,hE28,hi28,h⟩
   rcases q28 with _|⟨y28,q28⟩
   · have hz28:=yy hE28 hi28;simp only[zN.l28] at h
     refine za fun Z29 hZ29=>?_
     refine rg tok [2,3,6,7,8,9,100] fun K hK=>?_
     simp only[go_sem,qb,qa,qd,hz28];apply hK
     refine zn rfl ?_;apply zy;apply hZ16
     refine rgE tok [2,3,6] fun K hK=>?_
     simp only[go_sem,qb,qa,hw13];apply hK
     exact⟨_,_,_,qt q13.length,⟨p13++[y13],q13,x11+1,rfl,rfl,rfl,hE'13,hi'13,h⟩,(.t [0,1] false)⟩
   obtain⟨hz28,hw28,hx28,hE'28,hi'28⟩:=zX hE28 hi28 hb28;simp only[zN.l28] at h
   refine za fun Z30 hZ30=>?_
   refine rg tok [2,3,6,7,8,9,100] fun K hK=>?_
   simp only[go_sem,qb,qa,qd,hz28];apply hK
   refine zo rfl ?_;apply zd;apply hZ30
   refine za fun Z31 hZ31=>?_
   apply ze;have f32:=E90.idxS hx28;have f33:=E90.loadS rfl rfl hx28;obtain⟨y34,hy34,h⟩:=bind_some h;have f35:=E90.idxS hy34;have f36:=E90.loadS rfl rfl hy34;obtain⟨r37,hr37,h⟩:=bind_some h
   refine rd [2,3,6,7,8,9,114] fun K hK=>?_
   refine DW.start (T:=tab) [.any,.at [],.any,.any,.at [],.any,.at [],.any,.any,.at [],.eff,.any] [] ?_;refine DW.runN tok 8 ?_;simp only[go_sem,qb,qa,qd,cellsGTree,yV,f32,f33];refine DW.runN tok 2 ?_;simp only[go_sem,qb,qa,cellsGTree,yV,f35,f36];refine DW.call rfl rfl rfl (ev_ref09_Same y28 y34 r37 hr37 _) ?_;refine DW.runN tok 1 ?_;simp only[go_sem,qb,qa];refine DW.fin tok (by decide +kernel) rfl ?_;simp only[zi,upd,qa,reduceIte,yp,yY];apply hK
   refine zm (b:=(!r37)) rfl (fun hc38=>?_) (fun hc38=>?_)
   · rw[if_pos hc38] at h;refine rgN [4] ?_;cases h;exact rtA
   rw[xQ hc38] at h;apply zd;apply hZ31
   refine rgE tok [2,3,6,7,8,9] fun K hK=>?_
   simp only[go_sem,qb,qa,hw28];apply hK
   exact⟨_,_,_,qt q28.length,⟨p28++[y28],q28,x26+1,rfl,rfl,rfl,hE'28,hi'28,h⟩,.s⟩
 obtain⟨hz8,hw8,hx8,hE'8,hi'8⟩:=zX hE8 hi8 hb8;simp only[zN.l8] at h
 refine za fun Z39 hZ39=>?_
 refine rg tok [2,3,5,51] fun K hK=>?_
 simp only[go_sem,qb,qa,qd,hz8];apply hK
 refine zo rfl ?_;apply zd;apply hZ39
 refine za fun Z40 hZ40=>?_
 apply ze;have f41:=E28.idxS hx8;have f42:=E28.loadS rfl rfl hx8;obtain⟨y43,hy43,h⟩:=bind_some h;have f44:=E28.idxS hy43;have f45:=E28.loadS rfl rfl hy43
 refine rd [2,3,5,64] fun K hK=>?_
 refine DW.start (T:=tab) [.any,.at [],.any,.any,.at [],.any,.at [],.any,.any,.at [],.any] [] ?_;refine DW.runN tok 8 ?_;simp only[go_sem,qb,qa,qd,encGRaw,f41,f42];refine DW.runN tok 3 ?_;simp only[go_sem,qb,qa,encGRaw,f44,f45,evEqA,ceqL,ceq];refine DW.fin tok (by decide +kernel) rfl ?_;simp only[zi,upd,qa,reduceIte,yp,yY];apply hK
 refine zm (b:=(!(decide (y8.fTag=y43.fTag)&&(decide (y8.fWire=y43.fWire)&&(decide (y8.fN=y43.fN)&&decide (y8.fB=y43.fB)))))) rfl (fun hc46=>?_) (fun hc46=>?_)
 · rw[if_pos hc46] at h;refine rgN [4] ?_;cases h;exact rtA
 rw[xQ hc46] at h;apply zd;apply hZ40
 refine rgE tok [2,3,5] fun K hK=>?_
 simp only[go_sem,qb,qa,hw8];apply hK
 exact⟨_,_,_,qt q8.length,⟨p8++[y8],q8,x6+1,rfl,rfl,rfl,hE'8,hi'8,h⟩,.s⟩
def zN : Nat→GTree→GTree→Option Bool
 |0,_,_=>none
 |k+1,a0,a1=>zN.body (zN k) a0 a1
theorem zN.all (k:Nat):(∀ (a0:GTree) (a1:GTree) (r:Bool),zN k a0 a1=some r→ACalls qh 20 [.agg (cellsGTree a0),.agg (cellsGTree a1)] [] (fun r' _=>r'=.bool r)):=by
 induction k with
 |zero=>exact (fun a0 a1 r h=>by simp only[zN] at h; cases h)
 |succ k ih=>exact (fun a0 a1 r h=>zN.step _ ih a0 a1 r (by simpa only [zN] using h))
theorem zN.ev (k:Nat)(a0:GTree)(a1:GTree)(r:Bool)(h:zN k a0 a1=some r)(σ:Store):ACalls qh 20 [.agg (cellsGTree a0),.agg (cellsGTree a1)] σ (fun r' σ'=>r'=.bool r∧σ'=σ):=
 ((zN.all k) a0 a1 r h).c σ
def law12_DecodeTrees (a0:GSchema)(a1:List UInt8)(a2:GTree):Option Bool:=
 (zI a0).bind fun r2=>(if (!r2)=true then some true else (wL a2).bind fun r3=>some (!r3)).bind fun c3=>(if c3=true then (xU).bind fun r6=>some r6 else (yd rounds a2).bind fun r7=>(xB r7).bind fun r8=>(if r8.2=0 then (yh a0).bind fun r14=>(xV r8.1).bind fun r15=>(yL r14 a1 r15).bind fun r16=>(wk a0 a1 r8.1).bind fun r17=>(zN rounds r16.1 r17.1).bind fun r18=>(if (r18&&(decide (r16.2=r17.2)))=true then (xU).bind fun r19=>some r19 else some false).bind fun c19=>some c19 else (xU).bind fun r12=>some r12))
theorem law12_DecodeTrees.ok (a0:GSchema)(a1:List UInt8)(a2:GTree)(r:Bool)(h:law12_DecodeTrees a0 a1 a2=some r):ACalls qh 3 [.agg (encGSchema a0),.str a1,.agg (cellsGTree a2)] [] (fun r' _=>r'=.bool r):=by
 refine zf (rs:=[.tmp 6]) tok Tryz.func3 rfl Tryz.ntmps3 rfl Tryz.call3 (by simp) ?_;refine zl [(0,.agg (encGSchema a0)),(1,.str a1),(2,.agg (cellsGTree a2))] ⟨rfl,rfl,rfl,trivial⟩ ?_;unfold law12_DecodeTrees at h
 refine rg tok [1,3,5] fun K hK=>?_
 simp only[go_sem,qb,qa,qd,reduceCtorEq,cellsGTree,encGSchema];apply hK
 refine za fun Z1 hZ1=>?_
 refine rc [1,3,5,20] fun K hK=>?_
 obtain⟨r2,hr2,h⟩:=bind_some h;refine rnN 1 ?_;refine clN rfl rfl rfl (zI.ev a0 r2 hr2 _) ?_;refine rnN 2 ?_;obtain⟨c3,hc3,h⟩:=bind_some h;refine zh 4 (fun L τ=>L=[(1,.str a1),(3,.op 0 0 0),(5,.op 1 0 0),(20,.bool c3)]∧τ=[.cells 0 (encGSchema a0),.cells 0 (cellsGTree a2)]) ?_ ?_
 · refine zO (b:=(!r2)) 16 rfl (fun hg16=>?_) (fun hg16=>?_)
   · rw[if_pos hg16] at hc3;refine rnN 4 ?_;cases hc3;refine zb ⟨rfl,_,_,⟨rfl,rfl⟩,.b hg16⟩
   rw[xQ hg16] at hc3;obtain⟨r4,hr4,hc3⟩:=bind_some hc3;refine rnN 1 ?_;refine clN rfl rfl rfl (wL.ev a2 r4 hr4 _) ?_;refine rnN 2 ?_;cases hc3;refine zb ⟨rfl,_,_,⟨rfl,rfl⟩,.b hg16⟩
 rintro _ _ ⟨rfl,rfl⟩;refine nkN hK ?_;refine zm (b:=c3) rfl (fun hc5=>?_) (fun hc5=>?_)
 · rw[if_pos hc5] at h
   refine rc [6] fun K hK=>?_
   obtain⟨r6,hr6,h⟩:=bind_some h;refine clN rfl rfl rfl (xU.ev  r6 hr6 _) ?_;refine rnN 1 ?_;refine nkN hK ?_;cases h;exact rtA
 rw[xQ hc5] at h;apply zd;apply hZ1
 refine rc [1,3,7,8] fun K hK=>?_
 obtain⟨r7,hr7,h⟩:=bind_some h;refine rnN 1 ?_;refine clN rfl rfl rfl (yd.ev rounds a2 r7 hr7 _) ?_;obtain⟨r8,hr8,h⟩:=bind_some h;refine clN rfl rfl rfl (xB.ev r7 r8 hr8 _) ?_;refine zj tok 5 ?_;simp only[go_sem,qb,qa,qd,cellsGTree];refine nkN hK ?_
 refine za fun Z9 hZ9=>?_
 refine rgN [1,3,7,29] ?_;refine zx rfl (fun hc10=>?_) (fun hc10=>?_)
 · rw[if_neg hc10] at h;have t11:=eq_false hc10
   refine rc [6] fun K hK=>?_
   obtain⟨r12,hr12,h⟩:=bind_some h;refine clN rfl rfl rfl (xU.ev  r12 hr12 _) ?_;refine zj tok 1 ?_;simp only[go_sem,qb,qa,t11];refine nkN hK ?_;cases h;exact rtA
 rw[if_pos hc10] at h;have t13:=eq_true hc10;apply zd;apply hZ9
 refine rc [1,3,7,9,10] fun K hK=>?_
 obtain⟨r14,hr14,h⟩:=bind_some h;refine zj tok 1 ?_;simp only[go_sem,qb,qg,qa,qd,t13];refine clN rfl rfl rfl (yh.ev a0 r14 hr14 _) ?_;obtain⟨r15,hr15,h⟩:=bind_some h;refine zj tok 2 ?_;simp only[go_sem,qb,qa,encGSchema];refine clN rfl rfl rfl (xV.ev r8.1 r15 hr15 _) ?_;obtain⟨r16,hr16,h⟩:=bind_some h;refine clN rfl rfl rfl (yL.ev r14 a1 r15 r16 hr16 _) ?_;refine zj tok 6 ?_;simp only[go_sem,qb,qg,qa,qd,cellsGTree];refine nkN hK ?_
 refine rc [9,10,11,12] fun K hK=>?_
 obtain⟨r17,hr17,h⟩:=bind_some h;refine rnN 3 ?_;refine clN rfl rfl rfl (wk.ev a0 a1 r8.1 r17 hr17 _) ?_;refine zj tok 6 ?_;simp only[go_sem,qb,qg,qa,qd,cellsGTree];refine nkN hK ?_
 refine rc [6] fun K hK=>?_
 obtain⟨r18,hr18,h⟩:=bind_some h;refine rnN 2 ?_;refine clN rfl rfl rfl (zN.ev rounds r16.1 r17.1 r18 hr18 _) ?_;refine rnN 1 ?_;refine zh 4 (fun L τ=>L=[(54,.bool (r18&&(decide (r16.2=r17.2))))]∧τ=[.cells 0 (encGSchema a0),.cells 0 (cellsGTree a2),.cells 0 (cellsGTree r16.1),.cells 0 (cellsGTree r17.1)]) ?_ ?_
 · refine zO (b:=r18) 50 rfl (fun hg50=>?_) (fun hg50=>?_)
   · refine rnN 4 ?_;refine zb ⟨rfl,_,_,⟨rfl,rfl⟩,.b hg50⟩
   refine rnN 4 ?_;refine zb ⟨rfl,_,_,⟨rfl,rfl⟩,.b hg50⟩
 rintro _ _ ⟨rfl,rfl⟩;refine rnN 1 ?_;obtain⟨c19,hc19,h⟩:=bind_some h;refine zh 2 (fun L τ=>L=[(57,.bool c19)]∧τ=[.cells 0 (encGSchema a0),.cells 0 (cellsGTree a2),.cells 0 (cellsGTree r16.1),.cells 0 (cellsGTree r17.1)]) ?_ ?_
 · refine zO (b:=(r18&&(decide (r16.2=r17.2)))) 55 rfl (fun hg55=>?_) (fun hg55=>?_)
   · rw[if_pos hg55] at hc19;obtain⟨r20,hr20,hc19⟩:=bind_some hc19;refine clN rfl rfl rfl (xU.ev  r20 hr20 _) ?_;refine rnN 1 ?_;cases hc19;refine zb ⟨rfl,_,_,⟨rfl,rfl⟩,.b hg55⟩
   rw[xQ hg55] at hc19;refine rnN 2 ?_;cases hc19;refine zb ⟨rfl,_,_,⟨rfl,rfl⟩,.b hg55⟩
 rintro _ _ ⟨rfl,rfl⟩;refine rnN 1 ?_;refine nkN hK ?_;cases h;exact rtA
end
section
set_option maxRecDepth 4000
set_option maxHeartbeats 1000000
open AM
def xb.l18 (we:GTree→Int→Option Int)(a1:Int)(x7:Int)(rec10:Int→Int→Option Int):List GTree→Int→Int→Option Int
 |[],x15,x14=>(rec10 (x7+1) x14)
 |y18::q18,x15,x14=>(we y18 (IntKind.i64.wrap (a1+1))).bind fun r30=>((xb.l18 we a1 x7 rec10 q18) (x15+1) (if x14<r30 then r30 else x14))
def xb.l10 (we:GTree→Int→Option Int)(a1:Int):List GEntry→Int→Int→Option Int
 |[],x7,x6=>some (if 101<IntKind.i64.wrap (x6+1) then 101 else IntKind.i64.wrap (x6+1))
 |y10::q10,x7,x6=>(xb.l18 we a1 x7 (xb.l10 we a1 q10) y10.fTrees 0 x6)
def xb.body (we:GTree→Int→Option Int)(a0:GTree)(a1:Int):Option Int:=
 (if ((!(decide (a0.fKind=3)))||(decide (100<a1)))=true then some 0 else (xb.l10 we a1 a0.fEntries 0 0))
def xb : Nat→GTree→Int→Option Int
 |0,_,_=>none
 |k+1,a0,a1=>xb.body (xb k) a0 a1
def X5 (a0:GTree):Option Int:=
 (xb rounds a0 0).bind fun r1=>some r1
def Xa (a0:GRaw):Bool:=
 (if ((decide (a0.fTag<1))||(decide (500<a0.fTag)))=true then false else (if a0.fWire=0 then decide (a0.fB=[]) else (((decide (a0.fWire=1))&&(decide (a0.fN=0)))&&(decide ((qc a0.fB:Int)≤4096)))))
def Yp.l4 (a1:Int):List GEntry→Int→Bool
 |[],x2=>false
 |y4::q4,x2=>(if y4.fTag=a1 then true else ((Yp.l4 a1 q4) (x2+1)))
def Yp (a0:GTree)(a1:Int):Bool:=
 (Yp.l4 a1 a0.fEntries 0)
def Zh.l4 (a0:List GRaw):Nat→Int→Option Bool
 |0,_=>none
 |k4+1,x2=>(if x2<(qc a0:Int) then (Zd a0 x2).bind fun y9=>(Zd a0 (IntKind.i64.wrap (x2-1))).bind fun y12=>(if y9.fTag<y12.fTag then some false else ((Zh.l4 a0 k4) (IntKind.i64.wrap (x2+1)))) else some true)
def Zh (a0:List GRaw):Option Bool:=
 (Zh.l4 a0 rounds 1)
def wn.j10 (x2:Int)(rec4:Int→Option Bool)(x9:Bool):Option Bool:=
 (if x9=true then some false else (rec4 (x2+1)))
def wn.l4 (a0:GTree):List GRaw→Int→Option Bool
 |[],x2=>(Zh a0.fRest).bind fun r6=>some r6
 |y4::q4,x2=>bnd (Xa y4) fun r14=>(if (!r14)=true then (wn.j10 x2 (wn.l4 a0 q4) true) else bnd (Yp a0 y4.fTag) fun r17=>(wn.j10 x2 (wn.l4 a0 q4) r17))
def wn (a0:GTree):Option Bool:=
 (wn.l4 a0 a0.fRest 0)
def wJ.body (xH:GTree→Option Bool)(Yw:(List GEntry)→Option Bool)(a0:GTree):Option Bool:=
 (if a0.fKind=1 then some (((decide (a0.fS=[]))&&(decide ((qc a0.fEntries:Int)=0)))&&(decide ((qc a0.fRest:Int)=0))) else (if a0.fKind=2 then some (((decide (a0.fN=0))&&(decide ((qc a0.fEntries:Int)=0)))&&(decide ((qc a0.fRest:Int)=0))) else (if a0.fKind=3 then (if ((decide (a0.fN=0))&&(decide (a0.fS=[])))=true then (Yw a0.fEntries).bind fun r16=>some r16 else some false).bind fun c16=>(if c16=true then (wn a0).bind fun r18=>some r18 else some false).bind fun c18=>some c18 else some false)))
def yo.j23 (x16:Int)(rec18:Int→Option Bool)(x22:Bool):Option Bool:=
 (if x22=true then some false else (rec18 (x16+1)))
def yo.l18 (xH:GTree→Option Bool)(x3:Int)(rec6:Int→Int→Option Bool)(y6:GEntry):List GTree→Int→Option Bool
 |[],x16=>(rec6 (x3+1) y6.fTag)
 |y18::q18,x16=>(Zd y6.fTrees 0).bind fun y27=>(if y18.fKind=y27.fKind then (xH y18).bind fun r34=>(yo.j23 x16 (yo.l18 xH x3 rec6 y6 q18) (!r34)) else (yo.j23 x16 (yo.l18 xH x3 rec6 y6 q18) true))
def yo.l6 (xH:GTree→Option Bool):List GEntry→Int→Int→Option Bool
 |[],x3,x2=>some true
 |y6::q6,x3,x2=>(if ((((decide (y6.fTag≤x2))||(decide (500<y6.fTag)))||(decide ((qc y6.fTrees:Int)<1)))||(decide (64<(qc y6.fTrees:Int))))=true then some false else (yo.l18 xH x3 (yo.l6 xH q6) y6 y6.fTrees 0))
def yo.body (xH:GTree→Option Bool)(Yw:(List GEntry)→Option Bool)(a0:List GEntry):Option Bool:=
 (yo.l6 xH a0 0 0)
mutual
def wJ : Nat→GTree→Option Bool
 |0,_=>none
 |k+1,a0=>wJ.body (wJ k) (yo k) a0
def yo : Nat→(List GEntry)→Option Bool
 |0,_=>none
 |k+1,a0=>yo.body (wJ k) (yo k) a0
end
def X6 (a0:GTree):Option Bool:=
 (X5 a0).bind fun r1=>(if r1≤10 then (wJ rounds a0).bind fun r2=>some r2 else some false).bind fun c2=>some c2
def wA.l8 : Nat→List UInt8→Int→Option (List UInt8)
 |0,_,_=>none
 |k8+1,l2,x4=>(if 128≤x4 then (ZY (qc l2+1) 1).bind fun _u13=>((wA.l8 k8) (l2++[uc (qI (IntKind.u8.wrap ((IntKind.u8.wrap ((x4).tmod 128))+128)))]) (IntKind.u64.wrap ((x4).tdiv 128))) else (ZY (qc l2+1) 1).bind fun _u17=>some (l2++[uc (qI (IntKind.u8.wrap x4))]))
def wA (a0:Int):Option (List UInt8):=
 (wA.l8 rounds ([]:List UInt8) a0)
def vbY (a0:Int):Int:=
 (if 0≤a0 then IntKind.u64.wrap (2*(IntKind.u64.wrap a0)) else IntKind.u64.wrap ((IntKind.u64.wrap (2*(IntKind.u64.wrap (IntKind.i64.wrap (0-(IntKind.i64.wrap (a0+1)))))))+1))
def vbW (a0:GRaw):Option (List UInt8):=
 (wA (IntKind.u64.wrap (IntKind.i64.wrap ((IntKind.i64.wrap (2*a0.fTag))+a0.fWire)))).bind fun r2=>(if a0.fWire=0 then bnd (vbY a0.fN) fun r6=>(wA r6).bind fun r7=>(ZY (qc r2+qc r7) 1).bind fun _u9=>some (r2++r7) else (wA (IntKind.u64.wrap (qc a0.fB:Int))).bind fun r13=>(ZY (qc r2+qc r13) 1).bind fun _u15=>(ZY (qc (r2++r13)+qc a0.fB) 1).bind fun _u17=>some ((r2++r13)++a0.fB))
def xu.l13 : List GRaw→Int→List UInt8→Option (List UInt8×Int)
 |[],x9,l7=>some (l7,0)
 |y13::q13,x9,l7=>(vbW y13).bind fun r19=>(ZY (qc l7+qc r19) 1).bind fun _u21=>(if 4096<(qc (l7++r19):Int) then some (([]:List UInt8),4) else ((xu.l13 q13) (x9+1) (l7++r19)))
def xu.l4 (a0:List GRaw):List GRaw→Int→Option (List UInt8×Int)
 |[],x2=>(xu.l13 a0 0 ([]:List UInt8))
 |y4::q4,x2=>bnd (Xa y4) fun r30=>(if (!r30)=true then some (([]:List UInt8),1) else ((xu.l4 a0 q4) (x2+1)))
def xu (a0:List GRaw):Option (List UInt8×Int):=
 (xu.l4 a0 a0 0)
def wz.body (xr:GTree→Option (List UInt8×Int))(Xt:GTree→Option (List GRaw×Int))(a0:GTree):Option (List UInt8×Int):=
 (Xt a0).bind fun r1=>(if r1.2=0 then (xu r1.1).bind fun r6=>some (r6.1,r6.2) else some (([]:List UInt8),r1.2))
def yJ.j37 (x18:Int)(l16:List GRaw)(rec22:Int→List GRaw→Option (List GRaw×Int))(m2_36:GRaw):Option (List GRaw×Int):=
 (if 4096<(qc m2_36.fB:Int) then some (([]:List GRaw),4) else (ZY (qc l16+1) 40).bind fun _u42=>(rec22 (x18+1) (l16++[m2_36])))
def yJ.l22 (xr:GTree→Option (List UInt8×Int))(x4:Int)(rec8:Int→List GRaw→Option (List GRaw×Int))(y8:GEntry):List GTree→Int→List GRaw→Option (List GRaw×Int)
 |[],x18,l16=>(rec8 (x4+1) l16)
 |y22::q22,x18,l16=>(if y22.fKind=1 then (yJ.j37 x18 l16 (yJ.l22 xr x4 rec8 y8 q22) (⟨y8.fTag,0,y22.fN,[]⟩:GRaw)) else (if y22.fKind=2 then (yJ.j37 x18 l16 (yJ.l22 xr x4 rec8 y8 q22) (⟨y8.fTag,1,0,y22.fS⟩:GRaw)) else (xr y22).bind fun r50=>(if r50.2=0 then (yJ.j37 x18 l16 (yJ.l22 xr x4 rec8 y8 q22) (⟨y8.fTag,1,0,r50.1⟩:GRaw)) else some (([]:List GRaw),r50.2))))
def yJ.l8 (xr:GTree→Option (List UInt8×Int))(a0:GTree):List GEntry→Int→List GRaw→Option (List GRaw×Int)
 |[],x4,l2=>(ZY (qc l2+qc a0.fRest) 40).bind fun _u11=>(zA (l2++a0.fRest)).bind fun r13=>some (r13,0)
 |y8::q8,x4,l2=>(yJ.l22 xr x4 (yJ.l8 xr a0 q8) y8 y8.fTrees 0 l2)
def yJ.body (xr:GTree→Option (List UInt8×Int))(Xt:GTree→Option (List GRaw×Int))(a0:GTree):Option (List GRaw×Int):=
 (yJ.l8 xr a0 a0.fEntries 0 ([]:List GRaw))
mutual
def wz : Nat→GTree→Option (List UInt8×Int)
 |0,_=>none
 |k+1,a0=>wz.body (wz k) (yJ k) a0
def yJ : Nat→GTree→Option (List GRaw×Int)
 |0,_=>none
 |k+1,a0=>yJ.body (wz k) (yJ k) a0
end
def XB (a0:GTree):Option (List UInt8×Int):=
 (if a0.fKind=3 then (X6 a0).bind fun r2=>some (!r2) else some true).bind fun c2=>(if c2=true then some (([]:List UInt8),1) else (wz rounds a0).bind fun r7=>some (r7.1,r7.2))
end
section
set_option maxRecDepth 4000
open AM
def vb (n:Nat):List UInt8:=if h:n<128 then [uc n] else uc (n % 128+128)::vb (n / 128)
termination_by n
decreasing_by omega
theorem vb_lt {n:Nat}(h:n<128):vb n=[uc n]:=by rw[vb,dif_pos h]
theorem vb_ge {n:Nat}(h:¬ n<128):vb n=uc (n % 128+128)::vb (n / 128):=by rw[vb,dif_neg h]
theorem vb_pos (n:Nat):0<(vb n).length:=by
 by_cases h:n<128
 · rw[vb_lt h]; exact Nat.one_pos
 rw[vb_ge h,qj]; omega
theorem vb_len : ∀ (k n:Nat),n<2^(7*(k+1))→(vb n).length≤k+1
 |0,n,h=>by rw[vb_lt (by simpa using h)]; exact qv _
 |k+1,n,h=>by
  by_cases h1:n<128
  · rw[vb_lt h1,qj,ql]; omega
  rw[vb_ge h1,qj]
  have:=vb_len k (n / 128) (by
   have e:2^(7*(k+1+1))=128*2^(7*(k+1)):=by rw[show 7*(k+1+1)=7+7*(k+1) by omega,Nat.pow_add]
   rw[e] at h
   exact Nat.div_lt_of_lt_mul h)
  omega
theorem ZW {n:Nat}(h:n<2^64):(vb n).length≤10:=vb_len 9 n (uk h (by decide))
theorem Xd {p:Prop} [Decidable p](h:p):grd p=some ():=if_pos h
theorem xx {n b:Nat}(h:n*b≤140737488355328):ZY n b=some ():=if_pos h
theorem u64w {n:Nat}(h:n<2^64):IntKind.u64.wrap (n:Int)=(n:Int):=by rw[IntKind.wrap_u64]; omega
theorem u64i {x:Int}(h:0≤x)(h':x<18446744073709551616):IntKind.u64.wrap x=x:=by rw[IntKind.wrap_u64]; omega
theorem u8w (n:Nat):IntKind.u8.wrap (n:Int)=((n % 256:Nat):Int):=by
 simp only[IntKind.wrap,IntKind.bits,IntKind.signed,Bool.false_and]
 simp
theorem va5 (n:Nat)(h:n<256):(uc n).toNat=n:=by
 rw[UInt8.toNat_ofNat']; omega
theorem or128 : ∀ m:Fin 256,(qE 8 ((m.val:Nat):Int) ||| qE 8 128).toNat=m.val % 128+128:=by decide
theorem and127 : ∀ m:Fin 256,(qE 8 ((m.val:Nat):Int) &&& ~~~(qE 8 128)).toNat=m.val % 128:=by decide
theorem moreByte (n:Nat):uc (qI (IntKind.u8.wrap ((ur (qE 8 (IntKind.u8.wrap (n:Int)) ||| qE 8 128):Nat):Int)))=uc (n % 128+128):=by
 have h:=or128 ⟨n % 256,Nat.mod_lt _ (by decide)⟩;simp only at h;rw[u8w n,h,u8w (n % 256 % 128+128),qX]
 congr 1
 have:=Nat.mod_mod_of_dvd n (show 128 ∣ 256 by decide)
 omega
theorem lastByte (n:Nat)(h:n<128):uc (qI (IntKind.u8.wrap (n:Int)))=uc n:=by
 rw[u8w,qX]; congr 1; omega
theorem shr7 (n:Nat):Int.fdiv (n:Int) (2^(min (qI 7) 64))=((n / 128:Nat):Int):=by
 rw[show ((2:Int)^(min (qI 7) 64))=128 from by decide,Int.fdiv_eq_ediv_of_nonneg _ (by decide)]
 omega
theorem vint_Put_l : ∀ (k n:Nat) (l:List UInt8),n<2^(7*k)→l.length+k≤140737488355328→xo.l9 k l (n:Int)=some (l++vb n)∨k=0
 |0,_,_,_,_=>Or.inr rfl
 |k+1,n,l,h,hl=>by
  left
  by_cases h1:n<128
  · rw[xo.l9,if_neg (by omega),xx (by omega),qf,lastByte n h1,vb_lt h1]
  rw[xo.l9,if_pos (by omega),xx (by omega),qf,moreByte,shr7,vb_ge h1]
  have hk:n / 128<2^(7*k):=by
   have e:2^(7*(k+1))=128*2^(7*k):=by rw[show 7*(k+1)=7+7*k by omega,Nat.pow_add]
   rw[e] at h; exact Nat.div_lt_of_lt_mul h
  rcases vint_Put_l k (n / 128) (l++[uc (n % 128+128)]) hk (by rw[qi,qC]; omega) with e|e
  · rw[e,qp]; rfl
  exfalso; subst e; simp at hk; omega
theorem vint_Put_m : ∀ (k j n:Nat) (l r:List UInt8),xo.l9 k l (n:Int)=some r→xo.l9 (k+j) l (n:Int)=some r
 |0,_,_,_,_,h=>by cases h
 |k+1,j,n,l,r,h=>by
  rw[Nat.succ_add_eq_add_succ,Nat.add_succ]
  by_cases h1:(128:Int)≤(n:Int)
  · rw[xo.l9,if_pos h1] at h ⊢
    cases hr:ZY (qc l+1) 1 with
    |none=>rw[hr] at h; cases h
    |some u=>
     rw[hr,qf,shr7] at h
     rw[qf,shr7]; exact vint_Put_m k j _ _ _ h
  rw[xo.l9,if_neg h1] at h ⊢; exact h
theorem X3 (a:List UInt8){n:Nat}(h:n<2^64)(ha:a.length≤140737488355000):xo a (n:Int)=some (a++vb n):=by
 by_cases h1:n<128
 · rw[xo,if_neg (by omega),xx (by omega),qf,lastByte n h1,vb_lt h1]
 rw[xo,if_pos (by omega),xx (by omega),qf,moreByte,shr7,vb_ge h1]
 rcases vint_Put_l 10 (n / 128) (a++[uc (n % 128+128)]) (by omega) (by rw[qi,qC]; omega) with e|e
 · have:=vint_Put_m 10 999999999999999999990 _ _ _ e;rw[show 10+999999999999999999990=rounds from rfl] at this
   rw[this,qp]; rfl
 cases e
theorem orAdd {i acc d:Nat}(h:acc<2^i):acc ||| d*2^i=acc+d*2^i:=by
 rw[Nat.or_comm,Nat.mul_comm,← Nat.two_pow_add_eq_or_of_lt h]; omega
theorem bv64 {n:Nat}(h:n<2^64):(qE 64 (n:Int)).toNat=n:=by
 rw[BitVec.ofInt_natCast,BitVec.toNat_ofNat]; exact Nat.mod_eq_of_lt h
theorem stepv {acc i:Nat}{y:UInt8}(hi:i≤9)(ha:acc<2^(7*i))(h9:i=9→y.toNat≤1):IntKind.u64.wrap ((ur (qE 64 (acc:Int) ||| qE 64 (IntKind.u64.wrap ((IntKind.u64.wrap (IntKind.u8.wrap ((ur (qE 8 (y.toNat:Int) &&& ~~~(qE 8 128)):Nat):Int)))*2^(min (qI (IntKind.i64.wrap (7*(i:Int)))) 64)))):Nat):Int)=((acc+(y.toNat % 128)*2^(7*i):Nat):Int)∧acc+(y.toNat % 128)*2^(7*i)<2^64∧(i<9→acc+(y.toNat % 128)*2^(7*i)<2^(7*(i+1))):=by
 have hy:y.toNat<256:=y.toNat_lt;have h:=and127 ⟨y.toNat,hy⟩;simp only at h
 have e:IntKind.i64.wrap (7*(i:Int))=((7*i:Nat):Int):=by rw[yj (by omega) (by omega)]; omega
 have hm:min (7*i) 64=7*i:=by omega
 have hd:y.toNat % 128<128:=Nat.mod_lt _ (by decide)
 have hp:2^(7*(i+1))=128*2^(7*i):=by rw[show 7*(i+1)=7+7*i by omega,Nat.pow_add]
 have hs:i<9→acc+(y.toNat % 128)*2^(7*i)<2^(7*(i+1)):=by
  intro _
  rw[hp];have:(y.toNat % 128)*2^(7*i)≤127*2^(7*i):=q3 _ (by omega)
  omega
 have hb:acc+(y.toNat % 128)*2^(7*i)<2^64:=by
  by_cases h8:i<9
  · have:=hs h8;have h2:2^(7*(i+1))≤2^63:=Nat.pow_le_pow_right (by decide) (by omega)
    omega
  have hi9:i=9:=by omega
  have h1:=h9 hi9;subst hi9
  have:y.toNat % 128≤1:=by omega
  have h2:(y.toNat % 128)*2^(7*9)≤1*2^(7*9):=q3 _ this
  omega
 refine⟨?_,hb,hs⟩;rw[h,u8w,Nat.mod_eq_of_lt (show y.toNat % 128<256 by omega),e,qX,hm]
 have hc:((((y.toNat % 128:Nat):Int))*2^(7*i))=(((y.toNat % 128)*2^(7*i):Nat):Int):=by
  rw[Int.natCast_mul,Int.natCast_pow]; rfl
 have hu:IntKind.u64.wrap ((y.toNat % 128:Nat):Int)=((y.toNat % 128:Nat):Int):=u64w (by omega);rw[hu,hc,u64w (n:=y.toNat % 128*2^(7*i)) (by omega),BitVec.toNat_or,bv64 (by omega),bv64 (by omega),orAdd ha,u64w hb]
theorem vbB (a:Nat)(hA:a≤4611686018427387904):∀ (q post:List UInt8) (v i acc:Nat),q=vb v++post→i≤9→acc<2^(7*i)→v*2^(7*i)<2^64→(0<i→v≠0)→
 xp.l12 (a:Int) q (i:Int) (acc:Int)=some (((acc+v*2^(7*i):Nat):Int),((a+i+(vb v).length:Nat):Int),0)
 |[],post,v,i,acc,h,_,_,_,_=>by
  have:=vb_pos v;have h2:=congrArg qc h
  rw[qi,ql] at h2; omega
 |y::q,post,v,i,acc,h,hi,ha,hv,h0=>by
  by_cases h1:v<128
  · rw[vb_lt h1] at h ⊢
    obtain⟨rfl,rfl⟩:y=uc v∧q=post:=by injection h with h2 h3; exact⟨h2,h3⟩
    have hy:(uc v).toNat=v:=va5 v (by omega)
    have h9:i=9→v≤1:=by
     intro e; subst e
     apply Nat.le_of_not_lt; intro hc
     have:2*2^(7*9)≤v*2^(7*9):=q3 _ hc
     omega
    have st:=(stepv (y:=uc v) hi ha (by rw[hy]; exact h9)).1;have hw1:IntKind.i64.wrap (7*(i:Int))=7*(i:Int):=yj (by omega) (by omega);rw[xp.l12,st,hy];rw[if_neg (by simp only[qo,decide_eq_true_eq,not_and]; intro e; have:=h9 (by omega); omega),Xd (by rw[yj (by omega) (by omega)]; omega),qf,if_neg (by omega),if_neg (by simp only[qo,decide_eq_true_eq,not_and]; intro e e2; exact h0 (by omega) (by omega))];rw[Nat.mod_eq_of_lt h1,yj (x:=(a:Int)+(i:Int)) (by omega) (by omega),yj (x:=(a:Int)+(i:Int)+1) (by omega) (by omega),qC];simp only[Int.natCast_add,Int.natCast_one]
  rw[vb_ge h1] at h ⊢
  obtain⟨rfl,rfl⟩:y=uc (v % 128+128)∧q=vb (v / 128)++post:=by injection h with h2 h3; exact⟨h2,h3⟩
  have hy:(uc (v % 128+128)).toNat=v % 128+128:=va5 _ (by omega)
  have hi8:i<9:=by
   apply Nat.lt_of_not_le; intro hc
   have:i=9:=by omega
   subst this;have:128*2^(7*9)≤v*2^(7*9):=q3 _ (by omega)
   omega
  obtain⟨st,sb,sn⟩:=stepv (y:=uc (v % 128+128)) hi ha (by intro e; omega);rw[xp.l12,st,hy,if_neg (by simp only[qo,decide_eq_true_eq,not_and]; intro e; omega),Xd (by rw[yj (by omega) (by omega)]; omega),qf,if_pos (by omega)];rw[hy] at sn
  have hm:(v % 128+128) % 128=v % 128:=by omega
  rw[hm] at sn ⊢
  have hp:2^(7*(i+1))=128*2^(7*i):=by rw[show 7*(i+1)=7+7*i by omega,Nat.pow_add]
  have hvd:v=128*(v / 128)+v % 128:=(Nat.div_add_mod v 128).symm
  have hmul:v*2^(7*i)=(v / 128)*2^(7*(i+1))+(v % 128)*2^(7*i):=by
   rw[hp]
   calc v*2^(7*i)=(128*(v / 128)+v % 128)*2^(7*i):=by rw[← hvd]
    _=_:=by rw[u0,Nat.mul_comm 128,Nat.mul_assoc]
  have ih:=vbB a hA (vb (v / 128)++post) post (v / 128) (i+1) (acc+v % 128*2^(7*i)) rfl (by omega) (sn hi8) (by rw[hmul] at hv; omega) (by intro _; omega);rw[show ((i:Int)+1)=((i+1:Nat):Int) by omega,ih,hmul,qj]
  congr 2
  · congr 1; omega
  congr 2; omega
theorem vbA (a:Nat)(hA:a≤4611686018427387904):∀ (q:List UInt8) (i acc:Nat),i+q.length≤10→acc<2^(7*i)→∃ r,xp.l12 (a:Int) q (i:Int) (acc:Int)=some r∧
 (r.2.2=0→∃ v post,q=vb v++post∧v*2^(7*i)<2^64∧(0<i→v≠0))∧0≤r.2.2
 |[],i,acc,_,_=>⟨_,rfl,(by intro h; cases h),by decide⟩
 |y::q,i,acc,hl,ha=>by
  rw[qj] at hl;rw[xp.l12]
  by_cases h9:((decide ((i:Int)=9))&&(decide (1<(y.toNat:Int))))=true
  · rw[if_pos h9]; exact⟨_,rfl,(by intro h; cases h),by decide⟩
  rw[if_neg h9]
  have h9':i=9→y.toNat≤1:=by
   intro e
   simp only[qo,decide_eq_true_eq,not_and] at h9
   have:=h9 (by omega); omega
  obtain⟨st,sb,sn⟩:=stepv (y:=y) (show i≤9 by omega) ha h9';rw[st,Xd (by rw[yj (by omega) (by omega)]; omega),qf];have hy:y.toNat<256:=y.toNat_lt
  by_cases h1:(128:Int)≤(y.toNat:Int)
  · rw[if_pos h1]
    have hi8:i<9:=by
     apply Nat.lt_of_not_le; intro hc
     have:=h9' (by omega); omega
    obtain⟨r,e,hr,h0⟩:=vbA a hA q (i+1) (acc+y.toNat % 128*2^(7*i)) (by omega) (sn hi8);rw[show ((i:Int)+1)=((i+1:Nat):Int) by omega];refine⟨r,e,?_,h0⟩
    intro hz
    obtain⟨v,post,hq,hv,hn⟩:=hr hz
    have hp:2^(7*(i+1))=128*2^(7*i):=by rw[show 7*(i+1)=7+7*i by omega,Nat.pow_add]
    have hvn:=hn (by omega)
    have hw:¬ (v*128+y.toNat % 128)<128:=by omega
    refine⟨v*128+y.toNat % 128,post,?_,?_,by intro _; omega⟩
    · rw[vb_ge hw,show (v*128+y.toNat % 128) % 128+128=y.toNat by omega,show (v*128+y.toNat % 128) / 128=v by omega,UInt8.ofNat_toNat,hq]; rfl
    rw[hp] at hv
    have hmul:(v*128+y.toNat % 128)*2^(7*i)=v*(128*2^(7*i))+y.toNat % 128*2^(7*i):=by rw[u0,Nat.mul_assoc]
    rw[hmul]
    by_cases hi7:i<9
    · have hd:y.toNat % 128*2^(7*i)<128*2^(7*i):=Nat.mul_lt_mul_of_pos_right (by omega) (Nat.pow_pos (by decide))
      have h64:128*2^(7*i) ∣ 2^64:=by rw[← hp]; exact Nat.pow_dvd_pow 2 (by omega)
      obtain⟨c,hc⟩:=h64;rw[hc] at hv ⊢
      have hvc:v<c:=by
       apply Nat.lt_of_not_le; intro hle
       have:=q3 (128*2^(7*i)) hle
       rw[Nat.mul_comm c] at this; omega
      have h3:(v+1)*(128*2^(7*i))≤c*(128*2^(7*i)):=q3 _ hvc;rw[u0,Nat.one_mul] at h3
      rw[Nat.mul_comm (128*2^(7*i)) c]; omega
    omega
  rw[if_neg h1]
  by_cases h2:((decide ((y.toNat:Int)=0))&&(decide (0<(i:Int))))=true
  · rw[if_pos h2]; exact⟨_,rfl,(by intro h; cases h),by decide⟩
  rw[if_neg h2];refine⟨_,rfl,?_,ve 0⟩
  intro _
  refine⟨y.toNat,q,?_,?_,?_⟩
  · rw[vb_lt (by omega),UInt8.ofNat_toNat]; rfl
  · rw[Nat.mod_eq_of_lt (by omega)] at sb; omega
  intro hi e
  apply h2
  simp only[qo,decide_eq_true_eq]; omega
theorem vbt {b:List UInt8}{n:Nat}(hb:b.length≤4096)(hn:n≤b.length):xp b (n:Int)=xp.l12 (n:Int) ((b.drop n).take 10) 0 0:=by
 have e1:IntKind.i64.wrap ((qc b:Int)-(n:Int))=((b.length-n:Nat):Int):=by rw[yj (by omega) (by omega)]; omega
 rw[xp,if_neg (by simp only[qJ,decide_eq_true_eq]; omega),e1]
 by_cases h:(10:Int)<((b.length-n:Nat):Int)
 · rw[if_pos h]
   have e2:IntKind.i64.wrap ((n:Int)+10)=((n+10:Nat):Int):=by rw[yj (by omega) (by omega)]; omega
   rw[e2,Xd (by omega),qf,Y2,qX,qX,show n+10-n=10 by omega]
 rw[if_neg h]
 have e2:IntKind.i64.wrap ((n:Int)+((b.length-n:Nat):Int))=(b.length:Int):=by rw[yj (by omega) (by omega)]; omega
 rw[e2,Xd (by omega),qf,Y2,qX,qX,um (by rw[uR]; exact qv _),um (by rw[uR]; omega)]
theorem get_ok {b post:List UInt8}{n v:Nat}(hb:b.length≤4096)(hn:n≤b.length)(h:b.drop n=vb v++post)(hv:v<2^64):xp b (n:Int)=some ((v:Int),((n+(vb v).length:Nat):Int),0):=by
 have:=vbB n (by omega) ((b.drop n).take 10) (post.take (10-(vb v).length)) v 0 0 (by rw[h,List.take_append,um (ZW hv)]) (by omega) (by decide) (by omega) (by omega);rw[vbt hb hn]
 simpa using this
theorem get_inv {b:List UInt8}{n:Nat}(hb:b.length≤4096)(hn:n≤b.length):∃ r,xp b (n:Int)=some r∧(r.2.2=0→∃ v post,b.drop n=vb v++post∧v<2^64∧r=((v:Int),((n+(vb v).length:Nat):Int),0))∧0≤r.2.2:=by
 obtain⟨r,e,hr,h0⟩:=vbA n (by omega) ((b.drop n).take 10) 0 0 (by rw[uN]; omega) (by decide);rw[vbt hb hn];refine⟨r,e,?_,h0⟩
 intro hz
 obtain⟨v,post,hq,hv,_⟩:=hr hz
 have hv':v<2^64:=by omega
 have hd:b.drop n=vb v++(post++(b.drop n).drop 10):=by
  rw[← qp,← hq,ut]
 refine⟨v,_,hd,hv',?_⟩;have:=get_ok hb hn hd hv';rw[vbt hb hn] at this;exact Option.some.inj (e.symm.trans this)
end
section
set_option maxRecDepth 4000
open AM
def In64 (n:Int):Prop := -9223372036854775808≤n∧n<9223372036854775808
def zg (n:Int):Nat:=if 0≤n then (2*n).toNat else (-2*n-1).toNat
def zu (v:Nat):Int:=if v % 2=0 then ((v / 2:Nat):Int) else -((v / 2:Nat):Int)-1
theorem zg_lt {n:Int}(h:In64 n):zg n<2^64:=by
 unfold zg; obtain⟨h1,h2⟩:=h; split<;>omega
theorem zu_zg (n:Int):zu (zg n)=n:=by
 unfold zg zu; split<;>split<;>omega
theorem zg_zu (v:Nat):zg (zu v)=v:=by
 unfold zg zu; split<;>split<;>omega
theorem zu_in {v:Nat}(h:v<2^64):In64 (zu v):=by
 unfold zu In64; split<;>omega
theorem bvm1 : qE 64 (-1)=BitVec.allOnes 64:=by decide
theorem bv0 : qE 64 0=0#64:=by decide
theorem fdiv2 (n:Int)(k:Nat):Int.fdiv n (2^k)=n / (2^k):=Int.fdiv_eq_ediv_of_nonneg _ (Int.le_of_lt (Int.pow_pos (by decide)))
theorem vint_Zig_eq {n:Int}(h:In64 n):ZU n=(zg n:Int):=by
 obtain⟨h1,h2⟩:=h;unfold ZU zg;rw[show min (qI 1) 64=1 from rfl,show min (qI 63) 64=63 from rfl,fdiv2]
 by_cases h0:0≤n
 · have e:n / 2^63=0:=Int.ediv_eq_zero_of_lt h0 (by omega);rw[if_pos h0,e,show IntKind.u64.wrap 0=0 from by rw[IntKind.wrap_u64]; rfl,bv0,BitVec.xor_zero]
   have e2:IntKind.u64.wrap (IntKind.u64.wrap n*2^1)=(((2*n).toNat:Nat):Int):=by rw[IntKind.wrap_u64,IntKind.wrap_u64]; omega
   rw[e2,bv64 (by omega),u64w (by omega)]
 have e:n / 2^63 = -1:=by omega
 have e1:IntKind.u64.wrap (-1)=18446744073709551615:=by rw[IntKind.wrap_u64]; rfl
 have e3:qE 64 18446744073709551615=BitVec.allOnes 64:=by decide
 rw[if_neg h0,e,e1,e3,BitVec.xor_allOnes,BitVec.toNat_not]
 have e2:IntKind.u64.wrap (IntKind.u64.wrap n*2^1)=(((2*n+18446744073709551616).toNat:Nat):Int):=by rw[IntKind.wrap_u64,IntKind.wrap_u64]; omega
 rw[e2,bv64 (by omega),u64w (by omega)]
 omega
theorem vbz {v:Nat}(h:v<2^64):ZV (v:Int)=zu v:=by
 unfold ZV zu;rw[show min (qI 1) 64=1 from rfl,fdiv2]
 have ea:(qE 64 (v:Int) &&& qE 64 1).toNat=v % 2:=by
  rw[BitVec.toNat_and,bv64 h,show (qE 64 1).toNat=1 from by decide,Nat.and_one_is_mod]
 have e1:IntKind.i64.wrap ((v:Int) / 2^1)=((v / 2:Nat):Int):=by rw[yj (by omega) (by omega)]; omega
 rw[ea,e1,u64w (n:=v % 2) (by omega)]
 by_cases h0:v % 2=0
 · rw[if_pos h0,h0]
   have e2:IntKind.i64.wrap (0-IntKind.i64.wrap ((0:Nat):Int))=0:=by decide
   rw[e2,bv0,BitVec.xor_zero,bv64 (by omega),yj (by omega) (by omega)]
 have h1:v % 2=1:=by omega
 rw[if_neg h0,h1]
 have e2:IntKind.i64.wrap (0-IntKind.i64.wrap ((1:Nat):Int)) = -1:=by decide
 rw[e2,bvm1,BitVec.xor_allOnes,BitVec.toNat_not,bv64 (by omega),IntKind.wrap_i64]
 omega
def XE (r:GRaw):Prop:=yn r=true∧In64 r.fN
def vbe (r:GRaw):Nat:=(2*r.fTag+r.fWire).toNat
def vaG (r:GRaw):List UInt8:=vb (vbe r)++(if r.fWire=0 then vb (zg r.fN) else vb r.fB.length++r.fB)
def Yh (l:List GRaw):List UInt8:=l.flatMap vaG
theorem ZC {r:GRaw}(h:yn r=true):1≤r.fTag∧r.fTag≤500∧((r.fWire=0∧r.fB=[])∨(r.fWire=1∧r.fN=0∧r.fB.length≤4096)):=by
 unfold yn at h
 split at h
 · cases h
 rename_i h1
 simp only[qJ,decide_eq_true_eq,not_or] at h1;refine⟨by omega,by omega,?_⟩
 split at h
 · left; exact⟨‹_›,by simpa using h⟩
 split at h
 · right
   simp only[qo,decide_eq_true_eq] at h;exact⟨‹_›,h.1,by omega⟩
 cases h
theorem check_num {t n:Int}(h1:1≤t)(h2:t≤500):yn ⟨t,0,n,[]⟩=true:=by
 unfold yn
 rw[if_neg (by simp only[qJ,decide_eq_true_eq]; omega)]; rfl
theorem vaW {t:Int}{s:List UInt8}(h1:1≤t)(h2:t≤500)(h3:s.length≤4096):yn ⟨t,1,0,s⟩=true:=by
 unfold yn;rw[if_neg (by simp only[qJ,decide_eq_true_eq]; omega)];simp only[decide_true,uC]
 rw[if_neg (by decide),if_pos trivial]; exact decide_eq_true (by omega)
theorem rawB_pos (r:GRaw):2≤(vaG r).length:=by
 unfold vaG;have h1:=vb_pos (vbe r);have h2:=vb_pos (zg r.fN);have h3:=vb_pos r.fB.length
 split<;>simp only[qi]<;>omega
theorem rawB_le {r:GRaw}(h:XE r):(vaG r).length≤4116:=by
 obtain⟨hc,hn⟩:=h;obtain⟨h1,h2,h3⟩:=ZC hc;unfold vaG vbe;have k1:(vb (2*r.fTag+r.fWire).toNat).length≤10:=ZW (by omega);have k2:(vb (zg r.fN)).length≤10:=ZW (zg_lt hn)
 rcases h3 with ⟨h3,h4⟩|⟨h3,h4,h5⟩
 · rw[if_pos h3,qi]; omega
 have k3:(vb r.fB.length).length≤10:=ZW (by omega)
 rw[if_neg (by omega),qi,qi]; omega
theorem wire_Put_eq {a:List UInt8}{r:GRaw}(h:XE r)(ha:a.length≤1000000):ZT a r=some (a++vaG r,true):=by
 obtain⟨hc,hn⟩:=h;obtain⟨h1,h2,h3⟩:=ZC hc;unfold ZT bnd
 rw[hc]; simp only[]
 have ek:IntKind.u64.wrap (IntKind.i64.wrap ((IntKind.i64.wrap (2*r.fTag))+r.fWire))=((vbe r:Nat):Int):=by
  rw[yj (x:=2*r.fTag) (by omega) (by omega),yj (by omega) (by omega),u64i (by omega) (by omega),vbe]; omega
 have k1:vbe r<2^64:=by unfold vbe; omega
 have kl:=ZW k1;rw[if_neg (by decide),ek,X3 a k1 (by omega),qf]
 rcases h3 with ⟨h3,h4⟩|⟨h3,h4,h5⟩
 · rw[if_pos h3,vint_Zig_eq hn,X3 _ (zg_lt hn) (by rw[qi]; omega),qf,vaG,if_pos h3,qp]
 have hb:=ZW (n:=r.fB.length) (by omega);rw[if_neg (by omega),u64w (by omega),X3 _ (by omega) (by rw[qi]; omega),qf,xx (by simp only[qi]; omega),qf,vaG,if_neg (by omega)];simp only[qp]
theorem putAll_l11 : ∀ (q:List GRaw) (x:Int) (acc:List UInt8),(∀ r∈q,XE r)→acc.length≤4096→ye.l11 q x acc=some (if 4096<(acc++Yh q).length then ([],4) else (acc++Yh q,0))
 |[],x,acc,_,ha=>by
  rw[ye.l11,Yh,uo,qz,if_neg (by omega)]
 |r::q,x,acc,h,ha=>by
  have hr:=h r (qn ..)
  rw[ye.l11,wire_Put_eq hr (by omega),qf]; dsimp only
  have e:acc++Yh (r::q)=(acc++vaG r)++Yh q:=by rw[Yh,qP,qp]; rfl
  rw[e]
  by_cases h1:4096<(acc++vaG r).length
  · rw[if_pos (by omega),if_pos (by rw[qi]; omega)]
  rw[if_neg (by omega),putAll_l11 q (x+1) _ (fun s hs=>h s (qm _ hs)) (by omega)]
theorem putAll_l4 (a:List GRaw):∀ (q:List GRaw) (x:Int),ye.l4 a q x=if q.all yn then ye.l11 a 0 [] else some ([],1)
 |[],x=>by rw[ye.l4]; rfl
 |r::q,x=>by
  rw[ye.l4,bnd,q1]
  by_cases h:yn r=true
  · rw[h,if_neg (by decide),putAll_l4 a q]; rfl
  rw[if_pos (by simpa using h),if_neg (by rw[qo]; exact fun hh=>h hh.1)]
theorem putAll_eq {l:List GRaw}(h:∀ r∈l,In64 r.fN):ye l=some (if l.all yn then (if 4096<(Yh l).length then ([],4) else (Yh l,0)) else ([],1)):=by
 rw[ye,putAll_l4]
 by_cases h1:l.all yn=true
 · rw[if_pos h1,if_pos h1,putAll_l11 l 0 [] (fun r hr=>⟨ug.1 h1 r hr,h r hr⟩) (by decide)]; rfl
 rw[if_neg h1,if_neg h1]
theorem Xj {b x post:List UInt8}{n:Nat}(h:b.drop n=x++post):b.drop (n+x.length)=post:=by
 rw[← vg,h,List.drop_left' rfl]
theorem Xi {b x post:List UInt8}{n:Nat}(hn:n≤b.length)(h:b.drop n=x++post):n+x.length+post.length=b.length:=by
 have:=congrArg qc h
 rw[uR,qi] at this; omega
theorem one_ok {b post:List UInt8}{n:Nat}{r:GRaw}(hb:b.length≤4096)(hn:n≤b.length)(h:b.drop n=vaG r++post)(hr:XE r):wO b (n:Int)=some (r,((n+(vaG r).length:Nat):Int),0):=by
 obtain⟨hc,hN⟩:=hr;obtain⟨h1,h2,h3⟩:=ZC hc
 have k1:vbe r<2^64:=by unfold vbe; omega
 rw[vaG,qp] at h;have hl:=Xi hn h;unfold wO;rw[get_ok hb hn h k1,qf];have hk:vbe r=(2*r.fTag+r.fWire).toNat:=rfl
 have d1:((vbe r:Nat):Int).tdiv 2=r.fTag:=by rw[Int.tdiv_eq_ediv_of_nonneg (by omega),hk]; rcases h3 with h3|h3<;>omega
 have d2:((vbe r:Nat):Int).tmod 2=r.fWire:=by rw[Int.tmod_eq_emod_of_nonneg (by omega),hk]; rcases h3 with h3|h3<;>omega
 simp only[d1,d2];rw[if_pos trivial,if_neg (by rw[u64i (by omega) (by omega)]; simp only[qJ,decide_eq_true_eq]; omega),u64i (x:=r.fTag) (by omega) (by omega),yj (x:=r.fTag) (by omega) (by omega),yj (x:=r.fWire) (by omega) (by omega)];have h':=Xj h
 rcases h3 with ⟨h3,h4⟩|⟨h3,h4,h5⟩
 · rw[if_pos h3] at h';rw[get_ok hb (by omega) h' (zg_lt hN),qf];simp only[];rw[if_pos trivial,if_pos h3,bnd,vbz (zg_lt hN),zu_zg,vaG,if_pos h3]
   have e:r=⟨r.fTag,r.fWire,r.fN,[]⟩:=by cases r; simp only at h4; subst h4; rfl
   rw[← e,qi,uX]
 rw[if_neg (by omega)] at h' hl;rw[qp] at h';have hl':=Xi (by omega) h';rw[qi] at hl';rw[get_ok hb (by omega) h' (show r.fB.length<2^64 by omega),qf];simp only[];have h'':=Xj h'
 have e1:IntKind.i64.wrap ((b.length:Int)-((n+(vb (vbe r)).length+(vb r.fB.length).length:Nat):Int))=((r.fB.length+post.length:Nat):Int):=by rw[yj (by omega) (by omega)]; omega
 have e2:IntKind.i64.wrap (r.fB.length:Int)=(r.fB.length:Int):=yj (by omega) (by omega)
 have e3:IntKind.i64.wrap (((n+(vb (vbe r)).length+(vb r.fB.length).length:Nat):Int)+(r.fB.length:Int))=((n+(vb (vbe r)).length+(vb r.fB.length).length+r.fB.length:Nat):Int):=by rw[yj (by omega) (by omega)]; omega
 rw[if_pos trivial,if_neg (by omega),e1,u64w (by omega),if_neg (by omega),e2,e3,Xd (by omega),qf,Y2,qX,qX,h'',Nat.add_sub_cancel_left,List.take_left' rfl,vaG,if_neg (by omega),qi,qi]
 have e:r=⟨r.fTag,r.fWire,0,r.fB⟩:=by cases r; simp only at h4; subst h4; rfl
 rw[← e,show n+(vb (vbe r)).length+(vb r.fB.length).length+r.fB.length=n+((vb (vbe r)).length+((vb r.fB.length).length+r.fB.length)) by omega]
theorem one_inv {b:List UInt8}{n:Nat}(hb:b.length≤4096)(hn:n≤b.length):∃ r,wO b (n:Int)=some r∧
 (r.2.2=0→∃ x post,b.drop n=vaG x++post∧XE x∧r=(x,((n+(vaG x).length:Nat):Int),0))∧0≤r.2.2:=by
 obtain⟨r1,e1,i1,p1⟩:=get_inv hb hn
 by_cases z1:r1.2.2=0
 · obtain⟨v,post,hd,hv,rfl⟩:=i1 z1;have hl:=Xi hn hd;have hd':=Xj hd
   by_cases c1:(decide ((v:Int)<2)||decide ((500:Int)<IntKind.u64.wrap ((v:Int).tdiv 2)))=true
   · refine⟨_,by unfold wO; rw[e1,qf,if_pos rfl,if_pos c1],?_,by decide⟩
     intro h; exact absurd h (by decide)
   have c1':=c1;simp only[qJ,decide_eq_true_eq,not_or] at c1;obtain⟨c2,c3⟩:=c1
   have d1:(v:Int).tdiv 2=((v / 2:Nat):Int):=by rw[Int.tdiv_eq_ediv_of_nonneg (by omega)]; omega
   have d2:(v:Int).tmod 2=((v % 2:Nat):Int):=by rw[Int.tmod_eq_emod_of_nonneg (by omega)]; omega
   rw[d1,u64w (by omega)] at c3;obtain⟨r2,e2,i2,p2⟩:=get_inv hb (n:=n+(vb v).length) (by omega)
   by_cases z2:r2.2.2=0
   · obtain⟨w,post2,hd2,hw,rfl⟩:=i2 z2;have hl2:=Xi (by omega) hd2
     by_cases c4:v % 2=0
     · have ok:XE ⟨((v / 2:Nat):Int),0,zu w,[]⟩:=⟨check_num (by omega) (by omega),zu_in hw⟩
       have hkey:vbe ⟨((v / 2:Nat):Int),0,zu w,[]⟩=v:=by unfold vbe; simp only[]; omega
       have hdr:b.drop n=vaG ⟨((v / 2:Nat):Int),0,zu w,[]⟩++post2:=by
        rw[vaG,hkey,if_pos rfl]; simp only[zg_zu]; rw[hd,← hd',hd2,qp]
       refine⟨_,one_ok hb hn hdr ok,?_,ve 0⟩
       intro _; exact⟨_,_,hdr,ok,rfl⟩
     have c5:v % 2=1:=by omega
     by_cases c6:w≤post2.length
     · have ok:XE ⟨((v / 2:Nat):Int),1,0,post2.take w⟩:=⟨vaW (by omega) (by omega) (by rw[uN]; omega),(show In64 0 from ⟨by decide,by decide⟩)⟩
       have hkey:vbe ⟨((v / 2:Nat):Int),1,0,post2.take w⟩=v:=by unfold vbe; simp only[]; omega
       have hdr:b.drop n=vaG ⟨((v / 2:Nat):Int),1,0,post2.take w⟩++post2.drop w:=by
        rw[vaG,hkey,if_neg (show ¬ (1:Int)=0 by decide)];simp only[uN,Nat.min_eq_left c6];rw[hd,← hd',hd2,qp,qp,ut]
       refine⟨_,one_ok hb hn hdr ok,?_,ve 0⟩
       intro _; exact⟨_,_,hdr,ok,rfl⟩
     have e3:IntKind.i64.wrap ((b.length:Int)-((n+(vb v).length+(vb w).length:Nat):Int))=((post2.length:Nat):Int):=by rw[yj (by omega) (by omega)]; omega
     refine⟨_,by unfold wO; rw[e1,qf,if_pos rfl,if_neg c1',e2,qf,if_pos rfl,d2,if_neg (by rw[yj (by omega) (by omega)]; omega),e3,u64w (by omega),if_pos (by omega)],?_,by decide⟩
     intro h; exact absurd h (by decide)
   refine⟨_,by unfold wO; rw[e1,qf,if_pos rfl,if_neg c1',e2,qf,if_neg z2],?_,p2⟩
   intro h; exact absurd h z2
 refine⟨_,by unfold wO; rw[e1,qf,if_neg z1],?_,p1⟩
 intro h; exact absurd h z1
theorem rawsB_cons (r:GRaw)(l:List GRaw):Yh (r::l)=vaG r++Yh l:=by rw[Yh,qP]; rfl
theorem get_l_inv {b:List UInt8}(hb:b.length≤4096):∀ (k n:Nat) (acc:List GRaw),n≤b.length→2*acc.length≤n→b.length<k+n→
 ∃ r,xE.l12 b k acc (n:Int)=some r∧(r.2=0→∃ l,b.drop n=Yh l∧(∀ r∈l,XE r)∧r=(acc++l,0))∧0≤r.2∧(r.2≠0→r.1=[])
 |0,n,acc,hn,_,hk=>by omega
 |k+1,n,acc,hn,ha,hk=>by
  by_cases h:n<b.length
  · obtain⟨r1,e1,i1,p1⟩:=one_inv hb hn
    by_cases z1:r1.2.2=0
    · obtain⟨x,post,hd,ok,rfl⟩:=i1 z1;have hl:=Xi hn hd;have h2:=rawB_pos x;obtain⟨r2,e2,i2,p2⟩:=get_l_inv hb k (n+(vaG x).length) (acc++[x]) (by omega) (by rw[qi,qC]; omega) (by omega);refine⟨r2,by rw[xE.l12,if_pos (by omega),e1,qf,if_pos rfl,xx (by omega),qf]; exact e2,?_,p2⟩
      intro hz
      obtain⟨l,hd2,hok,rfl⟩:=i2 hz;refine⟨x::l,?_,?_,by rw[qp]; rfl⟩
      · rw[rawsB_cons,hd,← hd2,Xj hd]
      intro s hs
      rcases qF.1 hs with rfl|hs
      · exact ok
      exact hok s hs
    refine⟨_,by rw[xE.l12,if_pos (by omega),e1,qf,if_neg z1],fun h=>absurd h z1,p1,fun _=>rfl⟩
  refine⟨_,by rw[xE.l12,if_neg (by omega)],fun _=>⟨[],?_,(fun r hr=>by cases hr),by rw[qz]⟩,ve 0,fun h=>absurd rfl h⟩
  rw[List.drop_eq_nil_of_le (by omega)]; rfl
theorem get_rounds : 4097≤rounds:=by decide
theorem vaZ (b:List UInt8):∃ r,xE b=some r∧(r.2=0→b=Yh r.1∧b.length≤4096∧∀ x∈r.1,XE x)∧0≤r.2∧(r.2≠0→r.1=[]):=by
 by_cases hb:b.length≤4096
 · obtain⟨r,e,i,p,q⟩:=get_l_inv hb rounds 0 [] (ux _) (qv _) (by have:=get_rounds; omega);refine⟨r,by rw[xE,if_neg (by omega)]; exact e,?_,p,q⟩
   intro hz
   obtain⟨l,hd,ok,rfl⟩:=i hz;exact⟨hd,hb,ok⟩
 refine⟨_,by rw[xE,if_pos (by omega)],fun h=>absurd h (by decide),by decide,fun _=>rfl⟩
end
section
set_option maxRecDepth 4000
open AM
def vb4 (r:GRaw):List GRaw→List GRaw
 |[]=>[r]
 |x::l=>if r.fTag<x.fTag then r::x::l else x::vb4 r l
def srtA : List GRaw→List GRaw→List GRaw
 |[],S=>S
 |r::q,S=>srtA q (vb4 r S)
def srt (l:List GRaw):List GRaw:=srtA l []
def TagLe (a b:GRaw):Prop:=a.fTag≤b.fTag
theorem insR_app {r:GRaw}:∀ {A B:List GRaw},(∀ a∈A,a.fTag≤r.fTag)→(∀ b∈B,r.fTag<b.fTag)→vb4 r (A++B)=A++r::B
 |[],[],_,_=>rfl
 |[],b::B,_,hB=>by
  rw[qx,vb4,if_pos (hB b (qn ..))]; rfl
 |a::A,B,hA,hB=>by
  rw[qG,vb4,if_neg (by have:=hA a (qn ..); omega),insR_app (fun x hx=>hA x (qm _ hx)) hB]; rfl
theorem insR_mem {r x:GRaw}:∀ {l:List GRaw},x∈vb4 r l↔x=r∨x∈l
 |[]=>by simp[vb4]
 |y::l=>by
  rw[vb4]; split
  · simp
  rw[qF,insR_mem,qF]
  constructor
  · rintro (h|h|h)
    · exact Or.inr (Or.inl h)
    · exact Or.inl h
    exact Or.inr (Or.inr h)
  rintro (h|h|h)
  · exact Or.inr (Or.inl h)
  · exact Or.inl h
  exact Or.inr (Or.inr h)
theorem var (r:GRaw):∀ l:List GRaw,(vb4 r l).length=l.length+1
 |[]=>rfl
 |x::l=>by
  rw[vb4]; split
  · rfl
  rw[qj,var r l,qj]
theorem Yq {r:GRaw}:∀ {l:List GRaw},l.Pairwise TagLe→(vb4 r l).Pairwise TagLe
 |[],_=>by simp[vb4]
 |x::l,h=>by
  rw[uv] at h
  rw[vb4]; split
  · rename_i hlt
    rw[uv,uv];refine⟨?_,h⟩
    intro y hy
    rcases qF.1 hy with rfl|hy
    · unfold TagLe; omega
    have:=h.1 y hy; unfold TagLe at *; omega
  rename_i hge
  rw[uv];refine⟨?_,Yq h.2⟩
  intro y hy
  rcases insR_mem.1 hy with rfl|hy
  · unfold TagLe; omega
  exact h.1 y hy
theorem vb3 {r:GRaw}(t:Int):∀ {l:List GRaw},l.Pairwise TagLe→(vb4 r l).filter (fun x=>x.fTag=t)=l.filter (fun x=>x.fTag=t)++(if r.fTag=t then [r] else [])
 |[],_=>by rw[vb4,List.filter_nil,qx,uH,List.filter_nil]; simp only[decide_eq_true_eq]
 |x::l,h=>by
  rw[uv] at h
  rw[vb4]; split
  · rename_i hlt
    rw[uH]
    by_cases hr:r.fTag=t
    · have hn:(x::l).filter (fun x=>x.fTag=t)=[]:=by
       rw[List.filter_eq_nil_iff]
       intro y hy
       simp only[decide_eq_true_eq]
       rcases qF.1 hy with rfl|hy
       · omega
       have:=h.1 y hy; unfold TagLe at this; omega
      rw[hn,if_pos (by simpa using hr),if_pos hr]; rfl
    rw[if_neg (by simpa using hr),if_neg hr,qz]
  rw[uH,uH,vb3 t h.2]
  split<;>rfl
theorem vbH : ∀ {l S:List GRaw},S.Pairwise TagLe→(srtA l S).Pairwise TagLe
 |[],_,h=>h
 |r::l,S,h=>by rw[srtA]; exact vbH (l:=l) (Yq h)
theorem srt_sorted (l:List GRaw):(srt l).Pairwise TagLe:=vbH List.Pairwise.nil
theorem srtA_len : ∀ (l S:List GRaw),(srtA l S).length=S.length+l.length
 |[],_=>rfl
 |r::l,S=>by rw[srtA,srtA_len,var,qj]; omega
theorem srt_len (l:List GRaw):(srt l).length=l.length:=by rw[srt,srtA_len,ql,qq]
theorem srtA_mem {x:GRaw}:∀ {l S:List GRaw},x∈srtA l S↔x∈S∨x∈l
 |[],S=>by simp[srtA]
 |r::l,S=>by
  rw[srtA,srtA_mem,insR_mem,qF]
  constructor
  · rintro ((h|h)|h)
    · exact Or.inr (Or.inl h)
    · exact Or.inl h
    exact Or.inr (Or.inr h)
  rintro (h|h|h)
  · exact Or.inl (Or.inr h)
  · exact Or.inl (Or.inl h)
  exact Or.inr h
theorem srt_mem {x:GRaw}{l:List GRaw}:x∈srt l↔x∈l:=by rw[srt,srtA_mem]; simp
theorem vbI (t:Int):∀ {l S:List GRaw},S.Pairwise TagLe→(srtA l S).filter (fun x=>x.fTag=t)=S.filter (fun x=>x.fTag=t)++l.filter (fun x=>x.fTag=t)
 |[],S,_=>by rw[srtA,List.filter_nil,qz]
 |r::l,S,h=>by
  rw[srtA,vbI t (Yq h),vb3 t h,uH,qp]
  congr 1
  simp only[decide_eq_true_eq]
  split<;>rfl
theorem srt_filter (l:List GRaw)(t:Int):(srt l).filter (fun x=>x.fTag=t)=l.filter (fun x=>x.fTag=t):=by
 rw[srt,vbI t List.Pairwise.nil]; rfl
theorem sorted_ext : ∀ {l m:List GRaw},l.Pairwise TagLe→m.Pairwise TagLe→(∀ t:Int,l.filter (fun x=>x.fTag=t)=m.filter (fun x=>x.fTag=t))→l=m
 |[],[],_,_,_=>rfl
 |[],y::m,_,_,h=>by
  have:=h y.fTag
  rw[List.filter_nil,uH,if_pos (by simp)] at this; cases this
 |x::l,[],_,_,h=>by
  have:=h x.fTag
  rw[List.filter_nil,uH,if_pos (by simp)] at this; cases this
 |x::l,y::m,hl,hm,h=>by
  rw[uv] at hl hm
  have hxy:x.fTag=y.fTag:=by
   have h1:x∈(y::m).filter (fun z=>z.fTag=x.fTag):=by rw[← h,uH,if_pos (by simp)]; exact qn ..
   have h2:y∈(x::l).filter (fun z=>z.fTag=y.fTag):=by rw[h,uH,if_pos (by simp)]; exact qn ..
   have a1:y.fTag≤x.fTag:=by
    rcases qF.1 (List.mem_filter.1 h1).1 with e|h1
    · rw[e]; exact ve _
    exact hm.1 x h1
   have a2:x.fTag≤y.fTag:=by
    rcases qF.1 (List.mem_filter.1 h2).1 with e|h2
    · rw[e]; exact ve _
    exact hl.1 y h2
   omega
  have e:x=y:=by
   have:=h x.fTag;rw[uH,uH,if_pos (by simp),if_pos (by simp[hxy])] at this
   injection this
  subst e
  congr 1
  refine sorted_ext hl.2 hm.2 fun t=>?_
  have:=h t;rw[uH,uH] at this
  split at this
  · injection this
  exact this
theorem srt_of {l m:List GRaw}(hm:m.Pairwise TagLe)(h:∀ t:Int,l.filter (fun x=>x.fTag=t)=m.filter (fun x=>x.fTag=t)):srt l=m:=
 sorted_ext (srt_sorted l) hm fun t=>by rw[srt_filter,h]
theorem ZJ {α:Type}{A B:List α}{x:α}{i:Int}(h:i=A.length):Zd (A++x::B) i=some x:=by
 subst h
 rw[Zd,if_pos (by omega),qX,un (qv _),uO]; rfl
theorem idx_t {α:Type}{l:List α}{i:Int}{x:α}(h0:0≤i)(h:l[i.toNat]?=some x):Zd l i=some x:=by rw[Zd,if_pos h0,h]
theorem sorted_l17 {r z:GRaw}{S P:List GRaw}(rec8:Int→List GRaw→Option (List GRaw)):∀ (k:Nat) (A B:List GRaw),S=A++B→(∀ b∈B,r.fTag<b.fTag)→A.Pairwise TagLe→A.length<k→S.length<1000000→
 zM.l17 (S.length:Int) (S++z::P) rec8 r k (A.length:Int)=rec8 ((S.length:Int)+1) (vb4 r S++P)
 |0,_,_,_,_,_,h,_=>by omega
 |k+1,A,B,hS,hB,hA,hk,hn=>by
  have stop:(∀ a∈A,a.fTag≤r.fTag)→zM.j20 (S.length:Int) (S++z::P) rec8 r (A.length:Int) (zM.l17 (S.length:Int) (S++z::P) rec8 r k) false=rec8 ((S.length:Int)+1) (vb4 r S++P):=by
   intro hle
   have hl:S.length=A.length+B.length:=by rw[hS,qi]
   have e1:IntKind.i64.wrap ((A.length:Int)+1)=((A.length+1:Nat):Int):=by rw[yj (by omega) (by omega)]; omega
   rw[zM.j20,if_neg (by decide),e1,Xd (by rw[qi,qj]; omega),qf,Xd (by rw[qi,qj]; omega),qf]
   have e2:qI ((S.length:Int)+1)=S.length+1:=by omega
   rw[qX,qX,qX,e2,show min (S.length-A.length) (S.length+1-(A.length+1))=B.length by omega]
   have hc:∃ w:GRaw,A.length<(S++z::P).length∧XT (S++z::P) (A.length+1) A.length B.length=A++w::(B++P):=by
    cases hB':B with
    |nil=>
     subst hB';rw[qz] at hS;refine⟨z,by rw[hS,qi,qj]; omega,?_⟩;rw[XT,hS,ql,List.take_zero,qx,uW,List.drop_append,List.drop_eq_nil_of_le (by omega),List.take_append,um (by omega)];rw[show A.length+1-A.length=1 by omega]
     simp
    |cons b B'=>
     refine⟨b,by rw[hS,hB',qi,qi,qj]; omega,?_⟩;rw[hS,hB',XT]
     have t1:((A++b::B')++z::P).take (A.length+1)=A++[b]:=by
      rw[qp,List.take_append,um (by omega),show A.length+1-A.length=1 by omega]; rfl
     have t2:(((A++b::B')++z::P).drop A.length).take (b::B').length=b::B':=by
      rw[qp,List.drop_left' rfl,List.take_left' rfl]
     have t3:((A++b::B')++z::P).drop (A.length+1+(b::B').length)=P:=by
      rw[show (A++b::B')++z::P=((A++b::B')++[z])++P by rw[qp (A++b::B')]; rfl];rw[List.drop_left']
      simp only[qi,qj,ql]; omega
     rw[t1,t2,t3];simp only[qp,qG,qx]
   obtain⟨w,hlt,hc⟩:=hc
   rw[hc,ZJ rfl,qf,setI,qX,List.set_append_right _ _ (qv _),uO,ul,hS,insR_app hle hB,qp]; rfl
  rcases List.eq_nil_or_concat A with rfl|⟨A',a,rfl⟩
  · rw[zM.l17,if_neg (by simp)];exact stop (fun a ha=>by cases ha)
  rw[List.concat_eq_append] at *
  have hlA:(A'++[a]).length=A'.length+1:=by rw[qi,qC]
  have hlS:S.length=(A'++[a]).length+B.length:=by rw[hS,qi]
  have e1:IntKind.i64.wrap (((A'++[a]).length:Int)-1)=(A'.length:Int):=by
   rw[yj (by omega) (by omega)]; omega
  rw[zM.l17,if_pos (by omega),e1]
  have ei:Zd (S++z::P) (A'.length:Int)=some a:=by
   rw[hS,qp,qp]; exact ZJ rfl
  rw[ei,qf]
  by_cases hgt:r.fTag<a.fTag
  · rw[decide_eq_true hgt,zM.j20,if_pos rfl,e1];refine sorted_l17 rec8 k A' (a::B) (by rw[hS,qp]; rfl) ?_ (List.pairwise_append.1 hA).1 (by omega) hn
    intro b hb
    rcases qF.1 hb with rfl|hb
    · exact hgt
    exact hB b hb
  rw[decide_eq_false hgt];refine stop ?_
  intro x hx
  rcases ui.1 hx with hx|hx
  · have:=(List.pairwise_append.1 hA).2.2 x hx a (uw.2 rfl)
    unfold TagLe at this; omega
  rw[uw] at hx; subst hx; omega
theorem sorted_l8 : ∀ (q S P:List GRaw),P.length=q.length→S.Pairwise TagLe→S.length+q.length<1000000→zM.l8 q (S.length:Int) (S++P)=some (srtA q S)
 |[],S,P,hP,_,_=>by
  have:P=[]:=qK.1 (by simpa using hP);subst this;rw[zM.l8,srtA,qz]
 |r::q,S,[],hP,_,_=>by cases hP
 |r::q,S,z::P,hP,hS,hn=>by
  rw[qj] at hn;rw[zM.l8,sorted_l17 (S:=S) (zM.l8 q) rounds S [] (qz S).symm (fun b hb=>by cases hb) hS (uk (show S.length<1000000 by omega) (by decide)) (by omega)]
  have e:(S.length:Int)+1=((vb4 r S).length:Int):=by rw[var]; omega
  rw[e,sorted_l8 q (vb4 r S) P (by simpa using hP) (Yq hS) (by rw[var]; omega),srtA]
theorem sorted_eq {l:List GRaw}(h:l.length<1000000):zM l=some (srt l):=by
 rw[zM,Xd (by omega),qf,qX];exact sorted_l8 l [] _ List.length_replicate List.Pairwise.nil (by rw[ql]; omega)
end
section
set_option maxRecDepth 4000
open AM
theorem YC (s:List UInt8)(p:Nat):1≤(YI s p).2:=by
 unfold YI Utf8.decode
 dsimp only
 repeat' split
 all_goals first|exact qv 1|exact (by decide:1≤2)|exact (by decide:1≤3)|exact (by decide:1≤4)
theorem runesNext_t (a:List UInt8)(n:Nat)(h:a.length≤9223372036854775807):∃ r,wq a (n:Int)=some r:=by
 unfold wq
 split
 · exact⟨_,rfl⟩
 rename_i h1
 simp only[qJ,decide_eq_true_eq,not_or] at h1;rw[Xd (by omega),qf,bnd]
 split<;>exact⟨_,rfl⟩
theorem va1 (a:List UInt8)(h:a.length≤9223372036854775807):∀ (k p:Nat),0<k→a.length<p+k→∃ v,yD.l4 a k p=some v
 |0,p,h0,hk=>by omega
 |k+1,p,_,hk=>by
  have hd:=YC a p;rw[yD.l4]
  split
  · have ih:=va1 a h k (p+(YI a p).2) (by omega) (by omega)
    split
    · obtain⟨r,e⟩:=runesNext_t a p h;rw[e,qf]
      split
      · exact⟨_,rfl⟩
      exact ih
    exact ih
  exact⟨_,rfl⟩
theorem yu : 9223372036854775808≤rounds:=by decide
def vbL (b:List UInt8):Bool:=(yD b).getD false
theorem runesV_eq {a:List UInt8}(h:a.length≤9223372036854775807):yD a=some (vbL a):=by
 obtain⟨v,e⟩:=va1 a h rounds 0 (by have:=yu; omega) (by have:=yu; omega);unfold vbL
 rw[show yD a=some v from e]; rfl
theorem ge_tag (t:Int)(l:List GTree):(GEntry.mk t l).fTag=t:=rfl
theorem Yk (t:Int)(l:List GTree):(GEntry.mk t l).fTrees=l:=rfl
def Xk (a b:GEntry):Prop:=a.fTag<b.fTag
def vaH (t:Int)(rep:Prop) [Decidable rep](x:GTree):List GEntry→List GEntry
 |[]=>[⟨t,[x]⟩]
 |e::l=>if e.fTag<t then e::vaH t rep x l else if e.fTag=t then ⟨t,(if rep then e.fTrees else [])++[x]⟩::l else ⟨t,[x]⟩::e::l
def putN (t:Int)(rep:Prop) [Decidable rep]:List GEntry→Nat
 |[]=>1
 |e::l=>if e.fTag<t then putN t rep l else if e.fTag=t then (if rep then e.fTrees.length else 0)+1 else 1
theorem putE_app {t:Int}{rep:Prop} [Decidable rep]{x:GTree}{B:List GEntry}:∀ {A:List GEntry},(∀ a∈A,a.fTag<t)→vaH t rep x (A++B)=A++vaH t rep x B
 |[],_=>rfl
 |a::A,h=>by
  rw[qG,vaH,if_pos (h a (qn ..)),putE_app fun b hb=>h b (qm _ hb)]; rfl
theorem putN_app {t:Int}{rep:Prop} [Decidable rep]{B:List GEntry}:∀ {A:List GEntry},(∀ a∈A,a.fTag<t)→putN t rep (A++B)=putN t rep B
 |[],_=>rfl
 |a::A,h=>by
  rw[qG,putN,if_pos (h a (qn ..)),putN_app fun b hb=>h b (qm _ hb)]
theorem splitE (t:Int):∀ {es:List GEntry},es.Pairwise Xk→∃ A B,es=A++B∧(∀ a∈A,a.fTag<t)∧(∀ b∈B,t≤b.fTag)
 |[],_=>⟨[],[],rfl,(fun _ h=>by cases h),(fun _ h=>by cases h)⟩
 |e::es,h=>by
  rw[uv] at h
  by_cases he:e.fTag<t
  · obtain⟨A,B,rfl,hA,hB⟩:=splitE t h.2;refine⟨e::A,B,rfl,?_,hB⟩
    intro a ha
    rcases qF.1 ha with rfl|ha
    · exact he
    exact hA a ha
  refine⟨[],e::es,rfl,(fun _ h=>by cases h),?_⟩
  intro b hb
  rcases qF.1 hb with rfl|hb
  · omega
  have:=h.1 b hb; unfold Xk at this; omega
theorem put1_eq {e:GEntry}{t:Int}(h1:1≤e.fTag∧e.fTag≤500)(h2:1≤t∧t≤500):xR e t=e.fTag-t:=by
 unfold xR; exact yj (by omega) (by omega)
theorem half {x y:Nat}(h:x+y<9223372036854775808):IntKind.i64.wrap (Int.fdiv (IntKind.u64.wrap (IntKind.i64.wrap ((x:Int)+(y:Int)))) (2^(min (qI 1) 64)))=(((x+y) / 2:Nat):Int):=by
 rw[yj (x:=(x:Int)+y) (by omega) (by omega),u64i (by omega) (by omega),show min (qI 1) 64=1 from rfl,Int.fdiv_eq_ediv_of_nonneg _ (by decide),yj (by omega) (by omega)]
 omega
def YU (t:Int):List GEntry→Bool
 |[]=>false
 |b::_=>decide (b.fTag=t)
theorem bs_l {t:Int}{A B:List GEntry}(ht:1≤t∧t≤500)(hA:∀ a∈A,a.fTag<t)(hB:∀ b∈B,t≤b.fTag)(hr:∀ e∈A++B,1≤e.fTag∧e.fTag≤500)(hn:(A++B).length<4611686018427387904):
 ∀ (k x y:Nat),x≤A.length→A.length≤y→y≤(A++B).length→y<x+k→zk.l6 (A++B) t k (x:Int) (y:Int)=some ((A.length:Int),YU t B)
 |0,x,y,_,_,_,hk=>by omega
 |k+1,x,y,hx,hy,hl,hk=>by
  rw[zk.l6]
  by_cases hlt:x<y
  · rw[if_pos (by omega),half (by omega)]
    have hm:(x+y) / 2<(A++B).length:=by omega
    rw[idx_t (by omega) (show (A++B)[qI (((x+y) / 2:Nat):Int)]?=some ((A++B)[(x+y) / 2]'hm) by rw[qX]; exact qZ hm),qf,bnd,put1_eq (hr _ (List.getElem_mem hm)) ht]
    by_cases hc:(x+y) / 2<A.length
    · have e:(A++B)[(x+y) / 2]'hm=A[(x+y) / 2]'hc:=List.getElem_append_left hc;have:=hA _ (List.getElem_mem hc);rw[e,if_pos (by omega),yj (by omega) (by omega),show (((x+y) / 2:Nat):Int)+1=(((x+y) / 2+1:Nat):Int) by omega];exact bs_l ht hA hB hr hn k _ y (by omega) hy hl (by omega)
    have hlB:(x+y) / 2-A.length<B.length:=by rw[qi] at hm; omega
    have e:(A++B)[(x+y) / 2]'hm=B[(x+y) / 2-A.length]'hlB:=List.getElem_append_right (by omega);have:=hB _ (List.getElem_mem hlB);rw[e,if_neg (by omega)];exact bs_l ht hA hB hr hn k x _ hx (by omega) (by omega) (by omega)
  have e:x=A.length:=by omega
  subst e;rw[if_neg (by omega)]
  cases B with
  |nil=>rw[qz,if_neg (by omega)]; rfl
  |cons b B=>
   rw[if_pos (by rw[qi,qj]; omega),ZJ rfl,qf,bnd,put1_eq (hr b (q5 _ (qn ..))) ht,qf,YU]
   congr 2
   exact decide_eq_decide.2 (by omega)
theorem decode_put_eq {es:List GEntry}{f:GField}{x:GTree}(hs:es.Pairwise Xk)(hr:∀ e∈es,1≤e.fTag∧e.fTag≤500)(hf:1≤f.fTag∧f.fTag≤500)(hn:es.length<1000000)(ht:∀ e∈es,e.fTrees.length<1000000):
 YX es f x=some (vaH f.fTag (f.fLabel=3) x es,decide (putN f.fTag (f.fLabel=3) es≤64)):=by
 obtain⟨A,B,rfl,hA,hB⟩:=splitE f.fTag hs;have hln:(A++B).length=A.length+B.length:=qi;have bs:zk (A++B) f.fTag=some ((A.length:Int),YU f.fTag B):=bs_l hf hA hB hr (by omega) rounds 0 (A++B).length (ux _) (by omega) (qv _) (by have:=yu; omega);rw[YX,bs,qf,putE_app hA,putN_app hA]
 have ins:∀ (B:List GEntry),(A++B).length<1000000→YU f.fTag B=false→(∀ b∈B,f.fTag≤b.fTag)→((if ((A.length:Int),YU f.fTag B).2=true then some (A++B) else (grd (0≤((A.length:Int),YU f.fTag B).1∧((A.length:Int),YU f.fTag B).1≤((A++B).length:Int))).bind fun _=>(ZY ((A++B).length+1) 32).bind fun _=>some ((A++B).take ((A.length:Int),YU f.fTag B).1.toNat++⟨f.fTag,[]⟩::(A++B).drop ((A.length:Int),YU f.fTag B).1.toNat)).bind fun es1=>
  (Zd es1 ((A.length:Int),YU f.fTag B).1).bind fun e=>
  (ZY ((if f.fLabel=3 then e.fTrees.length else 0)+1) 80).bind fun _=>
  some (es1.set ((A.length:Int),YU f.fTag B).1.toNat ⟨e.fTag,(if f.fLabel=3 then e.fTrees else [])++[x]⟩,decide ((((if f.fLabel=3 then e.fTrees else [])++[x]).length:Int)≤64)))=some (A++⟨f.fTag,[x]⟩::B,true):=by
  intro B hln hh _
  have hl2:(A++B).length=A.length+B.length:=qi;rw[hh];simp only[qX];rw[if_neg (by decide),Xd (by omega),qf,xx (by omega),qf,qf,List.take_left' rfl,List.drop_left' rfl,ZJ rfl,qf,xx (by rw[Yk]; split<;>decide),qf,List.set_append_right _ _ (qv _),uO,ul]
  simp only[ge_tag,Yk,ite_self,qx,qC]; rfl
 cases B with
 |nil=>
  rw[ins [] hn rfl (fun _ h=>by cases h)]; rfl
 |cons b B=>
  have hb:=hB b (qn ..)
  by_cases hbt:b.fTag=f.fTag
  · have hh:YU f.fTag (b::B)=true:=decide_eq_true hbt;have htb:=ht b (q5 _ (qn ..));rw[hh];simp only[qX];rw[if_pos trivial,qf,ZJ rfl,qf,xx (by split<;>omega),qf,List.set_append_right _ _ (qv _),uO,ul,vaH,if_neg (show ¬ b.fTag<f.fTag by omega),if_pos hbt,putN,if_neg (show ¬ b.fTag<f.fTag by omega),if_pos hbt,hbt]
    congr 2
    refine decide_eq_decide.2 ?_;rw[qi,qC]
    by_cases h3:f.fLabel=3
    · rw[if_pos h3,if_pos h3]; omega
    rw[if_neg h3,if_neg h3,ql]; omega
  have hh:YU f.fTag (b::B)=false:=decide_eq_false hbt
  rw[ins (b::B) hn hh hB,vaH,if_neg (by omega),if_neg hbt,putN,if_neg (by omega),if_neg hbt]; rfl
theorem putE_mem {t:Int}{rep:Prop} [Decidable rep]{x:GTree}{e:GEntry}:∀ {es:List GEntry},e∈vaH t rep x es→e∈es∨e.fTag=t
 |[],h=>by rw[vaH,uw] at h; subst h; exact Or.inr rfl
 |a::es,h=>by
  rw[vaH] at h; split at h
  · rcases qF.1 h with rfl|h
    · exact Or.inl (qn ..)
    rcases putE_mem h with h|h
    · exact Or.inl (qm _ h)
    exact Or.inr h
  split at h
  · rcases qF.1 h with rfl|h
    · exact Or.inr rfl
    exact Or.inl (qm _ h)
  rcases qF.1 h with rfl|h
  · exact Or.inr rfl
  exact Or.inl h
theorem X8 {t:Int}{rep:Prop} [Decidable rep]{x:GTree}:∀ {es:List GEntry},es.Pairwise Xk→(vaH t rep x es).Pairwise Xk
 |[],_=>by simp[vaH]
 |a::es,h=>by
  rw[uv] at h
  rw[vaH]; split
  · rename_i hlt
    rw[uv];refine⟨?_,X8 h.2⟩
    intro b hb
    rcases putE_mem hb with hb|hb
    · exact h.1 b hb
    unfold Xk; omega
  split
  · rename_i hge heq
    rw[uv];refine⟨?_,h.2⟩
    intro b hb
    have:=h.1 b hb; unfold Xk at *; simp only[ge_tag]; omega
  rename_i hge hne
  rw[uv,uv];refine⟨?_,h⟩
  intro b hb
  rcases qF.1 hb with rfl|hb
  · unfold Xk; simp only[ge_tag]; omega
  have:=h.1 b hb; unfold Xk at *; simp only[ge_tag]; omega
theorem putE_len {t:Int}{rep:Prop} [Decidable rep]{x:GTree}:∀ {es:List GEntry},(vaH t rep x es).length≤es.length+1
 |[]=>by rw[vaH]; exact qv _
 |a::es=>by
  rw[vaH]; split
  · rw[qj,qj]; have:=putE_len (t:=t) (rep:=rep) (x:=x) (es:=es); omega
  split<;>simp only[qj]<;>omega
theorem putE_all {t:Int}{rep:Prop} [Decidable rep]{x:GTree}{e:GEntry}:∀ {es:List GEntry},e∈vaH t rep x es→e∈es∨(e.fTag=t∧e.fTrees.length=putN t rep es∧e.fTrees≠[])
 |[],h=>by rw[vaH,uw] at h; subst h; exact Or.inr ⟨rfl,rfl,by rw[Yk]; simp⟩
 |a::es,h=>by
  rw[vaH] at h; rw[putN]; split at h
  · rename_i hlt
    rw[if_pos hlt]
    rcases qF.1 h with rfl|h
    · exact Or.inl (qn ..)
    rcases putE_all h with h|h
    · exact Or.inl (qm _ h)
    exact Or.inr h
  rename_i hlt
  rw[if_neg hlt]
  split at h
  · rename_i heq
    rw[if_pos heq]
    rcases qF.1 h with rfl|h
    · refine Or.inr ⟨rfl,?_,by rw[Yk]; simp⟩
      simp only[Yk,qi,qC]; split<;>rfl
    exact Or.inl (qm _ h)
  rename_i hne
  rw[if_neg hne]
  rcases qF.1 h with rfl|h
  · exact Or.inr ⟨rfl,rfl,by rw[Yk]; simp⟩
  exact Or.inl h
def zTree : GTree:=⟨0,0,[],[],[]⟩
def isZ (m:GMessage)(e:GEntry):Bool:=decide ((zr m e.fTag).1.fLabel=1)&&Za (e.fTrees.headD zTree)
def zdel (m:GMessage)(es:List GEntry):List GEntry:=es.filter fun e => !isZ m e
theorem vaA {m:GMessage}:∀ {es:List GEntry},(∀ e∈es,e.fTrees≠[])→wT m es=some (zdel m es)
 |[],_=>rfl
 |e::es,h=>by
  have he:=h e (qn ..);rw[wT,xm,bnd]
  have e1:(if (zr m e.fTag).1.fLabel=1 then (Zd e.fTrees 0).bind fun y2=>bnd (Za y2) fun r5=>some r5 else some false)=some (isZ m e):=by
   unfold isZ
   split
   · rename_i hl
     cases ht:e.fTrees with
     |nil=>exact absurd ht he
     |cons a l=>
      rw[idx_t (ve 0) (show (a::l)[qI 0]?=some a from rfl),qf,bnd,hl]; rfl
   rename_i hl
   rw[decide_eq_false hl,Bool.false_and]
  rw[e1,qf,qf,vaA fun a ha=>h a (qm _ ha),qf]
  unfold zdel; rw[uH]
  cases isZ m e<;>rfl
def fldD (m:GMessage)(one:GType→GRaw→GTree×Int):List GRaw→List GEntry→List GRaw→GTree×Int
 |[],es,rest=>(⟨3,0,[],zdel m es,srt rest⟩,0)
 |r::q,es,rest=>
  if (zr m r.fTag).2=true then
   (if (one (zr m r.fTag).1.fType r).2=0 then
    (if putN r.fTag ((zr m r.fTag).1.fLabel=3) es≤64 then fldD m one q (vaH r.fTag ((zr m r.fTag).1.fLabel=3) (one (zr m r.fTag).1.fType r).1 es) rest else (zTree,4))
   else (zTree,(one (zr m r.fTag).1.fType r).2))
  else fldD m one q es (rest++[r])
theorem YH {m:GMessage}{t:Int}(h:(zr m t).2=true):(zr m t).1.fTag=t∧(zr m t).1∈m.fFields:=by
 have key:∀ (l:List GField) (i:Int),(zr.l4 t l i).2=true→(zr.l4 t l i).1.fTag=t∧(zr.l4 t l i).1∈l:=by
  intro l
  induction l with
  |nil=>intro i h; cases h
  |cons f l ih=>
   intro i h
   rw[zr.l4] at h ⊢
   split at h
   · rename_i hf
     rw[if_pos hf]; exact⟨hf,qn ..⟩
   rename_i hf
   rw[if_neg hf];obtain⟨h1,h2⟩:=ih _ h;exact⟨h1,qm _ h2⟩
 exact key m.fFields 0 h
theorem fldD_eq {self:GSchema→GType→GRaw→Int→Option (GTree×Int)}{s:GSchema}{m:GMessage}{deep:Int}{one:GType→GRaw→GTree×Int}:
 ∀ {l:List GRaw} {es:List GEntry} {rest:List GRaw},(∀ r∈l,1≤r.fTag∧r.fTag≤500)→(∀ r∈l,∀ y,self s y r deep=some (one y r))→es.Pairwise Xk→(∀ e∈es,(1≤e.fTag∧e.fTag≤500)∧e.fTrees≠[]∧e.fTrees.length≤64)→es.length+l.length<100000→rest.length+l.length<100000→
 zz.l self s m deep l es rest=some (fldD m one l es rest)
 |[],es,rest,_,_,_,he,hn,hn'=>by
  rw[zz.l,xx (by simp only[ql] at hn; omega),qf,vaA fun e h=>(he e h).2.1,qf,sorted_eq (by simp only[ql] at hn'; omega),qf,fldD]
 |r::l,es,rest,ht,ho,hs,he,hn,hn'=>by
  rw[qj] at hn hn';have hr:=ht r (qn ..)
  have ht':∀ r∈l,1≤r.fTag∧r.fTag≤500:=fun x hx=>ht x (qm _ hx)
  have ho':∀ r∈l,∀ y,self s y r deep=some (one y r):=fun x hx=>ho x (qm _ hx)
  rw[zz.l,bnd,fldD]
  by_cases hf:(zr m r.fTag).2=true
  · obtain⟨hft,_⟩:=YH hf;rw[if_pos hf,if_pos hf,ho r (qn ..),qf]
    by_cases h0:(one (zr m r.fTag).1.fType r).2=0
    · rw[if_pos h0,if_pos h0,decode_put_eq hs (fun e h=>(he e h).1) (by rw[hft]; exact hr) (by omega) (fun e h=>by have:=(he e h).2.2; omega),qf,hft]
      by_cases hp:putN r.fTag ((zr m r.fTag).1.fLabel=3) es≤64
      · rw[if_pos hp,if_pos (decide_eq_true hp)];refine fldD_eq (es:=vaH r.fTag ((zr m r.fTag).1.fLabel=3) (one (zr m r.fTag).1.fType r).1 es) ht' ho' (X8 hs) ?_ (by have:=putE_len (t:=r.fTag) (rep:=(zr m r.fTag).1.fLabel=3) (x:=(one (zr m r.fTag).1.fType r).1) (es:=es); omega) (by omega)
        intro e h
        rcases putE_all h with h|⟨h1,h2,h3⟩
        · exact he e h
        exact⟨by rw[h1]; exact hr,h3,by omega⟩
      rw[if_neg hp,if_neg (by simpa using hp)]; rfl
    rw[if_neg h0,if_neg h0]; rfl
  rw[if_neg hf,if_neg hf,xx (by omega),qf];exact fldD_eq ht' ho' hs he (by omega) (by rw[qi,qC]; omega)
def vaN (s:GSchema)(n:List UInt8):GMessage:=(zG s n).1
def oneD (msg:GMessage→List UInt8→GTree×Int)(s:GSchema)(y:GType)(r:GRaw):GTree×Int:=
 if (if y.fKind=4∨y.fKind=5∨y.fKind=7 then r.fWire=1 else r.fWire=0) then
  (if y.fKind=3∨y.fKind=6 then (if xF y r.fN=true then (⟨1,r.fN,[],[],[]⟩,0) else (zTree,11))
  else if y.fKind=4 then (if vbL r.fB=true then (⟨2,0,r.fB,[],[]⟩,0) else (zTree,9))
  else if y.fKind=7 then msg (vaN s y.fName) r.fB
  else (if r.fWire=1 then ⟨2,0,r.fB,[],[]⟩ else ⟨1,r.fN,[],[],[]⟩,0))
 else (zTree,8)
theorem oneD_eq {self:GSchema→GMessage→List UInt8→Int→Option (GTree×Int)}{self2:GSchema→GType→GRaw→Int→Option (GTree×Int)}{s:GSchema}{y:GType}{r:GRaw}{deep:Int}{msg:GMessage→List UInt8→GTree×Int}(hw:r.fWire=0∨r.fWire=1)(hb:r.fB.length≤4096)(hd:deep<1000)(hd':0≤deep)(hs:self s (vaN s y.fName) r.fB (deep+1)=some (msg (vaN s y.fName) r.fB)):
 zQ.body self self2 s y r deep=some (oneD msg s y r):=by
 have hv:=runesV_eq (a:=r.fB) (by omega);have ed:IntKind.i64.wrap (deep+1)=deep+1:=yj (by omega) (by omega)
 have hm:∀ z:GTree×Int,some (z.1,z.2)=some z:=fun z=>rfl
 unfold zQ.body zQ.j2 zQ.j26 zQ.j3 zQ.j6 zQ.j4 oneD bnd;unfold vaN at hs ⊢;simp only[Xd (show r.fB.length≤9223372036854775807 by omega),hv,ed,qf,hs]
 rcases hw with hw|hw<;>simp only[hw,reduceIte,reduceCtorEq,u7] <;>
  by_cases k4:y.fKind=4<;>by_cases k5:y.fKind=5<;>by_cases k7:y.fKind=7<;>by_cases k3:y.fKind=3<;>by_cases k6:y.fKind=6 <;>
  first
   |(exfalso; omega)
   |(simp only[k4,k5,k7,k3,k6,reduceIte,reduceCtorEq,u7,decide_true,decide_false,or_true,true_or,or_false,false_or,or_self,ue]<;>first|rfl|(cases xF y r.fN<;>rfl)|(cases vbL r.fB<;>rfl))
def getD (b:List UInt8):List GRaw×Int:=(xE b).getD ([],99)
theorem getD_eq (b:List UInt8):xE b=some (getD b):=by
 obtain⟨r,e,_⟩:=vaZ b
 unfold getD; rw[e]; rfl
theorem getD_ok {b:List UInt8}(h:(getD b).2=0):b=Yh (getD b).1∧b.length≤4096∧∀ x∈(getD b).1,XE x:=by
 obtain⟨r,e,i,_⟩:=vaZ b;rw[getD_eq] at e;obtain rfl:=Option.some.inj e;exact i h
theorem XP : ∀ l:List GRaw,2*l.length≤(Yh l).length
 |[]=>ux _
 |r::l=>by
  rw[rawsB_cons,qi,qj]
  have:=XP l; have:=rawB_pos r; omega
def decM (s:GSchema):Nat→GMessage→List UInt8→GTree×Int
 |0,_,_=>(zTree,10)
 |d+1,m,b=>if (getD b).2=0 then fldD m (oneD (decM s d) s) (getD b).1 [] [] else (zTree,(getD b).2)
theorem ZR (s:GSchema):∀ (d k:Nat) (m:GMessage) (b:List UInt8) (deep:Int),d≤10→deep=11-d→2*d+1≤k→zz k s m b deep=some (decM s d m b)
 |d,0,m,b,deep,_,_,h=>by omega
 |0,k+1,m,b,deep,_,h,_=>by
  rw[zz,zz.body,if_pos (by omega)]; rfl
 |d+1,k+1,m,b,deep,h10,hd,hk=>by
  rw[zz,zz.body,if_neg (by omega),getD_eq,qf,decM]
  by_cases h0:(getD b).2=0
  · rw[if_pos h0,if_pos h0];obtain⟨hb,hl,hok⟩:=getD_ok h0
    have hlen:(getD b).1.length<100000:=by
     have:=XP (getD b).1
     rw[← hb] at this; omega
    refine fldD_eq ?_ ?_ List.Pairwise.nil (fun _ h=>by cases h) (by rw[ql]; omega) (by rw[ql]; omega)
    · intro r hr
      have:=ZC (hok r hr).1;exact⟨this.1,this.2.1⟩
    intro r hr y
    obtain⟨k',rfl⟩:∃ k',k=k'+1:=⟨k-1,by omega⟩
    rw[zQ];have hc:=(ZC (hok r hr).1).2.2
    have hbl:r.fB.length≤4096:=by
     rcases hc with ⟨_,hc⟩|⟨_,_,hc⟩
     · rw[hc]; decide
     exact hc
    refine oneD_eq (by rcases hc with hc|hc; exact Or.inl hc.1; exact Or.inr hc.1) hbl (by omega) (by omega) ?_;exact ZR s d k' _ _ _ (by omega) (by omega) (by omega)
  rw[if_neg h0,if_neg h0]; rfl
theorem decode_eq {s:GSchema}{name b:List UInt8}(hc:zw s=some 0)(hm:(zG s name).2=true):yL s name b=some (decM s 10 (vaN s name) b):=by
 rw[yL,hc,qf,if_pos rfl,bnd,hm,if_neg (by decide),ZR s 10 rounds _ b 1 (qv _) rfl (by have:=yu; omega),qf]; rfl
end
section
set_option maxRecDepth 4000
open AM
def maxD (f:GTree→Nat):List GTree→Nat→Nat
 |[],d=>d
 |x::l,d=>maxD f l (max d (f x))
theorem maxD_ge {f:GTree→Nat}:∀ (l:List GTree) (d:Nat),d≤maxD f l d
 |[],d=>qv _
 |x::l,d=>uy (Nat.le_max_left _ _) (maxD_ge l _)
theorem maxD_mem {f:GTree→Nat}{x:GTree}:∀ {l:List GTree} {d:Nat},x∈l→f x≤maxD f l d
 |y::l,d,h=>by
  rw[maxD]
  rcases qF.1 h with rfl|h
  · exact uy (Nat.le_max_right _ _) (maxD_ge l _)
  exact maxD_mem h
theorem maxD_le {f:GTree→Nat}{n:Nat}:∀ {l:List GTree} {d:Nat},d≤n→(∀ x∈l,f x≤n)→maxD f l d≤n
 |[],d,h,_=>h
 |x::l,d,h,hl=>maxD_le (l:=l) (Nat.max_le.2 ⟨h,hl x (qn ..)⟩) fun y hy=>hl y (qm _ hy)
theorem maxD_app (f:GTree→Nat):∀ (l m:List GTree) (d:Nat),maxD f (l++m) d=maxD f m (maxD f l d)
 |[],_,_=>rfl
 |x::l,m,d=>maxD_app f l m _
def kids (t:GTree):List GTree:=t.fEntries.flatMap GEntry.fTrees
def XK : Nat→GTree→Nat
 |0,_=>0
 |m+1,t=>if t.fKind=3 then maxD (XK m) (kids t) 0+1 else 0
theorem depT_le : ∀ (m:Nat) (t:GTree),XK m t≤m
 |0,_=>qv _
 |m+1,t=>by
  rw[XK]; split
  · exact Nat.succ_le_succ (maxD_le (ux _) fun x _=>depT_le m x)
  exact ux _
theorem deep_l20 {self:GTree→Int→Option Int}{m:Nat}(hm:m<1000)(hs:∀ x,self x (m:Int)=some ((XK m x:Nat):Int)){x7:Int}{rec10:Int→Int→Option Int}:∀ (l:List GTree) (i:Int) (d:Nat),
 zY.l20 self ((m+1:Nat):Int) x7 rec10 l i (d:Int)=rec10 (x7+1) ((maxD (XK m) l d:Nat):Int)
 |[],i,d=>rfl
 |x::l,i,d=>by
  rw[zY.l20,show IntKind.i64.wrap (((m+1:Nat):Int)-1)=(m:Int) by rw[yj (by omega) (by omega)]; omega,hs,qf,maxD]
  have e:(if (d:Int)<((XK m x:Nat):Int) then ((XK m x:Nat):Int) else (d:Int))=((max d (XK m x):Nat):Int):=by split<;>omega
  rw[e]; exact deep_l20 hm hs l _ _
theorem deep_l10 {self:GTree→Int→Option Int}{m:Nat}(hm:m<1000)(hs:∀ x,self x (m:Int)=some ((XK m x:Nat):Int)):∀ (l:List GEntry) (i:Int) (d:Nat),d≤1000→
 zY.l10 self ((m+1:Nat):Int) l i (d:Int)=some ((maxD (XK m) (l.flatMap GEntry.fTrees) d+1:Nat):Int)
 |[],i,d,hd=>by
  rw[zY.l10,yj (by omega) (by omega),uo,maxD]; rfl
 |e::l,i,d,hd=>by
  rw[zY.l10,deep_l20 hm hs,deep_l10 hm hs l _ _ (maxD_le hd fun x _=>uy (depT_le m x) (by omega)),qP,maxD_app]
theorem deep_eq : ∀ (m k:Nat) (t:GTree),m<1000→m<k→zY k t (m:Int)=some ((XK m t:Nat):Int)
 |m,0,t,_,h=>by omega
 |0,k+1,t,_,_=>by
  rw[zY,zY.body,if_pos (by simp)]; rfl
 |m+1,k+1,t,hm,hk=>by
  rw[zY,zY.body,XK]
  by_cases h3:t.fKind=3
  · rw[if_neg (by simp only[h3,decide_true,qQ,uM,decide_eq_true_eq]; omega),if_pos h3];exact deep_l10 (by omega) (fun x=>deep_eq m k x (by omega) (by omega)) t.fEntries 0 0 (by omega)
  rw[if_pos (by simp[h3]),if_neg h3]; rfl
theorem Depth_eq (t:GTree):wH t=some ((XK 101 t:Nat):Int):=by
 rw[wH,show (101:Int)=((101:Nat):Int) from rfl,deep_eq 101 rounds t (by omega) (by have:=yu; omega)]; rfl
def risB : List GRaw→Bool
 |a::b::l=>decide (a.fTag≤b.fTag)&&risB (b::l)
 |_=>true
theorem risB_iff : ∀ {l:List GRaw},risB l=true↔l.Pairwise TagLe
 |[]=>by simp[risB]
 |[a]=>by simp[risB]
 |a::b::l=>by
  rw[risB,qo,decide_eq_true_eq,risB_iff,uv (a:=a)]
  constructor
  · rintro ⟨h1,h2⟩;refine⟨?_,h2⟩
    intro c hc
    rcases qF.1 hc with rfl|hc
    · exact h1
    have:=(uv.1 h2).1 c hc; unfold TagLe at *; omega
  rintro ⟨h1,h2⟩;exact⟨h1 b (qn ..),h2⟩
theorem rising_l {L:List GRaw}(hL:L.length<4611686018427387904):∀ (k:Nat) (A:List GRaw) (a:GRaw) (B:List GRaw),L=A++a::B→B.length<k→y0.l4 L k ((A.length+1:Nat):Int)=some (risB (a::B))
 |0,_,_,_,_,h=>by omega
 |k+1,A,a,[],h,_=>by
  rw[y0.l4,if_neg (by rw[h,qi,qC]; omega)]; rfl
 |k+1,A,a,b::B,h,hk=>by
  have hl:L.length=A.length+(B.length+2):=by rw[h,qi,qj,qj]
  have e1:Zd L ((A.length+1:Nat):Int)=some b:=by
   rw[h,show A++a::b::B=(A++[a])++b::B by rw[qp]; rfl];exact ZJ (by rw[qi,qC])
  have e2:IntKind.i64.wrap (((A.length+1:Nat):Int)-1)=(A.length:Int):=by rw[yj (by omega) (by omega)]; omega
  have e3:Zd L (A.length:Int)=some a:=by rw[h]; exact ZJ rfl
  have e4:IntKind.i64.wrap (((A.length+1:Nat):Int)+1)=(((A++[a]).length+1:Nat):Int):=by rw[yj (by omega) (by omega),qi,qC]; omega
  rw[y0.l4,if_pos (by omega),e1,qf,e2,e3,qf,risB]
  by_cases hlt:b.fTag<a.fTag
  · rw[if_pos hlt,decide_eq_false (by omega)]; rfl
  rw[if_neg hlt,e4,rising_l hL k (A++[a]) b B (by rw[h,qp]; rfl) (by simpa using hk),decide_eq_true (by omega),uC]
theorem rising_eq {l:List GRaw}(h:l.length<4611686018427387904):y0 l=some (risB l):=by
 cases l with
 |nil=>rfl
 |cons a l=>exact rising_l h rounds [] a l rfl (by have:=yu; rw[qj] at h; omega)
def restB (t:GTree):Bool:=t.fRest.all (fun r=>yn r && !(t.fEntries.any fun e=>decide (e.fTag=r.fTag)))&&risB t.fRest
theorem rest_l16 {x2:Int}{rec4:Int→Option Bool}{y:GRaw}:∀ (l:List GEntry) (i:Int),yI.l16 x2 rec4 y l i=if (l.any fun e=>decide (e.fTag=y.fTag))=true then some false else rec4 (x2+1)
 |[],i=>by rw[yI.l16]; rfl
 |e::l,i=>by
  rw[yI.l16,List.any_cons]
  by_cases h:e.fTag=y.fTag
  · rw[if_pos h,decide_eq_true h,Bool.true_or,if_pos rfl]
  rw[if_neg h,decide_eq_false h,uM,rest_l16]
theorem rest_l4 {t:GTree}(hr:t.fRest.length<4611686018427387904):∀ (l:List GRaw) (i:Int),yI.l4 t l i=some (l.all (fun r=>yn r && !(t.fEntries.any fun e=>decide (e.fTag=r.fTag)))&&risB t.fRest)
 |[],i=>by rw[yI.l4,rising_eq hr]; rfl
 |r::l,i=>by
  rw[yI.l4,bnd,q1]
  cases hc:yn r with
  |false=>rfl
  |true=>
   rw[if_neg (by decide),rest_l16]
   cases ha:t.fEntries.any fun e=>decide (e.fTag=r.fTag) with
   |true=>rfl
   |false=>rw[if_neg (by decide),rest_l4 hr l]; rfl
theorem rest_eq {t:GTree}(hr:t.fRest.length<4611686018427387904):yI t=some (restB t):=rest_l4 hr _ _
def entB (f:GTree→Bool):Int→List GEntry→Bool
 |_,[]=>true
 |last,e::l=>decide (last<e.fTag∧e.fTag≤500∧1≤e.fTrees.length∧e.fTrees.length≤64)&&(e.fTrees.all fun x=>decide (x.fKind=(e.fTrees.headD zTree).fKind)&&f x)&&entB f e.fTag l
def leafB (t:GTree):Bool:=
 if t.fKind=1 then decide (t.fS=[])&&decide ((qc t.fEntries:Int)=0)&&decide ((qc t.fRest:Int)=0)
 else if t.fKind=2 then decide (t.fN=0)&&decide ((qc t.fEntries:Int)=0)&&decide ((qc t.fRest:Int)=0)
 else false
def w6 : Nat→GTree→Bool
 |0,t=>leafB t
 |d+1,t=>if t.fKind=3 then decide (t.fN=0)&&decide (t.fS=[])&&entB (w6 d) 0 t.fEntries&&restB t else leafB t
def ownS (t:GTree):Prop:=In64 t.fN∧t.fRest.length≤900000∧∀ r∈t.fRest,In64 r.fN
def szT : Nat→GTree→Prop
 |0,t=>ownS t
 |d+1,t=>ownS t∧∀ x∈kids t,szT d x
theorem vcc {self:GTree→Option Bool}{f:GTree→Bool}{x3:Int}{rec6:Int→Int→Option Bool}{y:GEntry}(hy:1≤y.fTrees.length):∀ (l:List GTree) (i:Int),(∀ x∈l,self x=some (f x))→
 zv.l18 self x3 rec6 y l i=if (l.all fun x=>decide (x.fKind=(y.fTrees.headD zTree).fKind)&&f x)=true then rec6 (x3+1) y.fTag else some false
 |[],i,_=>by rw[zv.l18]; rfl
 |x::l,i,h=>by
  have e1:Zd y.fTrees 0=some (y.fTrees.headD zTree):=by
   cases ht:y.fTrees with
   |nil=>rw[ht] at hy; exact absurd hy (by decide)
   |cons a l=>rfl
  rw[zv.l18,e1,qf,q1]
  by_cases hk:x.fKind=(y.fTrees.headD zTree).fKind
  · rw[if_pos hk,h x (qn ..),qf,decide_eq_true hk,uC]
    cases f x with
    |false=>rfl
    |true=>
     rw[zv.j25,if_neg (by decide),vcc hy l _ fun z hz=>h z (qm _ hz),uC]
  rw[if_neg hk,decide_eq_false hk]; rfl
theorem entries_l6 {self:GTree→Option Bool}{f:GTree→Bool}:∀ (l:List GEntry) (i last:Int),(∀ e∈l,∀ x∈e.fTrees,self x=some (f x))→zv.l6 self l i last=some (entB f last l)
 |[],i,last,_=>rfl
 |e::l,i,last,h=>by
  rw[zv.l6,entB]
  by_cases hc:last<e.fTag∧e.fTag≤500∧1≤e.fTrees.length∧e.fTrees.length≤64
  · rw[if_neg (by simp only[qJ,decide_eq_true_eq]; omega),vcc hc.2.2.1 e.fTrees 0 (h e (qn ..)),decide_eq_true hc,uC]
    cases ha:e.fTrees.all fun x=>decide (x.fKind=(e.fTrees.headD zTree).fKind)&&f x with
    |false=>rfl
    |true=>rw[if_pos rfl,entries_l6 l _ _ fun y hy=>h y (qm _ hy),uC]
  rw[if_pos (by simp only[qJ,decide_eq_true_eq]; omega),decide_eq_false hc]; rfl
theorem ZH {t:GTree}{e:GEntry}{x:GTree}(he:e∈t.fEntries)(hx:x∈e.fTrees):x∈kids t:=List.mem_flatMap.2 ⟨e,he,hx⟩
theorem right_eq : ∀ (d m k:Nat) (t:GTree),d<m→XK m t≤d→2*d<k→szT d t→y1 k t=some (w6 d t)
 |d,m,0,t,_,_,h,_=>by omega
 |0,m+1,k+1,t,_,hd,_,hz=>by
  have h3:¬ t.fKind=3:=by
   intro h; rw[XK,if_pos h] at hd; omega
  rw[y1,y1.body,w6,leafB,if_neg h3]
  split<;>first|rfl|(split<;>rfl)
 |d+1,m+1,k+1,t,hm,hd,hk,hz=>by
  rw[y1,y1.body,w6]
  by_cases h3:t.fKind=3
  · have hd':maxD (XK m) (kids t) 0≤d:=by rw[XK,if_pos h3] at hd; omega
    obtain⟨k',rfl⟩:∃ k',k=k'+1:=⟨k-1,by omega⟩
    have he:zv (k'+1) t=some (entB (w6 d) 0 t.fEntries):=by
     rw[zv,zv.body]
     exact entries_l6 t.fEntries 0 0 fun e he x hx=>right_eq d m k' x (by omega) (uy (maxD_mem (ZH he hx)) hd') (by omega) (hz.2 x (ZH he hx))
    rw[if_neg (by omega),if_neg (by omega),if_pos h3,if_pos h3,he,rest_eq (by have:=hz.1.2.1; omega)]
    cases decide (t.fN=0)&&decide (t.fS=[]) with
    |false=>rfl
    |true=>cases entB (w6 d) 0 t.fEntries<;>rfl
  rw[if_neg h3,if_neg h3,leafB]
  split<;>first|rfl|(split<;>rfl)
def Yu (t:GTree):Bool:=decide (XK 101 t≤10)&&w6 10 t
theorem check_eq {t:GTree}(hz:szT 10 t):wI t=some (Yu t):=by
 rw[wI,Depth_eq,qf,Yu]
 by_cases h:XK 101 t≤10
 · rw[if_pos (by omega),right_eq 10 101 rounds t (by omega) h (by have:=yu; omega) hz,decide_eq_true h,uC]; rfl
 rw[if_neg (by omega),decide_eq_false h]; rfl
end
section
set_option maxRecDepth 4000
open AM
theorem in0 : In64 0:=⟨by decide,by decide⟩
def rawT (enc:GTree→Option (List UInt8))(tag:Int)(x:GTree):Option GRaw:=
 if x.fKind=1 then some ⟨tag,0,x.fN,[]⟩
 else if x.fKind=2 then (if 4096<x.fS.length then none else some ⟨tag,1,0,x.fS⟩)
 else (enc x).bind fun b=>some ⟨tag,1,0,b⟩
def rawL (enc:GTree→Option (List UInt8))(tag:Int):List GTree→Option (List GRaw)
 |[]=>some []
 |x::l=>(rawT enc tag x).bind fun r=>(rawL enc tag l).bind fun m=>some (r::m)
def rawE (enc:GTree→Option (List UInt8)):List GEntry→Option (List GRaw)
 |[]=>some []
 |e::l=>(rawL enc e.fTag e.fTrees).bind fun a=>(rawE enc l).bind fun m=>some (a++m)
def putB (l:List GRaw):Option (List UInt8):=if 4096<(Yh l).length then none else some (Yh l)
def vaw : Nat→GTree→Option (List UInt8)
 |0,_=>none
 |d+1,t=>(rawE (vaw d) t.fEntries).bind fun L=>putB (srt (t.fRest++L))
def XU : Nat→GTree→GValueValue
 |0,t=>if t.fKind=1 then .num t.fN else if t.fKind=2 then .str t.fS else .node [] t.fRest
 |d+1,t=>if t.fKind=1 then .num t.fN else if t.fKind=2 then .str t.fS else .node (t.fEntries.map fun e=>⟨e.fTag,e.fTrees.map (XU d)⟩) t.fRest
theorem made_l62 {self:GTree→Option GValueValue}{f:GTree→GValueValue}{t:GTree}{r12:List GRaw}{y:GEntry}:∀ (l:List GTree) (i:Int) (acc:List GValueValue),(∀ x∈l,self x=some (f x))→acc.length+l.length≤64→
 zL.l62 self t r12 y l i acc=zL.l20 self t r12 rounds [⟨y.fTag,acc++l.map f⟩] 1
 |[],i,acc,_,_=>by
  rw[zL.l62,qw,qz,yj (by decide) (by decide)]; rfl
 |x::l,i,acc,h,hl=>by
  rw[qj] at hl
  rw[zL.l62,h x (qn ..),qf,xx (by omega),qf,made_l62 l _ _ (fun z hz=>h z (qm _ hz)) (by rw[qi,qC]; omega),qp]; rfl
theorem made_l35 {self:GTree→Option GValueValue}{f:GTree→GValueValue}{l14:List GValueEntry}{x16:Int}{rec20:List GValueEntry→Int→Option GValueValue}{y:GEntry}(hl14:l14.length≤1000):∀ (l:List GTree) (i:Int) (acc:List GValueValue),(∀ x∈l,self x=some (f x))→acc.length+l.length≤64→
 zL.l35 self l14 x16 rec20 y l i acc=rec20 (l14++[⟨y.fTag,acc++l.map f⟩]) (IntKind.i64.wrap (x16+1))
 |[],i,acc,_,_=>by
  rw[zL.l35,qw,qz,xx (by omega),qf]
 |x::l,i,acc,h,hl=>by
  rw[qj] at hl
  rw[zL.l35,h x (qn ..),qf,xx (by omega),qf,made_l35 hl14 l _ _ (fun z hz=>h z (qm _ hz)) (by rw[qi,qC]; omega),qp]; rfl
def entV (f:GTree→GValueValue)(e:GEntry):GValueEntry:=⟨e.fTag,e.fTrees.map f⟩
theorem made_l20 {self:GTree→Option GValueValue}{f:GTree→GValueValue}{t:GTree}{r12:List GRaw}(hn:t.fEntries.length≤1000)(hs:∀ e∈t.fEntries,e.fTrees.length≤64∧∀ x∈e.fTrees,self x=some (f x)):∀ (k:Nat) (A B:List GEntry),t.fEntries=A++B→B.length<k→
 zL.l20 self t r12 k (A.map (entV f)) (A.length:Int)=some (.node (t.fEntries.map (entV f)) r12)
 |0,A,B,_,h=>by omega
 |k+1,A,[],h,_=>by
  rw[qz] at h;rw[zL.l20,if_neg (by rw[h]; omega),h]
 |k+1,A,e::B,h,hk=>by
  rw[qj] at hk
  have hl:t.fEntries.length=A.length+(B.length+1):=by rw[h,qi,qj]
  have he:=hs e (by rw[h]; exact q5 _ (qn ..))
  have ei:Zd t.fEntries (A.length:Int)=some e:=by rw[h]; exact ZJ rfl
  rw[zL.l20,if_pos (by omega),ei,qf,made_l35 (f:=f) (by rw[q7]; omega) e.fTrees 0 [] he.2 (by rw[ql]; omega),yj (by omega) (by omega)];have:=made_l20 (self:=self) (f:=f) (r12:=r12) hn hs k (A++[e]) B (by rw[h,qp]; rfl) (by omega);rw[qB,qi,qC] at this;rw[show (A.length:Int)+1=((A.length+1:Nat):Int) by omega];exact this
theorem Yl {f:GTree→Bool}:∀ {l:List GEntry} {last:Int},entB f last l=true→∀ e∈l,last<e.fTag∧e.fTag≤500∧1≤e.fTrees.length∧e.fTrees.length≤64∧(∀ x∈e.fTrees,x.fKind=(e.fTrees.headD zTree).fKind∧f x=true)
 |[],_,_,e,he=>by cases he
 |a::l,last,h,e,he=>by
  rw[entB,qo,qo,decide_eq_true_eq] at h
  rcases qF.1 he with rfl|he
  · refine⟨h.1.1.1,h.1.1.2.1,h.1.1.2.2.1,h.1.1.2.2.2,fun x hx=>?_⟩;have:=ug.1 h.1.2 x hx;rw[qo,decide_eq_true_eq] at this;exact this
  obtain⟨h1,h2⟩:=Yl h.2 e he;exact⟨by omega,h2⟩
theorem Xg {f:GTree→Bool}:∀ {l:List GEntry} {last:Int},entB f last l=true→l.Pairwise Xk
 |[],_,_=>List.Pairwise.nil
 |a::l,last,h=>by
  rw[entB,qo,qo] at h;rw[uv];exact⟨fun e he=>(Yl h.2 e he).1,Xg h.2⟩
theorem sorted_len {n:Nat}:∀ {l:List GEntry} {lo:Int},l.Pairwise Xk→(∀ e∈l,lo<e.fTag∧e.fTag≤lo+n)→l.length≤n
 |[],_,_,_=>ux _
 |a::l,lo,h,hl=>by
  rw[uv] at h;have ha:=hl a (qn ..)
  cases n with
  |zero=>omega
  |succ n=>
   rw[qj];refine Nat.succ_le_succ (sorted_len (n:=n) (lo:=lo+1) h.2 fun e he=>?_);have h1:=h.1 e he;have h2:=hl e (qm _ he)
   unfold Xk at h1; omega
theorem XQ {d:Nat}{t:GTree}(h:w6 (d+1) t=true)(h3:t.fKind=3):t.fEntries.length≤500∧entB (w6 d) 0 t.fEntries=true∧restB t=true∧t.fN=0∧t.fS=[]:=by
 rw[w6,if_pos h3] at h;simp only[qo,decide_eq_true_eq] at h;refine⟨?_,h.1.2,h.2,h.1.1.1,h.1.1.2⟩
 exact sorted_len (n:=500) (lo:=0) (Xg h.1.2) fun e he=>by
  have:=Yl h.1.2 e he; omega
theorem XG {t:GTree}(h:leafB t=true):t.fKind=1∨t.fKind=2:=by
 unfold leafB at h
 split at h
 · exact Or.inl ‹_›
 split at h
 · exact Or.inr ‹_›
 cases h
theorem XO {d:Nat}{t:GTree}(h:w6 d t=true):t.fKind=1∨t.fKind=2∨t.fKind=3:=by
 cases d with
 |zero=>rcases XG h with h|h; exact Or.inl h; exact Or.inr (Or.inl h)
 |succ d=>
  rw[w6] at h
  split at h
  · exact Or.inr (Or.inr ‹_›)
  rcases XG h with h|h; exact Or.inl h; exact Or.inr (Or.inl h)
theorem made_eq : ∀ (d k:Nat) (t:GTree),d<k→w6 d t=true→szT d t→zL k t=some (XU d t)
 |d,0,t,h,_,_=>by omega
 |0,k+1,t,_,hr,_=>by
  rw[zL,zL.body,XU]
  rcases XG hr with h|h
  · rw[if_pos h,if_pos h]; rfl
  rw[if_neg (by omega),if_pos h,if_neg (by omega),if_pos h]; rfl
 |d+1,k+1,t,hk,hr,hz=>by
  rw[zL,zL.body,XU]
  by_cases h1:t.fKind=1
  · rw[if_pos h1,if_pos h1]; rfl
  by_cases h2:t.fKind=2
  · rw[if_neg h1,if_pos h2,if_neg h1,if_pos h2]; rfl
  have h3:t.fKind=3:=by rcases XO hr with h|h|h<;>omega
  obtain⟨hl,he,_,_,_⟩:=XQ hr h3
  have hs:∀ e∈t.fEntries,e.fTrees.length≤64∧∀ x∈e.fTrees,zL k x=some (XU d x):=fun e hm=>by
   have:=Yl he e hm;exact⟨this.2.2.2.1,fun x hx=>made_eq d k x (by omega) (this.2.2.2.2 x hx).2 (hz.2 x (ZH hm hx))⟩
  rw[if_neg h1,if_neg h2,if_neg h1,if_neg h2,yS,xx (by have:=hz.1.2.1; omega),qf,qf]
  cases hE:t.fEntries with
  |nil=>rfl
  |cons a E=>
   rw[if_pos (by rw[qj]; omega)];have ha:=hs a (by rw[hE]; exact qn ..);rw[idx_t (ve 0) (show (a::E)[qI 0]?=some a from rfl),qf,made_l62 (f:=XU d) a.fTrees 0 [] ha.2 (by rw[ql]; omega)];have:=made_l20 (self:=zL k) (f:=XU d) (r12:=t.fRest) (by omega) hs rounds [a] E (by rw[hE]; rfl) (by have:=yu; rw[hE,qj] at hl; omega);rw[hE] at this;exact this
theorem of_eq {t:GTree}(hz:szT 10 t):ZX t=some (if Yu t=true then (XU 10 t,true) else (.nil,false)):=by
 rw[ZX,check_eq hz,qf]
 by_cases h:Yu t=true
 · rw[h]
   have hr:w6 10 t=true:=by unfold Yu at h; rw[qo] at h; exact h.2
   rw[if_neg (by decide),made_eq 10 rounds t (by have:=yu; omega) hr hz]; rfl
 rw[if_pos (by simpa using h),if_neg h]
theorem tags_l8 : ∀ (l:List GValueEntry) (i:Int) (acc:List Int),acc.length+l.length≤1000→ya.l8 l i acc=some (acc++l.map GValueEntry.ftag)
 |[],i,acc,_=>by rw[ya.l8,qw,qz]
 |e::l,i,acc,h=>by
  rw[qj] at h
  rw[ya.l8,xx (by omega),qf,tags_l8 l _ _ (by rw[qi,qC]; omega),qp]; rfl
theorem get_l4 {f:GTree→GValueValue}{e:GEntry}{B:List GEntry}(he:e.fTrees.length≤64):∀ (A:List GEntry) (i:Int),(∀ a∈A,a.fTag≠e.fTag)→yA.l4 e.fTag ((A++e::B).map (entV f)) i=some (e.fTrees.map f)
 |[],i,_=>by
  rw[qx,qD,yA.l4,if_pos (show (entV f e).ftag=e.fTag from rfl),show (entV f e).fl=e.fTrees.map f from rfl,wx,xx (by rw[q7]; omega)]; rfl
 |a::A,i,h=>by
  rw[qG,qD,yA.l4,if_neg (show ¬ (entV f a).ftag=e.fTag from h a (qn ..))]
  exact get_l4 he A _ fun b hb=>h b (qm _ hb)
theorem rawL_len {enc:GTree→Option (List UInt8)}{tag:Int}:∀ {l:List GTree} {m:List GRaw},rawL enc tag l=some m→m.length=l.length
 |[],m,h=>by cases h; rfl
 |x::l,m,h=>by
  obtain⟨r,_,h⟩:=bind_some h;obtain⟨m',h1,h⟩:=bind_some h;cases h;rw[qj,qj,rawL_len h1]
def YR (o:Option (List GRaw))(k:List GRaw→Option (List GRaw×Int)):Option (List GRaw×Int):=
 match o with
 |some m=>k m
 |none=>some ([],4)
theorem raws_l24 {selfR:Int→GValueValue→Option (GRaw×Int)}{f:GTree→GValueValue}{enc:GTree→Option (List UInt8)}{x6:Int}{rec10:Int→List GRaw→Option (List GRaw×Int)}{tag:Int}:∀ (l:List GTree) (i:Int) (acc:List GRaw),(∀ x∈l,selfR tag (f x)=some (match rawT enc tag x with|some r=>(r,0)|none=>(⟨0,0,0,[]⟩,4)))→acc.length+l.length<3518437208882→
 zR.l24 selfR x6 rec10 tag (l.map f) i acc=YR (rawL enc tag l) fun m=>rec10 (x6+1) (acc++m)
 |[],i,acc,_,_=>by rw[qw,zR.l24,rawL,YR,qz]
 |x::l,i,acc,h,hl=>by
  rw[qj] at hl;rw[qD,zR.l24,h x (qn ..),qf,rawL]
  cases hx:rawT enc tag x with
  |none=>rfl
  |some r=>
   dsimp only
   rw[if_pos rfl,xx (by omega),qf,raws_l24 l _ _ (fun z hz=>h z (qm _ hz)) (by rw[qi,qC]; omega),qf]
   cases rawL enc tag l with
   |none=>rfl
   |some m=>simp only[YR,qf,qp,qG,qx]
theorem raws_l10 {selfR:Int→GValueValue→Option (GRaw×Int)}{f:GTree→GValueValue}{enc:GTree→Option (List UInt8)}{E:List GEntry}{rest:List GRaw}(hs:E.Pairwise Xk)(ht:∀ e∈E,e.fTrees.length≤64∧∀ x∈e.fTrees,selfR e.fTag (f x)=some (match rawT enc e.fTag x with|some r=>(r,0)|none=>(⟨0,0,0,[]⟩,4)))(hn:E.length≤500):
 ∀ (B A:List GEntry) (i:Int) (acc:List GRaw),E=A++B→acc.length≤900000+64*A.length→zR.l10 selfR ⟨E.map (entV f),rest⟩ (B.map GEntry.fTag) i acc=YR (rawE enc B) fun m=>some (srt (acc++m),0)
 |[],A,i,acc,h,ha=>by
  have hl:E.length=A.length:=by rw[h,qz]
  rw[qw,zR.l10,sorted_eq (by omega),rawE,YR,qz]; rfl
 |e::B,A,i,acc,h,ha=>by
  have hl:E.length=A.length+(B.length+1):=by rw[h,qi,qj]
  have he:=ht e (by rw[h]; exact q5 _ (qn ..))
  have hA:∀ a∈A,a.fTag≠e.fTag:=fun a hm=>by
   rw[h] at hs;have:=(List.pairwise_append.1 hs).2.2 a hm e (qn ..)
   unfold Xk at this; omega
  have hg:yA ⟨E.map (entV f),rest⟩ e.fTag=some (e.fTrees.map f):=by
   rw[yA,h]; exact get_l4 he.1 A 0 hA
  rw[qD,zR.l10,hg,qf,raws_l24 (enc:=enc) e.fTrees 0 acc he.2 (by omega),rawE]
  cases hL:rawL enc e.fTag e.fTrees with
  |none=>rfl
  |some m=>
   have hm:=rawL_len hL;rw[YR,raws_l10 hs ht hn B (A++[e]) _ _ (by rw[h,qp]; rfl) (by rw[qi,qi,qC]; omega),qf]
   cases rawE enc B with
   |none=>rfl
   |some m'=>simp only[YR,qf,qp]
end
section
set_option maxRecDepth 4000
open AM
theorem putB_some {l:List GRaw}{b:List UInt8}(h:putB l=some b):b=Yh l∧b.length≤4096:=by
 unfold putB at h
 split at h
 · cases h
 cases h; exact⟨rfl,by omega⟩
theorem vcd {d:Nat}{t:GTree}{b:List UInt8}(h:vaw d t=some b):b.length≤4096:=by
 cases d with
 |zero=>cases h
 |succ d=>
  rw[vaw] at h;obtain⟨L,_,h⟩:=bind_some h;exact (putB_some h).2
theorem rawT_ok {d:Nat}{tag:Int}{x:GTree}{r:GRaw}(h1:1≤tag)(h2:tag≤500)(hx:In64 x.fN)(h:rawT (vaw d) tag x=some r):XE r∧r.fTag=tag:=by
 unfold rawT at h
 split at h
 · cases h; exact⟨⟨check_num h1 h2,hx⟩,rfl⟩
 split at h
 · split at h
   · cases h
   cases h; exact⟨⟨vaW h1 h2 (by omega),in0⟩,rfl⟩
 obtain⟨b,hb,h⟩:=bind_some h
 cases h; exact⟨⟨vaW h1 h2 (vcd hb),in0⟩,rfl⟩
theorem rawL_ok {d:Nat}{tag:Int}(h1:1≤tag)(h2:tag≤500):∀ {l:List GTree} {m:List GRaw},(∀ x∈l,In64 x.fN)→rawL (vaw d) tag l=some m→∀ r∈m,XE r∧r.fTag=tag
 |[],m,_,h,r,hr=>by cases h; cases hr
 |x::l,m,hx,h,r,hr=>by
  obtain⟨a,ha,h⟩:=bind_some h;obtain⟨m',hm,h⟩:=bind_some h;cases h
  rcases qF.1 hr with rfl|hr
  · exact rawT_ok h1 h2 (hx x (qn ..)) ha
  exact rawL_ok h1 h2 (fun z hz=>hx z (qm _ hz)) hm r hr
theorem rawE_ok {d:Nat}:∀ {l:List GEntry} {m:List GRaw},(∀ e∈l,1≤e.fTag∧e.fTag≤500∧∀ x∈e.fTrees,In64 x.fN)→rawE (vaw d) l=some m→∀ r∈m,XE r∧∃ e∈l,r.fTag=e.fTag
 |[],m,_,h,r,hr=>by cases h; cases hr
 |e::l,m,hx,h,r,hr=>by
  obtain⟨a,ha,h⟩:=bind_some h;obtain⟨m',hm,h⟩:=bind_some h;cases h;have he:=hx e (qn ..)
  rcases ui.1 hr with hr|hr
  · have:=rawL_ok he.1 he.2.1 he.2.2 ha r hr;exact⟨this.1,e,qn ..,this.2⟩
  obtain⟨h1,e',h2,h3⟩:=rawE_ok (fun z hz=>hx z (qm _ hz)) hm r hr;exact⟨h1,e',qm _ h2,h3⟩
theorem szT_own {d:Nat}{t:GTree}(h:szT d t):ownS t:=by
 cases d with
 |zero=>exact h
 |succ d=>exact h.1
theorem restB_mem {t:GTree}(h:restB t=true):(∀ r∈t.fRest,yn r=true∧∀ e∈t.fEntries,e.fTag≠r.fTag)∧t.fRest.Pairwise TagLe:=by
 unfold restB at h;rw[qo] at h;refine⟨fun r hr=>?_,risB_iff.1 h.2⟩;have:=ug.1 h.1 r hr;rw[qo,uT] at this;refine⟨this.1,fun e he hc=>?_⟩;have h2:=List.any_eq_false.1 this.2 e he;exact h2 (decide_eq_true hc)
theorem raws_ok {d:Nat}{t:GTree}{L:List GRaw}(hr:w6 (d+1) t=true)(h3:t.fKind=3)(hz:szT (d+1) t)(hL:rawE (vaw d) t.fEntries=some L):∀ r∈srt (t.fRest++L),XE r:=by
 obtain⟨_,he,hb,_,_⟩:=XQ hr h3
 intro r hm
 rw[srt_mem] at hm
 rcases ui.1 hm with hm|hm
 · exact⟨((restB_mem hb).1 r hm).1,hz.1.2.2 r hm⟩
 exact (rawE_ok (fun e hm=>by
  have:=Yl he e hm
  exact⟨by omega,this.2.1,fun x hx=>(szT_own (hz.2 x (ZH hm hx))).1⟩) hL r hm).1
def vb0 (o:Option (List UInt8)):List UInt8×Int:=
 match o with
 |some b=>(b,0)
 |none=>([],4)
theorem X9 {l:List GRaw}(h:∀ r∈l,XE r):ye l=some (vb0 (putB l)):=by
 rw[putAll_eq fun r hr=>(h r hr).2,if_pos (ug.2 fun r hr=>(h r hr).1),putB]
 split
 · rfl
 rfl
theorem tags_eq {f:GTree→GValueValue}{E:List GEntry}{rest:List GRaw}(h:E.length≤500):ya ⟨E.map (entV f),rest⟩=some (E.map GEntry.fTag):=by
 rw[ya];have:=tags_l8 (E.map (entV f)) 0 [] (by rw[ql,q7]; omega)
 rw[this,qx,List.map_map]; rfl
theorem raws_eq {selfB:GValueNode→Option (List UInt8×Int)}{selfR:Int→GValueValue→Option (GRaw×Int)}{selfS:GValueNode→Option (List GRaw×Int)}{f:GTree→GValueValue}{enc:GTree→Option (List UInt8)}{E:List GEntry}{rest:List GRaw}(hs:E.Pairwise Xk)(ht:∀ e∈E,e.fTrees.length≤64∧∀ x∈e.fTrees,selfR e.fTag (f x)=some (match rawT enc e.fTag x with|some r=>(r,0)|none=>(⟨0,0,0,[]⟩,4)))(hn:E.length≤500)(hr:rest.length≤900000):
 zR.body selfB selfR selfS ⟨E.map (entV f),rest⟩=YR (rawE enc E) fun m=>some (srt (rest++m),0):=by
 rw[zR.body,tags_eq hn,wQ,yS,xx (by dsimp only; omega),qf,qf,qf,qf];exact raws_l10 hs ht hn E [] 0 rest rfl (by rw[ql]; omega)
theorem bytes_eq : ∀ (d k:Nat) (t:GTree) (es:List GValueEntry) (rs:List GRaw),3*d≤k→w6 d t=true→t.fKind=3→szT d t→XU d t=.node es rs→xi k ⟨es,rs⟩=some (vb0 (vaw d t))
 |0,k,t,es,rs,_,hr,h3,_,_=>by
  rcases XG hr with h|h<;>omega
 |d+1,k,t,es,rs,hk,hr,h3,hz,hv=>by
  obtain⟨k',rfl⟩:∃ k',k=k'+3:=⟨k-3,by omega⟩
  obtain⟨hl,he,hb,_,_⟩:=XQ hr h3;rw[XU,if_neg (by omega),if_neg (by omega)] at hv;cases hv
  have hs:∀ e∈t.fEntries,e.fTrees.length≤64∧∀ x∈e.fTrees,yN (k'+1) e.fTag (XU d x)=some (match rawT (vaw d) e.fTag x with|some r=>(r,0)|none=>(⟨0,0,0,[]⟩,4)):=by
   intro e hm
   have h1:=Yl he e hm;refine⟨h1.2.2.2.1,fun x hx=>?_⟩;have hrx:=(h1.2.2.2.2 x hx).2;have hzx:=hz.2 x (ZH hm hx);rw[yN,yN.body,rawT]
   rcases XO hrx with h|h|h
   · have hv:XU d x=.num x.fN:=by cases d<;>rw[XU,if_pos h]
     rw[hv,if_pos h]; rfl
   · have hv:XU d x=.str x.fS:=by cases d<;>rw[XU,if_neg (by omega),if_pos h]
     rw[hv,if_neg (by omega),if_pos h,show wh (.str x.fS)=some (.str x.fS) from rfl,qf]
     dsimp only
     rw[yN.j3]
     by_cases hc:4096<x.fS.length
     · rw[if_pos hc,if_pos (by dsimp only; omega)]
     rw[if_neg hc,if_neg (by dsimp only; omega)]
   have h1':¬ x.fKind=1:=by omega
   have h2':¬ x.fKind=2:=by omega
   obtain⟨es,rs,hv⟩:∃ es rs,XU d x=.node es rs:=by cases d<;>exact⟨_,_,by rw[XU,if_neg h1',if_neg h2']⟩
   rw[hv,if_neg h1',if_neg h2',show wh (.node es rs)=some (.node es rs) from rfl,qf]
   dsimp only
   rw[bytes_eq d k' x es rs (by omega) hrx h hzx hv,qf]
   cases hx':vaw d x with
   |none=>rfl
   |some b=>
    have hbl:=vcd hx'
    rw[vb0]; dsimp only
    rw[if_pos rfl,yN.j3,if_neg (by dsimp only; omega),qf]
  have hR:zR (k'+2) ⟨t.fEntries.map fun e=>⟨e.fTag,e.fTrees.map (XU d)⟩,t.fRest⟩=YR (rawE (vaw d) t.fEntries) fun m=>some (srt (t.fRest++m),0):=by
   rw[zR];exact raws_eq (f:=XU d) (Xg he) hs hl hz.1.2.1
  rw[xi,xi.body,hR,vaw]
  cases hL:rawE (vaw d) t.fEntries with
  |none=>rfl
  |some L=>
   rw[YR,qf]; dsimp only
   rw[if_pos rfl,X9 (raws_ok hr h3 hz hL),qf,qf]
theorem rawE_eq {d k:Nat}{t:GTree}(hk:3*d+2≤k)(hr:w6 (d+1) t=true)(h3:t.fKind=3)(hz:szT (d+1) t):zR k ⟨t.fEntries.map (entV (XU d)),t.fRest⟩=YR (rawE (vaw d) t.fEntries) fun m=>some (srt (t.fRest++m),0):=by
 obtain⟨k',rfl⟩:∃ k',k=k'+2:=⟨k-2,by omega⟩
 obtain⟨hl,he,hb,_,_⟩:=XQ hr h3;rw[zR];refine raws_eq (f:=XU d) (Xg he) ?_ hl hz.1.2.1
 intro e hm
 have h1:=Yl he e hm;refine⟨h1.2.2.2.1,fun x hx=>?_⟩;have hrx:=(h1.2.2.2.2 x hx).2;have hzx:=hz.2 x (ZH hm hx);rw[yN,yN.body,rawT]
 rcases XO hrx with h|h|h
 · have hv:XU d x=.num x.fN:=by cases d<;>rw[XU,if_pos h]
   rw[hv,if_pos h]; rfl
 · have hv:XU d x=.str x.fS:=by cases d<;>rw[XU,if_neg (by omega),if_pos h]
   rw[hv,if_neg (by omega),if_pos h,show wh (.str x.fS)=some (.str x.fS) from rfl,qf]
   dsimp only
   rw[yN.j3]
   by_cases hc:4096<x.fS.length
   · rw[if_pos hc,if_pos (by dsimp only; omega)]
   rw[if_neg hc,if_neg (by dsimp only; omega)]
 have h1':¬ x.fKind=1:=by omega
 have h2':¬ x.fKind=2:=by omega
 obtain⟨es,rs,hv⟩:∃ es rs,XU d x=.node es rs:=by cases d<;>exact⟨_,_,by rw[XU,if_neg h1',if_neg h2']⟩
 rw[hv,if_neg h1',if_neg h2',show wh (.node es rs)=some (.node es rs) from rfl,qf]
 dsimp only
 rw[bytes_eq d k' x es rs (by omega) hrx h hzx hv,qf]
 cases hx':vaw d x with
 |none=>rfl
 |some b=>
  have hbl:=vcd hx'
  rw[vb0]; dsimp only
  rw[if_pos rfl,yN.j3,if_neg (by dsimp only; omega),qf]
theorem vab {t:GTree}(h:Yu t=true):w6 10 t=true∧XK 101 t≤10:=by
 unfold Yu at h;rw[qo,decide_eq_true_eq] at h;exact⟨h.2,h.1⟩
theorem Raws_eq {t:GTree}(hz:szT 10 t):wM t=some (if Yu t=true∧t.fKind=3 then (match rawE (vaw 9) t.fEntries with|some L=>(srt (t.fRest++L),(0:Int))|none=>([],4)) else ([],1)):=by
 rw[wM,of_eq hz,qf]
 by_cases hc:Yu t=true
 · rw[if_pos hc]
   by_cases h3:t.fKind=3
   · rw[if_neg (by rw[decide_eq_true h3]; exact uG),if_pos ⟨hc,h3⟩]
     have hv:XU 10 t=.node (t.fEntries.map (entV (XU 9))) t.fRest:=by rw[XU,if_neg (by omega),if_neg (by omega)]; rfl
     rw[hv,show yH (.node (t.fEntries.map (entV (XU 9))) t.fRest)=some ⟨t.fEntries.map (entV (XU 9)),t.fRest⟩ from rfl,qf,rawE_eq (d:=9) (by have:=yu; omega) (vab hc).1 h3 hz]
     cases rawE (vaw 9) t.fEntries<;>rfl
   rw[if_pos (by rw[decide_eq_false h3]; rfl),if_neg (fun h=>h3 h.2)]
 rw[if_neg hc,if_pos (by rfl),if_neg (fun h=>hc h.1)]
theorem Encode_eq {t:GTree}(hz:szT 10 t):xB t=some (if Yu t=true∧t.fKind=3 then vb0 (vaw 10 t) else ([],1)):=by
 rw[xB,Raws_eq hz,qf]
 by_cases hc:Yu t=true∧t.fKind=3
 · rw[if_pos hc,if_pos hc,vaw]
   cases hL:rawE (vaw 9) t.fEntries with
   |none=>rfl
   |some L=>
    dsimp only
    rw[if_pos rfl,X9 (raws_ok (vab hc.1).1 hc.2 hz hL),qf,qf]
 rw[if_neg hc,if_neg hc]; rfl
end
section
set_option maxRecDepth 4000
open AM
theorem ref_more (n:Nat):uc (qI (IntKind.u8.wrap ((IntKind.u8.wrap ((n:Int).tmod 128))+128)))=uc (n % 128+128):=by
 have e:(n:Int).tmod 128=((n % 128:Nat):Int):=by rw[Int.tmod_eq_emod_of_nonneg (by omega)]; omega
 rw[e,u8w,show ((n % 128 % 256:Nat):Int)+128=((n % 128+128:Nat):Int) by omega,u8w,qX]
 congr 1; omega
theorem ref_next {n:Nat}(h:n<2^64):IntKind.u64.wrap ((n:Int).tdiv 128)=((n / 128:Nat):Int):=by
 rw[Int.tdiv_eq_ediv_of_nonneg (by omega),u64i (by omega) (by omega)]; omega
theorem ref02_l : ∀ (k n:Nat) (l:List UInt8),n<2^64→(vb n).length≤k→l.length+k≤1000000→wA.l8 k l (n:Int)=some (l++vb n)
 |0,n,l,_,h,_=>by have:=vb_pos n; omega
 |k+1,n,l,hn,h,hl=>by
  by_cases h1:n<128
  · rw[wA.l8,if_neg (by omega),xx (by omega),qf,lastByte n h1,vb_lt h1]
  rw[vb_ge h1,qj] at h
  rw[wA.l8,if_pos (by omega),xx (by omega),qf,ref_more,ref_next hn,vb_ge h1,ref02_l k (n / 128) _ (by omega) (by omega) (by rw[qi,qC]; omega),qp]; rfl
theorem ref02_m : ∀ (k j n:Nat) (l r:List UInt8),n<2^64→wA.l8 k l (n:Int)=some r→wA.l8 (k+j) l (n:Int)=some r
 |0,_,_,_,_,_,h=>by cases h
 |k+1,j,n,l,r,hn,h=>by
  rw[Nat.succ_add_eq_add_succ,Nat.add_succ]
  by_cases h1:(128:Int)≤(n:Int)
  · rw[wA.l8,if_pos h1] at h ⊢
    cases hr:ZY (qc l+1) 1 with
    |none=>rw[hr] at h; cases h
    |some u=>
     rw[hr,qf,ref_next hn] at h
     rw[qf,ref_next hn]; exact ref02_m k j _ _ _ (by omega) h
  rw[wA.l8,if_neg h1] at h ⊢; exact h
theorem XD {n:Nat}(h:n<2^64):wA (n:Int)=some (vb n):=by
 have:=ref02_m 10 999999999999999999990 n [] (vb n) h (ref02_l 10 n [] h (ZW h) (by decide));exact this
theorem ref02_Zig_eq {n:Int}(h:In64 n):vbY n=(zg n:Int):=by
 obtain⟨h1,h2⟩:=h;unfold vbY zg
 by_cases h0:0≤n
 · rw[if_pos h0,if_pos h0,u64i h0 (by omega),u64i (by omega) (by omega)]; omega
 rw[if_neg h0,if_neg h0,yj (x:=n+1) (by omega) (by omega),yj (by omega) (by omega),u64i (x:=0-(n+1)) (by omega) (by omega),u64i (x:=2*(0-(n+1))) (by omega) (by omega),u64i (by omega) (by omega)]; omega
theorem XW (r:GRaw):Xa r=yn r:=by
 unfold Xa yn
 by_cases h0:r.fWire=0
 · simp only[h0,if_true]
 by_cases h1:r.fWire=1
 · simp only[h1,decide_true,uC,if_true]
 simp only[h0,h1,if_false,decide_false,Bool.false_and]
theorem ref04_Put_eq {r:GRaw}(h:XE r):vbW r=some (vaG r):=by
 obtain⟨hc,hn⟩:=h;obtain⟨h1,h2,h3⟩:=ZC hc
 have ek:IntKind.u64.wrap (IntKind.i64.wrap ((IntKind.i64.wrap (2*r.fTag))+r.fWire))=((vbe r:Nat):Int):=by
  rw[yj (x:=2*r.fTag) (by omega) (by omega),yj (by omega) (by omega),u64i (by omega) (by omega),vbe]; omega
 have k1:vbe r<2^64:=by unfold vbe; omega
 have kl:=ZW k1;unfold vbW;rw[ek,XD k1,qf]
 rcases h3 with ⟨h3,h4⟩|⟨h3,h4,h5⟩
 · have hz:=ZW (zg_lt hn);rw[if_pos h3,bnd,ref02_Zig_eq hn,XD (zg_lt hn),qf,xx (by omega),qf,vaG,if_pos h3]
 have hb:=ZW (n:=r.fB.length) (by omega);rw[if_neg (by omega),u64w (by omega),XD (by omega),qf,xx (by omega),qf,xx (by rw[qi]; omega),qf,vaG,if_neg (by omega),qp]
theorem ref04_l13 : ∀ (q:List GRaw) (x:Int) (acc:List UInt8),(∀ r∈q,XE r)→acc.length≤4096→xu.l13 q x acc=some (if 4096<(acc++Yh q).length then ([],4) else (acc++Yh q,0))
 |[],x,acc,_,ha=>by
  rw[xu.l13,Yh,uo,qz,if_neg (by omega)]
 |r::q,x,acc,h,ha=>by
  have hr:=h r (qn ..);have hrl:=rawB_le hr;rw[xu.l13,ref04_Put_eq hr,qf,xx (by omega),qf]
  have e:acc++Yh (r::q)=(acc++vaG r)++Yh q:=by rw[Yh,qP,qp]; rfl
  rw[e]
  by_cases h1:4096<(acc++vaG r).length
  · rw[if_pos (by omega),if_pos (by rw[qi]; omega)]
  rw[if_neg (by omega),ref04_l13 q (x+1) _ (fun s hs=>h s (qm _ hs)) (by omega)]
theorem ref04_l4 (a:List GRaw):∀ (q:List GRaw) (x:Int),xu.l4 a q x=if q.all yn then xu.l13 a 0 [] else some ([],1)
 |[],x=>by rw[xu.l4]; rfl
 |r::q,x=>by
  rw[xu.l4,bnd,q1,XW]
  by_cases h:yn r=true
  · rw[h,if_neg (by decide),ref04_l4 a q]; rfl
  rw[if_pos (by simpa using h),if_neg (by rw[qo]; exact fun hh=>h hh.1)]
theorem vbV {l:List GRaw}(h:∀ r∈l,In64 r.fN):xu l=ye l:=by
 rw[putAll_eq h,xu,ref04_l4]
 by_cases h1:l.all yn=true
 · rw[if_pos h1,if_pos h1,ref04_l13 l 0 [] (fun r hr=>⟨ug.1 h1 r hr,h r hr⟩) (by decide)]; rfl
 rw[if_neg h1,if_neg h1]
theorem set_app0 {α:Type}{A B:List α}{x y:α}{i:Int}(h:i=A.length):setI (A++x::B) i y=A++y::B:=by
 subst h;rw[setI,qX,List.set_append_right _ _ (qv _),uO,ul]
theorem ref_l20 {r:GRaw}(x4:Int)(rec8:Int→List GRaw→Option (List GRaw)):∀ (k:Nat) (A B:List GRaw),A.Pairwise TagLe→(∀ b∈B,r.fTag<b.fTag)→A.length<k→A.length<1000000→
 zA.l20 x4 rec8 k (A++r::B) (A.length:Int)=rec8 (x4+1) (vb4 r (A++B))
 |0,A,B,_,_,h,_=>by omega
 |k+1,A,B,hA,hB,hk,hn=>by
  have stop:(∀ a∈A,a.fTag≤r.fTag)→zA.j23 x4 rec8 (A++r::B) (A.length:Int) (zA.l20 x4 rec8 k) false=rec8 (x4+1) (vb4 r (A++B)):=by
   intro hle
   rw[zA.j23,if_neg (by decide),insR_app hle hB]
  rcases List.eq_nil_or_concat A with rfl|⟨A',a,rfl⟩
  · rw[zA.l20,if_neg (by simp)];exact stop (fun a ha=>by cases ha)
  rw[List.concat_eq_append] at *
  have hlA:(A'++[a]).length=A'.length+1:=by rw[qi,qC]
  have e1:IntKind.i64.wrap (((A'++[a]).length:Int)-1)=(A'.length:Int):=by rw[yj (by omega) (by omega)]; omega
  have i1:Zd ((A'++[a])++r::B) (A'.length:Int)=some a:=by rw[qp]; exact ZJ rfl
  have i2:Zd ((A'++[a])++r::B) ((A'++[a]).length:Int)=some r:=ZJ rfl;rw[zA.l20,if_pos (by omega),e1,i1,qf,i2,qf]
  by_cases hgt:r.fTag<a.fTag
  · have s1:setI ((A'++[a])++r::B) (A'.length:Int) r=(A'++[r])++r::B:=by
     rw[qp,qp]; exact set_app0 rfl
    have i3:Zd ((A'++[r])++r::B) ((A'++[a]).length:Int)=some r:=ZJ (by rw[hlA,qi,qC]);have s2:setI ((A'++[r])++r::B) ((A'++[a]).length:Int) a=(A'++[r])++a::B:=set_app0 (by rw[hlA,qi,qC]);rw[decide_eq_true hgt,zA.j23,if_pos rfl,i2,qf,e1,i1,qf,s1,i3,qf,s2,qp]
    have:=ref_l20 (r:=r) x4 rec8 k A' (a::B) (List.pairwise_append.1 hA).1 (fun b hb=>by
     rcases qF.1 hb with rfl|hb
     · exact hgt
     exact hB b hb) (by omega) (by omega)
    rw[qp];exact this
  rw[decide_eq_false hgt];refine stop ?_
  intro x hx
  rcases ui.1 hx with hx|hx
  · have:=(List.pairwise_append.1 hA).2.2 x hx a (uw.2 rfl)
    unfold TagLe at this; omega
  rw[uw] at hx; subst hx; omega
theorem ref_l8 : ∀ (q S:List GRaw) (x:Int),S.Pairwise TagLe→S.length+q.length<1000000→zA.l8 q x S=some (srtA q S)
 |[],S,x,_,_=>rfl
 |r::q,S,x,hS,hn=>by
  rw[qj] at hn;rw[zA.l8,xx (by omega),qf];have:=ref_l20 (r:=r) x (zA.l8 q) rounds S [] hS (fun b hb=>by cases hb) (by have:=yu; omega) (by omega);rw[qz] at this;rw[this,ref_l8 q (vb4 r S) _ (Yq hS) (by rw[var]; omega),srtA]
theorem XC {l:List GRaw}(h:l.length<1000000):zA l=some (srt l):=
 ref_l8 l [] 0 List.Pairwise.nil (by rw[ql]; omega)
theorem ref04_ris : ∀ (L:List GRaw) (k:Nat) (x:Int),Zh.l4 L k x=y0.l4 L k x
 |L,0,x=>rfl
 |L,k+1,x=>by
  rw[Zh.l4,y0.l4];simp only[ref04_ris L k]
theorem vbU (l:List GRaw):Zh l=y0 l:=ref04_ris l rounds 1
theorem rdeep_l18 {self:GTree→Int→Option Int}{m:Nat}{a:Int}(ha:a=100-m)(hm:m≤100)(hs:∀ x,self x (a+1)=some ((XK m x:Nat):Int)){x7:Int}{rec10:Int→Int→Option Int}:∀ (l:List GTree) (i:Int) (d:Nat),
 xb.l18 self a x7 rec10 l i (d:Int)=rec10 (x7+1) ((maxD (XK m) l d:Nat):Int)
 |[],i,d=>rfl
 |x::l,i,d=>by
  rw[xb.l18,yj (by omega) (by omega),hs,qf,maxD]
  have e:(if (d:Int)<((XK m x:Nat):Int) then ((XK m x:Nat):Int) else (d:Int))=((max d (XK m x):Nat):Int):=by split<;>omega
  rw[e]; exact rdeep_l18 ha hm hs l _ _
theorem rdeep_l10 {self:GTree→Int→Option Int}{m:Nat}{a:Int}(ha:a=100-m)(hm:m≤100)(hs:∀ x,self x (a+1)=some ((XK m x:Nat):Int)):∀ (l:List GEntry) (i:Int) (d:Nat),d≤m→
 xb.l10 self a l i (d:Int)=some ((maxD (XK m) (l.flatMap GEntry.fTrees) d+1:Nat):Int)
 |[],i,d,hd=>by
  rw[xb.l10,yj (by omega) (by omega),uo,maxD,if_neg (by omega)]; rfl
 |e::l,i,d,hd=>by
  rw[xb.l10,rdeep_l18 ha hm hs,rdeep_l10 ha hm hs l _ _ (maxD_le hd fun x _=>depT_le m x),qP,maxD_app]
theorem rdeep_eq : ∀ (m k:Nat) (t:GTree) (a:Int),m≤101→m<k→a=101-m→xb k t a=some ((XK m t:Nat):Int)
 |m,0,t,a,_,h,_=>by omega
 |0,k+1,t,a,_,_,ha=>by
  rw[xb,xb.body,if_pos (by simp only[qJ,decide_eq_true_eq]; right; omega)]; rfl
 |m+1,k+1,t,a,hm,hk,ha=>by
  rw[xb,xb.body,XK]
  by_cases h3:t.fKind=3
  · rw[if_neg (by simp only[h3,decide_true,qQ,uM,decide_eq_true_eq]; omega),if_pos h3];exact rdeep_l10 (by omega) (by omega) (fun x=>rdeep_eq m k x _ (by omega) (by omega) (by omega)) t.fEntries 0 0 (ux _)
  rw[if_pos (by simp[h3]),if_neg h3]; rfl
theorem ref09_Depth_eq (t:GTree):X5 t=some ((XK 101 t:Nat):Int):=by
 rw[X5,rdeep_eq 101 rounds t 0 (by omega) (by have:=yu; omega) (by omega)]; rfl
theorem rhas_eq {a:Int}:∀ (l:List GEntry) (i:Int),Yp.l4 a l i=l.any fun e=>decide (e.fTag=a)
 |[],i=>rfl
 |e::l,i=>by
  rw[Yp.l4,List.any_cons]
  by_cases h:e.fTag=a
  · rw[if_pos h,decide_eq_true h,Bool.true_or]
  rw[if_neg h,decide_eq_false h,uM,rhas_eq]
theorem rrest_l4 {t:GTree}(hr:t.fRest.length<4611686018427387904):∀ (l:List GRaw) (i:Int),wn.l4 t l i=some (l.all (fun r=>yn r && !(t.fEntries.any fun e=>decide (e.fTag=r.fTag)))&&risB t.fRest)
 |[],i=>by rw[wn.l4,vbU,rising_eq hr]; rfl
 |r::l,i=>by
  rw[wn.l4,bnd,q1,XW]
  cases hc:yn r with
  |false=>rfl
  |true=>
   rw[if_neg (by decide),bnd,Yp,rhas_eq]
   cases ha:t.fEntries.any fun e=>decide (e.fTag=r.fTag) with
   |true=>rfl
   |false=>rw[wn.j10,if_neg (by decide),rrest_l4 hr l]; rfl
theorem va2 {self:GTree→Option Bool}{f:GTree→Bool}{x3:Int}{rec6:Int→Int→Option Bool}{y:GEntry}(hy:1≤y.fTrees.length):∀ (l:List GTree) (i:Int),(∀ x∈l,self x=some (f x))→
 yo.l18 self x3 rec6 y l i=if (l.all fun x=>decide (x.fKind=(y.fTrees.headD zTree).fKind)&&f x)=true then rec6 (x3+1) y.fTag else some false
 |[],i,_=>by rw[yo.l18]; rfl
 |x::l,i,h=>by
  have e1:Zd y.fTrees 0=some (y.fTrees.headD zTree):=by
   cases ht:y.fTrees with
   |nil=>rw[ht] at hy; exact absurd hy (by decide)
   |cons a l=>rfl
  rw[yo.l18,e1,qf,q1]
  by_cases hk:x.fKind=(y.fTrees.headD zTree).fKind
  · rw[if_pos hk,h x (qn ..),qf,decide_eq_true hk,uC]
    cases f x with
    |false=>rfl
    |true=>
     rw[yo.j23,if_neg (by decide),va2 hy l _ fun z hz=>h z (qm _ hz),uC]
  rw[if_neg hk,decide_eq_false hk]; rfl
theorem vbR {self:GTree→Option Bool}{f:GTree→Bool}:∀ (l:List GEntry) (i last:Int),(∀ e∈l,∀ x∈e.fTrees,self x=some (f x))→yo.l6 self l i last=some (entB f last l)
 |[],i,last,_=>rfl
 |e::l,i,last,h=>by
  rw[yo.l6,entB]
  by_cases hc:last<e.fTag∧e.fTag≤500∧1≤e.fTrees.length∧e.fTrees.length≤64
  · rw[if_neg (by simp only[qJ,decide_eq_true_eq]; omega),va2 hc.2.2.1 e.fTrees 0 (h e (qn ..)),decide_eq_true hc,uC]
    cases ha:e.fTrees.all fun x=>decide (x.fKind=(e.fTrees.headD zTree).fKind)&&f x with
    |false=>rfl
    |true=>rw[if_pos rfl,vbR l _ _ fun y hy=>h y (qm _ hy),uC]
  rw[if_pos (by simp only[qJ,decide_eq_true_eq]; omega),decide_eq_false hc]; rfl
theorem rright_eq : ∀ (d m k:Nat) (t:GTree),d<m→XK m t≤d→2*d<k→szT d t→wJ k t=some (w6 d t)
 |d,m,0,t,_,_,h,_=>by omega
 |0,m+1,k+1,t,_,hd,_,hz=>by
  have h3:¬ t.fKind=3:=by
   intro h; rw[XK,if_pos h] at hd; omega
  rw[wJ,wJ.body,w6,leafB,if_neg h3]
  split<;>first|rfl|(split<;>rfl)
 |d+1,m+1,k+1,t,hm,hd,hk,hz=>by
  rw[wJ,wJ.body,w6]
  by_cases h3:t.fKind=3
  · have hd':maxD (XK m) (kids t) 0≤d:=by rw[XK,if_pos h3] at hd; omega
    obtain⟨k',rfl⟩:∃ k',k=k'+1:=⟨k-1,by omega⟩
    have he:yo (k'+1) t.fEntries=some (entB (w6 d) 0 t.fEntries):=by
     rw[yo,yo.body]
     exact vbR t.fEntries 0 0 fun e he x hx=>rright_eq d m k' x (by omega) (uy (maxD_mem (ZH he hx)) hd') (by omega) (hz.2 x (ZH he hx))
    have hr:wn t=some (restB t):=rrest_l4 (by have:=hz.1.2.1; omega) _ _;rw[if_neg (by omega),if_neg (by omega),if_pos h3,if_pos h3,he,hr]
    cases decide (t.fN=0)&&decide (t.fS=[]) with
    |false=>rfl
    |true=>cases entB (w6 d) 0 t.fEntries<;>rfl
  rw[if_neg h3,if_neg h3,leafB]
  split<;>first|rfl|(split<;>rfl)
theorem ref09_Check_eq {t:GTree}(hz:szT 10 t):X6 t=some (Yu t):=by
 rw[X6,ref09_Depth_eq,qf,Yu]
 by_cases h:XK 101 t≤10
 · rw[if_pos (by omega),rright_eq 10 101 rounds t (by omega) h (by have:=yu; omega) hz,decide_eq_true h,uC]; rfl
 rw[if_neg (by omega),decide_eq_false h]; rfl
end
section
set_option maxRecDepth 4000
open AM
theorem rraws_l22 {selfE:GTree→Option (List UInt8×Int)}{enc:GTree→Option (List UInt8)}{x4:Int}{rec8:Int→List GRaw→Option (List GRaw×Int)}{y:GEntry}:∀ (l:List GTree) (i:Int) (acc:List GRaw),(∀ x∈l,(x.fKind=1∨x.fKind=2∨x.fKind=3)∧(x.fKind=3→selfE x=some (vb0 (enc x))∧∀ b,enc x=some b→b.length≤4096))→acc.length+l.length<3000000→
 yJ.l22 selfE x4 rec8 y l i acc=YR (rawL enc y.fTag l) fun m=>rec8 (x4+1) (acc++m)
 |[],i,acc,_,_=>by rw[yJ.l22,rawL,YR,qz]
 |x::l,i,acc,h,hl=>by
  rw[qj] at hl;have hx:=h x (qn ..)
  have go:∀ r:GRaw,rawT enc y.fTag x=some r→r.fB.length≤4096→yJ.j37 i acc (yJ.l22 selfE x4 rec8 y l) r=YR (rawL enc y.fTag (x::l)) fun m=>rec8 (x4+1) (acc++m):=by
   intro r hr hb
   rw[yJ.j37,if_neg (by omega),xx (by omega),qf,rraws_l22 l _ _ (fun z hz=>h z (qm _ hz)) (by rw[qi,qC]; omega),rawL,hr,qf]
   cases rawL enc y.fTag l with
   |none=>rfl
   |some m=>simp only[YR,qf,qp,qG,qx]
  rw[yJ.l22]
  by_cases h1:x.fKind=1
  · rw[if_pos h1];exact go _ (by rw[rawT,if_pos h1]) (ux _)
  rw[if_neg h1]
  by_cases h2:x.fKind=2
  · rw[if_pos h2]
    by_cases hb:4096<x.fS.length
    · rw[yJ.j37,if_pos (by dsimp only; omega),rawL,rawT,if_neg h1,if_pos h2,if_pos hb]; rfl
    exact go _ (by rw[rawT,if_neg h1,if_pos h2,if_neg hb]) (by dsimp only; omega)
  rw[if_neg h2];obtain⟨he,hl4⟩:=hx.2 (by rcases hx.1 with h|h|h<;>omega);rw[he,qf]
  cases hx':enc x with
  |none=>rw[rawL,rawT,if_neg h1,if_neg h2,hx']; rfl
  |some b=>
   rw[vb0]; dsimp only
   rw[if_pos rfl];exact go _ (by rw[rawT,if_neg h1,if_neg h2,hx',qf]) (hl4 b hx')
theorem rraws_l8 {selfE:GTree→Option (List UInt8×Int)}{enc:GTree→Option (List UInt8)}{t:GTree}(hr:t.fRest.length≤900000):∀ (l:List GEntry) (i:Int) (acc:List GRaw),(∀ e∈l,e.fTrees.length≤64∧∀ x∈e.fTrees,(x.fKind=1∨x.fKind=2∨x.fKind=3)∧(x.fKind=3→selfE x=some (vb0 (enc x))∧∀ b,enc x=some b→b.length≤4096))→acc.length+64*l.length≤64000→
 yJ.l8 selfE t l i acc=YR (rawE enc l) fun m=>some (srt ((acc++m)++t.fRest),0)
 |[],i,acc,_,hl=>by
  rw[yJ.l8,xx (by simp only[ql] at hl; omega),qf,XC (by rw[qi]; simp only[ql] at hl; omega),rawE,YR,qz]; rfl
 |e::l,i,acc,h,hl=>by
  rw[qj] at hl;have he:=h e (qn ..);rw[yJ.l8,rraws_l22 e.fTrees 0 acc he.2 (by omega),rawE]
  cases hL:rawL enc e.fTag e.fTrees with
  |none=>rfl
  |some m=>
   have hm:=rawL_len hL;rw[YR,rraws_l8 hr l _ _ (fun z hz=>h z (qm _ hz)) (by rw[qi]; omega),qf]
   cases rawE enc l with
   |none=>rfl
   |some m'=>simp only[YR,qf,qp]
theorem vb6 {l:List GRaw}{t:Int}(h:∀ r∈l,r.fTag≠t):l.filter (fun x=>x.fTag=t)=[]:=by
 rw[List.filter_eq_nil_iff]
 intro r hr
 simpa using h r hr
theorem srt_swap {l m:List GRaw}(h:∀ a∈l,∀ b∈m,a.fTag≠b.fTag):srt (l++m)=srt (m++l):=by
 refine srt_of (srt_sorted _) fun t=>?_
 rw[srt_filter,List.filter_append,List.filter_append]
 by_cases hl:∃ a∈l,a.fTag=t
 · obtain⟨a,ha,rfl⟩:=hl;rw[vb6 (l:=m) (t:=a.fTag) fun b hb hc=>h a ha b hb hc.symm,qz,qx]
 rw[vb6 (l:=l) (t:=t) fun a ha hc=>hl ⟨a,ha,hc⟩,qz,qx]
theorem rest_apart {d:Nat}{t:GTree}{L:List GRaw}(hr:w6 (d+1) t=true)(h3:t.fKind=3)(hz:szT (d+1) t)(hL:rawE (vaw d) t.fEntries=some L):∀ a∈L,∀ b∈t.fRest,a.fTag≠b.fTag:=by
 obtain⟨_,he,hb,_,_⟩:=XQ hr h3
 intro a ha b hb' hc
 obtain⟨_,e,hm,he'⟩:=rawE_ok (fun e hm=>by
  have:=Yl he e hm
  exact⟨by omega,this.2.1,fun x hx=>(szT_own (hz.2 x (ZH hm hx))).1⟩) hL a ha
 exact ((restB_mem hb).1 b hb').2 e hm (he'.symm.trans hc)
theorem rencode_eq : ∀ (d k:Nat) (t:GTree),2*d≤k→w6 d t=true→t.fKind=3→szT d t→wz k t=some (vb0 (vaw d t))
 |0,k,t,_,hr,h3,_=>by
  rcases XG hr with h|h<;>omega
 |d+1,k,t,hk,hr,h3,hz=>by
  obtain⟨k',rfl⟩:∃ k',k=k'+2:=⟨k-2,by omega⟩
  obtain⟨hl,he,hb,_,_⟩:=XQ hr h3
  have hs:∀ e∈t.fEntries,e.fTrees.length≤64∧∀ x∈e.fTrees,(x.fKind=1∨x.fKind=2∨x.fKind=3)∧(x.fKind=3→wz k' x=some (vb0 (vaw d x))∧∀ b,vaw d x=some b→b.length≤4096):=by
   intro e hm
   have h1:=Yl he e hm;refine⟨h1.2.2.2.1,fun x hx=>?_⟩;have hrx:=(h1.2.2.2.2 x hx).2;exact⟨XO hrx,fun hx3=>⟨rencode_eq d k' x (by omega) hrx hx3 (hz.2 x (ZH hm hx)),fun b=>vcd⟩⟩
  rw[wz,wz.body,yJ,yJ.body,rraws_l8 (enc:=vaw d) hz.1.2.1 t.fEntries 0 [] hs (by rw[ql]; omega),vaw]
  cases hL:rawE (vaw d) t.fEntries with
  |none=>rfl
  |some L=>
   have hok:=raws_ok hr h3 hz hL
   rw[YR,qf,qx,srt_swap (rest_apart hr h3 hz hL)]; dsimp only
   rw[if_pos rfl,vbV fun r hr=>(hok r hr).2,X9 hok,qf,qf]
theorem vbT {t:GTree}(hz:szT 10 t):XB t=some (if Yu t=true∧t.fKind=3 then vb0 (vaw 10 t) else ([],1)):=by
 rw[XB,ref09_Check_eq hz]
 by_cases h3:t.fKind=3
 · rw[if_pos h3,qf,qf]
   by_cases hc:Yu t=true
   · rw[if_neg (by rw[hc]; decide),if_pos ⟨hc,h3⟩,rencode_eq 10 rounds t (by have:=yu; omega) (vab hc).1 h3 hz,qf]
   rw[if_pos (by simpa using hc),if_neg (fun h=>hc h.1)]
 rw[if_neg h3,qf,if_pos rfl,if_neg (fun h=>h3 h.2)]
def deepT : Nat→GTree→Prop
 |0,t=>kids t=[]
 |d+1,t=>∀ x∈kids t,deepT d x
theorem rawEqB {r:GRaw}:(!(decide (r.fTag=r.fTag)&&(decide (r.fWire=r.fWire)&&(decide (r.fN=r.fN)&&decide (r.fB=r.fB)))))=false:=by simp
theorem same_l28 {self:GTree→GTree→Option Bool}{x11:Int}{rec13:Int→Option Bool}{y:GEntry}:∀ (B A:List GTree),y.fTrees=A++B→(∀ x∈B,self x x=some true)→zN.l28 self x11 rec13 y B (A.length:Int)=rec13 (x11+1)
 |[],A,_,_=>rfl
 |x::B,A,h,hs=>by
  have ei:Zd y.fTrees (A.length:Int)=some x:=by rw[h]; exact ZJ rfl
  rw[zN.l28,ei,qf,hs x (qn ..),qf,if_neg (by decide),show (A.length:Int)+1=((A++[x]).length:Int) by rw[qi,qC]; omega]
  exact same_l28 B (A++[x]) (by rw[h,qp]; rfl) fun z hz=>hs z (qm _ hz)
theorem same_l13 {self:GTree→GTree→Option Bool}{t:GTree}:∀ (B A:List GEntry),t.fEntries=A++B→(∀ e∈B,∀ x∈e.fTrees,self x x=some true)→zN.l13 self t B (A.length:Int)=some true
 |[],A,_,_=>rfl
 |e::B,A,h,hs=>by
  have ei:Zd t.fEntries (A.length:Int)=some e:=by rw[h]; exact ZJ rfl
  rw[zN.l13,ei,qf,if_neg (by simp)];have:=same_l28 (self:=self) (x11:=(A.length:Int)) (rec13:=zN.l13 self t B) (y:=e) e.fTrees [] rfl (hs e (qn ..));rw[ql] at this;refine this.trans ?_;rw[show (A.length:Int)+1=((A++[e]).length:Int) by rw[qi,qC]; omega]
  exact same_l13 B (A++[e]) (by rw[h,qp]; rfl) fun z hz=>hs z (qm _ hz)
theorem same_l8 {self:GTree→GTree→Option Bool}{t:GTree}:∀ (B A:List GRaw),t.fRest=A++B→zN.l8 self t t B (A.length:Int)=zN.l13 self t t.fEntries 0
 |[],A,_=>rfl
 |r::B,A,h=>by
  have ei:Zd t.fRest (A.length:Int)=some r:=by rw[h]; exact ZJ rfl
  rw[zN.l8,ei,qf,rawEqB,if_neg (by decide),show (A.length:Int)+1=((A++[r]).length:Int) by rw[qi,qC]; omega];exact same_l8 B (A++[r]) (by rw[h,qp]; rfl)
theorem same_refl : ∀ (d k:Nat) (t:GTree),d<k→deepT d t→zN k t t=some true
 |d,0,t,h,_=>by omega
 |d,k+1,t,hk,hd=>by
  rw[zN,zN.body,if_neg (by simp)];have h8:=same_l8 (self:=zN k) (t:=t) t.fRest [] rfl;rw[ql] at h8;refine h8.trans ?_
  have h13:=same_l13 (self:=zN k) (t:=t) t.fEntries [] rfl fun e he x hx=>by
   have hm:=ZH he hx
   cases d with
   |zero=>rw[show kids t=[] from hd] at hm; cases hm
   |succ d=>exact same_refl d k x (by omega) (hd x hm)
  rw[ql] at h13;exact h13
theorem Same_refl {d:Nat}{t:GTree}(hd:d<1000)(h:deepT d t):zN rounds t t=some true:=same_refl d rounds t (by have:=yu; omega) h
end
section
set_option maxRecDepth 4000
open AM
theorem count_l (a:List UInt8):∀ (k p:Nat) (x:Int),0<k→a.length<p+k→∃ v,yQ.l9 a k p x=some v
 |0,p,x,h0,hk=>by omega
 |k+1,p,x,_,hk=>by
  have hd:=YC a p;rw[yQ.l9]
  split
  · exact count_l a k _ _ (by omega) (by omega)
  exact⟨_,rfl⟩
theorem count_t {a:List UInt8}(h:a.length≤9223372036854775807):∃ v,yQ a=some v:=by
 rw[yQ,runesV_eq h,qf]
 split
 · exact⟨_,rfl⟩
 exact count_l a rounds 0 0 (by have:=yu; omega) (by have:=yu; omega)
theorem name_l (a:List UInt8):∀ (k p:Nat),0<k→a.length<p+k→∃ v,yF.l11 a k p=some v
 |0,p,h0,hk=>by omega
 |k+1,p,_,hk=>by
  have hd:=YC a p;rw[yF.l11]
  split
  · obtain⟨v,e⟩:=name_l a k (p+(YI a p).2) (by omega) (by omega);rw[e];unfold bnd
    dsimp only
    repeat' split
    all_goals exact⟨_,rfl⟩
  exact⟨_,rfl⟩
def nameV (a:List UInt8):Bool:=(yF a).getD false
def nmOk (a:List UInt8):Prop:=a.length≤140737488351232
theorem nameV_eq {a:List UInt8}(h:nmOk a):yF a=some (nameV a):=by
 unfold nmOk at h
 have:∃ v,yF a=some v:=by
  obtain⟨v,e⟩:=count_t (a:=a) (by omega);rw[yF,e,qf];obtain⟨w,ew⟩:=name_l a rounds 0 (by have:=yu; omega) (by have:=yu; omega);rw[ew];unfold bnd
  dsimp only
  repeat' split
  all_goals exact⟨_,rfl⟩
 obtain⟨v,e⟩:=this
 unfold nameV; rw[e]; rfl
theorem vbG {m:List (List UInt8×Bool)}{a:List UInt8}(h:nmOk a):∃ r,yi m a=some r:=by
 rw[yi,nameV_eq h,qf]
 split<;>exact⟨_,rfl⟩
def nmM (m:GMessage):Prop:=nmOk m.fName∧∀ f∈m.fFields,nmOk f.fName
def nmE (e:GEnumeration):Prop:=nmOk e.fName∧∀ v∈e.fValues,nmOk v.fName
def nmS (s:GSchema):Prop:=nmOk s.fName∧(∀ m∈s.fMessages,nmM m)∧(∀ e∈s.fEnums,nmE e)∧∀ x∈s.fMethods,nmOk x.fName
theorem msg_l21 {s:GSchema}{r2:Bool×List (List UInt8×Bool)}:∀ (l:List GField) (i:Int) (a:List (Int×Bool)) (b:List (List UInt8×Bool)),(∀ f∈l,nmOk f.fName)→∃ r,zF.l21 s r2 l i a b=some r
 |[],i,a,b,_=>⟨_,rfl⟩
 |f::l,i,a,b,h=>by
  obtain⟨r,e⟩:=vbG (m:=b) (h f (qn ..));rw[zF.l21,e,qf]
  split
  · exact⟨_,rfl⟩
  unfold bnd
  dsimp only
  split
  · exact⟨_,rfl⟩
  split
  · exact⟨_,rfl⟩
  exact msg_l21 l _ _ _ fun g hg=>h g (qm _ hg)
theorem msg_l12 {s:GSchema}{m:GMessage}{r2:Bool×List (List UInt8×Bool)}(hm:∀ f∈m.fFields,nmOk f.fName):∀ (l:List Int) (i:Int) (a:List (Int×Bool)),∃ r,zF.l12 s m r2 l i a=some r
 |[],i,a=>msg_l21 _ _ _ _ hm
 |n::l,i,a=>by
  rw[zF.l12];unfold bnd
  dsimp only
  split
  · exact⟨_,rfl⟩
  exact msg_l12 hm l _ _
theorem msg_t {s:GSchema}{a:List (List UInt8×Bool)}{m:GMessage}(hm:nmM m):∃ r,zF s a m=some r:=by
 obtain⟨r,e⟩:=vbG (m:=a) hm.1;rw[zF,e,qf]
 split
 · exact⟨_,rfl⟩
 split
 · exact⟨_,rfl⟩
 exact msg_l12 hm.2 _ _ _
theorem enum_l23 {r2:Bool×List (List UInt8×Bool)}:∀ (l:List GNamed) (i:Int) (a:List (List UInt8×Bool)) (b:List (Int×Bool)),(∀ f∈l,nmOk f.fName)→∃ r,yw.l23 r2 l i a b=some r
 |[],i,a,b,_=>⟨_,rfl⟩
 |f::l,i,a,b,h=>by
  obtain⟨r,e⟩:=vbG (m:=a) (h f (qn ..));rw[yw.l23,e,qf]
  split
  · exact⟨_,rfl⟩
  split
  · exact⟨_,rfl⟩
  exact enum_l23 l _ _ _ fun g hg=>h g (qm _ hg)
theorem enum_l12 {x:GEnumeration}{r2:Bool×List (List UInt8×Bool)}(hx:∀ v∈x.fValues,nmOk v.fName):∀ (l:List GNamed) (i:Int) (z:Bool),∃ r,yw.l12 x r2 l i z=some r
 |[],i,z=>by
  rw[yw.l12]
  split
  · exact⟨_,rfl⟩
  exact enum_l23 _ _ _ _ hx
 |v::l,i,z=>by rw[yw.l12]; exact enum_l12 hx l _ _
theorem enum_t {a:List (List UInt8×Bool)}{x:GEnumeration}(hx:nmE x):∃ r,yw a x=some r:=by
 obtain⟨r,e⟩:=vbG (m:=a) hx.1;rw[yw,e,qf]
 split
 · exact⟨_,rfl⟩
 split
 · exact⟨_,rfl⟩
 exact enum_l12 hx.2 _ _ _
theorem chk_l29 {s:GSchema}:∀ (l:List GMethod) (i:Int) (a:List (List UInt8×Bool)),(∀ x∈l,nmOk x.fName)→∃ r,zw.l29 s l i a=some r
 |[],i,a,_=>⟨_,rfl⟩
 |x::l,i,a,h=>by
  obtain⟨r,e⟩:=vbG (m:=a) (h x (qn ..));rw[zw.l29];unfold bnd
  dsimp only
  rw[e,qf]
  split
  · exact⟨_,rfl⟩
  split
  · exact⟨_,rfl⟩
  exact chk_l29 l _ _ fun g hg=>h g (qm _ hg)
theorem chk_l22 {s:GSchema}(hs:∀ x∈s.fMethods,nmOk x.fName):∀ (l:List GEnumeration) (i:Int) (a:List (List UInt8×Bool)),(∀ x∈l,nmE x)→∃ r,zw.l22 s l i a=some r
 |[],i,a,_=>chk_l29 _ _ _ hs
 |x::l,i,a,h=>by
  obtain⟨r,e⟩:=enum_t (a:=a) (h x (qn ..));rw[zw.l22,e,qf]
  split
  · exact chk_l22 hs l _ _ fun g hg=>h g (qm _ hg)
  exact⟨_,rfl⟩
theorem chk_l15 {s:GSchema}(hs:nmS s):∀ (l:List GMessage) (i:Int) (a:List (List UInt8×Bool)),(∀ x∈l,nmM x)→∃ r,zw.l15 s l i a=some r
 |[],i,a,_=>chk_l22 hs.2.2.2 _ _ _ hs.2.2.1
 |x::l,i,a,h=>by
  obtain⟨r,e⟩:=msg_t (s:=s) (a:=a) (h x (qn ..));rw[zw.l15,e,qf]
  split
  · exact chk_l15 hs l _ _ fun g hg=>h g (qm _ hg)
  exact⟨_,rfl⟩
def chkV (s:GSchema):Int:=(zw s).getD 0
theorem chkV_eq {s:GSchema}(hs:nmS s):zw s=some (chkV s):=by
 have:∃ r,zw s=some r:=by
  rw[zw,nameV_eq hs.1,qf]
  split
  · exact⟨_,rfl⟩
  split
  · exact⟨_,rfl⟩
  split
  · exact⟨_,rfl⟩
  exact chk_l15 hs _ _ _ hs.2.1
 obtain⟨v,e⟩:=this
 unfold chkV; rw[e]; rfl
end
section
set_option maxRecDepth 4000
open AM
inductive Shuf : List GRaw→List GRaw→Prop
 |refl (l:List GRaw):Shuf l l
 |cons (a:GRaw) {l m:List GRaw}:Shuf l m→Shuf (a::l) (a::m)
 |swap {a b:GRaw} (h:a.fTag≠b.fTag) (l:List GRaw):Shuf (a::b::l) (b::a::l)
 |trans {l m n:List GRaw}:Shuf l m→Shuf m n→Shuf l n
theorem Shuf.app {l m:List GRaw}(h:Shuf l m)(k:List GRaw):Shuf (l++k) (m++k):=by
 induction h with
 |refl l=>exact .refl _
 |cons a _ ih=>exact .cons a ih
 |swap h l=>exact .swap h _
 |trans _ _ h1 h2=>exact .trans h1 h2
end
section
set_option maxRecDepth 4000
open AM

end
section
set_option maxRecDepth 4000
open AM

end
section
set_option maxRecDepth 4000
open AM

end
section
set_option maxRecDepth 4000
open AM
theorem msgI_l21 {s:GSchema}{r2:Bool×List (List UInt8×Bool)}{z:List (List UInt8×Bool)}:∀ {l:List GField} {i:Int} {a:List (Int×Bool)} {b:List (List UInt8×Bool)},zF.l21 s r2 l i a b=some (0,z)→∀ f∈l,1≤f.fType.fKind∧f.fType.fKind≤7
 |[],_,_,_,_,f,hf=>by cases hf
 |g::l,i,a,b,h,f,hf=>by
  rw[zF.l21] at h;obtain⟨r,_,h⟩:=bind_some h
  split at h
  · cases h
  unfold bnd at h
  dsimp only at h
  split at h
  · cases h
  split at h
  · cases h
  rename_i hc
  rcases qF.1 hf with rfl|hf
  · rw[uT,Bool.not_eq_false] at hc;unfold xX at hc
    split at hc
    · omega
    split at hc
    · omega
    simp only[qo,decide_eq_true_eq] at hc
    omega
  exact msgI_l21 h f hf
theorem msgI_l12 {s:GSchema}{m:GMessage}{r2:Bool×List (List UInt8×Bool)}{z:List (List UInt8×Bool)}:∀ {l:List Int} {i:Int} {a:List (Int×Bool)},zF.l12 s m r2 l i a=some (0,z)→∀ f∈m.fFields,1≤f.fType.fKind∧f.fType.fKind≤7
 |[],_,_,h=>msgI_l21 h
 |n::l,i,a,h=>by
  rw[zF.l12] at h;unfold bnd at h
  dsimp only at h
  split at h
  · cases h
  exact msgI_l12 h
theorem msgI {s:GSchema}{a z:List (List UInt8×Bool)}{m:GMessage}(h:zF s a m=some (0,z)):∀ f∈m.fFields,1≤f.fType.fKind∧f.fType.fKind≤7:=by
 rw[zF] at h;obtain⟨r,_,h⟩:=bind_some h
 split at h
 · cases h
 split at h
 · cases h
 exact msgI_l12 h
def kindsS (s:GSchema):Prop:=∀ m∈s.fMessages,∀ f∈m.fFields,1≤f.fType.fKind∧f.fType.fKind≤7
theorem chkI_l15 {s:GSchema}:∀ {l:List GMessage} {i:Int} {a:List (List UInt8×Bool)},zw.l15 s l i a=some 0→∀ m∈l,∀ f∈m.fFields,1≤f.fType.fKind∧f.fType.fKind≤7
 |[],_,_,_,m,hm=>by cases hm
 |x::l,i,a,h,m,hm=>by
  rw[zw.l15] at h;obtain⟨⟨v,z⟩,e,h⟩:=bind_some h
  dsimp only at h
  split at h
  · rename_i h0
    subst h0
    rcases qF.1 hm with rfl|hm
    · exact msgI e
    exact chkI_l15 h m hm
  rename_i h0
  exact absurd (Option.some.inj h) h0
theorem kindsS_of {s:GSchema}(h:zw s=some 0):kindsS s:=by
 rw[zw] at h;obtain⟨r,_,h⟩:=bind_some h
 split at h
 · cases h
 split at h
 · cases h
 split at h
 · cases h
 exact chkI_l15 h
theorem msg_mem {n:List UInt8}:∀ (l:List GMessage) (i:Int),((zG.l4 n l i).1∈l∧(zG.l4 n l i).2=true)∨((zG.l4 n l i).1.fFields=[]∧(zG.l4 n l i).2=false)
 |[],i=>Or.inr ⟨rfl,rfl⟩
 |m::l,i=>by
  rw[zG.l4]
  split
  · exact Or.inl ⟨qn ..,rfl⟩
  rcases msg_mem (n:=n) l (i+1) with h|h
  · exact Or.inl ⟨qm _ h.1,h.2⟩
  exact Or.inr h
def kindsM (m:GMessage):Prop:=∀ f∈m.fFields,1≤f.fType.fKind∧f.fType.fKind≤7
theorem kinds_msg {s:GSchema}(h:kindsS s)(n:List UInt8):kindsM (vaN s n):=by
 rcases msg_mem (n:=n) s.fMessages 0 with e|e
 · exact h _ e.1
 intro f hf
 have:(vaN s n).fFields=[]:=e.1
 rw[this] at hf; cases hf
end
section
set_option maxRecDepth 4000
open AM
def szS (s:GSchema):Prop:=nmS s∧s.fMessages.length*64≤140737488351232∧s.fEnums.length*40≤140737488351232∧s.fMethods.length*48≤140737488351232∧(∀ m∈s.fMessages,m.fFields.length*56≤140737488351232∧m.fReserved.length*8≤140737488351232)∧∀ e∈s.fEnums,e.fValues.length*24≤140737488351232
theorem ge_eta (e:GEnumeration):(⟨e.fName,e.fValues⟩:GEnumeration)=e:=rfl
theorem gm_eta (m:GMessage):(⟨m.fName,m.fFields,m.fReserved⟩:GMessage)=m:=rfl
theorem schema_l19 {s:GSchema}{M:List GMessage}(hs:szS s):∀ (B A:List GEnumeration) (i:Int),s.fEnums=A++B→yh.l19 s M B i A=some ⟨s.fName,M,s.fEnums,s.fMethods⟩
 |[],A,i,h=>by rw[yh.l19,h,qz]
 |e::B,A,i,h=>by
  have hl:s.fEnums.length=A.length+(B.length+1):=by rw[h,qi,qj]
  have h1:=hs.2.2.1;have h2:=hs.2.2.2.2.2 e (by rw[h]; exact q5 _ (qn ..));rw[yh.l19,xx (by omega),qf,xx (by omega),qf,ge_eta,schema_l19 hs B (A++[e]) _ (by rw[h,qp]; rfl)]
theorem schema_l10 {s:GSchema}(hs:szS s):∀ (B A:List GMessage) (i:Int),s.fMessages=A++B→yh.l10 s B i A=some s
 |[],A,i,h=>by
  rw[yh.l10,schema_l19 hs s.fEnums [] 0 rfl];rw[qz] at h;rw[← h]
 |m::B,A,i,h=>by
  have hl:s.fMessages.length=A.length+(B.length+1):=by rw[h,qi,qj]
  have h1:=hs.2.1;have h2:=hs.2.2.2.2.1 m (by rw[h]; exact q5 _ (qn ..));rw[yh.l10,xx (by omega),qf,wv,xx (by omega),qf,qf,xx (by omega),qf,gm_eta,schema_l10 hs B (A++[m]) _ (by rw[h,qp]; rfl)]
theorem schema_eq {s:GSchema}(hs:szS s):yh s=some s:=by
 have:=hs.2.2.2.1;rw[yh,xx (by omega),qf,schema_l10 hs s.fMessages [] 0 rfl]
theorem bytes_copy {b:List UInt8}(h:b.length≤140737488355328):xV b=some b:=by
 rw[xV,xx (by omega),qf]
theorem few_l25 {m:GMessage}{x2 x3:Int}{rec6:Int→Int→Option Bool}(hr:∃ b,rec6 (IntKind.i64.wrap (x2+(qc m.fName:Int))) (IntKind.i64.wrap (x3+1))=some b):∀ (l:List GField) (i:Int),∃ b,zI.l25 x2 x3 rec6 m l i=some b
 |[],_=>by rw[zI.l25]; exact hr
 |f::l,i=>by
  rw[zI.l25]
  split
  · exact⟨_,rfl⟩
  exact few_l25 hr l _
theorem few_l60 {x:Int}{rec43:Int→Option Bool}(hr:∃ b,rec43 (IntKind.i64.wrap (x+1))=some b):∀ (l:List GNamed) (i:Int),∃ b,zI.l60 x rec43 l i=some b
 |[],_=>by rw[zI.l60]; exact hr
 |f::l,i=>by
  rw[zI.l60]
  split
  · exact⟨_,rfl⟩
  exact few_l60 hr l _
theorem Xo {α:Type}{l:List α}{j:Nat}(h:j<l.length):Zd l (j:Int)=some (l[j]'h):=
 idx_t (by omega) (by rw[qX]; exact qZ h)
theorem few_l78 {s:GSchema}{n:Int}:∀ (k j:Nat),20<k+j→j≤20→∃ b,zI.l78 s n k (j:Int)=some b
 |0,j,h,h'=>by omega
 |k+1,j,h,h'=>by
  rw[zI.l78]
  split
  · rename_i hc
    simp only[qo,decide_eq_true_eq] at hc;rw[Xo (show j<s.fMethods.length by omega),qf]
    split
    · exact⟨_,rfl⟩
    rw[yj (by omega) (by omega),show (j:Int)+1=((j+1:Nat):Int) by omega];exact few_l78 k (j+1) (by omega) (by omega)
  exact⟨_,rfl⟩
theorem few_l43 {s:GSchema}{n:Int}:∀ (k j:Nat),20<k+j→j≤20→∃ b,zI.l43 s n k (j:Int)=some b
 |0,j,h,h'=>by omega
 |k+1,j,h,h'=>by
  rw[zI.l43]
  split
  · rename_i hc
    simp only[qo,decide_eq_true_eq] at hc;rw[Xo (show j<s.fEnums.length by omega),qf]
    split
    · exact⟨_,rfl⟩
    refine few_l60 ?_ _ _;rw[yj (by omega) (by omega),show (j:Int)+1=((j+1:Nat):Int) by omega];exact few_l43 k (j+1) (by omega) (by omega)
  exact few_l78 rounds 0 (by have:=yu; omega) (by omega)
theorem few_l6 {s:GSchema}:∀ (k j:Nat) (n:Int),20<k+j→j≤20→∃ b,zI.l6 s k n (j:Int)=some b
 |0,j,n,h,h'=>by omega
 |k+1,j,n,h,h'=>by
  rw[zI.l6]
  split
  · rename_i hc
    simp only[qo,decide_eq_true_eq] at hc;rw[Xo (show j<s.fMessages.length by omega),qf]
    split
    · exact⟨_,rfl⟩
    refine few_l25 ?_ _ _;rw[yj (x:=(j:Int)+1) (by omega) (by omega),show (j:Int)+1=((j+1:Nat):Int) by omega];exact few_l6 k (j+1) _ (by omega) (by omega)
  exact few_l43 rounds 0 (by have:=yu; omega) (by omega)
theorem few_t (s:GSchema):∃ b,zI s=some b:=few_l6 rounds 0 _ (by have:=yu; omega) (by omega)
end
section
set_option maxRecDepth 4000
open AM
def bt (a:List UInt8)(i:Nat):Nat:=(a.getD i 0).toNat
theorem bt_lt (a:List UInt8)(i:Nat):bt a i<256:=UInt8.toNat_lt _
theorem bt_get {a:List UInt8}{i:Nat}(h:i<a.length):bt a i=(a[i]'h).toNat:=by
 unfold bt; rw[qu,qZ h]; rfl
theorem bt_drop (a:List UInt8)(p i:Nat):bt (a.drop p) i=bt a (p+i):=by
 unfold bt; rw[qu,qu,List.getElem?_drop]
def decB (b:Nat→Nat)(n:Nat):Nat×Nat:=
 if b 0<128 then (b 0,1)
 else if b 0 / 32=6∧(1<n∧b 1 / 64=2) then
  (if 128≤b 0 % 32*64+b 1 % 64 then (b 0 % 32*64+b 1 % 64,2) else (65533,1))
 else if b 0 / 16=14∧(1<n∧b 1 / 64=2)∧(2<n∧b 2 / 64=2) then
  (if 2048≤b 0 % 16*4096+b 1 % 64*64+b 2 % 64∧Utf8.valid ((b 0 % 16*4096+b 1 % 64*64+b 2 % 64:Nat):Int)=true then (b 0 % 16*4096+b 1 % 64*64+b 2 % 64,3) else (65533,1))
 else if b 0 / 8=30∧(1<n∧b 1 / 64=2)∧(2<n∧b 2 / 64=2)∧(3<n∧b 3 / 64=2) then
  (if 65536≤b 0 % 8*262144+b 1 % 64*4096+b 2 % 64*64+b 3 % 64∧Utf8.valid ((b 0 % 8*262144+b 1 % 64*4096+b 2 % 64*64+b 3 % 64:Nat):Int)=true then (b 0 % 8*262144+b 1 % 64*4096+b 2 % 64*64+b 3 % 64,4) else (65533,1))
 else (65533,1)
theorem get_bt (a:List UInt8)(i:Nat):(ByteArray.get! ⟨a.toArray⟩ i).toNat=bt a i:=by
 unfold bt ByteArray.get!
 simp[qu,Array.getElem!_eq_getD]
 rfl
theorem decU_eq (a:List UInt8)(p:Nat):YI a p=decB (fun k=>bt a (p+k)) (a.length-p):=by
 have hs:(⟨a.toArray⟩:ByteArray).size=a.length:=rfl
 have hc:∀ k,(p+k<a.length)=(k<a.length-p):=fun k=>by rw[eq_iff_iff]; omega
 unfold YI Utf8.decode decB;simp only[get_bt,hs,hc,Utf8.runeError,qo,decide_eq_true_eq,beq_iff_eq,and_assoc,ge_iff_le]
theorem decU_drop (a:List UInt8)(p:Nat):YI (a.drop p) 0=YI a p:=by
 rw[decU_eq,decU_eq,uR];simp only[bt_drop,qq,uQ]
theorem tail_eq {a:List UInt8}{i:Nat}:Zc a (i:Int)=some (if i<a.length∧bt a i / 64=2 then ((bt a i % 64:Nat):Int) else -1):=by
 have hb:=bt_lt a i;rw[Zc]
 by_cases h:i<a.length
 · rw[if_neg (by omega),Xo h,qf,← bt_get h]
   by_cases h1:bt a i<128
   · rw[decide_eq_true (by omega),qf,if_pos rfl,qf,if_pos rfl,if_neg (by omega)]
   rw[decide_eq_false (by omega),qf,if_neg (by decide),qf,← bt_get h]
   by_cases h2:191<bt a i
   · rw[decide_eq_true (by omega),qf,if_pos rfl,if_neg (by omega)]
   rw[decide_eq_false (by omega),qf,if_neg (by decide),qf,← bt_get h,if_pos (by omega),yj (x:=(bt a i:Int)) (by omega) (by omega),yj (by omega) (by omega)]
   congr 1; omega
 rw[if_pos (by omega),qf,if_pos rfl,qf,if_pos rfl,if_neg (by omega)]
theorem i32_in {x:Int}(h:0≤x)(h':x<2147483648):IntKind.i32.wrap x=x:=by rw[IntKind.wrap_i32]; omega
theorem l17_go {a:List UInt8}{p n least k v:Nat}(j j':Nat)(hj':j'=j+1)(hj:j<n)(hp:p+j<4611686018427387904)(hv:v<1073741824):yB.l17 a (p:Int) (n:Int) (least:Int) (k+1) (v:Int) (j:Int)=
 if p+j<a.length∧bt a (p+j) / 64=2 then yB.l17 a (p:Int) (n:Int) (least:Int) k ((v*64+bt a (p+j) % 64:Nat):Int) (j':Int) else some (0,0,false):=by
 rw[yB.l17,if_pos (by omega),yj (x:=(p:Int)+j) (by omega) (by omega),show (p:Int)+(j:Int)=((p+j:Nat):Int) by omega,tail_eq,qf]
 by_cases h:p+j<a.length∧bt a (p+j) / 64=2
 · rw[if_pos h,if_pos h,if_neg (by omega),yj (x:=64*(v:Int)) (by omega) (by omega),yj (x:=64*(v:Int)+_) (by omega) (by omega),yj (x:=(j:Int)+1) (by omega) (by omega),show 64*(v:Int)+((bt a (p+j) % 64:Nat):Int)=((v*64+bt a (p+j) % 64:Nat):Int) by omega,show (j:Int)+1=(j':Int) by omega]
 rw[if_neg h,if_neg h,if_pos (by omega)]
theorem l17_end {a:List UInt8}{p n least k v:Nat}:yB.l17 a (p:Int) (n:Int) (least:Int) (k+1) (v:Int) (n:Int)=if v<least∨1114111<v∨(55296≤v∧v≤57343) then some (0,0,false) else some ((v:Int),(n:Int),true):=by
 rw[yB.l17,if_neg (by omega)]
 by_cases h:v<least∨1114111<v∨(55296≤v∧v≤57343)
 · rw[if_pos h,if_pos (by simp only[qJ,qo,decide_eq_true_eq]; omega)]
 rw[if_neg h,if_neg (by simp only[qJ,qo,decide_eq_true_eq]; omega),i32_in (by omega) (by omega)]
theorem next_eq {a:List UInt8}{p:Nat}(hp:p<a.length)(hl:a.length<2305843009213693952):(yB a (p:Int)=some (0,0,false)∧(YI a p)=(65533,1)) ∨
 ∃ c m:Nat,yB a (p:Int)=some ((c:Int),(m:Int),true)∧YI a p=(c,m)∧1≤m∧m≤4∧(c=65533→2≤m):=by
 obtain⟨K,hK⟩:∃ K,rounds=K+5:=⟨rounds-5,by have:=yu; omega⟩
 have h0:=bt_lt a p;have h1:=bt_lt a (p+1);have h2:=bt_lt a (p+2);have h3:=bt_lt a (p+3)
 have hn:∀ k,(k<a.length-p)=(p+k<a.length):=fun k=>by rw[eq_iff_iff]; omega
 rw[decU_eq,decB];simp only[hn,uW];rw[yB,if_neg (by simp only[qJ,decide_eq_true_eq]; omega),Xo hp,qf,← bt_get hp,yj (x:=(bt a p:Int)) (by omega) (by omega)]
 by_cases c1:bt a p<128
 · right
   rw[if_pos c1,if_pos (by omega),i32_in (by omega) (by omega)];exact⟨bt a p,1,rfl,rfl,by omega,by omega,by omega⟩
 rw[if_neg c1,if_neg (by omega)]
 by_cases c2:bt a p / 32=6
 · rw[if_pos (by simp only[qo,decide_eq_true_eq]; omega),yB.j11,hK,yj (by omega) (by omega),show ((bt a p:Nat):Int)-192=((bt a p % 32:Nat):Int) by omega,show (2:Int)=((2:Nat):Int) from rfl,show (128:Int)=((128:Nat):Int) from rfl,show (1:Int)=((1:Nat):Int) from rfl,l17_go 1 2 rfl (by omega) (by omega) (by omega)]
   by_cases d1:p+1<a.length∧bt a (p+1) / 64=2
   · rw[if_pos d1,if_pos ⟨c2,d1⟩,show K+4=(K+3)+1 from rfl,l17_end]
     by_cases e1:128≤bt a p % 32*64+bt a (p+1) % 64
     · rw[if_neg (by omega),if_pos e1];exact Or.inr ⟨_,_,rfl,rfl,by omega,by omega,by omega⟩
     rw[if_pos (by omega),if_neg e1]; exact Or.inl ⟨rfl,rfl⟩
   rw[if_neg d1,if_neg (fun h=>d1 h.2),if_neg (by omega),if_neg (by omega)];exact Or.inl ⟨rfl,rfl⟩
 rw[if_neg (by simp only[qo,decide_eq_true_eq]; omega),if_neg (show ¬ (bt a p / 32=6∧_) from fun h=>c2 h.1)]
 by_cases c3:bt a p / 16=14
 · rw[if_pos (by simp only[qo,decide_eq_true_eq]; omega),yB.j11,hK,yj (by omega) (by omega),show ((bt a p:Nat):Int)-224=((bt a p % 16:Nat):Int) by omega,show (3:Int)=((3:Nat):Int) from rfl,show (2048:Int)=((2048:Nat):Int) from rfl,show (1:Int)=((1:Nat):Int) from rfl,l17_go 1 2 rfl (by omega) (by omega) (by omega)]
   by_cases d1:p+1<a.length∧bt a (p+1) / 64=2
   · rw[if_pos d1,show K+4=(K+3)+1 from rfl,l17_go 2 3 rfl (by omega) (by omega) (by omega)]
     by_cases d2:p+2<a.length∧bt a (p+2) / 64=2
     · rw[if_pos d2,if_pos ⟨c3,d1,d2⟩,show K+3=(K+2)+1 from rfl,l17_end]
       have ev:(bt a p % 16*64+bt a (p+1) % 64)*64+bt a (p+2) % 64=bt a p % 16*4096+bt a (p+1) % 64*64+bt a (p+2) % 64:=by omega
       rw[ev]
       by_cases e1:2048≤bt a p % 16*4096+bt a (p+1) % 64*64+bt a (p+2) % 64∧Utf8.valid ((bt a p % 16*4096+bt a (p+1) % 64*64+bt a (p+2) % 64:Nat):Int)=true
       · have e2:=e1.2;unfold Utf8.valid at e2;simp only[qJ,qo,decide_eq_true_eq] at e2;rw[if_neg (by omega),if_pos e1];exact Or.inr ⟨_,_,rfl,rfl,by omega,by omega,by omega⟩
       have e2:=e1;unfold Utf8.valid at e2;simp only[qJ,qo,decide_eq_true_eq] at e2
       rw[if_pos (by omega),if_neg e1]; exact Or.inl ⟨rfl,rfl⟩
     rw[if_neg d2,if_neg (fun h=>d2 h.2.2),if_neg (by omega)];exact Or.inl ⟨rfl,rfl⟩
   rw[if_neg d1,if_neg (fun h=>d1 h.2.1),if_neg (by omega)];exact Or.inl ⟨rfl,rfl⟩
 rw[if_neg (by simp only[qo,decide_eq_true_eq]; omega),if_neg (show ¬ (bt a p / 16=14∧_) from fun h=>c3 h.1)]
 by_cases c4:bt a p / 8=30
 · rw[if_pos (by simp only[qo,decide_eq_true_eq]; omega),yB.j11,hK,yj (by omega) (by omega),show ((bt a p:Nat):Int)-240=((bt a p % 8:Nat):Int) by omega,show (4:Int)=((4:Nat):Int) from rfl,show (65536:Int)=((65536:Nat):Int) from rfl,show (1:Int)=((1:Nat):Int) from rfl,l17_go 1 2 rfl (by omega) (by omega) (by omega)]
   by_cases d1:p+1<a.length∧bt a (p+1) / 64=2
   · rw[if_pos d1,show K+4=(K+3)+1 from rfl,l17_go 2 3 rfl (by omega) (by omega) (by omega)]
     by_cases d2:p+2<a.length∧bt a (p+2) / 64=2
     · rw[if_pos d2,show K+3=(K+2)+1 from rfl,l17_go 3 4 rfl (by omega) (by omega) (by omega)]
       by_cases d3:p+3<a.length∧bt a (p+3) / 64=2
       · rw[if_pos d3,if_pos ⟨c4,d1,d2,d3⟩,show K+2=(K+1)+1 from rfl,l17_end]
         have ev:((bt a p % 8*64+bt a (p+1) % 64)*64+bt a (p+2) % 64)*64+bt a (p+3) % 64=bt a p % 8*262144+bt a (p+1) % 64*4096+bt a (p+2) % 64*64+bt a (p+3) % 64:=by omega
         rw[ev]
         by_cases e1:65536≤bt a p % 8*262144+bt a (p+1) % 64*4096+bt a (p+2) % 64*64+bt a (p+3) % 64∧Utf8.valid ((bt a p % 8*262144+bt a (p+1) % 64*4096+bt a (p+2) % 64*64+bt a (p+3) % 64:Nat):Int)=true
         · have e2:=e1.2;unfold Utf8.valid at e2;simp only[qJ,qo,decide_eq_true_eq] at e2;rw[if_neg (by omega),if_pos e1];exact Or.inr ⟨_,_,rfl,rfl,by omega,by omega,by omega⟩
         have e2:=e1;unfold Utf8.valid at e2;simp only[qJ,qo,decide_eq_true_eq] at e2
         rw[if_pos (by omega),if_neg e1]; exact Or.inl ⟨rfl,rfl⟩
       rw[if_neg d3,if_neg (fun h=>d3 h.2.2.2)];exact Or.inl ⟨rfl,rfl⟩
     rw[if_neg d2,if_neg (fun h=>d2 h.2.2.1)];exact Or.inl ⟨rfl,rfl⟩
   rw[if_neg d1,if_neg (fun h=>d1 h.2.1)];exact Or.inl ⟨rfl,rfl⟩
 rw[if_neg (by simp only[qo,decide_eq_true_eq]; omega),if_neg (show ¬ (bt a p / 8=30∧_) from fun h=>c4 h.1)];exact Or.inl ⟨rfl,rfl⟩
end
section
set_option maxRecDepth 4000
open AM
def rl (a:List UInt8):Nat→Nat→Option (List Nat)
 |0,_=>none
 |k+1,p=>if p<a.length then (if YI a p=(65533,1) then none else (rl a k (p+(YI a p).2)).map ((YI a p).1 :: ·)) else some []
theorem rl_all {a:List UInt8}(hl:a.length≤30000):∀ (k p:Nat) (l:List Int),a.length<p+k→0<k→p≤40000→l.length+(a.length-p)≤40000→xL.l8 a k l (p:Int)=some (match rl a k p with|some T=>(l++T.map (fun c:Nat=>(c:Int)),true)|none=>([],false))
 |0,p,l,h,h0,_,_=>by omega
 |k+1,p,l,h,_,hp,hll=>by
  rw[xL.l8,rl]
  by_cases hpl:p<a.length
  · rw[if_pos (by omega),if_pos hpl]
    rcases next_eq hpl (by omega) with ⟨e,ed⟩|⟨c,m,e,ed,h1,h2,h3⟩
    · rw[e,qf,if_pos (by rfl),if_pos ed]
    rw[e,qf,if_neg (by simp),xx (by omega),qf,if_neg (fun h=>by rw[ed] at h; simp only[Prod.mk.injEq] at h; have:=h3 h.1; omega),ed]
    dsimp only
    rw[yj (by omega) (by omega),show (p:Int)+(m:Int)=((p+m:Nat):Int) by omega,rl_all hl k (p+m) _ (by omega) (by omega) (by omega) (by rw[qi,qC]; omega)]
    cases rl a k (p+m) with
    |none=>rfl
    |some T=>simp only[uF,qD,qp,qG,qx]
  rw[if_neg (by omega),if_neg hpl]; simp only[qw,qz]
theorem cut_drop {a:List UInt8}{p:Nat}(h:p<a.length):Y2 a (p:Int) (a.length:Int)=a.drop p:=by
 unfold Y2;rw[qX,qX,um (by rw[uR]; omega)]
theorem rnext_eq {a:List UInt8}{p:Nat}(h:p<a.length)(hl:a.length≤30000):∃ r,wq a (p:Int)=some r∧(r.2.2=true↔YI a p≠(65533,1)):=by
 have hd:ZN (Y2 a (p:Int) (a.length:Int))=(((YI a p).1:Int),((YI a p).2:Int)):=by
  rw[cut_drop h,ZN,dec0,if_neg (fun hc=>by have:=congrArg qc hc; rw[uR,ql] at this; omega),decU_drop]
 rw[wq,if_neg (by simp only[qJ,decide_eq_true_eq]; omega),Xd (by omega),qf,bnd,hd]
 rcases next_eq h (by omega) with ⟨_,ed⟩|⟨c,m,_,ed,h1,h2,h3⟩
 · rw[ed];refine⟨_,by rw[if_pos (by simp)],?_⟩
   simp
 rw[ed]
 have hne:¬ ((c,m)=(65533,1)):=fun hc=>by simp only[Prod.mk.injEq] at hc; have:=h3 hc.1; omega
 refine⟨_,by rw[if_neg (by simp only[qo,decide_eq_true_eq]; omega)],?_⟩
 simp[hne]
theorem rl_valid {a:List UInt8}(hl:a.length≤30000):∀ (k p:Nat),a.length<p+k→0<k→yD.l4 a k p=some (rl a k p).isSome
 |0,p,h,h0=>by omega
 |k+1,p,h,_=>by
  rw[yD.l4,rl]
  by_cases hpl:p<a.length
  · rw[if_pos hpl,if_pos hpl];have hm:=YC a p;have ih:=rl_valid hl k (p+(YI a p).2) (by omega) (by omega)
    by_cases hb:YI a p=(65533,1)
    · obtain⟨r,e,hr⟩:=rnext_eq hpl hl;rw[if_pos hb,if_pos (by rw[hb]; rfl),e,qf,if_pos]
      · rfl
      cases hv:r.2.2 with
      |true=>exact absurd hb (hr.1 hv)
      |false=>rfl
    rw[if_neg hb,Option.isSome_map]
    split
    · obtain⟨r,e,hr⟩:=rnext_eq hpl hl;rw[e,qf,if_neg (by rw[hr.2 hb]; decide),ih]
    exact ih
  rw[if_neg hpl,if_neg hpl]; rfl
theorem rl_count {a:List UInt8}(hl:a.length≤30000):∀ (k p:Nat) (x:Nat) (T:List Nat),x+(a.length-p)≤40000→rl a k p=some T→yQ.l9 a k p (x:Int)=some ((x+T.length:Nat):Int)
 |0,p,x,T,_,h=>by cases h
 |k+1,p,x,T,hx,h=>by
  rw[rl] at h;rw[yQ.l9]
  by_cases hpl:p<a.length
  · have hm:=YC a p;rw[if_pos hpl] at h ⊢
    split at h
    · cases h
    obtain⟨T',hT,rfl⟩:=Option.map_eq_some_iff.1 h;rw[yj (by omega) (by omega),show (x:Int)+1=((x+1:Nat):Int) by omega,rl_count hl k _ (x+1) T' (by omega) hT,qj]
    congr 2; omega
  rw[if_neg hpl] at h ⊢
  cases h; rfl
def lod (c:Nat):Bool:=xv (c:Int)||wg (c:Int)
theorem letter_eq (c:Int):xf c=xv c:=by
 rw[Bool.eq_iff_iff];unfold xf xf.j6 xv wy bnd
 by_cases h1:c=95
 · subst h1; decide
 by_cases h2:c=215
 · subst h2; decide
 by_cases h3:c=247
 · subst h3; decide
 by_cases h4:c=930
 · subst h4; decide
 simp only[h1,h2,h3,h4,if_false,decide_false,ue,Bool.ite_eq_true_distrib,qJ,qo,decide_eq_true_eq,qy,and_true,or_false,ite_then_self]
 (repeat' split)<;>first|omega|simp_all|(simp_all; omega)
theorem digit_eq (c:Int):wX c=wg c:=rfl
theorem key_eq (a:List UInt8):xl a=xh a:=rfl
theorem rl_name {a:List UInt8}:∀ (k p:Nat) (T:List Nat),0<p→rl a k p=some T→yF.l11 a k p=some (T.all lod)
 |0,p,T,_,h=>by cases h
 |k+1,p,T,h0,h=>by
  rw[rl] at h;rw[yF.l11]
  by_cases hpl:p<a.length
  · have hm:=YC a p;rw[if_pos hpl] at h ⊢
    split at h
    · cases h
    obtain⟨T',hT,rfl⟩:=Option.map_eq_some_iff.1 h;have ih:=rl_name k _ T' (by omega) hT;rw[letter_eq,digit_eq,ih,q1,lod];unfold bnd
    dsimp only
    rw[if_neg (show ¬ ((p:Nat):Int)=0 by omega)]
    cases xv ((YI a p).1:Int)<;>cases wg ((YI a p).1:Int)<;>rfl
  rw[if_neg hpl] at h ⊢
  cases h; rfl
theorem ref_l14 {L:List Nat}{v:Bool}(hL:L.length≤40000):∀ (k i:Nat),L.length<k+i→i≤L.length→xe.l14 (L.map (fun c:Nat=>(c:Int)),v) k (i:Int)=some ((L.drop i).all lod)
 |0,i,h,h'=>by omega
 |k+1,i,h,h'=>by
  rw[xe.l14]
  by_cases hi:i<L.length
  · have hi':i<(L.map (fun c:Nat=>(c:Int))).length:=by rw[q7]; exact hi
    rw[if_pos (by dsimp only; omega),Xo hi',qf,List.getElem_map,yj (by omega) (by omega),show (i:Int)+1=((i+1:Nat):Int) by omega,ref_l14 hL k (i+1) (by omega) (by omega),uP hi,q1,lod];unfold bnd
    dsimp only
    cases xv (L[i]:Int)<;>cases wg (L[i]:Int)<;>rfl
  rw[if_neg (by dsimp only; rw[q7]; omega),List.drop_of_length_le (by omega)]; rfl
theorem rl_len {a:List UInt8}:∀ (k p:Nat) (T:List Nat),rl a k p=some T→T.length≤a.length-p
 |0,p,T,h=>by cases h
 |k+1,p,T,h=>by
  rw[rl] at h;have hm:=YC a p
  split at h
  · split at h
    · cases h
    obtain⟨T',hT,rfl⟩:=Option.map_eq_some_iff.1 h;have:=rl_len k _ T' hT
    rw[qj]; omega
  cases h; exact ux _
theorem name_eq {a:List UInt8}(hl:a.length≤30000):xe a=yF a:=by
 have hr:=yu;have e1:=rl_all hl rounds 0 [] (by omega) (by omega) (by omega) (by rw[ql]; omega);have e2:=rl_valid hl rounds 0 (by omega) (by omega)
 cases hT:rl a rounds 0 with
 |none=>
  rw[hT] at e1 e2
  rw[xe,yF,yQ,show xL a=_ from e1,show yD a=_ from e2]; rfl
 |some T=>
  rw[hT] at e1 e2;have hlen:=rl_len _ _ _ hT
  have e3:yQ.l9 a rounds 0 0=some (T.length:Int):=by
   have:=rl_count hl rounds 0 0 T (by omega) hT
   rw[qq] at this; exact this
  have e1':xL a=some (T.map (fun c:Nat=>(c:Int)),true):=e1;have e2':yD a=some true:=e2;rw[xe,yF,yQ,e1',e2',qf,qf];have el:(T.map (fun c:Nat=>(c:Int))).length=T.length:=q7 _
  dsimp only
  rw[if_neg (show ¬ (!true)=true by decide),e3,qf,key_eq];unfold bnd
  dsimp only
  simp only[el]
  by_cases hn:T.length<1∨20<T.length
  · have hc:(decide ((T.length:Int)<1)||decide (20<(T.length:Int)))=true:=by simp only[qJ,decide_eq_true_eq]; omega
    rw[qQ,uM,hc,if_pos rfl,qf,if_pos rfl,if_pos rfl,if_pos rfl]
  have h1:0<T.length:=by omega
  have h1':0<(T.map (fun c:Nat=>(c:Int))).length:=by rw[q7]; exact h1
  have hc:(decide ((T.length:Int)<1)||decide (20<(T.length:Int)))=false:=by
   rw[Bool.eq_false_iff]
   simp only[ne_eq,qJ,decide_eq_true_eq]; omega
  have ei:=Xo h1';have e14:=ref_l14 (v:=true) (L:=T) (by omega) rounds 1 (by omega) (by omega);rw[List.getElem_map] at ei;rw[qQ,uM,hc,if_neg uG,show Zd (T.map (fun c:Nat=>(c:Int))) 0=_ from ei,qf,qf,if_neg uG,show xe.l14 (T.map (fun c:Nat=>(c:Int)),true) rounds 1=_ from e14]
  cases T with
  |nil=>exact absurd h1 (by decide)
  |cons c T=>
   obtain⟨k,hk⟩:∃ k,rounds=k+1:=⟨rounds-1,by omega⟩
   have hT':=hT;rw[hk,rl] at hT'
   split at hT'
   · rename_i hpl
     split at hT'
     · cases hT'
     obtain⟨T',hT2,hc⟩:=Option.map_eq_some_iff.1 hT'
     injection hc with hc1 hc2
     subst hc2;have hm:=YC a 0;have ih:=rl_name k _ T' (by omega) hT2;rw[hk,yF.l11,if_pos hpl,hc1,letter_eq,digit_eq,ih,List.drop_succ_cons,qA];unfold bnd
     dsimp only
     rw[List.getElem_cons_zero]
     cases xv (c:Int)<;>cases xh a<;>rfl
   cases hT'
end
section
set_option maxRecDepth 4000
open AM
def Rm {K:Type} [DecidableEq K](m:List (K×Bool))(l:List K):Prop:=∀ x,(vaR m x).getD false=true↔x∈l
theorem Rm.val {K:Type} [DecidableEq K]{m:List (K×Bool)}{l:List K}(h:Rm m l)(x:K) [inst:Decidable (x∈l)]:(vaR m x).getD false=decide (x∈l):=by
 rw[Bool.eq_iff_iff,h x,decide_eq_true_eq]
theorem getM_setM {K V:Type} [DecidableEq K](k x:K)(v:V):∀ (l:List (K×V)),vaR (va0 l k v) x=if x=k then some v else vaR l x
 |[]=>by simp only[va0,vaR]
 |(a,w)::l=>by
  rw[va0]
  split
  · rename_i h
    subst h;simp only[vaR]
    split<;>rfl
  rename_i h
  simp only[vaR,getM_setM k x v l]
  split
  · rename_i h2
    subst h2;rw[if_neg (fun hc=>h hc.symm)]
  rfl
theorem Rm_nil {K:Type} [DecidableEq K]:Rm ([]:List (K×Bool)) []:=fun x=>by simp[vaR]
theorem vba {K:Type} [DecidableEq K]{m:List (K×Bool)}{l:List K}(h:Rm m l)(k:K):Rm (va0 m k true) (l++[k]):=fun x=>by
 rw[getM_setM]
 by_cases hx:x=k
 · rw[if_pos hx]; simp[hx]
 rw[if_neg hx,h x]; simp[hx]
theorem fresh_l (x:List UInt8):∀ (l:List (List UInt8)) (i:Int),yr.l4 x l i=if x∈l then some false else xe x
 |[],i=>by rw[yr.l4,if_neg (List.not_mem_nil)]; cases xe x<;>rfl
 |y::l,i=>by
  rw[yr.l4,fresh_l]
  by_cases h:y=x
  · rw[if_pos h,if_pos (by rw[h]; exact qn ..)]
  rw[if_neg h]
  by_cases h2:x∈l
  · rw[if_pos h2,if_pos (qm _ h2)]
  rw[if_neg h2,if_neg (fun hc=>by rcases qF.1 hc with e|e; exact h e.symm; exact h2 e)]
theorem vag {m:List (List UInt8×Bool)}{l:List (List UInt8)}{x:List UInt8}(h:Rm m l)(hx:x.length≤3000):∃ b,yr x l=some b∧yi m x=some (b,if b=true then va0 m x true else m):=by
 have hn:yF x=some (nameV x):=nameV_eq (by unfold nmOk; omega);rw[yr,fresh_l,yi,hn,qf,name_eq (by omega),hn,h.val x]
 by_cases hm:x∈l
 · refine⟨false,by rw[if_pos hm],?_⟩;rw[decide_eq_true hm,qM,if_pos rfl,if_neg uG]
 refine⟨nameV x,by rw[if_neg hm],?_⟩;rw[decide_eq_false hm,qW]
 cases nameV x<;>rfl
theorem vaK (t:Int):∀ (l:List Int) (i:Int),yv.l4 t l i=decide (t∈l)
 |[],i=>rfl
 |y::l,i=>by
  rw[yv.l4,vaK]
  by_cases h:y=t
  · rw[if_pos h,decide_eq_true (by rw[h]; exact qn ..)]
  rw[if_neg h];exact decide_eq_decide.2 ⟨fun hc=>qm _ hc,fun hc=>by rcases qF.1 hc with e|e; exact absurd e.symm h; exact e⟩
theorem field_l (t:Int):∀ (l:List GField) (i:Int),(yK.l4 t l i).2=decide (t∈l.map GField.fTag)
 |[],i=>rfl
 |y::l,i=>by
  rw[yK.l4,qD]
  by_cases h:y.fTag=t
  · rw[if_pos h,decide_eq_true (by rw[h]; exact qn ..)]
  rw[if_neg h,field_l];exact decide_eq_decide.2 ⟨fun hc=>qm _ hc,fun hc=>by rcases qF.1 hc with e|e; exact absurd e.symm h; exact e⟩
theorem cut_app {α:Type}(A B:List α):Y2 (A++B) 0 (A.length:Int)=A:=by
 unfold Y2;rw[qX,show qI 0=0 from rfl,qA,uQ,List.take_left' rfl]
theorem enum_l (n:List UInt8):∀ (l:List GEnumeration) (i j:Int),xK.l4 n l i=xC.l4 n l j
 |[],_,_=>rfl
 |y::l,i,j=>by rw[xK.l4,xC.l4,enum_l n l (i+1) (j+1)]
theorem vap (n:List UInt8):∀ (l:List GMessage) (i j:Int),z7.l4 n l i=zG.l4 n l j
 |[],_,_=>rfl
 |y::l,i,j=>by rw[z7.l4,zG.l4,vap n l (i+1) (j+1)]
theorem kind_of (s:GSchema)(y:GType):yW s y=(if y.fKind=6 then (xC s y.fName).2 else if y.fKind=7 then (zG s y.fName).2 else (decide (1≤y.fKind)&&decide (y.fName=[]))&&decide (y.fKind<6)):=by
 have e6:xK s y.fName=xC s y.fName:=enum_l _ _ _ _;have e7:z7 s y.fName=zG s y.fName:=vap _ _ _ _
 have small:1≤y.fKind→y.fKind≤5→yW.j3 s y true=(if y.fKind=6 then (xC s y.fName).2 else if y.fKind=7 then (zG s y.fName).2 else (decide (1≤y.fKind)&&decide (y.fName=[]))&&decide (y.fKind<6)):=by
  intro h1 h2
  rw[yW.j3,if_pos rfl,if_neg (by omega),if_neg (by omega),decide_eq_true h1,decide_eq_true (show y.fKind<6 by omega),uC,qS]
 unfold yW
 by_cases k1:y.fKind=1
 · rw[if_pos k1,decide_eq_true k1]; exact small (by omega) (by omega)
 rw[if_neg k1]
 by_cases k2:y.fKind=2
 · rw[if_pos k2,decide_eq_true k2]; exact small (by omega) (by omega)
 rw[if_neg k2]
 by_cases k3:y.fKind=3
 · rw[if_pos k3,decide_eq_true k3]; exact small (by omega) (by omega)
 rw[if_neg k3]
 by_cases k4:y.fKind=4
 · rw[if_pos k4,decide_eq_true k4]; exact small (by omega) (by omega)
 rw[if_neg k4]
 by_cases k5:y.fKind=5
 · rw[decide_eq_true k5]; exact small (by omega) (by omega)
 rw[decide_eq_false k5,yW.j3,if_neg uG,bnd,bnd,e6,e7]
 split
 · rfl
 split
 · rfl
 rename_i h6 h7
 rw[Bool.eq_iff_iff];simp only[qo,decide_eq_true_eq,ue,false_iff]
 omega
theorem fieldOk_eq (s:GSchema)(f:GField):xX s f=(decide (1≤f.fLabel)&&decide (f.fLabel≤3)&&yW s f.fType):=by
 rw[kind_of];unfold xX bnd
 split
 · rfl
 split
 · rfl
 simp only[Bool.and_assoc]
theorem msg_l21_eq {s:GSchema}{m:GMessage}{r2:Bool×List (List UInt8×Bool)}(hn:∀ f∈m.fFields,f.fName.length≤3000)(hl:m.fFields.length*56≤140737488351232):∀ (B A:List GField) (i:Int) (tm:List (Int×Bool)) (nm:List (List UInt8×Bool)),m.fFields=A++B→Rm tm (m.fReserved++A.map GField.fTag)→Rm nm (A.map GField.fName)→
 zF.l21 s r2 B i tm nm=(zE.l17 s m B (A.length:Int) (A.map GField.fName)).map fun v=>(v,r2.2)
 |[],A,i,tm,nm,_,_,_=>rfl
 |f::B,A,i,tm,nm,h,ht,hnm=>by
  have hlen:m.fFields.length=A.length+(B.length+1):=by rw[h,qi,qj]
  obtain⟨b,e1,e2⟩:=vag hnm (hn f (by rw[h]; exact q5 _ (qn ..)));rw[zF.l21,zE.l17,e1,e2,qf,qf]
  cases b with
  |false=>rfl
  |true=>
   dsimp only
   rw[if_neg (show ¬ (!true)=true by decide),if_neg (show ¬ (!true)=true by decide),if_pos rfl,xx (by rw[q7]; omega),qf,Xd ⟨ve _,by omega,by omega⟩,qf]
   have ec:Y2 m.fFields 0 (A.length:Int)=A:=by rw[h]; exact cut_app A _
   have e3:(yK (⟨[],A,([]:List Int)⟩:GMessage) f.fTag).2=decide (f.fTag∈A.map GField.fTag):=field_l _ _ _;have e4:yv m f.fTag=decide (f.fTag∈m.fReserved):=vaK _ _ _;have e5:w8 f.fTag=(decide (1≤f.fTag)&&decide (f.fTag≤500)):=rfl;unfold bnd
   dsimp only
   rw[ec,e3,e4,e5,ht.val f.fTag]
   have e6:(if (decide (f.fTag∈A.map GField.fTag)||decide (f.fTag<1)||decide (500<f.fTag))=true then true else decide (f.fTag∈m.fReserved))=(!(decide (1≤f.fTag)&&decide (f.fTag≤500))||decide (f.fTag∈m.fReserved++A.map GField.fTag)):=by
    rw[Bool.eq_iff_iff]
    by_cases a1:f.fTag∈A.map GField.fTag
    · simp[a1]
    by_cases a2:f.fTag∈m.fReserved
    · simp[a2]
    rw[decide_eq_false a1,decide_eq_false a2,decide_eq_false (show ¬ f.fTag∈m.fReserved++A.map GField.fTag from fun hc=>by rcases ui.1 hc with e|e; exact a2 e; exact a1 e)];simp only[uM,qW,qJ,uT,Bool.and_eq_false_iff,decide_eq_true_eq,decide_eq_false_iff_not]
    split<;>simp<;>omega
   rw[e6]
   generalize hc:(!(decide (1≤f.fTag)&&decide (f.fTag≤500))||decide (f.fTag∈m.fReserved++A.map GField.fTag))=c
   cases c with
   |true=>rfl
   |false=>
    rw[if_neg uG,if_neg uG]
    have e7:(if (decide (f.fLabel<1)||decide (3<f.fLabel))=true then true else !yW s f.fType) = !xX s f:=by
     rw[fieldOk_eq,Bool.eq_iff_iff]
     cases yW s f.fType<;>simp only[qJ,decide_eq_true_eq,qy,qQ,qU,qS,uT,Bool.and_eq_false_iff,decide_eq_false_iff_not]<;>split<;>simp<;>omega
    rw[e7]
    cases xX s f with
    |false=>rfl
    |true=>
     rw[if_neg (show ¬ (!true)=true by decide),if_neg (show ¬ (!true)=true by decide)];have:=msg_l21_eq (s:=s) (r2:=r2) hn hl B (A++[f]) (i+1) (va0 tm f.fTag true) (va0 nm f.fName true) (by rw[h,qp]; rfl) (by rw[qB,← qp]; exact vba ht f.fTag) (by rw[qB]; exact vba hnm f.fName)
     rw[this,qi,qC,qB,show (A.length:Int)+1=((A.length+1:Nat):Int) by omega]; rfl
theorem msg_l12_eq {s:GSchema}{m:GMessage}{r2:Bool×List (List UInt8×Bool)}(hn:∀ f∈m.fFields,f.fName.length≤3000)(hl:m.fFields.length*56≤140737488351232):∀ (B A:List Int) (i:Int) (tm:List (Int×Bool)),m.fReserved=A++B→Rm tm A→
 zF.l12 s m r2 B i tm=(zE.l8 s m B (A.length:Int)).map fun v=>(v,r2.2)
 |[],A,i,tm,h,ht=>by
  rw[qz] at h;rw[zF.l12,zE.l8];exact msg_l21_eq hn hl m.fFields [] 0 tm [] rfl (by rw[h,qw,qz]; exact ht) Rm_nil
 |n::B,A,i,tm,h,ht=>by
  have hlen:m.fReserved.length=A.length+(B.length+1):=by rw[h,qi,qj]
  have ih:=msg_l12_eq (s:=s) (r2:=r2) hn hl B (A++[n]) (i+1) (va0 tm n true) (by rw[h,qp]; rfl) (vba ht n);have e5:w8 n=(decide (1≤n)&&decide (n≤500)):=rfl
  have ec:Y2 m.fReserved 0 (A.length:Int)=A:=by rw[h]; exact cut_app A _
  have e4:yv (⟨[],([]:List GField),A⟩:GMessage) n=decide (n∈A):=vaK _ _ _;rw[zF.l12,zE.l8];unfold bnd
  dsimp only
  rw[e5,ht.val n]
  by_cases h1:n<1
  · rw[if_pos h1,decide_eq_false (show ¬ 1≤n by omega)]; rfl
  rw[if_neg h1]
  by_cases h2:500<n
  · rw[if_pos h2,decide_eq_false (show ¬ n≤500 by omega),qU]; rfl
  rw[if_neg h2,Xd ⟨ve _,by omega,by omega⟩,qf,ec,e4,decide_eq_true (show 1≤n by omega),decide_eq_true (show n≤500 by omega)]
  cases decide (n∈A) with
  |true=>rfl
  |false=>
   rw[zE.j43,if_neg uG]
   show zF.l12 s m r2 B (i+1) (va0 tm n true)=_
   rw[ih,qi,qC,show (A.length:Int)+1=((A.length+1:Nat):Int) by omega]
theorem msg_eq {s:GSchema}{m:GMessage}{a:List (List UInt8×Bool)}{l:List (List UInt8)}(ha:Rm a l)(hm:m.fName.length≤3000)(hn:∀ f∈m.fFields,f.fName.length≤3000)(hl:m.fFields.length*56≤140737488351232):
 (yr m.fName l=some false∧zF s a m=some (6,a))∨(yr m.fName l=some true∧zF s a m=(zE s m).map fun v=>(v,va0 a m.fName true)):=by
 obtain⟨b,e1,e2⟩:=vag ha hm;rw[zF,e2,qf]
 cases b with
 |false=>exact Or.inl ⟨e1,rfl⟩
 |true=>
  refine Or.inr ⟨e1,?_⟩
  dsimp only
  rw[if_neg (show ¬ (!true)=true by decide),if_pos rfl,zE]
  split
  · rfl
  exact msg_l12_eq hn hl m.fReserved [] 0 [] rfl Rm_nil
end
section
set_option maxRecDepth 4000
open AM
theorem enum_l38 {e:GEnumeration}{v:GNamed}{A B:List GNamed}{l15:List (List UInt8)}{rec21:Int→List (List UInt8)→Option Int}(h:e.fValues=A++v::B)(hA:A.length≤1000000):∀ (k j:Nat),A.length<k+j→j≤A.length→z6.l38 e (A.length:Int) l15 rec21 v k (j:Int)=if v.fN∈(A.drop j).map GNamed.fN then some 11 else rec21 ((A.length:Int)+1) (l15++[v.fName])
 |0,j,h1,h2=>by omega
 |k+1,j,h1,h2=>by
  rw[z6.l38]
  by_cases hj:j<A.length
  · have ei:Zd e.fValues (j:Int)=some (A[j]'hj):=by
     rw[h,Xo (show j<(A++v::B).length by rw[qi]; omega),List.getElem_append_left hj]
    rw[if_pos (by omega),ei,qf,uP hj,qD]
    by_cases hv:(A[j]'hj).fN=v.fN
    · rw[if_pos hv,if_pos (by rw[hv]; exact qn ..)]
    rw[if_neg hv,yj (by omega) (by omega),show (j:Int)+1=((j+1:Nat):Int) by omega,enum_l38 h hA k (j+1) (by omega) (by omega)]
    by_cases hm:v.fN∈(A.drop (j+1)).map GNamed.fN
    · rw[if_pos hm,if_pos (qm _ hm)]
    rw[if_neg hm,if_neg (fun hc=>by rcases qF.1 hc with e1|e1; exact hv e1.symm; exact hm e1)]
  rw[if_neg (by omega),List.drop_of_length_le (by omega),if_neg (by simp)]
theorem vca {e:GEnumeration}{r2:Bool×List (List UInt8×Bool)}(hn:∀ v∈e.fValues,v.fName.length≤3000)(hl:e.fValues.length≤1000):∀ (B A:List GNamed) (i:Int) (nm:List (List UInt8×Bool)) (km:List (Int×Bool)),e.fValues=A++B→Rm nm (A.map GNamed.fName)→Rm km (A.map GNamed.fN)→
 yw.l23 r2 B i nm km=(z6.l21 e B (A.length:Int) (A.map GNamed.fName)).map fun v=>(v,r2.2)
 |[],A,i,nm,km,_,_,_=>rfl
 |v::B,A,i,nm,km,h,hnm,hkm=>by
  have hlen:e.fValues.length=A.length+(B.length+1):=by rw[h,qi,qj]
  have hr:=yu;obtain⟨b,e1,e2⟩:=vag hnm (hn v (by rw[h]; exact q5 _ (qn ..)));rw[yw.l23,z6.l21,e1,e2,qf,qf]
  cases b with
  |false=>rfl
  |true=>
   dsimp only
   rw[if_neg (show ¬ (!true)=true by decide),if_neg (show ¬ (!true)=true by decide),if_pos rfl,xx (by rw[q7]; omega),qf,hkm.val v.fN]
   by_cases hb:(decide (v.fN<0)||decide (2147483647<v.fN))=true
   · rw[hb,if_pos rfl,Bool.true_or,if_pos rfl]; rfl
   rw[Bool.eq_false_iff.2 hb,if_neg uG,uM];have e38:=enum_l38 (l15:=A.map GNamed.fName) (rec21:=z6.l21 e B) h (by omega) rounds 0 (by omega) (by omega);rw[show z6.l38 e (A.length:Int) (A.map GNamed.fName) (z6.l21 e B) v rounds 0=_ from e38,qA]
   by_cases hm:v.fN∈A.map GNamed.fN
   · rw[decide_eq_true hm,if_pos rfl,if_pos hm]; rfl
   rw[decide_eq_false hm,if_neg uG,if_neg hm];have:=vca (r2:=r2) hn hl B (A++[v]) (i+1) (va0 nm v.fName true) (va0 km v.fN true) (by rw[h,qp]; rfl) (by rw[qB]; exact vba hnm v.fName) (by rw[qB]; exact vba hkm v.fN)
   rw[this,qi,qC,qB,show (A.length:Int)+1=((A.length+1:Nat):Int) by omega]; rfl
theorem vcb {e:GEnumeration}{r2:Bool×List (List UInt8×Bool)}(hn:∀ v∈e.fValues,v.fName.length≤3000)(hl:e.fValues.length≤1000):∀ (B:List GNamed) (i j:Int) (z:Bool),
 yw.l12 e r2 B i z=(z6.l10 e B j z).map fun v=>(v,r2.2)
 |[],i,j,z=>by
  rw[yw.l12,z6.l10]
  cases z with
  |false=>rfl
  |true=>exact vca hn hl e.fValues [] 0 [] [] rfl Rm_nil Rm_nil
 |v::B,i,j,z=>by rw[yw.l12,z6.l10]; exact vcb hn hl B _ _ _
theorem enum_eq {e:GEnumeration}{a:List (List UInt8×Bool)}{l:List (List UInt8)}(ha:Rm a l)(hm:e.fName.length≤3000)(hn:∀ v∈e.fValues,v.fName.length≤3000):
 (yr e.fName l=some false∧yw a e=some (6,a))∨(yr e.fName l=some true∧yw a e=(z6 e).map fun v=>(v,va0 a e.fName true)):=by
 obtain⟨b,e1,e2⟩:=vag ha hm;rw[yw,e2,qf]
 cases b with
 |false=>exact Or.inl ⟨e1,rfl⟩
 |true=>
  refine Or.inr ⟨e1,?_⟩
  dsimp only
  rw[if_neg (show ¬ (!true)=true by decide),if_pos rfl,z6]
  split
  · rfl
  exact vcb hn (by omega) e.fValues 0 0 false
theorem meth_eq {s:GSchema}:∀ (B:List GMethod) (i j:Int) (nm:List (List UInt8×Bool)) (l:List (List UInt8)),(∀ x∈B,x.fName.length≤3000)→l.length+B.length≤1000000→Rm nm l→zw.l29 s B i nm=xd.l22 s B j l
 |[],_,_,_,_,_,_,_=>rfl
 |x::B,i,j,nm,l,hn,hl,hr=>by
  rw[qj] at hl;obtain⟨b,e1,e2⟩:=vag hr (hn x (qn ..))
  have e7:∀ n,z7 s n=zG s n:=fun n=>vap _ _ _ _
  rw[zw.l29,xd.l22,e1,e7,e7,qf];unfold bnd
  dsimp only
  rw[e2,qf]
  cases b with
  |false=>rfl
  |true=>
   dsimp only
   rw[if_neg (show ¬ (!true)=true by decide),if_neg (show ¬ (!true)=true by decide),if_pos rfl,xx (by omega),qf]
   split
   · rfl
   exact meth_eq B _ _ _ _ (fun y hy=>hn y (qm _ hy)) (by rw[qi,qC]; omega) (vba hr x.fName)
def nm3 (s:GSchema):Prop:=s.fName.length≤3000∧(∀ m∈s.fMessages,m.fName.length≤3000∧(∀ f∈m.fFields,f.fName.length≤3000)∧m.fFields.length*56≤140737488351232)∧(∀ e∈s.fEnums,e.fName.length≤3000∧∀ v∈e.fValues,v.fName.length≤3000)∧∀ x∈s.fMethods,x.fName.length≤3000
theorem parts_l17 {s:GSchema}(hs:nm3 s)(hM:s.fMethods.length≤6):∀ (B:List GEnumeration) (i j:Int) (a:List (List UInt8×Bool)) (l:List (List UInt8)),(∀ e∈B,e∈s.fEnums)→l.length+B.length≤1000000→Rm a l→zw.l22 s B i a=(yE.l17 B j l).bind fun r=>if r=0 then xd.l22 s s.fMethods 0 [] else some r
 |[],i,j,a,l,_,_,_=>by
  rw[zw.l22,yE.l17,qf,if_pos rfl];exact meth_eq _ _ _ _ _ hs.2.2.2 (by rw[ql]; omega) Rm_nil
 |e::B,i,j,a,l,he,hl,hr=>by
  rw[qj] at hl;have hme:=hs.2.2.1 e (he e (qn ..));rw[zw.l22,yE.l17]
  rcases enum_eq hr hme.1 hme.2 with ⟨e1,e2⟩|⟨e1,e2⟩
  · rw[e1,e2]; rfl
  rw[e1,e2,qf,if_neg (show ¬ (!true)=true by decide),xx (by omega),qf]
  cases z6 e with
  |none=>rfl
  |some v=>
   rw[uF,qf,qf]
   dsimp only
   by_cases h0:v=0
   · rw[if_pos h0,if_pos h0];exact parts_l17 hs hM B _ _ _ _ (fun y hy=>he y (qm _ hy)) (by rw[qi,qC]; omega) (vba hr e.fName)
   rw[if_neg h0,if_neg h0,qf,if_neg h0]
theorem parts_l8 {s:GSchema}(hs:nm3 s)(hM:s.fMethods.length≤6)(hE:s.fEnums.length≤6):∀ (B:List GMessage) (i j:Int) (a:List (List UInt8×Bool)) (l:List (List UInt8)),(∀ e∈B,e∈s.fMessages)→l.length+B.length≤1000→Rm a l→zw.l15 s B i a=(yE.l8 s B j l).bind fun r=>if r=0 then xd.l22 s s.fMethods 0 [] else some r
 |[],i,j,a,l,_,hl,hr=>by
  rw[zw.l15,yE.l8];exact parts_l17 hs hM _ _ _ _ _ (fun _ h=>h) (by rw[ql] at hl; omega) hr
 |m::B,i,j,a,l,he,hl,hr=>by
  rw[qj] at hl;have hme:=hs.2.1 m (he m (qn ..));rw[zw.l15,yE.l8]
  rcases msg_eq (s:=s) hr hme.1 hme.2.1 hme.2.2 with ⟨e1,e2⟩|⟨e1,e2⟩
  · rw[e1,e2]; rfl
  rw[e1,e2,qf,if_neg (show ¬ (!true)=true by decide),xx (by omega),qf]
  cases zE s m with
  |none=>rfl
  |some v=>
   rw[uF,qf,qf]
   dsimp only
   by_cases h0:v=0
   · rw[if_pos h0,if_pos h0];exact parts_l8 hs hM hE B _ _ _ _ (fun y hy=>he y (qm _ hy)) (by rw[qi,qC]; omega) (vba hr m.fName)
   rw[if_neg h0,if_neg h0,qf,if_neg h0]
theorem check07_eq {s:GSchema}(hs:nm3 s):xd s=zw s:=by
 rw[xd,zw,name_eq (by have:=hs.1; omega)]
 cases yF s.fName with
 |none=>rfl
 |some b=>
  rw[qf,qf]
  cases b with
  |false=>rfl
  |true=>
   rw[if_neg (show ¬ (!true)=true by decide),if_neg (show ¬ (!true)=true by decide)]
   by_cases h0:(s.fMessages.length:Int)=0
   · rw[if_pos h0,if_pos h0]
   rw[if_neg h0,if_neg h0]
   by_cases hc:(((decide (10<(qc s.fMessages:Int)))||(decide (6<(qc s.fEnums:Int))))||(decide (6<(qc s.fMethods:Int))))=true
   · rw[if_pos hc,if_pos hc]
   rw[if_neg hc,if_neg hc];simp only[qJ,decide_eq_true_eq,not_or] at hc
   rw[parts_l8 hs (by omega) (by omega) s.fMessages 0 0 [] [] (fun _ h=>h) (by rw[ql]; omega) Rm_nil]; rfl
theorem fewI_l25 {m:GMessage}{x2 x3:Int}{rec6:Int→Int→Option Bool}:∀ (l:List GField) (i:Int),zI.l25 x2 x3 rec6 m l i=some true→(∀ f∈l,f.fName.length≤200)∧rec6 (IntKind.i64.wrap (x2+(qc m.fName:Int))) (IntKind.i64.wrap (x3+1))=some true
 |[],_,h=>⟨(fun _ h=>by cases h),h⟩
 |f::l,i,h=>by
  rw[zI.l25] at h
  split at h
  · cases h
  rename_i hc
  simp only[qJ,decide_eq_true_eq,not_or] at hc;obtain⟨h1,h2⟩:=fewI_l25 l _ h;refine⟨fun g hg=>?_,h2⟩
  rcases qF.1 hg with rfl|hg
  · omega
  exact h1 g hg
theorem fewI_l60 {x:Int}{rec43:Int→Option Bool}:∀ (l:List GNamed) (i:Int),zI.l60 x rec43 l i=some true→(∀ f∈l,f.fName.length≤200)∧rec43 (IntKind.i64.wrap (x+1))=some true
 |[],_,h=>⟨(fun _ h=>by cases h),h⟩
 |f::l,i,h=>by
  rw[zI.l60] at h
  split at h
  · cases h
  obtain⟨h1,h2⟩:=fewI_l60 l _ h;refine⟨fun g hg=>?_,h2⟩
  rcases qF.1 hg with rfl|hg
  · omega
  exact h1 g hg
theorem fewI_l78 {s:GSchema}{n:Int}:∀ (k j:Nat),j≤20→zI.l78 s n k (j:Int)=some true→n<3000∧s.fMessages.length≤14∧s.fEnums.length≤10∧s.fMethods.length≤10∧∀ x∈s.fMethods.drop j,x.fName.length≤200
 |0,j,_,h=>by cases h
 |k+1,j,hj,h=>by
  rw[zI.l78] at h
  split at h
  · rename_i hc
    simp only[qo,decide_eq_true_eq] at hc
    have hj2:j<s.fMethods.length:=by omega
    rw[Xo hj2,qf] at h
    split at h
    · cases h
    rename_i hb
    simp only[qJ,decide_eq_true_eq,not_or] at hb;rw[yj (by omega) (by omega),show (j:Int)+1=((j+1:Nat):Int) by omega] at h;obtain⟨h1,h2,h3,h4,h5⟩:=fewI_l78 k (j+1) (by omega) h;refine⟨h1,h2,h3,h4,fun x hx=>?_⟩;rw[uP hj2] at hx
    rcases qF.1 hx with rfl|hx
    · omega
    exact h5 x hx
  rename_i hc
  simp only[qo,decide_eq_true_eq,not_and] at hc;have h:=Option.some.inj h;simp only[qo,decide_eq_true_eq] at h;refine⟨h.1.1.1,by omega,by omega,by omega,fun x hx=>?_⟩
  rw[List.drop_of_length_le (by omega)] at hx; cases hx
theorem fewI_l43 {s:GSchema}{n:Int}:∀ (k j:Nat),j≤20→zI.l43 s n k (j:Int)=some true→n<3000∧s.fMessages.length≤14∧s.fEnums.length≤10∧(∀ x∈s.fMethods,x.fName.length≤200)∧∀ x∈s.fEnums.drop j,x.fName.length≤200∧∀ v∈x.fValues,v.fName.length≤200
 |0,j,_,h=>by cases h
 |k+1,j,hj,h=>by
  rw[zI.l43] at h
  split at h
  · rename_i hc
    simp only[qo,decide_eq_true_eq] at hc
    have hj2:j<s.fEnums.length:=by omega
    rw[Xo hj2,qf] at h
    split at h
    · cases h
    rename_i hb
    simp only[qJ,decide_eq_true_eq,not_or] at hb;obtain⟨hv,h⟩:=fewI_l60 _ _ h;rw[yj (by omega) (by omega),show (j:Int)+1=((j+1:Nat):Int) by omega] at h;obtain⟨h1,h2,h3,h4,h5⟩:=fewI_l43 k (j+1) (by omega) h;refine⟨h1,h2,h3,h4,fun x hx=>?_⟩;rw[uP hj2] at hx
    rcases qF.1 hx with rfl|hx
    · exact⟨by omega,hv⟩
    exact h5 x hx
  rename_i hc
  simp only[qo,decide_eq_true_eq,not_and] at hc;obtain⟨h1,h2,h3,h4,h5⟩:=fewI_l78 rounds 0 (by omega) h;rw[qA] at h5;refine⟨h1,h2,h3,h5,fun x hx=>?_⟩
  rw[List.drop_of_length_le (by omega)] at hx; cases hx
theorem fewI_l6 {s:GSchema}(hs:nmS s):∀ (k j:Nat) (n:Int),j≤20→0≤n→n+(20-j)*140737488351232≤9000000000000000→zI.l6 s k n (j:Int)=some true→n<3000∧s.fMessages.length≤14∧(∀ x∈s.fMethods,x.fName.length≤200)∧(∀ x∈s.fEnums,x.fName.length≤200∧∀ v∈x.fValues,v.fName.length≤200)∧∀ x∈s.fMessages.drop j,x.fName.length≤3000∧x.fFields.length≤20∧∀ v∈x.fFields,v.fName.length≤200
 |0,j,n,_,_,_,h=>by cases h
 |k+1,j,n,hj,h0,hn,h=>by
  rw[zI.l6] at h
  split at h
  · rename_i hc
    simp only[qo,decide_eq_true_eq] at hc
    have hj2:j<s.fMessages.length:=by omega
    have hm:=(hs.2.1 _ (List.getElem_mem hj2)).1;unfold nmOk at hm;rw[Xo hj2,qf] at h
    split at h
    · cases h
    rename_i hb
    simp only[qJ,decide_eq_true_eq,not_or] at hb;obtain⟨hv,h⟩:=fewI_l25 _ _ h;rw[yj (x:=(j:Int)+1) (by omega) (by omega),show (j:Int)+1=((j+1:Nat):Int) by omega,yj (by omega) (by omega)] at h;obtain⟨h1,h2,h3,h4,h5⟩:=fewI_l6 hs k (j+1) _ (by omega) (by omega) (by omega) h;refine⟨by omega,h2,h3,h4,fun x hx=>?_⟩;rw[uP hj2] at hx
    rcases qF.1 hx with rfl|hx
    · exact⟨by omega,by omega,hv⟩
    exact h5 x hx
  rename_i hc
  simp only[qo,decide_eq_true_eq,not_and] at hc;obtain⟨h1,h2,h3,h4,h5⟩:=fewI_l43 rounds 0 (by omega) h;rw[qA] at h5;refine⟨h1,h2,h4,h5,fun x hx=>?_⟩
  rw[List.drop_of_length_le (by omega)] at hx; cases hx
theorem few_names {s:GSchema}(hs:nmS s)(h:zI s=some true):nm3 s:=by
 have h0:=hs.1;unfold nmOk at h0;obtain⟨h1,h2,h3,h4,h5⟩:=fewI_l6 hs rounds 0 (s.fName.length:Int) (by omega) (by omega) (by omega) h;rw[qA] at h5;exact⟨by omega,fun m hm=>⟨(h5 m hm).1,fun f hf=>uy ((h5 m hm).2.2 f hf) (by decide),by have:=(h5 m hm).2.1; omega⟩,fun e he=>⟨uy (h4 e he).1 (by decide),fun v hv=>uy ((h4 e he).2 v hv) (by decide)⟩,fun x hx=>uy (h3 x hx) (by decide)⟩
end
section
set_option maxRecDepth 4000
open AM
def smT : Nat→GTree→Prop
 |0,_=>False
 |d+1,t=>t.fRest.length≤40∧t.fEntries.length≤40∧∀ e∈t.fEntries,e.fTrees.length≤70∧∀ x∈e.fTrees,smT d x
def smallR (P:Prop)(r:Bool×Int):Prop:=r.1=true→(∃ n:Nat,r.2=(n:Int)∧n≤200)∧P
theorem small_l29 {self:GTree→Int→Int→Option (Bool×Int)}{deep d:Nat}{x12:Int}{rec15:Int→Int→Option (Bool×Int)}{P:Prop}(hd:deep≤13)(hs:∀ x (m:Nat),m≤200→∃ r,self x ((deep+1:Nat):Int) (m:Int)=some r∧smallR (smT d x) r)(hr:∀ i (m:Nat),m≤200→∃ r,rec15 i (m:Int)=some r∧smallR P r):
 ∀ (l:List GTree) (i:Int) (m:Nat),m≤200→∃ r,zD.l29 self (deep:Int) x12 rec15 l i (m:Int)=some r∧smallR (P∧∀ x∈l,smT d x) r
 |[],i,m,hm=>by
  obtain⟨r,e,h⟩:=hr (x12+1) m hm;exact⟨r,e,fun h1=>⟨(h h1).1,(h h1).2,fun x hx=>by cases hx⟩⟩
 |x::l,i,m,hm=>by
  obtain⟨⟨v,n⟩,e,h⟩:=hs x m hm;rw[zD.l29,yj (by omega) (by omega),show (deep:Int)+1=((deep+1:Nat):Int) by omega,e,qf]
  cases v with
  |false=>exact⟨_,rfl,fun h1=>absurd h1 uG⟩
  |true=>
   obtain⟨⟨n',e',hn'⟩,hx⟩:=h rfl
   dsimp only at e'
   dsimp only
   rw[if_neg (by decide),e'];obtain⟨r,er,h2⟩:=small_l29 hd hs hr l (i+1) n' hn';refine⟨r,er,fun h1=>⟨(h2 h1).1,(h2 h1).2.1,fun y hy=>?_⟩⟩
   rcases qF.1 hy with rfl|hy
   · exact hx
   exact (h2 h1).2.2 y hy
theorem small_l15 {self:GTree→Int→Int→Option (Bool×Int)}{deep d:Nat}(hd:deep≤13)(hs:∀ x (m:Nat),m≤200→∃ r,self x ((deep+1:Nat):Int) (m:Int)=some r∧smallR (smT d x) r):
 ∀ (l:List GEntry) (i:Int) (m:Nat),m≤200→∃ r,zD.l15 self (deep:Int) l i (m:Int)=some r∧smallR (∀ e∈l,e.fTrees.length≤70∧∀ x∈e.fTrees,smT d x) r
 |[],i,m,hm=>⟨(true,(m:Int)),rfl,fun _=>⟨⟨m,rfl,hm⟩,fun x hx=>by cases hx⟩⟩
 |e::l,i,m,hm=>by
  rw[zD.l15]
  split
  · exact⟨_,rfl,fun h1=>absurd h1 uG⟩
  rename_i hc
  obtain⟨r,er,h⟩:=small_l29 (x12:=i) (rec15:=zD.l15 self (deep:Int) l) hd hs (fun i m hm=>small_l15 hd hs l i m hm) e.fTrees 0 m hm;refine⟨r,er,fun h1=>⟨(h h1).1,fun y hy=>?_⟩⟩
  rcases qF.1 hy with rfl|hy
  · exact⟨by omega,(h h1).2.2⟩
  exact (h h1).2.1 y hy
theorem small_l8 {self:GTree→Int→Int→Option (Bool×Int)}{t:GTree}{deep n:Int}:∀ (l:List GRaw) (i:Int),(∃ v,zD.l8 self t deep n l i=some (false,v))∨zD.l8 self t deep n l i=zD.l15 self deep t.fEntries 0 (IntKind.i64.wrap (n+1))
 |[],i=>Or.inr rfl
 |r::l,i=>by
  rw[zD.l8]
  split
  · exact Or.inl ⟨_,rfl⟩
  exact small_l8 l _
theorem small_t : ∀ (k deep d:Nat) (t:GTree) (n:Nat),14<k+deep→deep≤14→d+deep=14→n≤200→∃ r,zD k t (deep:Int) (n:Int)=some r∧smallR (smT d t) r
 |0,deep,d,t,n,h,h',_,_=>by omega
 |k+1,deep,d,t,n,h,h',hdd,hn=>by
  rw[zD,zD.body,yj (by omega) (by omega)]
  split
  · exact⟨_,rfl,fun h1=>absurd h1 uG⟩
  rename_i hc
  simp only[qJ,decide_eq_true_eq,not_or] at hc
  obtain⟨d',rfl⟩:∃ d',d=d'+1:=⟨d-1,by omega⟩
  rcases small_l8 (self:=zD k) (t:=t) (deep:=(deep:Int)) (n:=(n:Int)) t.fRest 0 with ⟨v,e⟩|e
  · exact⟨_,e,fun h1=>absurd h1 uG⟩
  rw[e,yj (by omega) (by omega),show (n:Int)+1=((n+1:Nat):Int) by omega];obtain⟨r,er,h2⟩:=small_l15 (deep:=deep) (d:=d') (by omega) (fun x m hm=>small_t k (deep+1) d' x m (by omega) (by omega) (by omega) hm) t.fEntries 0 (n+1) (by omega);exact⟨r,er,fun h1=>⟨(h2 h1).1,by omega,by omega,(h2 h1).2⟩⟩
theorem Small_t (t:GTree):∃ b,wL t=some b∧(b=true→smT 14 t):=by
 obtain⟨r,e,h⟩:=small_t rounds 0 14 t 0 (by have:=yu; omega) (by omega) rfl (by omega);refine⟨r.1,?_,fun h1=>(h h1).2⟩;have e':zD rounds t 0 0=some r:=e
 rw[wL,e']; rfl
def restT : Nat→GTree→Prop
 |0,t=>t.fRest.length≤40
 |d+1,t=>t.fRest.length≤40∧∀ x∈kids t,restT d x
theorem smT_rest : ∀ (d j:Nat) (t:GTree),smT d t→restT j t
 |0,_,_,h=>h.elim
 |d+1,0,t,h=>h.1
 |d+1,j+1,t,h=>⟨h.1,fun x hx=>by
  obtain⟨e,he,hxe⟩:=List.mem_flatMap.1 hx
  exact smT_rest d j x ((h.2.2 e he).2 x hxe)⟩
theorem tr_eta (t:GTree):(⟨t.fKind,t.fN,t.fS,t.fEntries,t.fRest⟩:GTree)=t:=by cases t; rfl
theorem et_eta (e:GEntry):(⟨e.fTag,e.fTrees⟩:GEntry)=e:=by cases e; rfl
theorem treeC_l22 {self:GTree→Option GTree}{x5:Int}{l3:List GEntry}{rec9:Int→List GEntry→Option GTree}{y:GEntry}(h3:l3.length≤1000):∀ (l:List GTree) (i:Int) (acc:List GTree),(∀ x∈l,self x=some x)→acc.length+l.length≤70→yd.l22 self x5 l3 rec9 y l i acc=rec9 (x5+1) (l3++[⟨y.fTag,acc++l⟩])
 |[],i,acc,_,_=>by rw[yd.l22,xx (by omega),qf,qz]
 |x::l,i,acc,h,hl=>by
  rw[qj] at hl
  rw[yd.l22,h x (qn ..),qf,xx (by omega),qf,treeC_l22 h3 l _ _ (fun z hz=>h z (qm _ hz)) (by rw[qi,qC]; omega),qp]; rfl
theorem treeC_l9 {self:GTree→Option GTree}{t:GTree}{r1:List GRaw}:∀ (l:List GEntry) (i:Int) (acc:List GEntry),(∀ e∈l,e.fTrees.length≤70∧∀ x∈e.fTrees,self x=some x)→acc.length+l.length≤1000→yd.l9 self t r1 l i acc=some ⟨t.fKind,t.fN,t.fS,acc++l,r1⟩
 |[],i,acc,_,_=>by rw[yd.l9,qz]
 |e::l,i,acc,h,hl=>by
  rw[qj] at hl;have he:=h e (qn ..)
  rw[yd.l9,treeC_l22 (by omega) e.fTrees 0 [] he.2 (by rw[ql]; omega),qx,et_eta,treeC_l9 l _ _ (fun z hz=>h z (qm _ hz)) (by rw[qi,qC]; omega),qp]; rfl
theorem treeC : ∀ (d k:Nat) (t:GTree),d≤k→smT d t→yd k t=some t
 |0,_,_,_,h=>h.elim
 |d+1,0,_,h,_=>absurd h (by omega)
 |d+1,k+1,t,hk,h=>by
  rw[yd,yd.body,wu,xx (by have:=h.1; omega),qf,qf,treeC_l9 t.fEntries 0 [] (fun e hm=>⟨(h.2.2 e hm).1,fun x hx=>treeC d k x (by omega) ((h.2.2 e hm).2 x hx)⟩) (by have:=h.2.1; rw[ql]; omega),qx,tr_eta]
end
section
set_option maxRecDepth 4000
open AM
theorem bub_over {x:GEntry}{C:List GEntry}:∀ {A B:List GEntry},(∀ a∈A,x.fTag<a.fTag)→Zs x (A++C) B=Zs x C (A.reverse++B)
 |[],_,_=>rfl
 |a::A,B,h=>by
  rw[qG,Zs,if_pos (h a (qn ..)),bub_over fun b hb=>h b (qm _ hb),u4,qp]; rfl
theorem bub_stop {x:GEntry}{C B:List GEntry}(h:∀ a∈C,¬ x.fTag<a.fTag):Zs x C B=C.reverse++x::B:=by
 cases C with
 |nil=>rfl
 |cons a C=>rw[Zs,if_neg (h a (qn ..))]
theorem putL_miss {f:GField}{x:GTree}:∀ (q pre:List GEntry),(∀ e∈q,e.fTag≠f.fTag)→(pre++q).length<1000000→wt f x pre q=some (Zs ⟨f.fTag,[x]⟩ (pre++q).reverse [],true)
 |[],pre,_,h=>by
  rw[qz] at h ⊢;rw[wt,xx (by omega),qf]
 |e::q,pre,hq,h=>by
  rw[wt,if_neg (hq e (qn ..)),putL_miss q (pre++[e]) (fun a ha=>hq a (qm _ ha)) (by rw[qp]; exact h),qp]; rfl
theorem putL_hit {f:GField}{x:GTree}{b:GEntry}{B:List GEntry}(hb:b.fTag=f.fTag)(hl:b.fTrees.length<1000000):∀ (A pre:List GEntry),(∀ a∈A,a.fTag≠f.fTag)→wt f x pre (A++b::B)=some (pre++A++⟨f.fTag,(if f.fLabel=3 then b.fTrees else [])++[x]⟩::B,decide ((if f.fLabel=3 then b.fTrees.length else 0)+1≤64))
 |[],pre,_=>by
  rw[qx,wt,if_pos hb,qz]
  by_cases h3:f.fLabel=3
  · rw[if_pos h3,if_pos h3,if_pos h3,xx (by omega),qf,hb]
    congr 2
    refine decide_eq_decide.2 ?_
    rw[qi,qC]; omega
  rw[if_neg h3,if_neg h3,if_neg h3,hb]; rfl
 |a::A,pre,hA=>by
  rw[qG,wt,if_neg (hA a (qn ..)),putL_hit hb hl A (pre++[a]) (fun z hz=>hA z (qm _ hz)),qp pre]; rfl
theorem ref12_put_eq {es:List GEntry}{f:GField}{x:GTree}(hs:es.Pairwise Xk)(hn:es.length<1000000)(ht:∀ e∈es,e.fTrees.length<1000000):
 XA es f x=some (vaH f.fTag (f.fLabel=3) x es,decide (putN f.fTag (f.fLabel=3) es≤64)):=by
 obtain⟨A,B,rfl,hA,hB⟩:=splitE f.fTag hs;rw[XA,putE_app hA,putN_app hA]
 have miss:(∀ b∈B,f.fTag<b.fTag)→wt f x [] (A++B)=some (A++⟨f.fTag,[x]⟩::B,true):=by
  intro hB'
  rw[putL_miss (A++B) [] (fun e he=>?_) (by rw[qx]; exact hn),qx,List.reverse_append,bub_over (x:=⟨f.fTag,[x]⟩) (fun a ha=>by rw[ge_tag]; exact hB' a (List.mem_reverse.1 ha)),bub_stop (fun a ha=>?_),List.reverse_reverse,List.reverse_reverse,qz]
  · have:=hA a (List.mem_reverse.1 ha); simp only[ge_tag]; omega
  rcases ui.1 he with he|he
  · have:=hA e he; omega
  have:=hB' e he; omega
 cases B with
 |nil=>rw[miss (fun b hb=>by cases hb)]; rfl
 |cons b B=>
  have hb:=hB b (qn ..)
  by_cases hbt:b.fTag=f.fTag
  · rw[putL_hit hbt (ht b (q5 _ (qn ..))) A [] (fun a ha=>by have:=hA a ha; omega),vaH,if_neg (show ¬ b.fTag<f.fTag by omega),if_pos hbt,putN,if_neg (show ¬ b.fTag<f.fTag by omega),if_pos hbt]; rfl
  have hs':=(List.pairwise_append.1 hs).2.1;rw[uv] at hs'
  rw[miss (fun c hc=>by
   rcases qF.1 hc with rfl|hc
   · omega
   have:=hs'.1 c hc; unfold Xk at this; omega),vaH,if_neg (by omega),if_neg hbt,putN,if_neg (by omega),if_neg hbt]; rfl
theorem fieldR_l (t:Int):∀ (l:List GField) (i j:Int),yK.l4 t l i=zr.l4 t l j
 |[],_,_=>rfl
 |y::l,i,j=>by rw[yK.l4,zr.l4,fieldR_l t l (i+1) (j+1)]
theorem fieldR_eq (m:GMessage)(t:Int):yK m t=zr m t:=fieldR_l t _ _ _
theorem vb1 (s:GSchema)(n:List UInt8):z7 s n=zG s n:=vap n _ _ _
theorem refstep {acc i:Nat}{y:UInt8}(hi:i≤9)(ha:acc<2^(7*i))(h9:i=9→y.toNat≤1):IntKind.u64.wrap ((acc:Int)+(IntKind.u64.wrap ((IntKind.u64.wrap (((y.toNat:Int)).tmod 128))*2^(min (qI (IntKind.u64.wrap (IntKind.i64.wrap (7*(i:Int))))) 64))))=((acc+(y.toNat % 128)*2^(7*i):Nat):Int):=by
 have hb:=(stepv (y:=y) hi ha h9).2.1;have hy:y.toNat<256:=y.toNat_lt
 have e:IntKind.i64.wrap (7*(i:Int))=((7*i:Nat):Int):=by rw[yj (by omega) (by omega)]; omega
 have em:((y.toNat:Nat):Int).tmod 128=((y.toNat % 128:Nat):Int):=by rw[Int.tmod_eq_emod_of_nonneg (by omega)]; omega
 have hc:((((y.toNat % 128:Nat):Int))*2^(7*i))=(((y.toNat % 128)*2^(7*i):Nat):Int):=by
  rw[Int.natCast_mul,Int.natCast_pow]; rfl
 rw[e,em,u64w (n:=7*i) (by omega),qX,Nat.min_eq_left (by omega),u64w (n:=y.toNat % 128) (by omega),hc,u64w (n:=y.toNat % 128*2^(7*i)) (by omega),← Int.natCast_add,u64w hb]
theorem vbX {b:List UInt8}{n:Nat}(hb:b.length≤4096)(hn:n≤b.length):∀ (k i acc:Nat),i≤9→9<k+i→acc<2^(7*i)→xP.l10 b (n:Int) k (acc:Int) (i:Int)=xp.l12 (n:Int) ((b.drop (n+i)).take (10-i)) (i:Int) (acc:Int)
 |0,i,_,_,_,_=>by omega
 |k+1,i,acc,hi,hk,ha=>by
  rw[xP.l10,if_pos (by omega),yj (x:=(b.length:Int)-n) (by omega) (by omega)]
  by_cases h:n+i<b.length
  · have e:(b.drop (n+i)).take (10-i)=b[n+i]::(b.drop (n+i+1)).take (9-i):=by
     rw[uP h,show 10-i=(9-i)+1 by omega,List.take_succ_cons]
    rw[e,if_neg (by omega),yj (x:=(n:Int)+i) (by omega) (by omega),show (n:Int)+(i:Int)=((n+i:Nat):Int) by omega,Xo h,qf,xp.l12]
    generalize b[n+i]=y
    have hy:y.toNat<256:=y.toNat_lt
    by_cases h9:((decide ((i:Int)=9))&&(decide (1<(y.toNat:Int))))=true
    · rw[if_pos h9,if_pos h9]
    have h9':i=9→y.toNat≤1:=by
     intro e
     simp only[qo,decide_eq_true_eq,not_and] at h9
     have:=h9 (by omega); omega
    obtain⟨st,sb,sn⟩:=stepv (y:=y) hi ha h9'
    have e7:IntKind.i64.wrap (7*(i:Int))=((7*i:Nat):Int):=by rw[yj (by omega) (by omega)]; omega
    rw[if_neg h9,if_neg h9,st,refstep hi ha h9',Xd (by rw[e7,u64w (by omega)]; omega),qf,Xd (by rw[e7]; omega),qf]
    by_cases h1:128≤y.toNat
    · have hi8:i<9:=by
       apply Nat.lt_of_not_le; intro hc
       have:=h9' (by omega); omega
      rw[if_neg (by omega),if_pos (by omega),yj (x:=(i:Int)+1) (by omega) (by omega),show (i:Int)+1=((i+1:Nat):Int) by omega,vbX hb hn k (i+1) _ (by omega) (by omega) (sn hi8),show n+(i+1)=n+i+1 by omega,show 10-(i+1)=9-i by omega]
    have hA:(y.toNat:Int)<128:=by omega
    have hB:¬ (128:Int)≤(y.toNat:Int):=by omega
    rw[if_pos hA,if_neg hB,show (n:Int)+(i:Int)=((n+i:Nat):Int) by omega,yj (x:=((n+i:Nat):Int)) (by omega) (by omega)]
  rw[if_pos (by omega),List.drop_eq_nil_of_le (by omega),List.take_nil,xp.l12]
theorem va3 {b:List UInt8}{n:Nat}(hb:b.length≤4096)(hn:n≤b.length):xP b (n:Int)=xp b (n:Int):=by
 have:=vbX hb hn rounds 0 0 (by decide) (by have:=yu; omega) (by decide);rw[vbt hb hn,xP,if_neg (by simp only[qJ,decide_eq_true_eq]; omega)]
 simpa using this
theorem ref02_Zag_eq {v:Nat}(h:v<2^64):Zt (v:Int)=zu v:=by
 have d1:(v:Int).tdiv 2=((v / 2:Nat):Int):=by rw[Int.tdiv_eq_ediv_of_nonneg (by omega)]; omega
 have d2:(v:Int).tmod 2=((v % 2:Nat):Int):=by rw[Int.tmod_eq_emod_of_nonneg (by omega)]; omega
 unfold Zt zu;rw[d1,d2,u64w (by omega),yj (x:=((v / 2:Nat):Int)) (by omega) (by omega)]
 by_cases h0:v % 2=0
 · rw[if_pos (by omega),if_pos h0]
 rw[if_neg (by omega),if_neg h0,yj (x:=0-((v / 2:Nat):Int)) (by omega) (by omega),yj (by omega) (by omega)]; omega
theorem X7 {b:List UInt8}(hb:b.length≤4096):∀ (k n:Nat) (acc:List GRaw),n≤b.length→xg.l12 b k acc (n:Int)=xE.l12 b k acc (n:Int)
 |0,_,_,_=>rfl
 |k+1,n,acc,hn=>by
  rw[xg.l12,xE.l12]
  by_cases h:(n:Int)<(b.length:Int)
  · obtain⟨r1,e1,i1,_⟩:=get_inv hb hn;rw[if_pos h,if_pos h,va3 hb hn,wO,e1,qf,qf]
    by_cases z1:r1.2.2=0
    · obtain⟨v,post,hd,hv,rfl⟩:=i1 z1;have hl:=Xi hn hd
      have d1:(v:Int).tdiv 2=((v / 2:Nat):Int):=by rw[Int.tdiv_eq_ediv_of_nonneg (by omega)]; omega
      dsimp only
      rw[if_pos rfl,if_pos rfl,d1,u64w (by omega)]
      by_cases c1:v / 2<1∨500<v / 2
      · rw[if_pos (by simp only[qJ,decide_eq_true_eq]; omega),if_pos (by simp only[qJ,decide_eq_true_eq]; omega),qf,if_neg (by decide)]
      obtain⟨r2,e2,i2,_⟩:=get_inv hb (n:=n+(vb v).length) (by omega);rw[if_neg (by simp only[qJ,decide_eq_true_eq]; omega),if_neg (by simp only[qJ,decide_eq_true_eq]; omega),va3 hb (by omega),e2,qf,qf]
      by_cases z2:r2.2.2=0
      · obtain⟨w,post2,hd2,hw,rfl⟩:=i2 z2;have hl2:=Xi (by omega) hd2
        dsimp only
        rw[if_pos rfl,if_pos rfl]
        by_cases c4:IntKind.i64.wrap ((v:Int).tmod 2)=0
        · rw[if_pos c4,if_pos c4,bnd,bnd,ref02_Zag_eq hw,vbz hw,qf,if_pos rfl,xg.j34]
          congr 1
          funext _
          exact X7 hb k _ _ (by omega)
        rw[if_neg c4,if_neg c4]
        have e3:IntKind.i64.wrap ((b.length:Int)-((n+(vb v).length+(vb w).length:Nat):Int))=((post2.length:Nat):Int):=by rw[yj (by omega) (by omega)]; omega
        rw[e3,u64w (n:=post2.length) (by omega)]
        by_cases c5:(post2.length:Int)<(w:Int)
        · rw[if_pos c5,if_pos c5,qf,if_neg (by decide)]
        have e4:IntKind.i64.wrap (w:Int)=(w:Int):=yj (by omega) (by omega)
        have e5:IntKind.i64.wrap (((n+(vb v).length+(vb w).length:Nat):Int)+(w:Int))=((n+(vb v).length+(vb w).length+w:Nat):Int):=by rw[yj (by omega) (by omega)]; omega
        rw[if_neg c5,if_neg c5,e4,e5,Xd (by omega),qf,qf,qf,if_pos rfl,xg.j34]
        congr 1
        funext _
        exact X7 hb k _ _ (by omega)
      rw[if_neg z2,if_neg z2,qf,if_neg z2]
    rw[if_neg z1,if_neg z1,qf,if_neg z1]
  rw[if_neg h,if_neg h]
theorem ref04_Get_eq (b:List UInt8):xg b=xE b:=by
 rw[xg,xE]
 by_cases h:4096<(b.length:Int)
 · rw[if_pos h,if_pos h]
 rw[if_neg h,if_neg h];exact X7 (by omega) rounds 0 [] (ux _)
theorem ref01_Valid_eq {a:List UInt8}(hl:a.length≤30000):wK a=some (vbL a):=by
 have e1:=rl_all hl rounds 0 [] (by have:=yu; omega) (by decide) (by decide) (by rw[ql]; omega);have e2:=rl_valid hl rounds 0 (by have:=yu; omega) (by decide);have e1':xL a=_:=e1;have e2':yD a=_:=e2;rw[wK,e1',vbL,e2']
 cases rl a rounds 0<;>rfl
theorem number_eq (y:GType)(n:Int):wm y n=xF y n:=by
 unfold wm xF
 by_cases k1:y.fKind=1
 · rw[if_pos k1,if_pos k1]
 rw[if_neg k1,if_neg k1]
 by_cases k2:y.fKind=2
 · rw[if_pos k2,if_neg (by omega),if_neg (by omega),decide_eq_true k2]
 rw[if_neg k2,decide_eq_false k2]
theorem value12_eq {selfM:GSchema→GMessage→List UInt8→Int→Option (GTree×Int)}{selfV:GSchema→GField→GRaw→Int→Option (GTree×Int)}{s:GSchema}{f:GField}{r:GRaw}{deep:Int}{msg:GMessage→List UInt8→GTree×Int}(hk:1≤f.fType.fKind∧f.fType.fKind≤7)(hw:r.fWire=0∨r.fWire=1)(hb:r.fB.length≤4096)(hd:deep<1000)(hd':0≤deep)
 (h10:10≤deep→msg (vaN s f.fType.fName) r.fB=(zTree,10)) (hs:deep<10→selfM s (vaN s f.fType.fName) r.fB (deep+1)=some (msg (vaN s f.fType.fName) r.fB)):
 xD.body selfM selfV s f r deep=some (oneD msg s f.fType r):=by
 have hv:=ref01_Valid_eq (a:=r.fB) (by omega);have ed:IntKind.i64.wrap (deep+1)=deep+1:=yj (by omega) (by omega)
 have hk':f.fType.fKind=1∨f.fType.fKind=2∨f.fType.fKind=3∨f.fType.fKind=4∨f.fType.fKind=5∨f.fType.fKind=6∨f.fType.fKind=7:=by omega
 have hM:f.fType.fKind=7→(if 10≤deep then some (zTree,10) else (selfM s (vaN s f.fType.fName) r.fB (deep+1)).bind fun r29=>some (r29.1,r29.2))=some (msg (vaN s f.fType.fName) r.fB):=by
  intro _
  by_cases h:10≤deep
  · rw[if_pos h,h10 h]
  rw[if_neg h,hs (by omega)]; rfl
 unfold xD.body oneD xS xS.j3;unfold bnd;simp only[vb1,number_eq,Xd (show r.fB.length≤9223372036854775807 by omega),hv,ed,qf];have b1:(true==false)=false:=rfl;have b2:(false==true)=false:=rfl
 rcases hk' with k|k|k|k|k|k|k<;>rcases hw with w|w <;>
  simp only[k,w,b1,b2,reduceIte,reduceCtorEq,u7,decide_true,decide_false,or_true,true_or,or_false,false_or,or_self,ue,qQ,qy,beq_self_eq_true,qf] <;>
  first
   |done
   |rfl
   |exact hM k
   |(cases hn:xF f.fType r.fN<;>first|rfl|(exfalso; rw[xF,if_neg (by omega),if_neg (by omega),if_neg (by omega),k] at hn; exact absurd hn (by decide)))
   |(cases vbL r.fB<;>rfl)
theorem vbK {m:GMessage}{t:GTree}:∀ (q:List GEntry) (x:Int) (acc:List GEntry),(∀ e∈q,e.fTrees≠[])→acc.length+q.length<100000→zZ.l8 m t q x acc=some ⟨3,0,[],acc++zdel m q,t.fRest⟩
 |[],x,acc,_,_=>by rw[zZ.l8,zdel,List.filter_nil,qz]
 |e::q,x,acc,h,hl=>by
  rw[qj] at hl;have he:=h e (qn ..)
  have h':∀ e∈q,e.fTrees≠[]:=fun a ha=>h a (qm _ ha)
  have e1:(if (zr m e.fTag).1.fLabel=1 then (Zd e.fTrees 0).bind fun y19=>bnd (Zn y19) fun r22=>some (!r22) else some true)=some (!isZ m e):=by
   unfold isZ
   split
   · rename_i hl
     cases ht:e.fTrees with
     |nil=>exact absurd ht he
     |cons a l=>
      rw[idx_t (ve 0) (show (a::l)[qI 0]?=some a from rfl),qf,bnd,hl]; rfl
   rename_i hl
   rw[decide_eq_false hl,Bool.false_and]; rfl
  rw[zZ.l8,bnd,fieldR_eq,e1,qf,zdel,uH]
  cases isZ m e with
  |true=>
   rw[if_neg (by decide),zZ.j13,vbK q _ _ h' (by omega)]; rfl
  |false=>
   rw[if_pos (by decide),xx (by omega),qf,zZ.j13,vbK q _ _ h' (by rw[qi,qC]; omega),qp]; rfl
theorem settled_eq {m:GMessage}{es:List GEntry}{rest:List GRaw}(h:∀ e∈es,e.fTrees≠[])(hl:es.length<100000):zZ m ⟨3,0,[],es,rest⟩=some ⟨3,0,[],zdel m es,rest⟩:=by
 have:=vbK (m:=m) (t:=⟨3,0,[],es,rest⟩) es 0 [] h (by rw[ql]; omega);rw[qx] at this;exact this
theorem fldR_eq {selfV:GSchema→GField→GRaw→Int→Option (GTree×Int)}{s:GSchema}{m:GMessage}{deep:Int}{one:GType→GRaw→GTree×Int}:
 ∀ {l:List GRaw} {es:List GEntry} {rest:List GRaw},(∀ r∈l,(zr m r.fTag).2=true→selfV s (zr m r.fTag).1 r deep=some (one (zr m r.fTag).1.fType r))→es.Pairwise Xk→(∀ e∈es,e.fTrees≠[]∧e.fTrees.length≤64)→es.length+l.length<100000→rest.length+l.length<100000→
 zJ.l selfV s m deep l es rest=some (fldD m one l es rest)
 |[],es,rest,_,_,he,hn,hn'=>by
  rw[zJ.l,XC (by simp only[ql] at hn'; omega),qf,settled_eq (fun e h=>(he e h).1) (by simp only[ql] at hn; omega),qf,fldD]
 |r::l,es,rest,ho,hs,he,hn,hn'=>by
  rw[qj] at hn hn'
  have ho':∀ r∈l,(zr m r.fTag).2=true→selfV s (zr m r.fTag).1 r deep=some (one (zr m r.fTag).1.fType r):=fun x hx=>ho x (qm _ hx)
  rw[zJ.l,bnd,fldD,fieldR_eq]
  by_cases hf:(zr m r.fTag).2=true
  · obtain⟨hft,_⟩:=YH hf;rw[if_pos hf,if_pos hf,ho r (qn ..) hf,qf]
    by_cases h0:(one (zr m r.fTag).1.fType r).2=0
    · rw[if_pos h0,if_pos h0,ref12_put_eq hs (by omega) (fun e h=>by have:=(he e h).2; omega),qf,hft]
      by_cases hp:putN r.fTag ((zr m r.fTag).1.fLabel=3) es≤64
      · rw[if_pos hp,if_pos (decide_eq_true hp)];refine fldR_eq (es:=vaH r.fTag ((zr m r.fTag).1.fLabel=3) (one (zr m r.fTag).1.fType r).1 es) ho' (X8 hs) ?_ (by have:=putE_len (t:=r.fTag) (rep:=(zr m r.fTag).1.fLabel=3) (x:=(one (zr m r.fTag).1.fType r).1) (es:=es); omega) (by omega)
        intro e h
        rcases putE_all h with h|⟨h1,h2,h3⟩
        · exact he e h
        exact⟨h3,by omega⟩
      rw[if_neg hp,if_neg (by simpa using hp)]; rfl
    rw[if_neg h0,if_neg h0]; rfl
  rw[if_neg hf,if_neg hf,xx (by omega),qf];exact fldR_eq ho' hs he (by omega) (by rw[qi,qC]; omega)
theorem Xn {s:GSchema}(hk:kindsS s):∀ (d k:Nat) (m:GMessage) (b:List UInt8) (deep:Int),kindsM m→d+1≤10→deep=10-d→2*d+3≤k→zJ k s m b deep=some (decM s (d+1) m b)
 |d,0,m,b,deep,_,_,_,h=>by omega
 |d,k+1,m,b,deep,hm,h10,hd,hkk=>by
  rw[zJ,zJ.body,ref04_Get_eq,getD_eq,qf,decM]
  by_cases h0:(getD b).2=0
  · rw[if_pos h0,if_pos h0];obtain⟨hb,hl,hok⟩:=getD_ok h0
    have hlen:(getD b).1.length<100000:=by
     have:=XP (getD b).1
     rw[← hb] at this; omega
    refine fldR_eq ?_ List.Pairwise.nil (fun _ h=>by cases h) (by rw[ql]; omega) (by rw[ql]; omega)
    intro r hr hf
    obtain⟨k',rfl⟩:∃ k',k=k'+1:=⟨k-1,by omega⟩
    rw[xD];have hc:=(ZC (hok r hr).1).2.2
    have hbl:r.fB.length≤4096:=by
     rcases hc with ⟨_,hc⟩|⟨_,_,hc⟩
     · rw[hc]; decide
     exact hc
    refine value12_eq (hm _ (YH hf).2) (by rcases hc with hc|hc; exact Or.inl hc.1; exact Or.inr hc.1) hbl (by omega) (by omega) (fun h=>?_) (fun h=>?_)
    · obtain rfl:d=0:=by omega
      rfl
    obtain⟨d',rfl⟩:∃ d',d=d'+1:=⟨d-1,by omega⟩
    exact Xn hk d' k' _ _ _ (kinds_msg hk _) (by omega) (by omega) (by omega)
  rw[if_neg h0,if_neg h0]; rfl
theorem vbS {s:GSchema}(hs:nmS s)(hn:nm3 s)(n b:List UInt8):wk s n b=yL s n b:=by
 rw[wk,check07_eq hn,yL,chkV_eq hs,qf,qf]
 by_cases hc:chkV s=0
 · have hck:zw s=some 0:=by rw[chkV_eq hs,hc]
   have hk:=kindsS_of hck;have hm:=kinds_msg hk n;unfold vaN at hm;rw[if_pos hc,if_pos hc,bnd,bnd,vb1];rw[Xn hk 9 rounds _ b 1 hm (by decide) rfl (by have:=yu; omega),ZR s 10 rounds _ b 1 (qv _) rfl (by have:=yu; omega)]
 rw[if_neg hc,if_neg hc]
end
section
set_option maxRecDepth 4000
open AM
def dsT : Nat→GTree→Prop
 |0,t=>ownS t∧kids t=[]
 |d+1,t=>ownS t∧∀ x∈kids t,dsT d x
theorem dsT_deep : ∀ (d:Nat) (t:GTree),dsT d t→deepT d t
 |0,_,h=>h.2
 |d+1,_,h=>fun x hx=>dsT_deep d x (h.2 x hx)
theorem leaf_ds {k n:Int}{a:List UInt8}(hn:In64 n):∀ d,dsT d ⟨k,n,a,[],[]⟩
 |0=>⟨⟨hn,ux _,fun r hr=>by cases hr⟩,rfl⟩
 |d+1=>⟨⟨hn,ux _,fun r hr=>by cases hr⟩,fun x hx=>by cases hx⟩
theorem Y3 (d:Nat):dsT d zTree:=leaf_ds in0 d
theorem one_ds {msg:GMessage→List UInt8→GTree×Int}{s:GSchema}{y:GType}{r:GRaw}{d:Nat}(hm:∀ m b,dsT d (msg m b).1)(hr:In64 r.fN):dsT d (oneD msg s y r).1:=by
 unfold oneD
 repeat' split
 all_goals first|exact Y3 d|exact leaf_ds hr d|exact leaf_ds in0 d|exact hm _ _
theorem putE_ds {P:GTree→Prop}{t:Int}{rep:Prop} [Decidable rep]{x:GTree}(hx:P x):∀ {es:List GEntry},(∀ e∈es,∀ z∈e.fTrees,P z)→∀ e∈vaH t rep x es,∀ z∈e.fTrees,P z
 |[],_,e,he,z,hz=>by
  rw[vaH,uw] at he; subst he
  rw[Yk,uw] at hz; subst hz; exact hx
 |a::es,h,e,he,z,hz=>by
  have h':∀ e∈es,∀ z∈e.fTrees,P z:=fun b hb=>h b (qm _ hb)
  rw[vaH] at he
  split at he
  · rcases qF.1 he with rfl|he
    · exact h _ (qn ..) z hz
    exact putE_ds hx h' e he z hz
  split at he
  · rcases qF.1 he with rfl|he
    · rw[Yk] at hz
      rcases ui.1 hz with hz|hz
      · split at hz
        · exact h a (qn ..) z hz
        cases hz
      rw[uw] at hz; subst hz; exact hx
    exact h' e he z hz
  rcases qF.1 he with rfl|he
  · rw[Yk,uw] at hz; subst hz; exact hx
  exact h e he z hz
theorem fld_ds {m:GMessage}{one:GType→GRaw→GTree×Int}{d:Nat}:∀ (l:List GRaw) (es:List GEntry) (rest:List GRaw),(∀ r∈l,In64 r.fN∧∀ y,dsT d (one y r).1)→(∀ e∈es,∀ z∈e.fTrees,dsT d z)→(∀ r∈rest,In64 r.fN)→rest.length+l.length≤900000→dsT (d+1) (fldD m one l es rest).1
 |[],es,rest,_,he,hr,hn=>by
  rw[fldD];refine⟨⟨in0,?_,fun r h=>hr r (srt_mem.1 h)⟩,fun x hx=>?_⟩
  · show (srt rest).length≤900000
    rw[srt_len]; simpa using hn
  obtain⟨e,hm,hxe⟩:=List.mem_flatMap.1 hx;exact he e (List.mem_filter.1 hm).1 x hxe
 |r::l,es,rest,hl,he,hr,hn=>by
  rw[qj] at hn
  have hl':=fun x hx=>hl x (qm _ hx)
  have h0:=hl r (qn ..);rw[fldD]
  split
  · split
    · split
      · exact fld_ds l _ rest hl' (putE_ds (h0.2 _) he) hr (by omega)
      exact Y3 _
    exact Y3 _
  exact fld_ds l es _ hl' he (fun x hx=>by
   rcases ui.1 hx with h|h
   · exact hr x h
   rw[uw] at h; subst h; exact h0.1) (by rw[qi,qC]; omega)
theorem decM_ds {s:GSchema}:∀ (d:Nat) (m:GMessage) (b:List UInt8),dsT d (decM s d m b).1
 |0,m,b=>by rw[decM]; exact Y3 0
 |d+1,m,b=>by
  rw[decM]
  by_cases h0:(getD b).2=0
  · obtain⟨hb,hl,hok⟩:=getD_ok h0
    have hlen:(getD b).1.length<100000:=by
     have:=XP (getD b).1
     rw[← hb] at this; omega
    rw[if_pos h0];exact fld_ds _ [] [] (fun r hr=>⟨(hok r hr).2,fun y=>one_ds (fun m b=>decM_ds d m b) (hok r hr).2⟩) (fun e he=>by cases he) (fun r hr=>by cases hr) (by rw[ql]; omega)
  rw[if_neg h0]; exact Y3 _
theorem dec_ds {s:GSchema}{n b:List UInt8}(hs:nmS s):∃ r,yL s n b=some r∧dsT 10 r.1:=by
 by_cases hc:chkV s=0
 · have hck:zw s=some 0:=by rw[chkV_eq hs,hc]
   by_cases hm:(zG s n).2=true
   · exact⟨_,decode_eq hck hm,decM_ds 10 _ _⟩
   refine⟨(zTree,14),?_,Y3 10⟩
   rw[yL,hck,qf,if_pos rfl,bnd,if_pos (by simpa using hm)]; rfl
 refine⟨(zTree,1),?_,Y3 10⟩
 rw[yL,chkV_eq hs,qf,if_neg hc]; rfl
theorem enc_r {t:GTree}(hz:szT 10 t):∃ r,xB t=some r∧XB t=some r∧r.1.length≤4096:=by
 refine⟨_,Encode_eq hz,vbT hz,?_⟩
 split
 · cases h:vaw 10 t with
   |none=>exact ux _
   |some b=>exact vcd h
 exact ux _
end
section
set_option maxRecDepth 4000
open AM
theorem awakeT : xU=some true:=by decide +kernel
theorem trees_true {s:GSchema}{n:List UInt8}{t:GTree}(hs:szS s)(hz:(∀ d,restT d t)→szT 10 t):law12_DecodeTrees s n t=some true:=by
 obtain⟨few,hf⟩:=few_t s;obtain⟨v,e,h⟩:=Small_t t;rw[law12_DecodeTrees,hf,qf]
 cases few with
 |false=>rw[if_pos (show (!false)=true from rfl),qf,if_pos rfl,awakeT]; rfl
 |true=>
  rw[if_neg (show ¬ (!true)=true by decide),e,qf,qf]
  cases v with
  |false=>rw[if_pos (show (!false)=true from rfl),awakeT]; rfl
  |true=>
   have hsm:=h rfl;obtain⟨r8,h8,_,hl⟩:=enc_r (hz fun d=>smT_rest 14 d t hsm);rw[if_neg (by decide),treeC 14 rounds t (by have:=yu; omega) hsm,qf,h8,qf]
   by_cases h0:r8.2=0
   · obtain⟨r,hr,hd⟩:=dec_ds (n:=n) (b:=r8.1) hs.1
     rw[if_pos h0,schema_eq hs,qf,bytes_copy (by omega),qf,hr,qf,vbS hs.1 (few_names hs.1 hf),hr,qf,Same_refl (by decide) (dsT_deep 10 _ hd),qf,if_pos (by simp),awakeT]; rfl
   rw[if_neg h0,awakeT]; rfl
end
section
open Go.ChangeShapes Go.WideShapes Go.ChangeAt Go.RowKit Go.Shelf Go.Lib AM
theorem own : ownKnob Tryz.prog.godebug=none:=by kernel_rfl
theorem laidOut : laidOutB qh=true:=by kernel_rfl
def listed : List (String×DataW Unit):=[("unicode/utf8.acceptRanges",Rows.laid_unicode_utf8_acceptRanges),("unicode/utf8.first",Rows.laid_unicode_utf8_first)]
noncomputable def laidWorld (os:Os):World:=
 let w0:=World.holding qh os ⟨#[],#[],[]⟩
 let put (h:Array Obj) (g:Nat) (cs:Array Value):Array Obj:=h.modify g fun
  |.cells _ t frozen=>.cells cs t frozen
  |o=>o
 let h1:=put w0.heap (utf8Ren.g 3) (Lib.firstTab.map fun z=>Value.int .u8 z).toArray
 let h2:=put h1 (utf8Ren.g 4) ((uJ 16).flatMap fun i=>[Value.int .u8 (Lib.accLo i),Value.int .u8 (Lib.accHi i)]).toArray
 { w0 with heap:=h2 }
theorem laid_met (os:Os)(args:Array Value):laidMet qh listed ((laidWorld os).forCall (fun _ _=>0) ⟨#[],args,[]⟩).memory:=
 (LaidIn.of_run (l:=listed) [0,1] 8 (by kernel_rfl) (by kernel_rfl) (by kernel_rfl) (by kernel_rfl)).met
theorem laid_metH (os:Os)(args:Array Value):laidMetH qh listed ((laidWorld os).forCall (fun _ _=>0) ⟨#[],args,[]⟩).memory:=laid_met os args
theorem firstD : Rows.laid_unicode_utf8_first=Lib.firstData:=by kernel_rfl
theorem acceptD : (Rows.laid_unicode_utf8_acceptRanges:DataW Unit)=Lib.acceptData:=by kernel_rfl
theorem u8types : U8Types qh utf8Ren:=⟨vaf.t5,vaf.t119,vaf.t138,vaf.t139⟩
theorem glb_of_laid {W:World}(hL:laidMetH qh listed W):Glb W fun b=>b<W.heap.size:=by
 have h':laidMet qh listed W:=hL;have r1:=Lib.laidMet.reads h' (.tail _ (.head _));have r2:=Lib.laidMet.reads h' (.head _);rw[firstD] at r1;rw[acceptD] at r2;have ht:Lib.Utf8Tabs (utf8Ren.g 3) (utf8Ren.g 4) W:=utf8Tabs_of_readsT u8types ⟨by kernel_rfl,by kernel_rfl,by kernel_rfl,by kernel_rfl,by kernel_rfl,by kernel_rfl,by kernel_rfl⟩ r1 r2;obtain⟨t1,t2⟩:=ht
 have lt:∀ {g o:Nat} {v:Value},W.cell? ⟨g,o,none⟩=some v→g<W.heap.size:=by
  intro g o v h
  refine Nat.lt_of_not_le fun hle=>?_
  unfold World.cell? at h;rw[Array.getElem?_eq_none hle] at h;cases h
 refine⟨fun g vs hm=>?_,fun g vs hm i v hv=>?_⟩
 · rcases qF.1 hm with e|hm
   · cases e; exact lt (t1 0 (by decide))
   rcases qF.1 hm with e|hm
   · cases e; exact lt (t2 0 (by decide)).1
   cases hm
 rcases qF.1 hm with e|hm
 · cases e
   have hi:i<256:=by
    have:=(ua.1 hv).1; simpa using this
   rw[List.getElem?_map,List.getElem?_range hi] at hv;cases hv;exact t1 i hi
 rcases qF.1 hm with e|hm
 · cases e
   have hi:i<32:=by
    have:=(ua.1 hv).1; simpa using this
   rw[List.getElem?_map,List.getElem?_range hi] at hv;cases hv;have h1:=t2 (i / 2) (by omega)
   have:i % 2=0∨i % 2=1:=by omega
   rcases this with h|h
   · have e:2*(i / 2)=i:=by omega
     rw[e] at h1
     simp only[h,if_true]; exact h1.1
   have e:2*(i / 2)+1=i:=by omega
   rw[e] at h1
   simp only[h]; exact h1.2
 cases hm
end
end Go.Proofs.YtaddlmlpeghonaaGreatDoor
