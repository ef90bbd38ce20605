/- Parts of the proof, cut down to what it needs. -/
import Derived.Test.YtaddlmlpeghonaaGreatDoorBDc
set_option linter.constructorNameAsVariable false
set_option linter.unusedSimpArgs false
set_option linter.unusedVariables false
namespace Go.Proofs.YtaddlmlpeghonaaGreatDoor
open _root_.List renaming length → qc, flatMap → qe, length_append → qi, length_cons → qj, length_nil → ql, mem_cons_of_mem → qm, mem_cons_self → qn, append_assoc → qp, getD_eq_getElem?_getD → qu, map_nil → qw, nil_append → qx, append_nil → qz, drop_zero → qA, map_append → qB, length_singleton → qC, map_cons → qD, mem_cons → qF, cons_append → qG, length_eq_zero_iff → qK, getElem?_append_left → qL, replicate → qO, flatMap_cons → qP, flatMap_append → qR, range_zero → qV, getElem?_set_ne → qY, getElem?_eq_getElem → qZ, all_cons → q1, range_succ → q2, mem_append_right → q5, length_map → q7, getElem?_eq_some_iff → ua, mem_map → ud, all_nil → uf, all_eq_true → ug, mem_append → ui, take_length → uj, set_cons_zero → ul, take_of_length_le → um, getElem?_append_right → un, flatMap_nil → uo, mem_append_left → uq, take_append_drop → ut, set_cons_succ → uu, pairwise_cons → uv, mem_singleton → uw, getElem?_set_self → uz, nodup_cons → uA, getElem?_eq_none → uB, length_set → uD, filter_cons → uH, range → uJ, getElem?_cons_zero → uK, getElem?_cons_succ → uL, length_take → uN, drop_eq_getElem_cons → uP, length_drop → uR, getD_cons_zero → uY, getD_cons_succ → uZ, reverse_cons → u4, set → u5, eq_nil_of_length_eq_zero → u9, drop_drop → vg
open _root_.Option renaming bind_some → qf, map_some → uF, getD_some → uS
open _root_.Nat renaming reduceEqDiff → qa, reduceLT → qb, reduceAdd → qd, reduceLeDiff → qg, zero_add → qq, reduceMul → qs, lt_succ_self → qt, le_refl → qv, reduceSub → qH, mul_le_mul_right → q3, reduceMod → ub, lt_of_lt_of_le → uk, zero_le → ux, le_trans → uy, zero_mul → uI, sub_self → uO, sub_zero → uQ, succ_mul → uV, add_zero → uW, add_assoc → uX, add_mul → u0, lt_or_ge → u6
open _root_.Bool renaming and_eq_true → qo, not_false → qy, or_eq_true → qJ, or_true → qM, not_true → qQ, and_true → qS, and_self → qT, and_false → qU, or_false → qW, false_eq_true → ue, true_and → uC, false_ne_true → uG, false_or → uM, not_eq_true' → uT
open _root_.Int renaming toNat → qI, toNat_natCast → qX, reduceEq → u7, le_refl → ve
open _root_.BitVec renaming ofInt → qE, toNat → ur
open _root_.Array renaming length_toList → uh, getD_eq_getD_getElem? → uE, getElem?_eq_getElem → uU, getElem?_setIfInBounds_ne → u3, getElem?_modify → vj
open _root_.UInt8 renaming ofNat → uc
open Result renaming andThen_ok → qk
open Sem renaming run_bind → qr, run_pure → qN
open _root_.Go.Proofs.Tryz renaming prog → qh
section
set_option maxRecDepth 4000
set_option maxHeartbeats 1000000
open AM
def zI.l25 (x2:Int)(x3:Int)(rec6:Int→Int→Option Bool)(y12:GMessage):List GField→Int→Option Bool
 |[],x23=>(rec6 (IntKind.i64.wrap (x2+(qc y12.fName:Int))) (IntKind.i64.wrap (x3+1)))
 |y25::q25,x23=>(if ((decide (200<(qc y25.fName:Int)))||(decide (200<(qc y25.fType.fName:Int))))=true then some false else ((zI.l25 x2 x3 rec6 y12 q25) (x23+1)))
def zI.l60 (x41:Int)(rec43:Int→Option Bool):List GNamed→Int→Option Bool
 |[],x58=>(rec43 (IntKind.i64.wrap (x41+1)))
 |y60::q60,x58=>(if 200<(qc y60.fName:Int) then some false else ((zI.l60 x41 rec43 q60) (x58+1)))
def zI.l78 (a0:GSchema)(x2:Int):Nat→Int→Option Bool
 |0,_=>none
 |k78+1,x76=>(if ((decide (x76<(qc a0.fMethods:Int)))&&(decide (x76<20)))=true then (Zd a0.fMethods x76).bind fun y84=>(if (((decide (200<(qc y84.fName:Int)))||(decide (200<(qc y84.fIn:Int))))||(decide (200<(qc y84.fOut:Int))))=true then some false else ((zI.l78 a0 x2 k78) (IntKind.i64.wrap (x76+1)))) else some ((((decide (x2<3000))&&(decide ((qc a0.fMessages:Int)≤14)))&&(decide ((qc a0.fEnums:Int)≤10)))&&(decide ((qc a0.fMethods:Int)≤10))))
def zI.l43 (a0:GSchema)(x2:Int):Nat→Int→Option Bool
 |0,_=>none
 |k43+1,x41=>(if ((decide (x41<(qc a0.fEnums:Int)))&&(decide (x41<20)))=true then (Zd a0.fEnums x41).bind fun y50=>(if ((decide (200<(qc y50.fName:Int)))||(decide (24<(qc y50.fValues:Int))))=true then some false else (zI.l60 x41 (zI.l43 a0 x2 k43) y50.fValues 0)) else (zI.l78 a0 x2 rounds 0))
def zI.l6 (a0:GSchema):Nat→Int→Int→Option Bool
 |0,_,_=>none
 |k6+1,x2,x3=>(if ((decide (x3<(qc a0.fMessages:Int)))&&(decide (x3<20)))=true then (Zd a0.fMessages x3).bind fun y12=>(if ((decide (20<(qc y12.fFields:Int)))||(decide (40<(qc y12.fReserved:Int))))=true then some false else (zI.l25 x2 x3 (zI.l6 a0 k6) y12 y12.fFields 0)) else (zI.l43 a0 x2 rounds 0))
def zI (a0:GSchema):Option Bool:=
 (zI.l6 a0 rounds (qc a0.fName:Int) 0)
theorem zI.ok (a0:GSchema)(r:Bool)(h:zI a0=some r):ACalls qh 11 [.agg (encGSchema a0)] [] (fun r' _=>r'=.bool r):=by
 refine zf (rs:=[.tmp 2]) tok Tryz.func11 rfl Tryz.ntmps11 rfl Tryz.call11 (by simp) ?_;refine zl [(0,.agg (encGSchema a0))] ⟨rfl,trivial⟩ ?_;unfold zI at h
 refine rg tok [1] fun K hK=>?_
 simp only[go_sem,qb,qa,qd,reduceCtorEq,encGSchema];apply hK
 refine rgN [1,3] ?_
 refine za fun Z1 hZ1=>?_
 refine rgN [1,3,4] ?_;apply ze;refine zq (fun m L τ=>∃ (k6:Nat) (x2:Int) (x3:Int),m=0+k6∧L=[(1,.op 0 0 0),(3,.int .i64 x2),(4,.int .i64 x3)]∧τ=[.cells 0 (encGSchema a0)]∧zI.l6 a0 k6 x2 x3=some r) _ ⟨rounds,(qc a0.fName:Int),0,rfl,rfl,rfl,h⟩ .s ?_;rintro m L τ ⟨k6,x2,x3,rfl,rfl,rfl,h⟩
 rcases k6 with _|k6
 · cases h
 simp only[zI.l6] at h
 refine za fun Z7 hZ7=>?_
 refine rc [1,3,4,21] fun K hK=>?_
 refine rnN 6 ?_;refine zh 3 (fun L τ=>L=[(1,.op 0 0 0),(3,.int .i64 x2),(4,.int .i64 x3),(21,.bool ((decide (x3<(qc a0.fMessages:Int)))&&(decide (x3<20))))]∧τ=[.cells 0 (encGSchema a0)]) ?_ ?_
 · refine yG 18 rfl (fun hg18=>?_) (fun hg18=>?_)
   · have t8:=eq_true hg18;refine rnN 3 ?_;refine zb ⟨rfl,_,_,⟨rfl,rfl⟩,.p t8⟩
   have t9:=eq_false hg18;refine rnN 3 ?_;refine zb ⟨rfl,_,_,⟨rfl,rfl⟩,.p t9⟩
 rintro _ _ ⟨rfl,rfl⟩;refine nkN hK ?_;refine zm (b:=((decide (x3<(qc a0.fMessages:Int)))&&(decide (x3<20)))) rfl (fun hc10=>?_) (fun hc10=>?_)
 · rw[if_pos hc10] at h;apply zd;apply hZ7
   refine za fun Z11 hZ11=>?_
   apply ze;obtain⟨y12,hy12,h⟩:=bind_some h;have f13:=E22.idxS hy12;have f14:=E22.fldS0 (f:=9) rfl rfl hy12
   refine rg tok [1,3,4] fun K hK=>?_
   simp only[go_sem,qb,qa,qd,encGMessage,f13,f14];apply hK
   refine za fun Z15 hZ15=>?_
   refine rc [1,3,4,50] fun K hK=>?_
   have f16:=E22.idxS hy12;have f17:=E22.fldS (f:=47) rfl rfl hy12 (o:=1) (by decide);refine zj tok 9 ?_;simp only[go_sem,qb,qa,qd,encGMessage,f16,f17];refine zh 9 (fun L τ=>L=[(1,.op 0 0 0),(3,.int .i64 (IntKind.i64.wrap (x2+(qc y12.fName:Int)))),(4,.int .i64 x3),(50,.bool ((decide (20<(qc y12.fFields:Int)))||(decide (40<(qc y12.fReserved:Int)))))]∧τ=[.cells 0 (encGSchema a0)]) ?_ ?_
   · refine yG 41 rfl (fun hg41=>?_) (fun hg41=>?_)
     · have t18:=eq_true hg41;refine rnN 9 ?_;refine zb ⟨rfl,_,_,⟨rfl,rfl⟩,.p t18⟩
     have t19:=eq_false hg41;have f20:=E22.idxS hy12;have f21:=E22.fldS (f:=45) rfl rfl hy12 (o:=2) (by decide);refine zj tok 9 ?_;simp only[go_sem,qb,qa,qd,encGMessage,f20,f21];refine zb ⟨rfl,_,_,⟨rfl,rfl⟩,.p t19⟩
   rintro _ _ ⟨rfl,rfl⟩;refine nkN hK ?_;refine zm (b:=((decide (20<(qc y12.fFields:Int)))||(decide (40<(qc y12.fReserved:Int))))) rfl (fun hc22=>?_) (fun hc22=>?_)
   · rw[if_pos hc22] at h;refine rgN [2] ?_;cases h;exact rtA
   rw[xQ hc22] at h;apply zd;apply hZ15;refine rgN [1,3,4,5] ?_;apply ze
   refine xn 0 rfl fun hb25=>?_
   replace hb25:=vaz hb25.2.1.2 hy12;replace hb25:qc y12.fFields≤9223372036854775807:=hb25.2.1.1;refine zq (fun m L τ=>∃ (p25 q25:List GField) (x23:Int),m=qc q25∧L=[(1,.op 0 0 0),(3,.int .i64 (IntKind.i64.wrap (x2+(qc y12.fName:Int)))),(4,.int .i64 x3),(5,.int .i64 x23)]∧τ=[.cells 0 (encGSchema a0)]∧y12.fFields=p25++q25∧x23=(qc p25:Int)∧zI.l25 x2 x3 (zI.l6 a0 k6) y12 q25 x23=some r) _ ⟨[],y12.fFields,0,rfl,rfl,rfl,rfl,rfl,h⟩ .s ?_;rintro m L τ ⟨p25,q25,x23,rfl,rfl,rfl,hE25,hi25,h⟩
   rcases q25 with _|⟨y25,q25⟩
   · have hz25:=yy hE25 hi25;simp only[zI.l25] at h
     refine za fun Z26 hZ26=>?_
     have f27:=E22.idxS hy12;have f28:=E22.fldS (f:=47) rfl rfl hy12 (o:=1) (by decide)
     refine rg tok [1,3,4,5,59] fun K hK=>?_
     simp only[go_sem,qb,qa,qd,encGMessage,hz25,f27,f28];apply hK
     refine zn rfl ?_;apply zy;apply hZ11
     refine rgE tok [1,3,4] fun K hK=>?_
     simp only[go_sem,qb,qa];apply hK
     exact⟨_,_,_,qt (0+k6),⟨k6,IntKind.i64.wrap (x2+(qc y12.fName:Int)),IntKind.i64.wrap (x3+1),rfl,rfl,rfl,h⟩,.s⟩
   obtain⟨hz25,hw25,hx25,hE'25,hi'25⟩:=zX hE25 hi25 hb25;simp only[zI.l25] at h
   refine za fun Z29 hZ29=>?_
   have f30:=E22.idxS hy12;have f31:=E22.fldS (f:=47) rfl rfl hy12 (o:=1) (by decide)
   refine rg tok [1,3,4,5,59] fun K hK=>?_
   simp only[go_sem,qb,qa,qd,encGMessage,hz25,f30,f31];apply hK
   refine zo rfl ?_;apply zd;apply hZ29
   refine za fun Z32 hZ32=>?_
   apply ze;have f33:=E22.idxS hy12;have f34:=E22.fldS (f:=47) rfl rfl hy12 (o:=1) (by decide);have f35:=E47.idxS hx25;have f36:=E47.loadS rfl rfl hx25
   refine rg tok [1,3,4,5,6] fun K hK=>?_
   simp only[go_sem,qb,qg,qa,qd,encGField,encGMessage,f33,f34,f35,f36];apply hK
   refine rc [1,3,4,5,81] fun K hK=>?_
   refine rnN 5 ?_;refine zh 6 (fun L τ=>L=[(1,.op 0 0 0),(3,.int .i64 (IntKind.i64.wrap (x2+(qc y12.fName:Int)))),(4,.int .i64 x3),(5,.int .i64 x23),(81,.bool ((decide (200<(qc y25.fName:Int)))||(decide (200<(qc y25.fType.fName:Int)))))]∧τ=[.cells 0 (encGSchema a0),.cells 0 (encGField y25)]) ?_ ?_
   · refine yG 75 rfl (fun hg75=>?_) (fun hg75=>?_)
     · have t37:=eq_true hg75;refine rnN 6 ?_;refine zb ⟨rfl,_,_,⟨rfl,rfl⟩,.p t37⟩
     have t38:=eq_false hg75;refine rnN 6 ?_;refine zb ⟨rfl,_,_,⟨rfl,rfl⟩,.p t38⟩
   rintro _ _ ⟨rfl,rfl⟩;refine nkN hK ?_;refine zm (b:=((decide (200<(qc y25.fName:Int)))||(decide (200<(qc y25.fType.fName:Int))))) rfl (fun hc39=>?_) (fun hc39=>?_)
   · rw[if_pos hc39] at h;refine rgN [2] ?_;cases h;exact rtA
   rw[xQ hc39] at h;apply zd;apply hZ32
   refine rgE tok [1,3,4,5] fun K hK=>?_
   simp only[go_sem,qb,qa,hw25];apply hK
   exact⟨_,_,_,qt q25.length,⟨p25++[y25],q25,x23+1,rfl,rfl,rfl,hE'25,hi'25,h⟩,(.t [0] false)⟩
 rw[xQ hc10] at h;apply zy;apply hZ1
 refine za fun Z40 hZ40=>?_
 refine rgN [1,3,7] ?_;apply ze;refine zq (fun m L τ=>∃ (k43:Nat) (x41:Int),m=0+k43∧L=[(1,.op 0 0 0),(3,.int .i64 x2),(7,.int .i64 x41)]∧τ=[.cells 0 (encGSchema a0)]∧zI.l43 a0 x2 k43 x41=some r) _ ⟨rounds,0,rfl,rfl,rfl,h⟩ .s ?_;rintro m L τ ⟨k43,x41,rfl,rfl,rfl,h⟩
 rcases k43 with _|k43
 · cases h
 simp only[zI.l43] at h
 refine za fun Z44 hZ44=>?_
 refine rc [1,3,7,90] fun K hK=>?_
 refine rnN 6 ?_;refine zh 3 (fun L τ=>L=[(1,.op 0 0 0),(3,.int .i64 x2),(7,.int .i64 x41),(90,.bool ((decide (x41<(qc a0.fEnums:Int)))&&(decide (x41<20))))]∧τ=[.cells 0 (encGSchema a0)]) ?_ ?_
 · refine yG 87 rfl (fun hg87=>?_) (fun hg87=>?_)
   · have t45:=eq_true hg87;refine rnN 3 ?_;refine zb ⟨rfl,_,_,⟨rfl,rfl⟩,.p t45⟩
   have t46:=eq_false hg87;refine rnN 3 ?_;refine zb ⟨rfl,_,_,⟨rfl,rfl⟩,.p t46⟩
 rintro _ _ ⟨rfl,rfl⟩;refine nkN hK ?_;refine zm (b:=((decide (x41<(qc a0.fEnums:Int)))&&(decide (x41<20)))) rfl (fun hc47=>?_) (fun hc47=>?_)
 · rw[if_pos hc47] at h;apply zd;apply hZ44
   refine za fun Z48 hZ48=>?_
   apply ze
   refine za fun Z49 hZ49=>?_
   refine rc [1,3,7,110] fun K hK=>?_
   obtain⟨y50,hy50,h⟩:=bind_some h;have f51:=E23.idxS hy50;have f52:=E23.fldS0 (f:=9) rfl rfl hy50;refine zj tok 9 ?_;simp only[go_sem,qb,qa,qd,encGEnumeration,f51,f52];refine zh 9 (fun L τ=>L=[(1,.op 0 0 0),(3,.int .i64 x2),(7,.int .i64 x41),(110,.bool ((decide (200<(qc y50.fName:Int)))||(decide (24<(qc y50.fValues:Int)))))]∧τ=[.cells 0 (encGSchema a0)]) ?_ ?_
   · refine yG 101 rfl (fun hg101=>?_) (fun hg101=>?_)
     · have t53:=eq_true hg101;refine rnN 9 ?_;refine zb ⟨rfl,_,_,⟨rfl,rfl⟩,.p t53⟩
     have t54:=eq_false hg101;have f55:=E23.idxS hy50;have f56:=E23.fldS (f:=82) rfl rfl hy50 (o:=1) (by decide);refine zj tok 9 ?_;simp only[go_sem,qb,qa,qd,encGEnumeration,f55,f56];refine zb ⟨rfl,_,_,⟨rfl,rfl⟩,.p t54⟩
   rintro _ _ ⟨rfl,rfl⟩;refine nkN hK ?_;refine zm (b:=((decide (200<(qc y50.fName:Int)))||(decide (24<(qc y50.fValues:Int))))) rfl (fun hc57=>?_) (fun hc57=>?_)
   · rw[if_pos hc57] at h;refine rgN [2] ?_;cases h;exact rtA
   rw[xQ hc57] at h;apply zd;apply hZ49;refine rgN [1,3,7,8] ?_;apply ze
   refine xn 0 rfl fun hb60=>?_
   replace hb60:=vaz hb60.2.2.1.2 hy50;replace hb60:qc y50.fValues≤9223372036854775807:=hb60.2.1.1;refine zq (fun m L τ=>∃ (p60 q60:List GNamed) (x58:Int),m=qc q60∧L=[(1,.op 0 0 0),(3,.int .i64 x2),(7,.int .i64 x41),(8,.int .i64 x58)]∧τ=[.cells 0 (encGSchema a0)]∧y50.fValues=p60++q60∧x58=(qc p60:Int)∧zI.l60 x41 (zI.l43 a0 x2 k43) q60 x58=some r) _ ⟨[],y50.fValues,0,rfl,rfl,rfl,rfl,rfl,h⟩ .s ?_;rintro m L τ ⟨p60,q60,x58,rfl,rfl,rfl,hE60,hi60,h⟩
   rcases q60 with _|⟨y60,q60⟩
   · have hz60:=yy hE60 hi60;simp only[zI.l60] at h
     refine za fun Z61 hZ61=>?_
     have f62:=E23.idxS hy50;have f63:=E23.fldS (f:=82) rfl rfl hy50 (o:=1) (by decide)
     refine rg tok [1,3,7,8,119] fun K hK=>?_
     simp only[go_sem,qb,qa,qd,encGEnumeration,hz60,f62,f63];apply hK
     refine zn rfl ?_;apply zy;apply hZ48
     refine rgE tok [1,3,7] fun K hK=>?_
     simp only[go_sem,qb,qa];apply hK
     exact⟨_,_,_,qt (0+k43),⟨k43,IntKind.i64.wrap (x41+1),rfl,rfl,rfl,h⟩,.s⟩
   obtain⟨hz60,hw60,hx60,hE'60,hi'60⟩:=zX hE60 hi60 hb60;simp only[zI.l60] at h
   refine za fun Z64 hZ64=>?_
   have f65:=E23.idxS hy50;have f66:=E23.fldS (f:=82) rfl rfl hy50 (o:=1) (by decide)
   refine rg tok [1,3,7,8,119] fun K hK=>?_
   simp only[go_sem,qb,qa,qd,encGEnumeration,hz60,f65,f66];apply hK
   refine zo rfl ?_;apply zd;apply hZ64
   refine za fun Z67 hZ67=>?_
   apply ze;have f68:=E23.idxS hy50;have f69:=E23.fldS (f:=82) rfl rfl hy50 (o:=1) (by decide);have f70:=E82.idxS hx60;have f71:=E82.fldS0 (f:=9) rfl rfl hx60
   refine rg tok [1,3,7,8,133] fun K hK=>?_
   simp only[go_sem,qb,qa,qd,encGEnumeration,encGNamed,f68,f69,f70,f71];apply hK
   refine zx rfl (fun hc72=>?_) (fun hc72=>?_)
   · rw[if_pos hc72] at h;have t73:=eq_true hc72
     refine rg tok [2] fun K hK=>?_
     simp only[go_sem,qb,qa,t73];apply hK
     cases h;exact rtA
   rw[if_neg hc72] at h;have t74:=eq_false hc72;apply zd;apply hZ67
   refine rgE tok [1,3,7,8] fun K hK=>?_
   simp only[go_sem,qb,qa,hw60,t74];apply hK
   exact⟨_,_,_,qt q60.length,⟨p60++[y60],q60,x58+1,rfl,rfl,rfl,hE'60,hi'60,h⟩,.s⟩
 rw[xQ hc47] at h;apply zy;apply hZ40
 refine za fun Z75 hZ75=>?_
 refine rgN [1,3,9] ?_;apply ze;refine zq (fun m L τ=>∃ (k78:Nat) (x76:Int),m=0+k78∧L=[(1,.op 0 0 0),(3,.int .i64 x2),(9,.int .i64 x76)]∧τ=[.cells 0 (encGSchema a0)]∧zI.l78 a0 x2 k78 x76=some r) _ ⟨rounds,0,rfl,rfl,rfl,h⟩ .s ?_;rintro m L τ ⟨k78,x76,rfl,rfl,rfl,h⟩
 rcases k78 with _|k78
 · cases h
 simp only[zI.l78] at h
 refine za fun Z79 hZ79=>?_
 refine rc [1,3,9,142] fun K hK=>?_
 refine rnN 6 ?_;refine zh 3 (fun L τ=>L=[(1,.op 0 0 0),(3,.int .i64 x2),(9,.int .i64 x76),(142,.bool ((decide (x76<(qc a0.fMethods:Int)))&&(decide (x76<20))))]∧τ=[.cells 0 (encGSchema a0)]) ?_ ?_
 · refine yG 139 rfl (fun hg139=>?_) (fun hg139=>?_)
   · have t80:=eq_true hg139;refine rnN 3 ?_;refine zb ⟨rfl,_,_,⟨rfl,rfl⟩,.p t80⟩
   have t81:=eq_false hg139;refine rnN 3 ?_;refine zb ⟨rfl,_,_,⟨rfl,rfl⟩,.p t81⟩
 rintro _ _ ⟨rfl,rfl⟩;refine nkN hK ?_;refine zm (b:=((decide (x76<(qc a0.fMethods:Int)))&&(decide (x76<20)))) rfl (fun hc82=>?_) (fun hc82=>?_)
 · rw[if_pos hc82] at h;apply zd;apply hZ79
   refine za fun Z83 hZ83=>?_
   apply ze
   refine rc [1,3,9,172] fun K hK=>?_
   obtain⟨y84,hy84,h⟩:=bind_some h;have f85:=E24.idxS hy84;have f86:=E24.fldS0 (f:=9) rfl rfl hy84;refine zj tok 9 ?_;simp only[go_sem,qb,qa,qd,encGMethod,f85,f86];refine zh 9 (fun L τ=>L=[(1,.op 0 0 0),(3,.int .i64 x2),(9,.int .i64 x76),(162,.bool ((decide (200<(qc y84.fName:Int)))||(decide (200<(qc y84.fIn:Int)))))]∧τ=[.cells 0 (encGSchema a0)]) ?_ ?_
   · refine yG 153 rfl (fun hg153=>?_) (fun hg153=>?_)
     · have t87:=eq_true hg153;refine rnN 9 ?_;refine zb ⟨rfl,_,_,⟨rfl,rfl⟩,.p t87⟩
     have t88:=eq_false hg153;have f89:=E24.idxS hy84;have f90:=E24.fldS (f:=9) rfl rfl hy84 (o:=1) (by decide);refine zj tok 9 ?_;simp only[go_sem,qb,qa,qd,encGMethod,f89,f90];refine zb ⟨rfl,_,_,⟨rfl,rfl⟩,.p t88⟩
   rintro _ _ ⟨rfl,rfl⟩;refine rnN 1 ?_;refine zh 9 (fun L τ=>L=[(1,.op 0 0 0),(3,.int .i64 x2),(9,.int .i64 x76),(172,.bool (((decide (200<(qc y84.fName:Int)))||(decide (200<(qc y84.fIn:Int))))||(decide (200<(qc y84.fOut:Int)))))]∧τ=[.cells 0 (encGSchema a0)]) ?_ ?_
   · refine zO (b:=((decide (200<(qc y84.fName:Int)))||(decide (200<(qc y84.fIn:Int))))) 163 rfl (fun hg163=>?_) (fun hg163=>?_)
     · refine rnN 9 ?_;refine zb ⟨rfl,_,_,⟨rfl,rfl⟩,.b hg163⟩
     have f91:=E24.idxS hy84;have f92:=E24.fldS (f:=9) rfl rfl hy84 (o:=2) (by decide);refine zj tok 9 ?_;simp only[go_sem,qb,qa,qd,encGMethod,f91,f92];refine zb ⟨rfl,_,_,⟨rfl,rfl⟩,.b hg163⟩
   rintro _ _ ⟨rfl,rfl⟩;refine nkN hK ?_;refine zm (b:=(((decide (200<(qc y84.fName:Int)))||(decide (200<(qc y84.fIn:Int))))||(decide (200<(qc y84.fOut:Int))))) rfl (fun hc93=>?_) (fun hc93=>?_)
   · rw[if_pos hc93] at h;refine rgN [2] ?_;cases h;exact rtA
   rw[xQ hc93] at h;apply zd;apply hZ83
   refine rgE tok [1,3,9] fun K hK=>?_
   simp only[go_sem,qb,qa];apply hK
   exact⟨_,_,_,qt (0+k78),⟨k78,IntKind.i64.wrap (x76+1),rfl,rfl,rfl,h⟩,.s⟩
 rw[xQ hc82] at h;apply zy;apply hZ75
 refine rc [2] fun K hK=>?_
 refine rnN 3 ?_;refine zh 5 (fun L τ=>L=[(1,.op 0 0 0),(180,.bool ((decide (x2<3000))&&(decide ((qc a0.fMessages:Int)≤14))))]∧τ=[.cells 0 (encGSchema a0)]) ?_ ?_
 · refine yG 175 rfl (fun hg175=>?_) (fun hg175=>?_)
   · have t94:=eq_true hg175;refine rnN 5 ?_;refine zb ⟨rfl,_,_,⟨rfl,rfl⟩,.p t94⟩
   have t95:=eq_false hg175;refine rnN 5 ?_;refine zb ⟨rfl,_,_,⟨rfl,rfl⟩,.p t95⟩
 rintro _ _ ⟨rfl,rfl⟩;refine rnN 1 ?_;refine zh 5 (fun L τ=>L=[(1,.op 0 0 0),(186,.bool (((decide (x2<3000))&&(decide ((qc a0.fMessages:Int)≤14)))&&(decide ((qc a0.fEnums:Int)≤10))))]∧τ=[.cells 0 (encGSchema a0)]) ?_ ?_
 · refine zO (b:=((decide (x2<3000))&&(decide ((qc a0.fMessages:Int)≤14)))) 181 rfl (fun hg181=>?_) (fun hg181=>?_)
   · refine rnN 5 ?_;refine zb ⟨rfl,_,_,⟨rfl,rfl⟩,.b hg181⟩
   refine rnN 5 ?_;refine zb ⟨rfl,_,_,⟨rfl,rfl⟩,.b hg181⟩
 rintro _ _ ⟨rfl,rfl⟩;refine rnN 1 ?_;refine zh 5 (fun L τ=>L=[(192,.bool ((((decide (x2<3000))&&(decide ((qc a0.fMessages:Int)≤14)))&&(decide ((qc a0.fEnums:Int)≤10)))&&(decide ((qc a0.fMethods:Int)≤10))))]∧τ=[.cells 0 (encGSchema a0)]) ?_ ?_
 · refine zO (b:=(((decide (x2<3000))&&(decide ((qc a0.fMessages:Int)≤14)))&&(decide ((qc a0.fEnums:Int)≤10)))) 187 rfl (fun hg187=>?_) (fun hg187=>?_)
   · refine rnN 5 ?_;refine zb ⟨rfl,_,_,⟨rfl,rfl⟩,.b hg187⟩
   refine rnN 5 ?_;refine zb ⟨rfl,_,_,⟨rfl,rfl⟩,.b hg187⟩
 rintro _ _ ⟨rfl,rfl⟩;refine rnN 1 ?_;refine nkN hK ?_;cases h;exact rtA
theorem zI.ev (a0:GSchema)(r:Bool)(h:zI a0=some r)(σ:Store):ACalls qh 11 [.agg (encGSchema a0)] σ (fun r' σ'=>r'=.bool r∧σ'=σ):=
 (zI.ok a0 r h).c σ
def zD.l29 (yq:GTree→Int→Int→Option (Bool×Int))(a1:Int)(x12:Int)(rec15:Int→Int→Option (Bool×Int)):List GTree→Int→Int→Option (Bool×Int)
 |[],x26,m0_25=>(rec15 (x12+1) m0_25)
 |y29::q29,x26,m0_25=>(yq y29 (IntKind.i64.wrap (a1+1)) m0_25).bind fun r41=>(if (!r41.1)=true then some (false,r41.2) else ((zD.l29 yq a1 x12 rec15 q29) (x26+1) r41.2))
def zD.l15 (yq:GTree→Int→Int→Option (Bool×Int))(a1:Int):List GEntry→Int→Int→Option (Bool×Int)
 |[],x12,m0_11=>some (true,m0_11)
 |y15::q15,x12,m0_11=>(if 70<(qc y15.fTrees:Int) then some (false,m0_11) else (zD.l29 yq a1 x12 (zD.l15 yq a1 q15) y15.fTrees 0 m0_11))
def zD.l8 (yq:GTree→Int→Int→Option (Bool×Int))(a0:GTree)(a1:Int)(a2:Int):List GRaw→Int→Option (Bool×Int)
 |[],x6=>(zD.l15 yq a1 a0.fEntries 0 (IntKind.i64.wrap (a2+1)))
 |y8::q8,x6=>(if 5000<(qc y8.fB:Int) then some (false,IntKind.i64.wrap (a2+1)) else ((zD.l8 yq a0 a1 a2 q8) (x6+1)))
def zD.body (yq:GTree→Int→Int→Option (Bool×Int))(a0:GTree)(a1:Int)(a2:Int):Option (Bool×Int):=
 (if (((((decide (200<IntKind.i64.wrap (a2+1)))||(decide (13<a1)))||(decide (5000<(qc a0.fS:Int))))||(decide (40<(qc a0.fRest:Int))))||(decide (40<(qc a0.fEntries:Int))))=true then some (false,IntKind.i64.wrap (a2+1)) else (zD.l8 yq a0 a1 a2 a0.fRest 0))
theorem zD.step (yq:GTree→Int→Int→Option (Bool×Int))(ih_law00_small:∀ (a0:GTree) (a1:Int) (a2:Int) (r:Bool×Int),yq a0 a1 a2=some r→ACalls qh 36 [.agg (cellsGTree a0),.int .i64 a1,.op 0 0 0] [.cells 0 [.int .i64 a2]] (fun r' σ'=>r'=.bool r.1∧σ'=[.cells 0 [.int .i64 r.2]]))(a0:GTree)(a1:Int)(a2:Int)(r:Bool×Int)(h:zD.body yq a0 a1 a2=some r):ACalls qh 36 [.agg (cellsGTree a0),.int .i64 a1,.op 0 0 0] [.cells 0 [.int .i64 a2]] (fun r' σ'=>r'=.bool r.1∧σ'=[.cells 0 [.int .i64 r.2]]):=by
 refine vaD [0] (rs:=[.tmp 6]) tok Tryz.func36 rfl Tryz.ntmps36 rfl Tryz.call36 (by simp) rfl ?_;refine zl [(0,.agg (cellsGTree a0)),(1,.int .i64 a1),(2,.op 0 0 0)] ⟨rfl,rfl,rfl,trivial⟩ ?_;unfold zD.body at h
 refine rg tok [1,2,3] fun K hK=>?_
 simp only[go_sem,qb,qa,qd,reduceCtorEq,cellsGTree];apply hK
 refine rgN [1,2,3] ?_
 refine za fun Z1 hZ1=>?_
 refine rc [1,2,3,40] fun K hK=>?_
 refine rnN 5 ?_;refine zh 3 (fun L τ=>L=[(1,.int .i64 a1),(2,.op 0 0 0),(3,.op 1 0 0),(22,.bool ((decide (200<IntKind.i64.wrap (a2+1)))||(decide (13<a1))))]∧τ=[.cells 0 [.int .i64 (IntKind.i64.wrap (a2+1))],.cells 0 (cellsGTree a0)]) ?_ ?_
 · refine yG 19 rfl (fun hg19=>?_) (fun hg19=>?_)
   · have t2:=eq_true hg19;refine rnN 3 ?_;refine zb ⟨rfl,_,_,⟨rfl,rfl⟩,.p t2⟩
   have t3:=eq_false hg19;refine rnN 3 ?_;refine zb ⟨rfl,_,_,⟨rfl,rfl⟩,.p t3⟩
 rintro _ _ ⟨rfl,rfl⟩;refine rnN 1 ?_;refine zh 5 (fun L τ=>L=[(1,.int .i64 a1),(2,.op 0 0 0),(3,.op 1 0 0),(28,.bool (((decide (200<IntKind.i64.wrap (a2+1)))||(decide (13<a1)))||(decide (5000<(qc a0.fS:Int)))))]∧τ=[.cells 0 [.int .i64 (IntKind.i64.wrap (a2+1))],.cells 0 (cellsGTree a0)]) ?_ ?_
 · refine zO (b:=((decide (200<IntKind.i64.wrap (a2+1)))||(decide (13<a1)))) 23 rfl (fun hg23=>?_) (fun hg23=>?_)
   · refine rnN 5 ?_;refine zb ⟨rfl,_,_,⟨rfl,rfl⟩,.b hg23⟩
   refine rnN 5 ?_;refine zb ⟨rfl,_,_,⟨rfl,rfl⟩,.b hg23⟩
 rintro _ _ ⟨rfl,rfl⟩;refine rnN 1 ?_;refine zh 5 (fun L τ=>L=[(1,.int .i64 a1),(2,.op 0 0 0),(3,.op 1 0 0),(34,.bool ((((decide (200<IntKind.i64.wrap (a2+1)))||(decide (13<a1)))||(decide (5000<(qc a0.fS:Int))))||(decide (40<(qc a0.fRest:Int)))))]∧τ=[.cells 0 [.int .i64 (IntKind.i64.wrap (a2+1))],.cells 0 (cellsGTree a0)]) ?_ ?_
 · refine zO (b:=(((decide (200<IntKind.i64.wrap (a2+1)))||(decide (13<a1)))||(decide (5000<(qc a0.fS:Int))))) 29 rfl (fun hg29=>?_) (fun hg29=>?_)
   · refine rnN 5 ?_;refine zb ⟨rfl,_,_,⟨rfl,rfl⟩,.b hg29⟩
   refine rnN 5 ?_;refine zb ⟨rfl,_,_,⟨rfl,rfl⟩,.b hg29⟩
 rintro _ _ ⟨rfl,rfl⟩;refine rnN 1 ?_;refine zh 5 (fun L τ=>L=[(1,.int .i64 a1),(2,.op 0 0 0),(3,.op 1 0 0),(40,.bool (((((decide (200<IntKind.i64.wrap (a2+1)))||(decide (13<a1)))||(decide (5000<(qc a0.fS:Int))))||(decide (40<(qc a0.fRest:Int))))||(decide (40<(qc a0.fEntries:Int)))))]∧τ=[.cells 0 [.int .i64 (IntKind.i64.wrap (a2+1))],.cells 0 (cellsGTree a0)]) ?_ ?_
 · refine zO (b:=((((decide (200<IntKind.i64.wrap (a2+1)))||(decide (13<a1)))||(decide (5000<(qc a0.fS:Int))))||(decide (40<(qc a0.fRest:Int))))) 35 rfl (fun hg35=>?_) (fun hg35=>?_)
   · refine rnN 5 ?_;refine zb ⟨rfl,_,_,⟨rfl,rfl⟩,.b hg35⟩
   refine rnN 5 ?_;refine zb ⟨rfl,_,_,⟨rfl,rfl⟩,.b hg35⟩
 rintro _ _ ⟨rfl,rfl⟩;refine nkN hK ?_;refine zm (b:=(((((decide (200<IntKind.i64.wrap (a2+1)))||(decide (13<a1)))||(decide (5000<(qc a0.fS:Int))))||(decide (40<(qc a0.fRest:Int))))||(decide (40<(qc a0.fEntries:Int))))) rfl (fun hc4=>?_) (fun hc4=>?_)
 · rw[if_pos hc4] at h;refine rgN [6] ?_;apply yz;cases h;simp only[ZF,yP,yX,xO,exists_eq_left',go_sem,qd];refine⟨by decide,by simp,?_,?_⟩
   · first|rfl|(simp only[go_sem,qb,qg,qa,qd,qs,qH,reduceIte,reduceCtorEq,push_cast,if_true,qA,qq,qD,qw,qB,qM,qW,qS,qU,qQ,qy,zH]<;>rfl)
   first|rfl|(simp only[go_sem,qb,qg,qa,qd,qs,qH,reduceIte,reduceCtorEq,push_cast,if_true,qA,qq,qD,qw,qB,qM,qW,qS,qU,qQ,qy,zH]<;>rfl)
 rw[xQ hc4] at h;apply zd;apply hZ1
 refine za fun Z5 hZ5=>?_
 refine rgN [1,2,3,7] ?_;apply ze
 refine xn 1 rfl fun hb8=>?_
 replace hb8:qc a0.fRest≤9223372036854775807:=hb8.2.2.2.2.1.1;refine zq (fun m L τ=>∃ (p8 q8:List GRaw) (x6:Int),m=qc q8∧L=[(1,.int .i64 a1),(2,.op 0 0 0),(3,.op 1 0 0),(7,.int .i64 x6)]∧τ=[.cells 0 [.int .i64 (IntKind.i64.wrap (a2+1))],.cells 0 (cellsGTree a0)]∧a0.fRest=p8++q8∧x6=(qc p8:Int)∧zD.l8 yq a0 a1 a2 q8 x6=some r) _ ⟨[],a0.fRest,0,rfl,rfl,rfl,rfl,rfl,h⟩ .s ?_;rintro m L τ ⟨p8,q8,x6,rfl,rfl,rfl,hE8,hi8,h⟩
 rcases q8 with _|⟨y8,q8⟩
 · have hz8:=yy hE8 hi8;simp only[zD.l8] at h
   refine za fun Z9 hZ9=>?_
   refine rg tok [1,2,3,7,45] fun K hK=>?_
   simp only[go_sem,qb,qa,qd,hz8];apply hK
   refine zn rfl ?_;apply zy;apply hZ5
   refine za fun Z10 hZ10=>?_
   refine rgN [1,2,3,8] ?_;apply ze
   refine xn 1 rfl fun hb15=>?_
   replace hb15:qc a0.fEntries≤9223372036854775807:=hb15.2.2.2.1.1;refine zq (fun m L τ=>∃ (p15 q15:List GEntry) (x12:Int) (m0_11:Int),m=qc q15∧L=[(1,.int .i64 a1),(2,.op 0 0 0),(3,.op 1 0 0),(8,.int .i64 x12)]∧τ=[.cells 0 [.int .i64 m0_11],.cells 0 (cellsGTree a0)]∧a0.fEntries=p15++q15∧x12=(qc p15:Int)∧zD.l15 yq a1 q15 x12 m0_11=some r) _ ⟨[],a0.fEntries,0,IntKind.i64.wrap (a2+1),rfl,rfl,rfl,rfl,rfl,h⟩ .s ?_;rintro m L τ ⟨p15,q15,x12,m0_11,rfl,rfl,rfl,hE15,hi15,h⟩
   rcases q15 with _|⟨y15,q15⟩
   · have hz15:=yy hE15 hi15;simp only[zD.l15] at h
     refine za fun Z16 hZ16=>?_
     refine rg tok [1,2,3,8,60] fun K hK=>?_
     simp only[go_sem,qb,qa,qd,hz15];apply hK
     refine zn rfl ?_;apply zy;apply hZ10;refine rgN [6] ?_;apply yz;cases h;simp only[ZF,yP,yX,xO,exists_eq_left',go_sem,qd];refine⟨by decide,by simp,?_,?_⟩
     · first|rfl|(simp only[go_sem,qb,qg,qa,qd,qs,qH,reduceIte,reduceCtorEq,push_cast,if_true,qA,qq,qD,qw,qB,qM,qW,qS,qU,qQ,qy,zH]<;>rfl)
     first|rfl|(simp only[go_sem,qb,qg,qa,qd,qs,qH,reduceIte,reduceCtorEq,push_cast,if_true,qA,qq,qD,qw,qB,qM,qW,qS,qU,qQ,qy,zH]<;>rfl)
   obtain⟨hz15,hw15,hx15,hE'15,hi'15⟩:=zX hE15 hi15 hb15;simp only[zD.l15] at h
   refine za fun Z17 hZ17=>?_
   refine rg tok [1,2,3,8,60] fun K hK=>?_
   simp only[go_sem,qb,qa,qd,hz15];apply hK
   refine zo rfl ?_;apply zd;apply hZ17
   refine za fun Z18 hZ18=>?_
   apply ze
   refine za fun Z19 hZ19=>?_
   have f20:=E27.idxS hx15;have f21:=E27.fldS (f:=90) rfl rfl hx15 (o:=1) (by decide)
   refine rg tok [1,2,3,8,70] fun K hK=>?_
   simp only[go_sem,qb,qa,qd,cellsGEntry,zU,f20,f21];apply hK
   refine zx rfl (fun hc22=>?_) (fun hc22=>?_)
   · rw[if_pos hc22] at h;have t23:=eq_true hc22
     refine rg tok [6] fun K hK=>?_
     simp only[go_sem,qb,qa,t23];apply hK
     apply yz;cases h;simp only[ZF,yP,yX,xO,exists_eq_left',go_sem,qd];refine⟨by decide,by simp,?_,?_⟩
     · first|rfl|(simp only[go_sem,qb,qg,qa,qd,qs,qH,reduceIte,reduceCtorEq,push_cast,if_true,qA,qq,qD,qw,qB,qM,qW,qS,qU,qQ,qy,zH]<;>rfl)
     first|rfl|(simp only[go_sem,qb,qg,qa,qd,qs,qH,reduceIte,reduceCtorEq,push_cast,if_true,qA,qq,qD,qw,qB,qM,qW,qS,qU,qQ,qy,zH]<;>rfl)
   rw[if_neg hc22] at h;have t24:=eq_false hc22;apply zd;apply hZ19
   refine rg tok [1,2,3,8,9] fun K hK=>?_
   simp only[go_sem,qb,qa,t24];apply hK
   apply ze
   refine xn 1 rfl fun hb29=>?_
   replace hb29:=vaz hb29.2.2.2.1.2 hx15;rw[zU] at hb29;replace hb29:qc y15.fTrees≤9223372036854775807:=hb29.2.1.1;refine zq (fun m L τ=>∃ (p29 q29:List GTree) (x26:Int) (m0_25:Int),m=qc q29∧L=[(1,.int .i64 a1),(2,.op 0 0 0),(3,.op 1 0 0),(8,.int .i64 x12),(9,.int .i64 x26)]∧τ=[.cells 0 [.int .i64 m0_25],.cells 0 (cellsGTree a0)]∧y15.fTrees=p29++q29∧x26=(qc p29:Int)∧zD.l29 yq a1 x12 (zD.l15 yq a1 q15) q29 x26 m0_25=some r) _ ⟨[],y15.fTrees,0,m0_11,rfl,rfl,rfl,rfl,rfl,h⟩ .s ?_;rintro m L τ ⟨p29,q29,x26,m0_25,rfl,rfl,rfl,hE29,hi29,h⟩
   rcases q29 with _|⟨y29,q29⟩
   · have hz29:=yy hE29 hi29;simp only[zD.l29] at h
     refine za fun Z30 hZ30=>?_
     have f31:=E27.idxS hx15;have f32:=E27.fldS (f:=90) rfl rfl hx15 (o:=1) (by decide)
     refine rg tok [1,2,3,8,9,79] fun K hK=>?_
     simp only[go_sem,qb,qa,qd,cellsGEntry,zU,hz29,f31,f32];apply hK
     refine zn rfl ?_;apply zy;apply hZ18
     refine rgE tok [1,2,3,8] fun K hK=>?_
     simp only[go_sem,qb,qa,hw15];apply hK
     exact⟨_,_,_,qt q15.length,⟨p15++[y15],q15,x12+1,m0_25,rfl,rfl,rfl,hE'15,hi'15,h⟩,.s⟩
   obtain⟨hz29,hw29,hx29,hE'29,hi'29⟩:=zX hE29 hi29 hb29;simp only[zD.l29] at h
   refine za fun Z33 hZ33=>?_
   have f34:=E27.idxS hx15;have f35:=E27.fldS (f:=90) rfl rfl hx15 (o:=1) (by decide)
   refine rg tok [1,2,3,8,9,79] fun K hK=>?_
   simp only[go_sem,qb,qa,qd,cellsGEntry,zU,hz29,f34,f35];apply hK
   refine zo rfl ?_;apply zd;apply hZ33
   refine za fun Z36 hZ36=>?_
   apply ze
   refine rc [1,2,3,8,9,95] fun K hK=>?_
   have f37:=E27.idxS hx15;have f38:=E27.fldS (f:=90) rfl rfl hx15 (o:=1) (by decide);have f39:=E90.idxS hx29;have f40:=E90.loadS rfl rfl hx29;obtain⟨r41,hr41,h⟩:=bind_some h;refine zj tok 10 ?_;simp only[go_sem,qb,qa,qd,cellsGEntry,cellsGTree,zU,yV,f37,f38,f39,f40];refine rnN 2 ?_;refine clN rfl rfl rfl (@id (ACalls qh 36 [.agg (cellsGTree y29),.int .i64 (IntKind.i64.wrap (a1+1)),.op 0 0 0] [.cells 0 [.int .i64 m0_25],.cells 0 (cellsGTree a0)] (fun r' σ'=>r'=.bool r41.1∧σ'=[.cells 0 [.int .i64 r41.2],.cells 0 (cellsGTree a0)])) ((ih_law00_small y29 (IntKind.i64.wrap (a1+1)) m0_25 r41 hr41).i [0])) ?_;refine rnN 1 ?_;refine nkN hK ?_;refine zm (b:=(!r41.1)) rfl (fun hc42=>?_) (fun hc42=>?_)
   · rw[if_pos hc42] at h;refine rgN [6] ?_;apply yz;cases h;simp only[ZF,yP,yX,xO,exists_eq_left',go_sem,qd];refine⟨by decide,by simp,?_,?_⟩
     · first|rfl|(simp only[go_sem,qb,qg,qa,qd,qs,qH,reduceIte,reduceCtorEq,push_cast,if_true,qA,qq,qD,qw,qB,qM,qW,qS,qU,qQ,qy,zH]<;>rfl)
     first|rfl|(simp only[go_sem,qb,qg,qa,qd,qs,qH,reduceIte,reduceCtorEq,push_cast,if_true,qA,qq,qD,qw,qB,qM,qW,qS,qU,qQ,qy,zH]<;>rfl)
   rw[xQ hc42] at h;apply zd;apply hZ36
   refine rgE tok [1,2,3,8,9] fun K hK=>?_
   simp only[go_sem,qb,qa,hw29];apply hK
   exact⟨_,_,_,qt q29.length,⟨p29++[y29],q29,x26+1,r41.2,rfl,rfl,rfl,hE'29,hi'29,h⟩,.s⟩
 obtain⟨hz8,hw8,hx8,hE'8,hi'8⟩:=zX hE8 hi8 hb8;simp only[zD.l8] at h
 refine za fun Z43 hZ43=>?_
 refine rg tok [1,2,3,7,45] fun K hK=>?_
 simp only[go_sem,qb,qa,qd,hz8];apply hK
 refine zo rfl ?_;apply zd;apply hZ43
 refine za fun Z44 hZ44=>?_
 apply ze;have f45:=E28.idxS hx8;have f46:=E28.fldS (f:=9) rfl rfl hx8 (o:=3) (by decide)
 refine rg tok [1,2,3,7,55] fun K hK=>?_
 simp only[go_sem,qb,qa,qd,encGRaw,f45,f46];apply hK
 refine zx rfl (fun hc47=>?_) (fun hc47=>?_)
 · rw[if_pos hc47] at h;have t48:=eq_true hc47
   refine rg tok [6] fun K hK=>?_
   simp only[go_sem,qb,qa,t48];apply hK
   apply yz;cases h;simp only[ZF,yP,yX,xO,exists_eq_left',go_sem,qd];refine⟨by decide,by simp,?_,?_⟩
   · first|rfl|(simp only[go_sem,qb,qg,qa,qd,qs,qH,reduceIte,reduceCtorEq,push_cast,if_true,qA,qq,qD,qw,qB,qM,qW,qS,qU,qQ,qy,zH]<;>rfl)
   first|rfl|(simp only[go_sem,qb,qg,qa,qd,qs,qH,reduceIte,reduceCtorEq,push_cast,if_true,qA,qq,qD,qw,qB,qM,qW,qS,qU,qQ,qy,zH]<;>rfl)
 rw[if_neg hc47] at h;have t49:=eq_false hc47;apply zd;apply hZ44
 refine rgE tok [1,2,3,7] fun K hK=>?_
 simp only[go_sem,qb,qa,hw8,t49];apply hK
 exact⟨_,_,_,qt q8.length,⟨p8++[y8],q8,x6+1,rfl,rfl,rfl,hE'8,hi'8,h⟩,.s⟩
def zD : Nat→GTree→Int→Int→Option (Bool×Int)
 |0,_,_,_=>none
 |k+1,a0,a1,a2=>zD.body (zD k) a0 a1 a2
theorem zD.all (k:Nat):(∀ (a0:GTree) (a1:Int) (a2:Int) (r:Bool×Int),zD k a0 a1 a2=some r→ACalls qh 36 [.agg (cellsGTree a0),.int .i64 a1,.op 0 0 0] [.cells 0 [.int .i64 a2]] (fun r' σ'=>r'=.bool r.1∧σ'=[.cells 0 [.int .i64 r.2]])):=by
 induction k with
 |zero=>exact (fun a0 a1 a2 r h=>by simp only[zD] at h; cases h)
 |succ k ih=>exact (fun a0 a1 a2 r h=>zD.step _ ih a0 a1 a2 r (by simpa only [zD] using h))
theorem zD.ok (k:Nat)(a0:GTree)(a1:Int)(a2:Int)(r:Bool×Int)(h:zD k a0 a1 a2=some r):ACalls qh 36 [.agg (cellsGTree a0),.int .i64 a1,.op 0 0 0] [.cells 0 [.int .i64 a2]] (fun r' σ'=>r'=.bool r.1∧σ'=[.cells 0 [.int .i64 r.2]]):=(zD.all k) a0 a1 a2 r h
def wL (a0:GTree):Option Bool:=
 (zD rounds a0 0 0).bind fun r1=>some r1.1
theorem wL.ok (a0:GTree)(r:Bool)(h:wL a0=some r):ACalls qh 12 [.agg (cellsGTree a0)] [] (fun r' _=>r'=.bool r):=by
 refine zf (rs:=[.tmp 2]) tok Tryz.func12 rfl Tryz.ntmps12 rfl Tryz.call12 (by simp) ?_;refine zl [(0,.agg (cellsGTree a0))] ⟨rfl,trivial⟩ ?_;unfold wL at h
 refine rg tok [1] fun K hK=>?_
 simp only[go_sem,qb,qa,qd,reduceCtorEq,cellsGTree];apply hK
 refine rgN [1,3] ?_
 refine rc [2] fun K hK=>?_
 obtain⟨r1,hr1,h⟩:=bind_some h;refine rnN 1 ?_;refine clN rfl rfl rfl (@id (ACalls qh 36 [.agg (cellsGTree a0),.int .i64 0,.op 1 0 0] [.cells 0 (cellsGTree a0),.cells 0 [.int .i64 0]] (fun r' σ'=>r'=.bool r1.1∧σ'=[.cells 0 (cellsGTree a0),.cells 0 [.int .i64 r1.2]])) ((zD.ok rounds a0 0 0 r1 hr1).i [1])) ?_;refine rnN 1 ?_;refine nkN hK ?_;cases h;exact rtA
theorem wL.ev (a0:GTree)(r:Bool)(h:wL a0=some r)(σ:Store):ACalls qh 12 [.agg (cellsGTree a0)] σ (fun r' σ'=>r'=.bool r∧σ'=σ):=
 (wL.ok a0 r h).c σ
def yQ.l9 (a0:List UInt8):Nat→Nat→Int→Option Int
 |0,_,_=>none
 |k9+1,p5,x6=>(if p5<qc a0 then ((yQ.l9 a0 k9) (p5+(YI a0 p5).2) (IntKind.i64.wrap (x6+1))) else some x6)
def yQ (a0:List UInt8):Option Int:=
 (yD a0).bind fun r2=>(if (!r2)=true then some 0 else (yQ.l9 a0 rounds 0 0))
theorem yQ.ok (a0:List UInt8)(r:Int)(h:yQ a0=some r):ACalls qh 102 [.str a0] [] (fun r' _=>r'=.int .i64 r):=by
 refine zf (rs:=[.tmp 2]) tok Tryz.func102 rfl Tryz.ntmps102 rfl Tryz.call102 (by simp) ?_;refine zl [(0,.str a0)] ⟨rfl,trivial⟩ ?_;unfold yQ at h;refine rgN [0] ?_
 refine za fun Z1 hZ1=>?_
 refine rc [0,6] fun K hK=>?_
 obtain⟨r2,hr2,h⟩:=bind_some h;refine rnN 1 ?_;refine clN rfl rfl rfl (yD.ev a0 r2 hr2 _) ?_;refine rnN 1 ?_;refine nkN hK ?_;refine zm (b:=(!r2)) rfl (fun hc3=>?_) (fun hc3=>?_)
 · rw[if_pos hc3] at h;refine rgN [2] ?_;cases h;exact rtA
 rw[xQ hc3] at h;apply zd;apply hZ1;refine rgN [0,3] ?_
 refine za fun Z4 hZ4=>?_
 refine rgN [3,8] ?_;apply ze;refine zq (fun m L τ=>∃ (k9:Nat) (p5:Nat) (x6:Int),m=0+k9∧L=[(3,.int .i64 x6),(8,.it 0)]∧τ=[.iter a0 p5]∧yQ.l9 a0 k9 p5 x6=some r) _ ⟨rounds,0,0,rfl,rfl,rfl,h⟩ .s ?_;rintro m L τ ⟨k9,p5,x6,rfl,rfl,rfl,h⟩
 rcases k9 with _|k9
 · cases h
 simp only[yQ.l9] at h
 by_cases hn10:p5<qc a0
 · rw[if_pos hn10] at h;have t11:=eq_true hn10
   refine rg tok [3,8,10] fun K hK=>?_
   simp only[go_sem,qb,qa,qd,vas,if_true,if_false,t11];apply hK
   refine za fun Z12 hZ12=>?_
   refine zo rfl ?_;apply zd;apply hZ12;apply ze
   refine rgE tok [3,8] fun K hK=>?_
   simp only[go_sem,qb,qa];apply hK
   exact⟨_,_,_,qt (0+k9),⟨k9,p5+(YI a0 p5).2,IntKind.i64.wrap (x6+1),rfl,rfl,rfl,h⟩,.s⟩
 rw[if_neg hn10] at h;have t13:=eq_false hn10
 refine rg tok [3,8,10] fun K hK=>?_
 simp only[go_sem,qb,qa,vas,if_true,if_false,t13];apply hK
 refine za fun Z14 hZ14=>?_
 refine zn rfl ?_;apply zy;apply hZ4;refine rgN [2] ?_;cases h;exact rtA
end
section
set_option maxRecDepth 4000
set_option maxHeartbeats 1000000
open AM
theorem yQ.ev (a0:List UInt8)(r:Int)(h:yQ a0=some r)(σ:Store):ACalls qh 102 [.str a0] σ (fun r' σ'=>r'=.int .i64 r∧σ'=σ):=
 (yQ.ok a0 r h).c σ
def xl.j3 (x2:Bool):Bool:=
 (if x2=true then true else false)
def xl (a0:List UInt8):Bool:=
 (if a0=[115,99,104,101,109,97] then (xl.j3 (decide (a0=[115,99,104,101,109,97]))) else (if a0=[109,101,115,115,97,103,101] then (xl.j3 (decide (a0=[109,101,115,115,97,103,101]))) else (if a0=[101,110,117,109] then (xl.j3 (decide (a0=[101,110,117,109]))) else (if a0=[99,97,108,108] then (xl.j3 (decide (a0=[99,97,108,108]))) else (if a0=[114,101,116,117,114,110,115] then (xl.j3 (decide (a0=[114,101,116,117,114,110,115]))) else (if a0=[114,101,115,101,114,118,101,100] then (xl.j3 (decide (a0=[114,101,115,101,114,118,101,100]))) else (if a0=[111,112,116,105,111,110,97,108] then (xl.j3 (decide (a0=[111,112,116,105,111,110,97,108]))) else (if a0=[114,101,112,101,97,116,101,100] then (xl.j3 (decide (a0=[114,101,112,101,97,116,101,100]))) else (if a0=[105,110,116,51,50] then (xl.j3 (decide (a0=[105,110,116,51,50]))) else (if a0=[105,110,116,54,52] then (xl.j3 (decide (a0=[105,110,116,54,52]))) else (if a0=[98,111,111,108] then (xl.j3 (decide (a0=[98,111,111,108]))) else (if a0=[116,101,120,116] then (xl.j3 (decide (a0=[116,101,120,116]))) else (xl.j3 (decide (a0=[98,121,116,101,115])))))))))))))))
theorem xl.ok (a0:List UInt8)(r:Bool)(h:xl a0=r):ACalls qh 103 [.str a0] [] (fun r' _=>r'=.bool r):=by
 refine zf (rs:=[.tmp 2]) tok Tryz.func103 rfl Tryz.ntmps103 rfl Tryz.call103 (by simp) ?_;refine zl [(0,.str a0)] ⟨rfl,trivial⟩ ?_;unfold xl at h;refine rgN [0] ?_
 refine za fun Z1 hZ1=>?_
 refine rgN [3] ?_;apply ze;refine wb (fun L τ=>∃ (x2:Bool),L=[(4,.bool x2)]∧τ=[]∧xl.j3 x2=r) ?_ ?_
 · refine rgN [3,4] ?_;refine zx rfl (fun hc5=>?_) (fun hc5=>?_)
   · rw[if_pos hc5] at h;have t6:=eq_true hc5;apply zd;exact⟨_,_,⟨decide (a0=[115,99,104,101,109,97]),rfl,rfl,h⟩,.s⟩
   rw[if_neg hc5] at h;have t7:=eq_false hc5
   refine rg tok [3,4] fun K hK=>?_
   simp only[go_sem,qb,qa,t7];apply hK
   refine zx rfl (fun hc8=>?_) (fun hc8=>?_)
   · rw[if_pos hc8] at h;have t9:=eq_true hc8;apply zd;exact⟨_,_,⟨decide (a0=[109,101,115,115,97,103,101]),rfl,rfl,h⟩,.s⟩
   rw[if_neg hc8] at h;have t10:=eq_false hc8
   refine rg tok [3,4] fun K hK=>?_
   simp only[go_sem,qb,qa,t10];apply hK
   refine zx rfl (fun hc11=>?_) (fun hc11=>?_)
   · rw[if_pos hc11] at h;have t12:=eq_true hc11;apply zd;exact⟨_,_,⟨decide (a0=[101,110,117,109]),rfl,rfl,h⟩,.s⟩
   rw[if_neg hc11] at h;have t13:=eq_false hc11
   refine rg tok [3,4] fun K hK=>?_
   simp only[go_sem,qb,qa,t13];apply hK
   refine zx rfl (fun hc14=>?_) (fun hc14=>?_)
   · rw[if_pos hc14] at h;have t15:=eq_true hc14;apply zd;exact⟨_,_,⟨decide (a0=[99,97,108,108]),rfl,rfl,h⟩,.s⟩
   rw[if_neg hc14] at h;have t16:=eq_false hc14
   refine rg tok [3,4] fun K hK=>?_
   simp only[go_sem,qb,qa,t16];apply hK
   refine zx rfl (fun hc17=>?_) (fun hc17=>?_)
   · rw[if_pos hc17] at h;have t18:=eq_true hc17;apply zd;exact⟨_,_,⟨decide (a0=[114,101,116,117,114,110,115]),rfl,rfl,h⟩,.s⟩
   rw[if_neg hc17] at h;have t19:=eq_false hc17
   refine rg tok [3,4] fun K hK=>?_
   simp only[go_sem,qb,qa,t19];apply hK
   refine zx rfl (fun hc20=>?_) (fun hc20=>?_)
   · rw[if_pos hc20] at h;have t21:=eq_true hc20;apply zd;exact⟨_,_,⟨decide (a0=[114,101,115,101,114,118,101,100]),rfl,rfl,h⟩,.s⟩
   rw[if_neg hc20] at h;have t22:=eq_false hc20
   refine rg tok [3,4] fun K hK=>?_
   simp only[go_sem,qb,qa,t22];apply hK
   refine zx rfl (fun hc23=>?_) (fun hc23=>?_)
   · rw[if_pos hc23] at h;have t24:=eq_true hc23;apply zd;exact⟨_,_,⟨decide (a0=[111,112,116,105,111,110,97,108]),rfl,rfl,h⟩,.s⟩
   rw[if_neg hc23] at h;have t25:=eq_false hc23
   refine rg tok [3,4] fun K hK=>?_
   simp only[go_sem,qb,qa,t25];apply hK
   refine zx rfl (fun hc26=>?_) (fun hc26=>?_)
   · rw[if_pos hc26] at h;have t27:=eq_true hc26;apply zd;exact⟨_,_,⟨decide (a0=[114,101,112,101,97,116,101,100]),rfl,rfl,h⟩,.s⟩
   rw[if_neg hc26] at h;have t28:=eq_false hc26
   refine rg tok [3,4] fun K hK=>?_
   simp only[go_sem,qb,qa,t28];apply hK
   refine zx rfl (fun hc29=>?_) (fun hc29=>?_)
   · rw[if_pos hc29] at h;have t30:=eq_true hc29;apply zd;exact⟨_,_,⟨decide (a0=[105,110,116,51,50]),rfl,rfl,h⟩,.s⟩
   rw[if_neg hc29] at h;have t31:=eq_false hc29
   refine rg tok [3,4] fun K hK=>?_
   simp only[go_sem,qb,qa,t31];apply hK
   refine zx rfl (fun hc32=>?_) (fun hc32=>?_)
   · rw[if_pos hc32] at h;have t33:=eq_true hc32;apply zd;exact⟨_,_,⟨decide (a0=[105,110,116,54,52]),rfl,rfl,h⟩,.s⟩
   rw[if_neg hc32] at h;have t34:=eq_false hc32
   refine rg tok [3,4] fun K hK=>?_
   simp only[go_sem,qb,qa,t34];apply hK
   refine zx rfl (fun hc35=>?_) (fun hc35=>?_)
   · rw[if_pos hc35] at h;have t36:=eq_true hc35;apply zd;exact⟨_,_,⟨decide (a0=[98,111,111,108]),rfl,rfl,h⟩,.s⟩
   rw[if_neg hc35] at h;have t37:=eq_false hc35
   refine rg tok [3,4] fun K hK=>?_
   simp only[go_sem,qb,qa,t37];apply hK
   refine zx rfl (fun hc38=>?_) (fun hc38=>?_)
   · rw[if_pos hc38] at h;have t39:=eq_true hc38;apply zd;exact⟨_,_,⟨decide (a0=[116,101,120,116]),rfl,rfl,h⟩,.s⟩
   rw[if_neg hc38] at h;have t40:=eq_false hc38
   refine rgE tok [4] fun K hK=>?_
   simp only[go_sem,qb,qa,t40];apply hK
   exact⟨_,_,⟨decide (a0=[98,121,116,101,115]),rfl,rfl,h⟩,.s⟩
 rintro _ _ ⟨x2,rfl,rfl,h⟩;unfold xl.j3 at h;refine zm (b:=x2) rfl (fun hc4=>?_) (fun hc4=>?_)
 · rw[if_pos hc4] at h;refine rgN [2] ?_;cases h;exact rtA
 rw[xQ hc4] at h;apply zd;apply hZ1;refine rgN [2] ?_;cases h;exact rtA
theorem xl.ev (a0:List UInt8)(r:Bool)(h:xl a0=r)(σ:Store):ACalls qh 103 [.str a0] σ (fun r' σ'=>r'=.bool r∧σ'=σ):=
 (xl.ok a0 r h).c σ
def wy (a0:Int)(a1:Int)(a2:Int):Bool:=
 ((decide (a1≤a0))&&(decide (a0≤a2)))
theorem wy.ok (a0:Int)(a1:Int)(a2:Int)(r:Bool)(h:wy a0 a1 a2=r):ACalls qh 139 [.int .i32 a0,.int .i32 a1,.int .i32 a2] [] (fun r' _=>r'=.bool r):=by
 refine zf (rs:=[.tmp 6]) tok Tryz.func139 rfl Tryz.ntmps139 rfl Tryz.call139 (by simp) ?_;refine zl [(0,.int .i32 a0),(1,.int .i32 a1),(2,.int .i32 a2)] ⟨rfl,rfl,rfl,trivial⟩ ?_;unfold wy at h;refine rgN [0,1,2] ?_
 refine rc [6] fun K hK=>?_
 refine rnN 4 ?_;refine zh 4 (fun L τ=>L=[(14,.bool ((decide (a1≤a0))&&(decide (a0≤a2))))]∧τ=[]) ?_ ?_
 · refine yG 10 rfl (fun hg10=>?_) (fun hg10=>?_)
   · have t1:=eq_true hg10;refine rnN 4 ?_;refine zb ⟨rfl,_,_,⟨rfl,rfl⟩,.p t1⟩
   have t2:=eq_false hg10;refine rnN 4 ?_;refine zb ⟨rfl,_,_,⟨rfl,rfl⟩,.p t2⟩
 rintro _ _ ⟨rfl,rfl⟩;refine rnN 1 ?_;refine nkN hK ?_;cases h;exact rtA
theorem wy.ev (a0:Int)(a1:Int)(a2:Int)(r:Bool)(h:wy a0 a1 a2=r)(σ:Store):ACalls qh 139 [.int .i32 a0,.int .i32 a1,.int .i32 a2] σ (fun r' σ'=>r'=.bool r∧σ'=σ):=
 (wy.ok a0 a1 a2 r h).c σ
def xf.j6 (a0:Int)(x5:Bool):Bool:=
 (if x5=true then false else bnd (wy a0 97 122) fun r8=>bnd (if r8=true then true else bnd (wy a0 65 90) fun r9=>r9) fun c9=>bnd (if c9=true then true else bnd (wy a0 192 591) fun r11=>r11) fun c11=>bnd (if c11=true then true else bnd (wy a0 913 969) fun r13=>r13) fun c13=>c13)
def xf (a0:Int):Bool:=
 (if a0=95 then true else (if a0=215 then (xf.j6 a0 (decide (a0=215))) else (if a0=247 then (xf.j6 a0 (decide (a0=247))) else (xf.j6 a0 (decide (a0=930))))))
theorem xf.ok (a0:Int)(r:Bool)(h:xf a0=r):ACalls qh 104 [.int .i32 a0] [] (fun r' _=>r'=.bool r):=by
 refine zf (rs:=[.tmp 2]) tok Tryz.func104 rfl Tryz.ntmps104 rfl Tryz.call104 (by simp) ?_;refine zl [(0,.int .i32 a0)] ⟨rfl,trivial⟩ ?_;unfold xf at h;refine rgN [0] ?_
 refine za fun Z1 hZ1=>?_
 refine rgN [0,3] ?_;apply ze;refine rgN [0,3,4] ?_;refine zx rfl (fun hc2=>?_) (fun hc2=>?_)
 · rw[if_pos hc2] at h;have t3:=eq_true hc2
   refine rg tok [2] fun K hK=>?_
   simp only[go_sem,qb,qa,reduceCtorEq,t3];apply hK
   cases h;exact rtA
 rw[if_neg hc2] at h;have t4:=eq_false hc2;refine wb (fun L τ=>∃ (x5:Bool),L=[(0,.int .i32 a0),(6,.bool x5)]∧τ=[]∧xf.j6 a0 x5=r) ?_ ?_
 · refine rg tok [0,3,6] fun K hK=>?_
   simp only[go_sem,qb,qa,reduceCtorEq,t4];apply hK
   refine zx rfl (fun hc15=>?_) (fun hc15=>?_)
   · rw[if_pos hc15] at h;have t16:=eq_true hc15;apply zd;exact⟨_,_,⟨decide (a0=215),rfl,rfl,h⟩,.s⟩
   rw[if_neg hc15] at h;have t17:=eq_false hc15
   refine rg tok [0,3,6] fun K hK=>?_
   simp only[go_sem,qb,qa,reduceCtorEq,t17];apply hK
   refine zx rfl (fun hc18=>?_) (fun hc18=>?_)
   · rw[if_pos hc18] at h;have t19:=eq_true hc18;apply zd;exact⟨_,_,⟨decide (a0=247),rfl,rfl,h⟩,.s⟩
   rw[if_neg hc18] at h;have t20:=eq_false hc18
   refine rgE tok [0,6] fun K hK=>?_
   simp only[go_sem,qb,qa,reduceCtorEq,t20];apply hK
   exact⟨_,_,⟨decide (a0=930),rfl,rfl,h⟩,.s⟩
 rintro _ _ ⟨x5,rfl,rfl,h⟩;unfold xf.j6 at h;refine zm (b:=x5) rfl (fun hc7=>?_) (fun hc7=>?_)
 · rw[if_pos hc7] at h;refine rgN [2] ?_;cases h;exact rtA
 rw[xQ hc7] at h;apply zd;apply hZ1
 refine rc [2] fun K hK=>?_
 obtain⟨r8,hr8,h⟩:=zS h;refine rnN 1 ?_;refine clN rfl rfl rfl (wy.ev a0 97 122 r8 hr8 _) ?_;refine rnN 1 ?_;obtain⟨c9,hc9,h⟩:=zS h;refine zh 3 (fun L τ=>L=[(0,.int .i32 a0),(15,.bool c9)]∧τ=[]) ?_ ?_
 · refine zO (b:=r8) 12 rfl (fun hg12=>?_) (fun hg12=>?_)
   · rw[if_pos hg12] at hc9;refine rnN 3 ?_;subst hc9;refine zb ⟨rfl,_,_,⟨rfl,rfl⟩,.b hg12⟩
   rw[xQ hg12] at hc9;obtain⟨r10,hr10,hc9⟩:=zS hc9;refine rnN 1 ?_;refine clN rfl rfl rfl (wy.ev a0 65 90 r10 hr10 _) ?_;refine rnN 1 ?_;subst hc9;refine zb ⟨rfl,_,_,⟨rfl,rfl⟩,.b hg12⟩
 rintro _ _ ⟨rfl,rfl⟩;refine rnN 1 ?_;obtain⟨c11,hc11,h⟩:=zS h;refine zh 3 (fun L τ=>L=[(0,.int .i32 a0),(19,.bool c11)]∧τ=[]) ?_ ?_
 · refine zO (b:=c9) 16 rfl (fun hg16=>?_) (fun hg16=>?_)
   · rw[if_pos hg16] at hc11;refine rnN 3 ?_;subst hc11;refine zb ⟨rfl,_,_,⟨rfl,rfl⟩,.b hg16⟩
   rw[xQ hg16] at hc11;obtain⟨r12,hr12,hc11⟩:=zS hc11;refine rnN 1 ?_;refine clN rfl rfl rfl (wy.ev a0 192 591 r12 hr12 _) ?_;refine rnN 1 ?_;subst hc11;refine zb ⟨rfl,_,_,⟨rfl,rfl⟩,.b hg16⟩
 rintro _ _ ⟨rfl,rfl⟩;refine rnN 1 ?_;obtain⟨c13,hc13,h⟩:=zS h;refine zh 3 (fun L τ=>L=[(23,.bool c13)]∧τ=[]) ?_ ?_
 · refine zO (b:=c11) 20 rfl (fun hg20=>?_) (fun hg20=>?_)
   · rw[if_pos hg20] at hc13;refine rnN 3 ?_;subst hc13;refine zb ⟨rfl,_,_,⟨rfl,rfl⟩,.b hg20⟩
   rw[xQ hg20] at hc13;obtain⟨r14,hr14,hc13⟩:=zS hc13;refine rnN 1 ?_;refine clN rfl rfl rfl (wy.ev a0 913 969 r14 hr14 _) ?_;refine rnN 1 ?_;subst hc13;refine zb ⟨rfl,_,_,⟨rfl,rfl⟩,.b hg20⟩
 rintro _ _ ⟨rfl,rfl⟩;refine rnN 1 ?_;refine nkN hK ?_;cases h;exact rtA
theorem xf.ev (a0:Int)(r:Bool)(h:xf a0=r)(σ:Store):ACalls qh 104 [.int .i32 a0] σ (fun r' σ'=>r'=.bool r∧σ'=σ):=
 (xf.ok a0 r h).c σ
def wX (a0:Int):Bool:=
 bnd (wy a0 48 57) fun r1=>r1
theorem wX.ok (a0:Int)(r:Bool)(h:wX a0=r):ACalls qh 105 [.int .i32 a0] [] (fun r' _=>r'=.bool r):=by
 refine zf (rs:=[.tmp 2]) tok Tryz.func105 rfl Tryz.ntmps105 rfl Tryz.call105 (by simp) ?_;refine zl [(0,.int .i32 a0)] ⟨rfl,trivial⟩ ?_;unfold wX at h;refine rgN [0] ?_
 refine rc [2] fun K hK=>?_
 obtain⟨r1,hr1,h⟩:=zS h;refine rnN 1 ?_;refine clN rfl rfl rfl (wy.ev a0 48 57 r1 hr1 _) ?_;refine rnN 1 ?_;refine nkN hK ?_;cases h;exact rtA
theorem wX.ev (a0:Int)(r:Bool)(h:wX a0=r)(σ:Store):ACalls qh 105 [.int .i32 a0] σ (fun r' σ'=>r'=.bool r∧σ'=σ):=
 (wX.ok a0 r h).c σ
def yF.l11 (a0:List UInt8):Nat→Nat→Option Bool
 |0,_=>none
 |k11+1,p9=>(if p9<qc a0 then bnd (xf ((YI a0 p9).1:Int)) fun r15=>bnd (if (!r15)=true then bnd (if ((p9:Nat):Int)=0 then true else bnd (wX ((YI a0 p9).1:Int)) fun r16 => !r16) fun c16=>c16 else false) fun c16=>(if c16=true then some false else ((yF.l11 a0 k11) (p9+(YI a0 p9).2))) else some true)
def yF (a0:List UInt8):Option Bool:=
 (yQ a0).bind fun r1=>bnd (if ((decide (r1<1))||(decide (20<r1)))=true then true else bnd (xl a0) fun r5=>r5) fun c5=>(if c5=true then some false else (yF.l11 a0 rounds 0))
theorem yF.ok (a0:List UInt8)(r:Bool)(h:yF a0=some r):ACalls qh 60 [.str a0] [] (fun r' _=>r'=.bool r):=by
 refine zf (rs:=[.tmp 2]) tok Tryz.func60 rfl Tryz.ntmps60 rfl Tryz.call60 (by simp) ?_;refine zl [(0,.str a0)] ⟨rfl,trivial⟩ ?_;unfold yF at h;refine rgN [0] ?_
 refine rc [0,3] fun K hK=>?_
 obtain⟨r1,hr1,h⟩:=bind_some h;refine rnN 1 ?_;refine clN rfl rfl rfl (yQ.ev a0 r1 hr1 _) ?_;refine rnN 1 ?_;refine nkN hK ?_
 refine za fun Z2 hZ2=>?_
 refine rc [0,17] fun K hK=>?_
 refine rnN 3 ?_;refine zh 3 (fun L τ=>L=[(0,.str a0),(13,.bool ((decide (r1<1))||(decide (20<r1))))]∧τ=[]) ?_ ?_
 · refine yG 10 rfl (fun hg10=>?_) (fun hg10=>?_)
   · have t3:=eq_true hg10;refine rnN 3 ?_;refine zb ⟨rfl,_,_,⟨rfl,rfl⟩,.p t3⟩
   have t4:=eq_false hg10;refine rnN 3 ?_;refine zb ⟨rfl,_,_,⟨rfl,rfl⟩,.p t4⟩
 rintro _ _ ⟨rfl,rfl⟩;refine rnN 1 ?_;obtain⟨c5,hc5,h⟩:=zS h;refine zh 3 (fun L τ=>L=[(0,.str a0),(17,.bool c5)]∧τ=[]) ?_ ?_
 · refine zO (b:=((decide (r1<1))||(decide (20<r1)))) 14 rfl (fun hg14=>?_) (fun hg14=>?_)
   · rw[if_pos hg14] at hc5;refine rnN 3 ?_;subst hc5;refine zb ⟨rfl,_,_,⟨rfl,rfl⟩,.b hg14⟩
   rw[xQ hg14] at hc5;obtain⟨r6,hr6,hc5⟩:=zS hc5;refine rnN 1 ?_;refine clN rfl rfl rfl (xl.ev a0 r6 hr6 _) ?_;refine rnN 1 ?_;subst hc5;refine zb ⟨rfl,_,_,⟨rfl,rfl⟩,.b hg14⟩
 rintro _ _ ⟨rfl,rfl⟩;refine nkN hK ?_;refine zm (b:=c5) rfl (fun hc7=>?_) (fun hc7=>?_)
 · rw[if_pos hc7] at h;refine rgN [2] ?_;cases h;exact rtA
 rw[xQ hc7] at h;apply zd;apply hZ2
 refine za fun Z8 hZ8=>?_
 refine rgN [19] ?_;apply ze;refine zq (fun m L τ=>∃ (k11:Nat) (p9:Nat),m=0+k11∧L=[(19,.it 0)]∧τ=[.iter a0 p9]∧yF.l11 a0 k11 p9=some r) _ ⟨rounds,0,rfl,rfl,rfl,h⟩ .s ?_;rintro m L τ ⟨k11,p9,rfl,rfl,rfl,h⟩
 rcases k11 with _|k11
 · cases h
 simp only[yF.l11] at h
 by_cases hn12:p9<qc a0
 · rw[if_pos hn12] at h;have t13:=eq_true hn12
   refine rg tok [19,20,21] fun K hK=>?_
   simp only[go_sem,qb,qa,qd,vas,if_true,if_false,t13];apply hK
   refine za fun Z14 hZ14=>?_
   refine zo rfl ?_;apply zd;apply hZ14;apply ze;refine rgN [4,5,19] ?_
   refine rc [19,35] fun K hK=>?_
   obtain⟨r15,hr15,h⟩:=zS h;refine rnN 1 ?_;refine clN rfl rfl rfl (xf.ev ((YI a0 p9).1:Int) r15 hr15 _) ?_;refine rnN 2 ?_;obtain⟨c16,hc16,h⟩:=zS h;refine zh 8 (fun L τ=>L=[(19,.it 0),(35,.bool c16)]∧τ=[.iter a0 (p9+(YI a0 p9).2)]) ?_ ?_
   · refine zO (b:=(!r15)) 27 rfl (fun hg27=>?_) (fun hg27=>?_)
     · rw[if_pos hg27] at hc16;refine rnN 3 ?_;obtain⟨c17,hc17,hc16⟩:=zS hc16;refine zh 4 (fun L τ=>L=[(19,.it 0),(27,.bool true),(34,.bool c17)]∧τ=[.iter a0 (p9+(YI a0 p9).2)]) ?_ ?_
       · refine yG 30 rfl (fun hg30=>?_) (fun hg30=>?_)
         · have t18:=eq_true hg30;rw[if_pos hg30] at hc17;refine rnN 4 ?_;subst hc17;refine zb ⟨rfl,_,_,⟨rfl,rfl⟩,.p t18⟩
         have t19:=eq_false hg30;rw[if_neg hg30] at hc17;obtain⟨r20,hr20,hc17⟩:=zS hc17;refine rnN 1 ?_;refine clN rfl rfl rfl (wX.ev ((YI a0 p9).1:Int) r20 hr20 _) ?_;refine rnN 2 ?_;subst hc17;refine zb ⟨rfl,_,_,⟨rfl,rfl⟩,.p t19⟩
       rintro _ _ ⟨rfl,rfl⟩;refine rnN 1 ?_;subst hc16;refine zb ⟨rfl,_,_,⟨rfl,rfl⟩,.b hg27⟩
     rw[xQ hg27] at hc16;refine rnN 8 ?_;subst hc16;refine zb ⟨rfl,_,_,⟨rfl,rfl⟩,.b hg27⟩
   rintro _ _ ⟨rfl,rfl⟩;refine nkN hK ?_;refine zm (b:=c16) rfl (fun hc21=>?_) (fun hc21=>?_)
   · rw[if_pos hc21] at h;refine rgN [2] ?_;cases h;exact rtA
   rw[xQ hc21] at h;apply zd;exact⟨_,_,_,qt (0+k11),⟨k11,p9+(YI a0 p9).2,rfl,rfl,rfl,h⟩,.s⟩
 rw[if_neg hn12] at h;have t22:=eq_false hn12
 refine rg tok [19,20,21] fun K hK=>?_
 simp only[go_sem,qb,qa,vas,if_true,if_false,t22];apply hK
 refine za fun Z23 hZ23=>?_
 refine zn rfl ?_;apply zy;apply hZ8;refine rgN [2] ?_;cases h;exact rtA
theorem yF.ev (a0:List UInt8)(r:Bool)(h:yF a0=some r)(σ:Store):ACalls qh 60 [.str a0] σ (fun r' σ'=>r'=.bool r∧σ'=σ):=
 (yF.ok a0 r h).c σ
def yi (a0:List (List UInt8×Bool))(a1:List UInt8):Option (Bool×List (List UInt8×Bool)):=
 (yF a1).bind fun r2=>(if ((!r2)||((vaR a0 a1).getD false))=true then some (false,a0) else some (true,va0 a0 a1 true))
theorem yi.ok (a0:List (List UInt8×Bool))(a1:List UInt8)(r:Bool×List (List UInt8×Bool))(h:yi a0 a1=some r):ACalls qh 63 [.mp 0,.str a1] [.map (wF AV.str AV.bool a0)] (fun r' σ'=>r'=.bool r.1∧σ'=[.map (wF AV.str AV.bool r.2)]):=by
 refine vaD [0] (rs:=[.tmp 4]) tok Tryz.func63 rfl Tryz.ntmps63 rfl Tryz.call63 (by simp) rfl ?_;refine zl [(0,.mp 0),(1,.str a1)] ⟨rfl,rfl,trivial⟩ ?_;unfold yi at h;refine rgN [0,1] ?_
 refine za fun Z1 hZ1=>?_
 refine rc [0,1,12] fun K hK=>?_
 obtain⟨r2,hr2,h⟩:=bind_some h;refine rnN 1 ?_;refine clN rfl rfl rfl (yF.ev a1 r2 hr2 _) ?_;refine rnN 2 ?_;refine zh 4 (fun L τ=>L=[(0,.mp 0),(1,.str a1),(12,.bool ((!r2)||((vaR a0 a1).getD false)))]∧τ=[.map (wF AV.str AV.bool a0)]) ?_ ?_
 · refine zO (b:=(!r2)) 8 rfl (fun hg8=>?_) (fun hg8=>?_)
   · refine zj tok 4 ?_;simp only[go_sem,qb,qa,reduceCtorEq,if_false,if_true];refine zb ⟨rfl,_,_,⟨rfl,rfl⟩,.b hg8⟩
   have f3:=fun (x:Store)=>vbo (T:=tab) (t:=117) (ek:=AV.str) (ev:=AV.bool) (z:=false) (KeyE.str rfl rfl rfl rfl) rfl rfl rfl rfl a0 a1 false (.map (wF AV.str AV.bool a0)::x) 0 rfl
   refine zj tok 4 ?_;simp only[go_sem,qb,qa,reduceCtorEq,XX,ue,if_false,if_true,f3];refine zb ⟨rfl,_,_,⟨rfl,rfl⟩,.b hg8⟩
 rintro _ _ ⟨rfl,rfl⟩;refine nkN hK ?_;refine zm (b:=((!r2)||((vaR a0 a1).getD false))) rfl (fun hc4=>?_) (fun hc4=>?_)
 · rw[if_pos hc4] at h;refine rgN [4] ?_;apply yz;cases h;simp only[ZF,yP,yX,xO,exists_eq_left',go_sem];refine⟨by decide,by simp,?_,?_⟩
   · first|rfl|(simp only[go_sem,qb,qg,qa,qd,qs,qH,reduceIte,reduceCtorEq,push_cast,if_true,qA,qq,qD,qw,qB,qM,qW,qS,qU,qQ,qy,zH]<;>rfl)
   first|rfl|(simp only[go_sem,push_cast,qw]<;>rfl)
 rw[xQ hc4] at h;apply zd;apply hZ1
 have f5:=fun (x:Store)=>vbl (T:=tab) (t:=117) (ek:=AV.str) (ev:=AV.bool) (KeyE.str rfl rfl rfl rfl) rfl rfl a0 a1 true (.map (wF AV.str AV.bool a0)::x) 0 rfl
 refine rg tok [] fun K hK=>?_
 simp only[go_sem,qb,qa,reduceCtorEq,f5];apply hK
 refine rgN [4] ?_;apply yz;cases h;simp only[ZF,yP,yX,xO,exists_eq_left',go_sem];refine⟨by decide,by simp,?_,?_⟩
 · first|rfl|(simp only[go_sem,qb,qg,qa,qd,qs,qH,reduceIte,reduceCtorEq,push_cast,if_true,qA,qq,qD,qw,qB,qM,qW,qS,qU,qQ,qy,zH]<;>rfl)
 first|rfl|(simp only[go_sem,push_cast,qw]<;>rfl)
def w8 (a0:Int):Bool:=
 ((decide (1≤a0))&&(decide (a0≤500)))
theorem w8.ok (a0:Int)(r:Bool)(h:w8 a0=r):ACalls qh 106 [.int .i64 a0] [] (fun r' _=>r'=.bool r):=by
 refine zf (rs:=[.tmp 2]) tok Tryz.func106 rfl Tryz.ntmps106 rfl Tryz.call106 (by simp) ?_;refine zl [(0,.int .i64 a0)] ⟨rfl,trivial⟩ ?_;unfold w8 at h;refine rgN [0] ?_
 refine rc [2] fun K hK=>?_
 refine rnN 3 ?_;refine zh 3 (fun L τ=>L=[(8,.bool ((decide (1≤a0))&&(decide (a0≤500))))]∧τ=[]) ?_ ?_
 · refine yG 5 rfl (fun hg5=>?_) (fun hg5=>?_)
   · have t1:=eq_true hg5;refine rnN 3 ?_;refine zb ⟨rfl,_,_,⟨rfl,rfl⟩,.p t1⟩
   have t2:=eq_false hg5;refine rnN 3 ?_;refine zb ⟨rfl,_,_,⟨rfl,rfl⟩,.p t2⟩
 rintro _ _ ⟨rfl,rfl⟩;refine rnN 1 ?_;refine nkN hK ?_;cases h;exact rtA
theorem w8.ev (a0:Int)(r:Bool)(h:w8 a0=r)(σ:Store):ACalls qh 106 [.int .i64 a0] σ (fun r' σ'=>r'=.bool r∧σ'=σ):=
 (w8.ok a0 r h).c σ
def xC.l4 (a1:List UInt8):List GEnumeration→Int→GEnumeration×Bool
 |[],x2=>((⟨[],([]:List GNamed)⟩:GEnumeration),false)
 |y4::q4,x2=>(if y4.fName=a1 then (y4,true) else ((xC.l4 a1 q4) (x2+1)))
def xC (a0:GSchema)(a1:List UInt8):GEnumeration×Bool:=
 (xC.l4 a1 a0.fEnums 0)
theorem xC.ok (a0:GSchema)(a1:List UInt8)(r:GEnumeration×Bool)(h:xC a0 a1=r):ACalls qh 140 [.agg (encGSchema a0),.str a1] [] (fun r' _=>r'=.tup [.agg (encGEnumeration r.1),.bool r.2]):=by
 refine zf (rs:=[.cell 4 84,.tmp 5]) tok Tryz.func140 rfl Tryz.ntmps140 rfl Tryz.call140 (by simp) ?_;refine zl [(0,.agg (encGSchema a0)),(1,.str a1)] ⟨rfl,rfl,trivial⟩ ?_;unfold xC at h
 refine rg tok [1,2,4] fun K hK=>?_
 simp only[go_sem,qb,qa,qd,reduceCtorEq,encGSchema];apply hK
 refine za fun Z1 hZ1=>?_
 refine rgN [1,4,9,10,11] ?_;apply ze
 refine xj 9 fun hb4=>?_
 replace hb4:qc a0.fEnums≤9223372036854775807:=hb4.1;refine zq (fun m L τ=>∃ (p4 q4:List GEnumeration) (x2:Int),m=qc q4∧L=[(1,.str a1),(4,.op 0 0 0),(9,.ds true (qe encGEnumeration a0.fEnums) (qc a0.fEnums) false),(10,.int .i64 (qc a0.fEnums:Int)),(11,.int .i64 x2)]∧τ=[.cells 0 [.str [],.ds true [] 0 true]]∧a0.fEnums=p4++q4∧x2=(qc p4:Int)∧xC.l4 a1 q4 x2=r) _ ⟨[],a0.fEnums,0,rfl,rfl,rfl,rfl,rfl,h⟩ (.t [1] false) ?_;rintro m L τ ⟨p4,q4,x2,rfl,rfl,rfl,hE4,hi4,h⟩
 rcases q4 with _|⟨y4,q4⟩
 · have hz4:=yy hE4 hi4;simp only[xC.l4] at h
   refine rg tok [1,4,9,10,11,12] fun K hK=>?_
   simp only[go_sem,qb,qa,hz4];apply hK
   refine za fun Z5 hZ5=>?_
   refine zn rfl ?_;apply zy;apply hZ1;refine rgN [4,5] ?_;cases h;exact rtA
 obtain⟨hz4,hw4,hx4,hE'4,hi'4⟩:=zX hE4 hi4 hb4;simp only[xC.l4] at h
 refine rg tok [1,4,9,10,11,12] fun K hK=>?_
 simp only[go_sem,qb,qa,hz4];apply hK
 refine za fun Z6 hZ6=>?_
 refine zo rfl ?_;apply zd;apply hZ6
 refine za fun Z7 hZ7=>?_
 apply ze;have f8:=E23.idxS hx4;have f9:=E23.loadS rfl rfl hx4
 refine rg tok [1,4,7,9,10,11] fun K hK=>?_
 simp only[go_sem,qb,qg,qa,qd,encGEnumeration,f8,f9];apply hK
 refine rgN [1,4,7,9,10,11,18] ?_;refine zx rfl (fun hc10=>?_) (fun hc10=>?_)
 · rw[if_pos hc10] at h;have t11:=eq_true hc10
   refine rg tok [4,5] fun K hK=>?_
   simp only[go_sem,qb,qg,qa,qd,t11];apply hK
   cases h;exact rtA
 rw[if_neg hc10] at h;have t12:=eq_false hc10;apply zd;apply hZ7
 refine rgE tok [1,4,9,10,11] fun K hK=>?_
 simp only[go_sem,qb,qa,hw4,t12];apply hK
 exact⟨_,_,_,qt q4.length,⟨p4++[y4],q4,x2+1,rfl,rfl,rfl,hE'4,hi'4,h⟩,(.t [0] false)⟩
theorem xC.ev (a0:GSchema)(a1:List UInt8)(r:GEnumeration×Bool)(h:xC a0 a1=r)(σ:Store):ACalls qh 140 [.agg (encGSchema a0),.str a1] σ (fun r' σ'=>r'=.tup [.agg (encGEnumeration r.1),.bool r.2]∧σ'=σ):=
 (xC.ok a0 a1 r h).c σ
def xX (a0:GSchema)(a1:GField):Bool:=
 (if a1.fType.fKind=6 then bnd (xC a0 a1.fType.fName) fun r6=>(((decide (1≤a1.fLabel))&&(decide (a1.fLabel≤3)))&&r6.2) else (if a1.fType.fKind=7 then bnd (zG a0 a1.fType.fName) fun r10=>(((decide (1≤a1.fLabel))&&(decide (a1.fLabel≤3)))&&r10.2) else (((((decide (1≤a1.fLabel))&&(decide (a1.fLabel≤3)))&&(decide (1≤a1.fType.fKind)))&&(decide (a1.fType.fName=[])))&&(decide (a1.fType.fKind<6)))))
theorem xX.ok (a0:GSchema)(a1:GField)(r:Bool)(h:xX a0 a1=r):ACalls qh 107 [.agg (encGSchema a0),.agg (encGField a1)] [] (fun r' _=>r'=.bool r):=by
 refine zf (rs:=[.tmp 4]) tok Tryz.func107 rfl Tryz.ntmps107 rfl Tryz.call107 (by simp) ?_;refine zl [(0,.agg (encGSchema a0)),(1,.agg (encGField a1))] ⟨rfl,rfl,trivial⟩ ?_;unfold xX at h
 refine rg tok [2,3] fun K hK=>?_
 simp only[go_sem,qb,qa,qd,reduceCtorEq,encGField,encGSchema];apply hK
 refine rc [2,3,5] fun K hK=>?_
 refine rnN 4 ?_;refine zh 4 (fun L τ=>L=[(2,.op 0 0 0),(3,.op 1 0 0),(17,.bool ((decide (1≤a1.fLabel))&&(decide (a1.fLabel≤3))))]∧τ=[.cells 0 (encGSchema a0),.cells 0 (encGField a1)]) ?_ ?_
 · refine yG 13 rfl (fun hg13=>?_) (fun hg13=>?_)
   · have t1:=eq_true hg13;refine rnN 4 ?_;refine zb ⟨rfl,_,_,⟨rfl,rfl⟩,.p t1⟩
   have t2:=eq_false hg13;refine rnN 4 ?_;refine zb ⟨rfl,_,_,⟨rfl,rfl⟩,.p t2⟩
 rintro _ _ ⟨rfl,rfl⟩;refine rnN 1 ?_;refine nkN hK ?_
 refine za fun Z3 hZ3=>?_
 refine rgN [2,3,5,20] ?_;apply ze;refine rgN [2,3,5,20,21] ?_;refine zx rfl (fun hc4=>?_) (fun hc4=>?_)
 · rw[if_pos hc4] at h;have t5:=eq_true hc4
   refine rc [5,7] fun K hK=>?_
   obtain⟨r6,hr6,h⟩:=zS h;refine zj tok 4 ?_;simp only[go_sem,qb,qg,qa,qd,t5];refine clN rfl rfl rfl (xC.ev a0 a1.fType.fName r6 hr6 _) ?_;refine zj tok 6 ?_;simp only[go_sem,qb,qg,qa,qd,encGEnumeration];refine nkN hK ?_
   refine rc [4] fun K hK=>?_
   refine rnN 2 ?_;refine zh 2 (fun L τ=>L=[(34,.bool (((decide (1≤a1.fLabel))&&(decide (a1.fLabel≤3)))&&r6.2))]∧τ=[.cells 0 (encGSchema a0),.cells 0 (encGField a1),.cells 0 (encGEnumeration r6.1)]) ?_ ?_
   · refine zO (b:=((decide (1≤a1.fLabel))&&(decide (a1.fLabel≤3)))) 32 rfl (fun hg32=>?_) (fun hg32=>?_)
     · refine rnN 2 ?_;refine zb ⟨rfl,_,_,⟨rfl,rfl⟩,.b hg32⟩
     refine rnN 2 ?_;refine zb ⟨rfl,_,_,⟨rfl,rfl⟩,.b hg32⟩
   rintro _ _ ⟨rfl,rfl⟩;refine rnN 1 ?_;refine nkN hK ?_;cases h;exact rtA
 rw[if_neg hc4] at h;have t7:=eq_false hc4
 refine rg tok [2,3,5,35] fun K hK=>?_
 simp only[go_sem,qb,qa,t7];apply hK
 refine zx rfl (fun hc8=>?_) (fun hc8=>?_)
 · rw[if_pos hc8] at h;have t9:=eq_true hc8
   refine rc [5,9] fun K hK=>?_
   obtain⟨r10,hr10,h⟩:=zS h;refine zj tok 4 ?_;simp only[go_sem,qb,qg,qa,qd,t9];refine clN rfl rfl rfl (zG.ev a0 a1.fType.fName r10 hr10 _) ?_;refine zj tok 6 ?_;simp only[go_sem,qb,qg,qa,qd,encGMessage];refine nkN hK ?_
   refine rc [4] fun K hK=>?_
   refine rnN 2 ?_;refine zh 2 (fun L τ=>L=[(48,.bool (((decide (1≤a1.fLabel))&&(decide (a1.fLabel≤3)))&&r10.2))]∧τ=[.cells 0 (encGSchema a0),.cells 0 (encGField a1),.cells 0 (encGMessage r10.1)]) ?_ ?_
   · refine zO (b:=((decide (1≤a1.fLabel))&&(decide (a1.fLabel≤3)))) 46 rfl (fun hg46=>?_) (fun hg46=>?_)
     · refine rnN 2 ?_;refine zb ⟨rfl,_,_,⟨rfl,rfl⟩,.b hg46⟩
     refine rnN 2 ?_;refine zb ⟨rfl,_,_,⟨rfl,rfl⟩,.b hg46⟩
   rintro _ _ ⟨rfl,rfl⟩;refine rnN 1 ?_;refine nkN hK ?_;cases h;exact rtA
 rw[if_neg hc8] at h;have t11:=eq_false hc8;apply zd;apply hZ3
 refine rc [4] fun K hK=>?_
 refine zj tok 2 ?_;simp only[go_sem,qb,qa,t11];refine zh 5 (fun L τ=>L=[(3,.op 1 0 0),(55,.bool (((decide (1≤a1.fLabel))&&(decide (a1.fLabel≤3)))&&(decide (1≤a1.fType.fKind))))]∧τ=[.cells 0 (encGSchema a0),.cells 0 (encGField a1)]) ?_ ?_
 · refine zO (b:=((decide (1≤a1.fLabel))&&(decide (a1.fLabel≤3)))) 50 rfl (fun hg50=>?_) (fun hg50=>?_)
   · refine rnN 5 ?_;refine zb ⟨rfl,_,_,⟨rfl,rfl⟩,.b hg50⟩
   refine rnN 5 ?_;refine zb ⟨rfl,_,_,⟨rfl,rfl⟩,.b hg50⟩
 rintro _ _ ⟨rfl,rfl⟩;refine rnN 1 ?_;refine zh 8 (fun L τ=>L=[(3,.op 1 0 0),(64,.bool ((((decide (1≤a1.fLabel))&&(decide (a1.fLabel≤3)))&&(decide (1≤a1.fType.fKind)))&&(decide (a1.fType.fName=[]))))]∧τ=[.cells 0 (encGSchema a0),.cells 0 (encGField a1)]) ?_ ?_
 · refine zO (b:=(((decide (1≤a1.fLabel))&&(decide (a1.fLabel≤3)))&&(decide (1≤a1.fType.fKind)))) 56 rfl (fun hg56=>?_) (fun hg56=>?_)
   · refine zj tok 8 ?_;simp only[go_sem,qb,qg,qa,qd,evEqA,ceqL,ceq];refine zb ⟨rfl,_,_,⟨rfl,rfl⟩,.b hg56⟩
   refine rnN 8 ?_;refine zb ⟨rfl,_,_,⟨rfl,rfl⟩,.b hg56⟩
 rintro _ _ ⟨rfl,rfl⟩;refine rnN 1 ?_;refine zh 5 (fun L τ=>L=[(70,.bool (((((decide (1≤a1.fLabel))&&(decide (a1.fLabel≤3)))&&(decide (1≤a1.fType.fKind)))&&(decide (a1.fType.fName=[])))&&(decide (a1.fType.fKind<6))))]∧τ=[.cells 0 (encGSchema a0),.cells 0 (encGField a1)]) ?_ ?_
 · refine zO (b:=((((decide (1≤a1.fLabel))&&(decide (a1.fLabel≤3)))&&(decide (1≤a1.fType.fKind)))&&(decide (a1.fType.fName=[])))) 65 rfl (fun hg65=>?_) (fun hg65=>?_)
   · refine rnN 5 ?_;refine zb ⟨rfl,_,_,⟨rfl,rfl⟩,.b hg65⟩
   refine rnN 5 ?_;refine zb ⟨rfl,_,_,⟨rfl,rfl⟩,.b hg65⟩
 rintro _ _ ⟨rfl,rfl⟩;refine rnN 1 ?_;refine nkN hK ?_;cases h;exact rtA
theorem xX.ev (a0:GSchema)(a1:GField)(r:Bool)(h:xX a0 a1=r)(σ:Store):ACalls qh 107 [.agg (encGSchema a0),.agg (encGField a1)] σ (fun r' σ'=>r'=.bool r∧σ'=σ):=
 (xX.ok a0 a1 r h).c σ
def zF.l21 (a0:GSchema)(r2:Bool×List (List UInt8×Bool)):List GField→Int→List (Int×Bool)→List (List UInt8×Bool)→Option (Int×List (List UInt8×Bool))
 |[],x17,l15,l16=>some (0,r2.2)
 |y21::q21,x17,l15,l16=>(yi l16 y21.fName).bind fun r28=>(if (!r28.1)=true then some (6,r2.2) else bnd (w8 y21.fTag) fun r30=>(if ((!r30)||((vaR l15 y21.fTag).getD false))=true then some (7,r2.2) else bnd (xX a0 y21) fun r33=>(if (!r33)=true then some (8,r2.2) else ((zF.l21 a0 r2 q21) (x17+1) (va0 l15 y21.fTag true) r28.2))))
def zF.l12 (a0:GSchema)(a2:GMessage)(r2:Bool×List (List UInt8×Bool)):List Int→Int→List (Int×Bool)→Option (Int×List (List UInt8×Bool))
 |[],x9,l8=>(zF.l21 a0 r2 a2.fFields 0 l8 [])
 |y12::q12,x9,l8=>bnd (w8 y12) fun r41=>(if ((!r41)||((vaR l8 y12).getD false))=true then some (7,r2.2) else ((zF.l12 a0 a2 r2 q12) (x9+1) (va0 l8 y12 true)))
def zF (a0:GSchema)(a1:List (List UInt8×Bool))(a2:GMessage):Option (Int×List (List UInt8×Bool)):=
 (yi a1 a2.fName).bind fun r2=>(if (!r2.1)=true then some (6,r2.2) else (if ((decide (16<(qc a2.fFields:Int)))||(decide (32<(qc a2.fReserved:Int))))=true then some (4,r2.2) else (zF.l12 a0 a2 r2 a2.fReserved 0 [])))
theorem zF.ok (a0:GSchema)(a1:List (List UInt8×Bool))(a2:GMessage)(r:Int×List (List UInt8×Bool))(h:zF a0 a1 a2=some r):ACalls qh 61 [.agg (encGSchema a0),.mp 0,.agg (encGMessage a2)] [.map (wF AV.str AV.bool a1)] (fun r' σ'=>r'=.int .i64 r.1∧σ'=[.map (wF AV.str AV.bool r.2)]):=by
 refine vaD [0] (rs:=[.tmp 6]) tok Tryz.func61 rfl Tryz.ntmps61 rfl Tryz.call61 (by simp) rfl ?_;refine zl [(0,.agg (encGSchema a0)),(1,.mp 0),(2,.agg (encGMessage a2))] ⟨rfl,rfl,rfl,trivial⟩ ?_;unfold zF at h
 refine rg tok [1,3,5] fun K hK=>?_
 simp only[go_sem,qb,qa,qd,reduceCtorEq,encGMessage,encGSchema];apply hK
 refine za fun Z1 hZ1=>?_
 apply ze
 refine rc [3,5,13] fun K hK=>?_
 obtain⟨r2,hr2,h⟩:=bind_some h;refine rnN 3 ?_;refine clN rfl rfl rfl (@id (ACalls qh 63 [.mp 0,.str a2.fName] [.map (wF AV.str AV.bool a1),.cells 0 (encGSchema a0),.cells 0 (encGMessage a2)] (fun r' σ'=>r'=.bool r2.1∧σ'=[.map (wF AV.str AV.bool r2.2),.cells 0 (encGSchema a0),.cells 0 (encGMessage a2)])) ((yi.ok a1 a2.fName r2 hr2).i [0])) ?_;refine rnN 2 ?_;refine nkN hK ?_;refine zm (b:=(!r2.1)) rfl (fun hc3=>?_) (fun hc3=>?_)
 · rw[if_pos hc3] at h;refine rgN [6] ?_;apply yz;cases h;simp only[ZF,yP,yX,xO,exists_eq_left',go_sem,qd];refine⟨by decide,by simp,?_,?_⟩
   · first|rfl|(simp only[go_sem,qb,qg,qa,qd,qs,qH,reduceIte,reduceCtorEq,push_cast,if_true,qA,qq,qD,qw,qB,qM,qW,qS,qU,qQ,qy,zH]<;>rfl)
   first|rfl|(simp only[go_sem,push_cast,qw]<;>rfl)
 rw[xQ hc3] at h
 refine rc [3,5,19] fun K hK=>?_
 refine rnN 5 ?_;refine zh 5 (fun L τ=>L=[(3,.op 1 0 0),(5,.op 2 0 0),(29,.bool ((decide (16<(qc a2.fFields:Int)))||(decide (32<(qc a2.fReserved:Int)))))]∧τ=[.map (wF AV.str AV.bool r2.2),.cells 0 (encGSchema a0),.cells 0 (encGMessage a2)]) ?_ ?_
 · refine yG 24 rfl (fun hg24=>?_) (fun hg24=>?_)
   · have t4:=eq_true hg24;refine rnN 5 ?_;refine zb ⟨rfl,_,_,⟨rfl,rfl⟩,.p t4⟩
   have t5:=eq_false hg24;refine rnN 5 ?_;refine zb ⟨rfl,_,_,⟨rfl,rfl⟩,.p t5⟩
 rintro _ _ ⟨rfl,rfl⟩;refine rnN 1 ?_;refine nkN hK ?_;refine zm (b:=((decide (16<(qc a2.fFields:Int)))||(decide (32<(qc a2.fReserved:Int))))) rfl (fun hc6=>?_) (fun hc6=>?_)
 · rw[if_pos hc6] at h;refine rgN [6] ?_;apply yz;cases h;simp only[ZF,yP,yX,xO,exists_eq_left',go_sem,qd];refine⟨by decide,by simp,?_,?_⟩
   · first|rfl|(simp only[go_sem,qb,qg,qa,qd,qs,qH,reduceIte,reduceCtorEq,push_cast,if_true,qA,qq,qD,qw,qB,qM,qW,qS,qU,qQ,qy,zH]<;>rfl)
   first|rfl|(simp only[go_sem,push_cast,qw]<;>rfl)
 rw[xQ hc6] at h;apply zd;apply hZ1;refine rgN [3,5,7] ?_;refine zW (L:=[(3,.op 1 0 0),(5,.op 2 0 0),(7,.mp 3)]) (τ:=[.map (wF AV.str AV.bool r2.2),.cells 0 (encGSchema a0),.cells 0 (encGMessage a2),.map (wF (AV.int .i64) AV.bool [])]) .s ?_
 refine za fun Z7 hZ7=>?_
 refine rgN [3,5,7,32,33,34] ?_;apply ze
 refine xj 32 fun hb12=>?_
 replace hb12:qc a2.fReserved≤9223372036854775807:=hb12.1;refine zq (fun m L τ=>∃ (p12 q12:List Int) (x9:Int) (l8:List (Int×Bool)),m=qc q12∧L=[(3,.op 1 0 0),(5,.op 2 0 0),(7,.mp 3),(32,.ds true (qe encI a2.fReserved) (qc a2.fReserved) false),(33,.int .i64 (qc a2.fReserved:Int)),(34,.int .i64 x9)]∧τ=[.map (wF AV.str AV.bool r2.2),.cells 0 (encGSchema a0),.cells 0 (encGMessage a2),.map (wF (AV.int .i64) AV.bool l8)]∧a2.fReserved=p12++q12∧x9=(qc p12:Int)∧zF.l12 a0 a2 r2 q12 x9 l8=some r) _ ⟨[],a2.fReserved,0,[],rfl,rfl,rfl,rfl,rfl,h⟩ .s ?_;rintro m L τ ⟨p12,q12,x9,l8,rfl,rfl,rfl,hE12,hi12,h⟩
 rcases q12 with _|⟨y12,q12⟩
 · have hz12:=yy hE12 hi12;simp only[zF.l12] at h
   refine rg tok [3,5,7,32,33,34,35] fun K hK=>?_
   simp only[go_sem,qb,qa,hz12];apply hK
   refine za fun Z13 hZ13=>?_
   refine zn rfl ?_;apply zy;apply hZ7;refine rgN [3,5,7,10] ?_;refine zW (L:=[(3,.op 1 0 0),(5,.op 2 0 0),(7,.mp 3),(10,.mp 4)]) (τ:=[.map (wF AV.str AV.bool r2.2),.cells 0 (encGSchema a0),.cells 0 (encGMessage a2),.map (wF (AV.int .i64) AV.bool l8),.map (wF AV.str AV.bool [])]) .s ?_
   refine za fun Z14 hZ14=>?_
   refine rgN [3,7,10,51,52,53] ?_;apply ze
   refine xj 51 fun hb21=>?_
   replace hb21:qc a2.fFields≤9223372036854775807:=hb21.1;refine zq (fun m L τ=>∃ (p21 q21:List GField) (x17:Int) (l15:List (Int×Bool)) (l16:List (List UInt8×Bool)),m=qc q21∧L=[(3,.op 1 0 0),(7,.mp 2),(10,.mp 3),(51,.ds true (qe encGField a2.fFields) (qc a2.fFields) false),(52,.int .i64 (qc a2.fFields:Int)),(53,.int .i64 x17)]∧τ=[.map (wF AV.str AV.bool r2.2),.cells 0 (encGSchema a0),.map (wF (AV.int .i64) AV.bool l15),.map (wF AV.str AV.bool l16)]∧a2.fFields=p21++q21∧x17=(qc p21:Int)∧zF.l21 a0 r2 q21 x17 l15 l16=some r) _ ⟨[],a2.fFields,0,l8,[],rfl,rfl,rfl,rfl,rfl,h⟩ (.t [0,1,3,4] false) ?_;rintro m L τ ⟨p21,q21,x17,l15,l16,rfl,rfl,rfl,hE21,hi21,h⟩
   rcases q21 with _|⟨y21,q21⟩
   · have hz21:=yy hE21 hi21;simp only[zF.l21] at h
     refine rg tok [3,7,10,51,52,53,54] fun K hK=>?_
     simp only[go_sem,qb,qa,hz21];apply hK
     refine za fun Z22 hZ22=>?_
     refine zn rfl ?_;apply zy;apply hZ14;refine rgN [6] ?_;apply yz;cases h;simp only[ZF,yP,yX,xO,exists_eq_left',go_sem,qd];refine⟨by decide,by simp,?_,?_⟩
     · first|rfl|(simp only[go_sem,qb,qg,qa,qd,qs,qH,reduceIte,reduceCtorEq,push_cast,if_true,qA,qq,qD,qw,qB,qM,qW,qS,qU,qQ,qy,zH]<;>rfl)
     first|rfl|(simp only[go_sem,push_cast,qw]<;>rfl)
   obtain⟨hz21,hw21,hx21,hE'21,hi'21⟩:=zX hE21 hi21 hb21;simp only[zF.l21] at h
   refine rg tok [3,7,10,51,52,53,54] fun K hK=>?_
   simp only[go_sem,qb,qa,hz21];apply hK
   refine za fun Z23 hZ23=>?_
   refine zo rfl ?_;apply zd;apply hZ23
   refine za fun Z24 hZ24=>?_
   apply ze;have f25:=E47.idxS hx21;have f26:=E47.loadS rfl rfl hx21
   refine rg tok [3,7,10,12,51,52,53] fun K hK=>?_
   simp only[go_sem,qb,qg,qa,qd,encGField,f25,f26];apply hK
   refine za fun Z27 hZ27=>?_
   apply ze
   refine rc [3,7,10,12,51,52,53,57] fun K hK=>?_
   obtain⟨r28,hr28,h⟩:=bind_some h;refine rnN 3 ?_;refine clN rfl rfl rfl (@id (ACalls qh 63 [.mp 3,.str y21.fName] [.map (wF AV.str AV.bool r2.2),.cells 0 (encGSchema a0),.map (wF (AV.int .i64) AV.bool l15),.map (wF AV.str AV.bool l16),.cells 0 (encGField y21)] (fun r' σ'=>r'=.bool r28.1∧σ'=[.map (wF AV.str AV.bool r2.2),.cells 0 (encGSchema a0),.map (wF (AV.int .i64) AV.bool l15),.map (wF AV.str AV.bool r28.2),.cells 0 (encGField y21)])) ((yi.ok l16 y21.fName r28 hr28).i [3])) ?_;refine rnN 2 ?_;refine nkN hK ?_;refine zm (b:=(!r28.1)) rfl (fun hc29=>?_) (fun hc29=>?_)
   · rw[if_pos hc29] at h;refine rgN [6] ?_;apply yz;cases h;simp only[ZF,yP,yX,xO,exists_eq_left',go_sem,qd];refine⟨by decide,by simp,?_,?_⟩
     · first|rfl|(simp only[go_sem,qb,qg,qa,qd,qs,qH,reduceIte,reduceCtorEq,push_cast,if_true,qA,qq,qD,qw,qB,qM,qW,qS,qU,qQ,qy,zH]<;>rfl)
     first|rfl|(simp only[go_sem,push_cast,qw]<;>rfl)
   rw[xQ hc29] at h
   refine rc [3,7,10,12,51,52,53,63] fun K hK=>?_
   obtain⟨r30,hr30,h⟩:=zS h;refine rnN 2 ?_;refine clN rfl rfl rfl (w8.ev y21.fTag r30 hr30 _) ?_;refine rnN 2 ?_;refine zh 5 (fun L τ=>L=[(3,.op 1 0 0),(7,.mp 2),(10,.mp 3),(12,.op 4 0 0),(51,.ds true (qe encGField a2.fFields) (qc a2.fFields) false),(52,.int .i64 (qc a2.fFields:Int)),(53,.int .i64 x17),(73,.bool ((!r30)||((vaR l15 y21.fTag).getD false)))]∧τ=[.map (wF AV.str AV.bool r2.2),.cells 0 (encGSchema a0),.map (wF (AV.int .i64) AV.bool l15),.map (wF AV.str AV.bool r28.2),.cells 0 (encGField y21)]) ?_ ?_
   · refine zO (b:=(!r30)) 68 rfl (fun hg68=>?_) (fun hg68=>?_)
     · refine zj tok 5 ?_;simp only[go_sem,qb,qa,if_false,if_true];refine zb ⟨rfl,_,_,⟨rfl,rfl⟩,.b hg68⟩
     have f31:=fun (o0:Zr) (o1:Zr) (x:Store)=>vbo (T:=tab) (t:=161) (ek:=(AV.int .i64)) (ev:=AV.bool) (z:=false) (KeyE.int rfl rfl rfl rfl) rfl rfl rfl rfl l15 y21.fTag false (o0::o1::.map (wF (AV.int .i64) AV.bool l15)::x) 2 rfl
     refine zj tok 5 ?_;simp only[go_sem,qb,qa,qd,XX,ue,if_false,if_true,f31];refine zb ⟨rfl,_,_,⟨rfl,rfl⟩,.b hg68⟩
   rintro _ _ ⟨rfl,rfl⟩;refine rnN 1 ?_;refine nkN hK ?_;refine zm (b:=((!r30)||((vaR l15 y21.fTag).getD false))) rfl (fun hc32=>?_) (fun hc32=>?_)
   · rw[if_pos hc32] at h;refine rgN [6] ?_;apply yz;cases h;simp only[ZF,yP,yX,xO,exists_eq_left',go_sem,qd];refine⟨by decide,by simp,?_,?_⟩
     · first|rfl|(simp only[go_sem,qb,qg,qa,qd,qs,qH,reduceIte,reduceCtorEq,push_cast,if_true,qA,qq,qD,qw,qB,qM,qW,qS,qU,qQ,qy,zH]<;>rfl)
     first|rfl|(simp only[go_sem,push_cast,qw]<;>rfl)
   rw[xQ hc32] at h
   refine rc [3,7,10,12,51,52,53,74] fun K hK=>?_
   obtain⟨r33,hr33,h⟩:=zS h;refine rnN 2 ?_;refine clN rfl rfl rfl (xX.ev a0 y21 r33 hr33 _) ?_;refine rnN 2 ?_;refine nkN hK ?_;refine zm (b:=(!r33)) rfl (fun hc34=>?_) (fun hc34=>?_)
   · rw[if_pos hc34] at h;refine rgN [6] ?_;apply yz;cases h;simp only[ZF,yP,yX,xO,exists_eq_left',go_sem,qd];refine⟨by decide,by simp,?_,?_⟩
     · first|rfl|(simp only[go_sem,qb,qg,qa,qd,qs,qH,reduceIte,reduceCtorEq,push_cast,if_true,qA,qq,qD,qw,qB,qM,qW,qS,qU,qQ,qy,zH]<;>rfl)
     first|rfl|(simp only[go_sem,push_cast,qw]<;>rfl)
   rw[xQ hc34] at h;apply zd;apply hZ27
   have f35:=fun (o0:Zr) (o1:Zr) (x:Store)=>vbl (T:=tab) (t:=161) (ek:=(AV.int .i64)) (ev:=AV.bool) (KeyE.int rfl rfl rfl rfl) rfl rfl l15 y21.fTag true (o0::o1::.map (wF (AV.int .i64) AV.bool l15)::x) 2 rfl
   refine rgE tok [3,7,10,51,52,53] fun K hK=>?_
   simp only[go_sem,qb,qa,qd,f35];apply hK
   apply hZ24
   refine rgE tok [3,7,10,51,52,53] fun K hK=>?_
   simp only[go_sem,qb,qa,hw21];apply hK
   exact⟨_,_,_,qt q21.length,⟨p21++[y21],q21,x17+1,va0 l15 y21.fTag true,r28.2,rfl,rfl,rfl,hE'21,hi'21,h⟩,(.t [0,1,2,3] false)⟩
 obtain⟨hz12,hw12,hx12,hE'12,hi'12⟩:=zX hE12 hi12 hb12;simp only[zF.l12] at h
 refine rg tok [3,5,7,32,33,34,35] fun K hK=>?_
 simp only[go_sem,qb,qa,hz12];apply hK
 refine za fun Z36 hZ36=>?_
 refine zo rfl ?_;apply zd;apply hZ36
 refine za fun Z37 hZ37=>?_
 apply ze;have f38:=E45.idxS hx12;have f39:=E45.fldS0 (f:=3) rfl rfl hx12
 refine rg tok [3,5,7,9,32,33,34] fun K hK=>?_
 simp only[go_sem,qb,qa,encI,f38,f39];apply hK
 refine za fun Z40 hZ40=>?_
 refine rc [3,5,7,9,32,33,34,45] fun K hK=>?_
 obtain⟨r41,hr41,h⟩:=zS h;refine rnN 1 ?_;refine clN rfl rfl rfl (w8.ev y12 r41 hr41 _) ?_;refine rnN 2 ?_;refine zh 4 (fun L τ=>L=[(3,.op 1 0 0),(5,.op 2 0 0),(7,.mp 3),(9,.int .i64 y12),(32,.ds true (qe encI a2.fReserved) (qc a2.fReserved) false),(33,.int .i64 (qc a2.fReserved:Int)),(34,.int .i64 x9),(45,.bool ((!r41)||((vaR l8 y12).getD false)))]∧τ=[.map (wF AV.str AV.bool r2.2),.cells 0 (encGSchema a0),.cells 0 (encGMessage a2),.map (wF (AV.int .i64) AV.bool l8)]) ?_ ?_
 · refine zO (b:=(!r41)) 41 rfl (fun hg41=>?_) (fun hg41=>?_)
   · refine zj tok 4 ?_;simp only[go_sem,qb,qa,if_false,if_true];refine zb ⟨rfl,_,_,⟨rfl,rfl⟩,.b hg41⟩
   have f42:=fun (o0:Zr) (o1:Zr) (o2:Zr) (x:Store)=>vbo (T:=tab) (t:=161) (ek:=(AV.int .i64)) (ev:=AV.bool) (z:=false) (KeyE.int rfl rfl rfl rfl) rfl rfl rfl rfl l8 y12 false (o0::o1::o2::.map (wF (AV.int .i64) AV.bool l8)::x) 3 rfl
   refine zj tok 4 ?_;simp only[go_sem,qb,qa,XX,ue,if_false,if_true,f42];refine zb ⟨rfl,_,_,⟨rfl,rfl⟩,.b hg41⟩
 rintro _ _ ⟨rfl,rfl⟩;refine nkN hK ?_;refine zm (b:=((!r41)||((vaR l8 y12).getD false))) rfl (fun hc43=>?_) (fun hc43=>?_)
 · rw[if_pos hc43] at h;refine rgN [6] ?_;apply yz;cases h;simp only[ZF,yP,yX,xO,exists_eq_left',go_sem,qd];refine⟨by decide,by simp,?_,?_⟩
   · first|rfl|(simp only[go_sem,qb,qg,qa,qd,qs,qH,reduceIte,reduceCtorEq,push_cast,if_true,qA,qq,qD,qw,qB,qM,qW,qS,qU,qQ,qy,zH]<;>rfl)
   first|rfl|(simp only[go_sem,push_cast,qw]<;>rfl)
 rw[xQ hc43] at h;apply zd;apply hZ40
 have f44:=fun (o0:Zr) (o1:Zr) (o2:Zr) (x:Store)=>vbl (T:=tab) (t:=161) (ek:=(AV.int .i64)) (ev:=AV.bool) (KeyE.int rfl rfl rfl rfl) rfl rfl l8 y12 true (o0::o1::o2::.map (wF (AV.int .i64) AV.bool l8)::x) 3 rfl
 refine rgE tok [3,5,7,32,33,34] fun K hK=>?_
 simp only[go_sem,qb,qa,f44];apply hK
 apply hZ37
 refine rgE tok [3,5,7,32,33,34] fun K hK=>?_
 simp only[go_sem,qb,qa,hw12];apply hK
 exact⟨_,_,_,qt q12.length,⟨p12++[y12],q12,x9+1,va0 l8 y12 true,rfl,rfl,rfl,hE'12,hi'12,h⟩,.s⟩
end
section
set_option maxRecDepth 4000
set_option maxHeartbeats 1000000
open AM
def yw.l23 (r2:Bool×List (List UInt8×Bool)):List GNamed→Int→List (List UInt8×Bool)→List (Int×Bool)→Option (Int×List (List UInt8×Bool))
 |[],x19,l17,l18=>some (0,r2.2)
 |y23::q23,x19,l17,l18=>(yi l17 y23.fName).bind fun r30=>(if (!r30.1)=true then some (6,r2.2) else (if (((decide (y23.fN<0))||(decide (2147483647<y23.fN)))||((vaR l18 y23.fN).getD false))=true then some (11,r2.2) else ((yw.l23 r2 q23) (x19+1) r30.2 (va0 l18 y23.fN true))))
def yw.l12 (a1:GEnumeration)(r2:Bool×List (List UInt8×Bool)):List GNamed→Int→Bool→Option (Int×List (List UInt8×Bool))
 |[],x9,x8=>(if (!x8)=true then some (12,r2.2) else (yw.l23 r2 a1.fValues 0 [] []))
 |y12::q12,x9,x8=>((yw.l12 a1 r2 q12) (x9+1) (x8||(decide (y12.fN=0))))
def yw (a0:List (List UInt8×Bool))(a1:GEnumeration):Option (Int×List (List UInt8×Bool)):=
 (yi a0 a1.fName).bind fun r2=>(if (!r2.1)=true then some (6,r2.2) else (if 16<(qc a1.fValues:Int) then some (4,r2.2) else (yw.l12 a1 r2 a1.fValues 0 false)))
theorem yw.ok (a0:List (List UInt8×Bool))(a1:GEnumeration)(r:Int×List (List UInt8×Bool))(h:yw a0 a1=some r):ACalls qh 62 [.mp 0,.agg (encGEnumeration a1)] [.map (wF AV.str AV.bool a0)] (fun r' σ'=>r'=.int .i64 r.1∧σ'=[.map (wF AV.str AV.bool r.2)]):=by
 refine vaD [0] (rs:=[.tmp 4]) tok Tryz.func62 rfl Tryz.ntmps62 rfl Tryz.call62 (by simp) rfl ?_;refine zl [(0,.mp 0),(1,.agg (encGEnumeration a1))] ⟨rfl,rfl,trivial⟩ ?_;unfold yw at h
 refine rg tok [0,3] fun K hK=>?_
 simp only[go_sem,qb,qa,qd,reduceCtorEq,encGEnumeration];apply hK
 refine za fun Z1 hZ1=>?_
 apply ze
 refine rc [3,12] fun K hK=>?_
 obtain⟨r2,hr2,h⟩:=bind_some h;refine rnN 3 ?_;refine clN rfl rfl rfl (@id (ACalls qh 63 [.mp 0,.str a1.fName] [.map (wF AV.str AV.bool a0),.cells 0 (encGEnumeration a1)] (fun r' σ'=>r'=.bool r2.1∧σ'=[.map (wF AV.str AV.bool r2.2),.cells 0 (encGEnumeration a1)])) ((yi.ok a0 a1.fName r2 hr2).i [0])) ?_;refine rnN 2 ?_;refine nkN hK ?_;refine zm (b:=(!r2.1)) rfl (fun hc3=>?_) (fun hc3=>?_)
 · rw[if_pos hc3] at h;refine rgN [4] ?_;apply yz;cases h;simp only[ZF,yP,yX,xO,exists_eq_left',go_sem,qd];refine⟨by decide,by simp,?_,?_⟩
   · first|rfl|(simp only[go_sem,qb,qg,qa,qd,qs,qH,reduceIte,reduceCtorEq,push_cast,if_true,qA,qq,qD,qw,qB,qM,qW,qS,qU,qQ,qy,zH]<;>rfl)
   first|rfl|(simp only[go_sem,push_cast,qw]<;>rfl)
 rw[xQ hc3] at h;refine rgN [3,18] ?_;refine zx rfl (fun hc4=>?_) (fun hc4=>?_)
 · rw[if_pos hc4] at h;have t5:=eq_true hc4
   refine rg tok [4] fun K hK=>?_
   simp only[go_sem,qb,qa,t5];apply hK
   apply yz;cases h;simp only[ZF,yP,yX,xO,exists_eq_left',go_sem,qd];refine⟨by decide,by simp,?_,?_⟩
   · first|rfl|(simp only[go_sem,qb,qg,qa,qd,qs,qH,reduceIte,reduceCtorEq,push_cast,if_true,qA,qq,qD,qw,qB,qM,qW,qS,qU,qQ,qy,zH]<;>rfl)
   first|rfl|(simp only[go_sem,push_cast,qw]<;>rfl)
 rw[if_neg hc4] at h;have t6:=eq_false hc4;apply zd;apply hZ1
 refine rg tok [3,5] fun K hK=>?_
 simp only[go_sem,qb,qa,t6];apply hK
 refine za fun Z7 hZ7=>?_
 refine rgN [3,5,24,25,26] ?_;apply ze
 refine xj 24 fun hb12=>?_
 replace hb12:qc a1.fValues≤9223372036854775807:=hb12.1;refine zq (fun m L τ=>∃ (p12 q12:List GNamed) (x9:Int) (x8:Bool),m=qc q12∧L=[(3,.op 1 0 0),(5,.bool x8),(24,.ds true (qe encGNamed a1.fValues) (qc a1.fValues) false),(25,.int .i64 (qc a1.fValues:Int)),(26,.int .i64 x9)]∧τ=[.map (wF AV.str AV.bool r2.2),.cells 0 (encGEnumeration a1)]∧a1.fValues=p12++q12∧x9=(qc p12:Int)∧yw.l12 a1 r2 q12 x9 x8=some r) _ ⟨[],a1.fValues,0,false,rfl,rfl,rfl,rfl,rfl,h⟩ .s ?_;rintro m L τ ⟨p12,q12,x9,x8,rfl,rfl,rfl,hE12,hi12,h⟩
 rcases q12 with _|⟨y12,q12⟩
 · have hz12:=yy hE12 hi12;simp only[yw.l12] at h
   refine rg tok [3,5,24,25,26,27] fun K hK=>?_
   simp only[go_sem,qb,qa,hz12];apply hK
   refine za fun Z13 hZ13=>?_
   refine zn rfl ?_;apply zy;apply hZ7
   refine za fun Z14 hZ14=>?_
   refine rgN [3,38] ?_;refine zm (b:=(!x8)) rfl (fun hc15=>?_) (fun hc15=>?_)
   · rw[if_pos hc15] at h;refine rgN [4] ?_;apply yz;cases h;simp only[ZF,yP,yX,xO,exists_eq_left',go_sem,qd];refine⟨by decide,by simp,?_,?_⟩
     · first|rfl|(simp only[go_sem,qb,qg,qa,qd,qs,qH,reduceIte,reduceCtorEq,push_cast,if_true,qA,qq,qD,qw,qB,qM,qW,qS,qU,qQ,qy,zH]<;>rfl)
     first|rfl|(simp only[go_sem,push_cast,qw]<;>rfl)
   rw[xQ hc15] at h;apply zd;apply hZ14;refine rgN [3,8,9] ?_;refine zW (L:=[(3,.op 1 0 0),(8,.mp 2),(9,.mp 3)]) (τ:=[.map (wF AV.str AV.bool r2.2),.cells 0 (encGEnumeration a1),.map (wF AV.str AV.bool []),.map (wF (AV.int .i64) AV.bool [])]) .s ?_
   refine za fun Z16 hZ16=>?_
   refine rgN [8,9,42,43,44] ?_;apply ze
   refine xj 42 fun hb23=>?_
   replace hb23:qc a1.fValues≤9223372036854775807:=hb23.1;refine zq (fun m L τ=>∃ (p23 q23:List GNamed) (x19:Int) (l17:List (List UInt8×Bool)) (l18:List (Int×Bool)),m=qc q23∧L=[(8,.mp 1),(9,.mp 2),(42,.ds true (qe encGNamed a1.fValues) (qc a1.fValues) false),(43,.int .i64 (qc a1.fValues:Int)),(44,.int .i64 x19)]∧τ=[.map (wF AV.str AV.bool r2.2),.map (wF AV.str AV.bool l17),.map (wF (AV.int .i64) AV.bool l18)]∧a1.fValues=p23++q23∧x19=(qc p23:Int)∧yw.l23 r2 q23 x19 l17 l18=some r) _ ⟨[],a1.fValues,0,[],[],rfl,rfl,rfl,rfl,rfl,h⟩ (.t [0,2,3] false) ?_;rintro m L τ ⟨p23,q23,x19,l17,l18,rfl,rfl,rfl,hE23,hi23,h⟩
   rcases q23 with _|⟨y23,q23⟩
   · have hz23:=yy hE23 hi23;simp only[yw.l23] at h
     refine rg tok [8,9,42,43,44,45] fun K hK=>?_
     simp only[go_sem,qb,qa,hz23];apply hK
     refine za fun Z24 hZ24=>?_
     refine zn rfl ?_;apply zy;apply hZ16;refine rgN [4] ?_;apply yz;cases h;simp only[ZF,yP,yX,xO,exists_eq_left',go_sem,qd];refine⟨by decide,by simp,?_,?_⟩
     · first|rfl|(simp only[go_sem,qb,qg,qa,qd,qs,qH,reduceIte,reduceCtorEq,push_cast,if_true,qA,qq,qD,qw,qB,qM,qW,qS,qU,qQ,qy,zH]<;>rfl)
     first|rfl|(simp only[go_sem,push_cast,qw]<;>rfl)
   obtain⟨hz23,hw23,hx23,hE'23,hi'23⟩:=zX hE23 hi23 hb23;simp only[yw.l23] at h
   refine rg tok [8,9,42,43,44,45] fun K hK=>?_
   simp only[go_sem,qb,qa,hz23];apply hK
   refine za fun Z25 hZ25=>?_
   refine zo rfl ?_;apply zd;apply hZ25
   refine za fun Z26 hZ26=>?_
   apply ze;have f27:=E82.idxS hx23;have f28:=E82.loadS rfl rfl hx23
   refine rg tok [8,9,11,42,43,44] fun K hK=>?_
   simp only[go_sem,qb,qg,qa,qd,encGNamed,f27,f28];apply hK
   refine za fun Z29 hZ29=>?_
   apply ze
   refine rc [8,9,11,42,43,44,48] fun K hK=>?_
   obtain⟨r30,hr30,h⟩:=bind_some h;refine rnN 3 ?_;refine clN rfl rfl rfl (@id (ACalls qh 63 [.mp 1,.str y23.fName] [.map (wF AV.str AV.bool r2.2),.map (wF AV.str AV.bool l17),.map (wF (AV.int .i64) AV.bool l18),.cells 0 [.str y23.fName,.int .i64 y23.fN]] (fun r' σ'=>r'=.bool r30.1∧σ'=[.map (wF AV.str AV.bool r2.2),.map (wF AV.str AV.bool r30.2),.map (wF (AV.int .i64) AV.bool l18),.cells 0 [.str y23.fName,.int .i64 y23.fN]])) ((yi.ok l17 y23.fName r30 hr30).i [1])) ?_;refine rnN 2 ?_;refine nkN hK ?_;refine zm (b:=(!r30.1)) rfl (fun hc31=>?_) (fun hc31=>?_)
   · rw[if_pos hc31] at h;refine rgN [4] ?_;apply yz;cases h;simp only[ZF,yP,yX,xO,exists_eq_left',go_sem,qd];refine⟨by decide,by simp,?_,?_⟩
     · first|rfl|(simp only[go_sem,qb,qg,qa,qd,qs,qH,reduceIte,reduceCtorEq,push_cast,if_true,qA,qq,qD,qw,qB,qM,qW,qS,qU,qQ,qy,zH]<;>rfl)
     first|rfl|(simp only[go_sem,push_cast,qw]<;>rfl)
   rw[xQ hc31] at h
   refine rc [8,9,11,42,43,44,54] fun K hK=>?_
   refine rnN 4 ?_;refine zh 4 (fun L τ=>L=[(8,.mp 1),(9,.mp 2),(11,.op 3 0 0),(42,.ds true (qe encGNamed a1.fValues) (qc a1.fValues) false),(43,.int .i64 (qc a1.fValues:Int)),(44,.int .i64 x19),(62,.bool ((decide (y23.fN<0))||(decide (2147483647<y23.fN))))]∧τ=[.map (wF AV.str AV.bool r2.2),.map (wF AV.str AV.bool r30.2),.map (wF (AV.int .i64) AV.bool l18),.cells 0 [.str y23.fName,.int .i64 y23.fN]]) ?_ ?_
   · refine yG 58 rfl (fun hg58=>?_) (fun hg58=>?_)
     · have t32:=eq_true hg58;refine rnN 4 ?_;refine zb ⟨rfl,_,_,⟨rfl,rfl⟩,.p t32⟩
     have t33:=eq_false hg58;refine rnN 4 ?_;refine zb ⟨rfl,_,_,⟨rfl,rfl⟩,.p t33⟩
   rintro _ _ ⟨rfl,rfl⟩;refine rnN 1 ?_;refine zh 5 (fun L τ=>L=[(8,.mp 1),(9,.mp 2),(11,.op 3 0 0),(42,.ds true (qe encGNamed a1.fValues) (qc a1.fValues) false),(43,.int .i64 (qc a1.fValues:Int)),(44,.int .i64 x19),(68,.bool (((decide (y23.fN<0))||(decide (2147483647<y23.fN)))||((vaR l18 y23.fN).getD false)))]∧τ=[.map (wF AV.str AV.bool r2.2),.map (wF AV.str AV.bool r30.2),.map (wF (AV.int .i64) AV.bool l18),.cells 0 [.str y23.fName,.int .i64 y23.fN]]) ?_ ?_
   · refine zO (b:=((decide (y23.fN<0))||(decide (2147483647<y23.fN)))) 63 rfl (fun hg63=>?_) (fun hg63=>?_)
     · refine zj tok 5 ?_;simp only[go_sem,qb,qa,if_false,if_true];refine zb ⟨rfl,_,_,⟨rfl,rfl⟩,.b hg63⟩
     have f34:=fun (o0:Zr) (o1:Zr) (x:Store)=>vbo (T:=tab) (t:=161) (ek:=(AV.int .i64)) (ev:=AV.bool) (z:=false) (KeyE.int rfl rfl rfl rfl) rfl rfl rfl rfl l18 y23.fN false (o0::o1::.map (wF (AV.int .i64) AV.bool l18)::x) 2 rfl
     refine zj tok 5 ?_;simp only[go_sem,qb,qa,qd,XX,ue,if_false,if_true,f34];refine zb ⟨rfl,_,_,⟨rfl,rfl⟩,.b hg63⟩
   rintro _ _ ⟨rfl,rfl⟩;refine rnN 1 ?_;refine nkN hK ?_;refine zm (b:=(((decide (y23.fN<0))||(decide (2147483647<y23.fN)))||((vaR l18 y23.fN).getD false))) rfl (fun hc35=>?_) (fun hc35=>?_)
   · rw[if_pos hc35] at h;refine rgN [4] ?_;apply yz;cases h;simp only[ZF,yP,yX,xO,exists_eq_left',go_sem,qd];refine⟨by decide,by simp,?_,?_⟩
     · first|rfl|(simp only[go_sem,qb,qg,qa,qd,qs,qH,reduceIte,reduceCtorEq,push_cast,if_true,qA,qq,qD,qw,qB,qM,qW,qS,qU,qQ,qy,zH]<;>rfl)
     first|rfl|(simp only[go_sem,push_cast,qw]<;>rfl)
   rw[xQ hc35] at h;apply zd;apply hZ29
   have f36:=fun (o0:Zr) (o1:Zr) (x:Store)=>vbl (T:=tab) (t:=161) (ek:=(AV.int .i64)) (ev:=AV.bool) (KeyE.int rfl rfl rfl rfl) rfl rfl l18 y23.fN true (o0::o1::.map (wF (AV.int .i64) AV.bool l18)::x) 2 rfl
   refine rgE tok [8,9,42,43,44] fun K hK=>?_
   simp only[go_sem,qb,qa,qd,f36];apply hK
   apply hZ26
   refine rgE tok [8,9,42,43,44] fun K hK=>?_
   simp only[go_sem,qb,qa,hw23];apply hK
   exact⟨_,_,_,qt q23.length,⟨p23++[y23],q23,x19+1,r30.2,va0 l18 y23.fN true,rfl,rfl,rfl,hE'23,hi'23,h⟩,(.t [0,1,2] false)⟩
 obtain⟨hz12,hw12,hx12,hE'12,hi'12⟩:=zX hE12 hi12 hb12;simp only[yw.l12] at h
 refine rg tok [3,5,24,25,26,27] fun K hK=>?_
 simp only[go_sem,qb,qa,hz12];apply hK
 refine za fun Z37 hZ37=>?_
 refine zo rfl ?_;apply zd;apply hZ37
 refine za fun Z38 hZ38=>?_
 apply ze;have f39:=E82.idxS hx12;have f40:=E82.loadS rfl rfl hx12
 refine rg tok [3,5,7,24,25,26] fun K hK=>?_
 simp only[go_sem,qb,qg,qa,qd,encGNamed,f39,f40];apply hK
 refine rcE [3,5,24,25,26] fun K hK=>?_
 refine rnN 2 ?_;refine zh 4 (fun L τ=>L=[(3,.op 1 0 0),(5,.bool x8),(24,.ds true (qe encGNamed a1.fValues) (qc a1.fValues) false),(25,.int .i64 (qc a1.fValues:Int)),(26,.int .i64 x9),(35,.bool (x8||(decide (y12.fN=0))))]∧τ=[.map (wF AV.str AV.bool r2.2),.cells 0 (encGEnumeration a1),.cells 0 [.str y12.fName,.int .i64 y12.fN]]) ?_ ?_
 · refine zO (b:=x8) 31 rfl (fun hg31=>?_) (fun hg31=>?_)
   · refine rnN 4 ?_;refine zb ⟨rfl,_,_,⟨rfl,rfl⟩,.b hg31⟩
   refine rnN 4 ?_;refine zb ⟨rfl,_,_,⟨rfl,rfl⟩,.b hg31⟩
 rintro _ _ ⟨rfl,rfl⟩;refine rnN 1 ?_;refine nkN hK ?_;apply hZ38
 refine rgE tok [3,5,24,25,26] fun K hK=>?_
 simp only[go_sem,qb,qa,hw12];apply hK
 exact⟨_,_,_,qt q12.length,⟨p12++[y12],q12,x9+1,(x8||(decide (y12.fN=0))),rfl,rfl,rfl,hE'12,hi'12,h⟩,(.t [0,1] false)⟩
def zw.l29 (a0:GSchema):List GMethod→Int→List (List UInt8×Bool)→Option Int
 |[],x26,l25=>some 0
 |y29::q29,x26,l25=>bnd (zG a0 y29.fIn) fun r35=>bnd (zG a0 y29.fOut) fun r36=>(yi l25 y29.fName).bind fun r37=>(if (!r37.1)=true then some 6 else (if ((!r35.2)||(!r36.2))=true then some 8 else ((zw.l29 a0 q29) (x26+1) r37.2)))
def zw.l22 (a0:GSchema):List GEnumeration→Int→List (List UInt8×Bool)→Option Int
 |[],x19,l18=>(zw.l29 a0 a0.fMethods 0 [])
 |y22::q22,x19,l18=>(yw l18 y22).bind fun r44=>(if r44.1=0 then ((zw.l22 a0 q22) (x19+1) r44.2) else some r44.1)
def zw.l15 (a0:GSchema):List GMessage→Int→List (List UInt8×Bool)→Option Int
 |[],x12,l11=>(zw.l22 a0 a0.fEnums 0 l11)
 |y15::q15,x12,l11=>(zF a0 l11 y15).bind fun r52=>(if r52.1=0 then ((zw.l15 a0 q15) (x12+1) r52.2) else some r52.1)
def zw (a0:GSchema):Option Int:=
 (yF a0.fName).bind fun r2=>(if (!r2)=true then some 6 else (if (qc a0.fMessages:Int)=0 then some 12 else (if (((decide (10<(qc a0.fMessages:Int)))||(decide (6<(qc a0.fEnums:Int))))||(decide (6<(qc a0.fMethods:Int))))=true then some 4 else (zw.l15 a0 a0.fMessages 0 []))))
theorem zw.ok (a0:GSchema)(r:Int)(h:zw a0=some r):ACalls qh 39 [.agg (encGSchema a0)] [] (fun r' _=>r'=.int .i64 r):=by
 refine zf (rs:=[.tmp 2]) tok Tryz.func39 rfl Tryz.ntmps39 rfl Tryz.call39 (by simp) ?_;refine zl [(0,.agg (encGSchema a0))] ⟨rfl,trivial⟩ ?_;unfold zw at h
 refine rg tok [1] fun K hK=>?_
 simp only[go_sem,qb,qa,qd,reduceCtorEq,encGSchema];apply hK
 refine za fun Z1 hZ1=>?_
 apply ze
 refine rc [1,17] fun K hK=>?_
 obtain⟨r2,hr2,h⟩:=bind_some h;refine rnN 2 ?_;refine clN rfl rfl rfl (yF.ev a0.fName r2 hr2 _) ?_;refine rnN 2 ?_;refine nkN hK ?_;refine zm (b:=(!r2)) rfl (fun hc3=>?_) (fun hc3=>?_)
 · rw[if_pos hc3] at h;refine rgN [2] ?_;cases h;exact rtA
 rw[xQ hc3] at h;refine rgN [1,22] ?_;refine zx rfl (fun hc4=>?_) (fun hc4=>?_)
 · rw[if_pos hc4] at h;have t5:=eq_true hc4
   refine rg tok [2] fun K hK=>?_
   simp only[go_sem,qb,qa,t5];apply hK
   cases h;exact rtA
 rw[if_neg hc4] at h;have t6:=eq_false hc4
 refine rc [1,27] fun K hK=>?_
 refine zj tok 5 ?_;simp only[go_sem,qb,qa,qd,t6];refine zh 5 (fun L τ=>L=[(1,.op 0 0 0),(37,.bool ((decide (10<(qc a0.fMessages:Int)))||(decide (6<(qc a0.fEnums:Int)))))]∧τ=[.cells 0 (encGSchema a0)]) ?_ ?_
 · refine yG 32 rfl (fun hg32=>?_) (fun hg32=>?_)
   · have t7:=eq_true hg32;refine rnN 5 ?_;refine zb ⟨rfl,_,_,⟨rfl,rfl⟩,.p t7⟩
   have t8:=eq_false hg32;refine rnN 5 ?_;refine zb ⟨rfl,_,_,⟨rfl,rfl⟩,.p t8⟩
 rintro _ _ ⟨rfl,rfl⟩;refine rnN 1 ?_;refine zh 5 (fun L τ=>L=[(1,.op 0 0 0),(43,.bool (((decide (10<(qc a0.fMessages:Int)))||(decide (6<(qc a0.fEnums:Int))))||(decide (6<(qc a0.fMethods:Int)))))]∧τ=[.cells 0 (encGSchema a0)]) ?_ ?_
 · refine zO (b:=((decide (10<(qc a0.fMessages:Int)))||(decide (6<(qc a0.fEnums:Int))))) 38 rfl (fun hg38=>?_) (fun hg38=>?_)
   · refine rnN 5 ?_;refine zb ⟨rfl,_,_,⟨rfl,rfl⟩,.b hg38⟩
   refine rnN 5 ?_;refine zb ⟨rfl,_,_,⟨rfl,rfl⟩,.b hg38⟩
 rintro _ _ ⟨rfl,rfl⟩;refine rnN 1 ?_;refine nkN hK ?_;refine zm (b:=(((decide (10<(qc a0.fMessages:Int)))||(decide (6<(qc a0.fEnums:Int))))||(decide (6<(qc a0.fMethods:Int))))) rfl (fun hc9=>?_) (fun hc9=>?_)
 · rw[if_pos hc9] at h;refine rgN [2] ?_;cases h;exact rtA
 rw[xQ hc9] at h;apply zd;apply hZ1;refine rgN [1,3] ?_;refine zW (L:=[(1,.op 0 0 0),(3,.mp 1)]) (τ:=[.cells 0 (encGSchema a0),.map (wF AV.str AV.bool [])]) .s ?_
 refine za fun Z10 hZ10=>?_
 refine rgN [1,3,46,47,48] ?_;apply ze
 refine xj 46 fun hb15=>?_
 replace hb15:qc a0.fMessages≤9223372036854775807:=hb15.1;refine zq (fun m L τ=>∃ (p15 q15:List GMessage) (x12:Int) (l11:List (List UInt8×Bool)),m=qc q15∧L=[(1,.op 0 0 0),(3,.mp 1),(46,.ds true (qe encGMessage a0.fMessages) (qc a0.fMessages) false),(47,.int .i64 (qc a0.fMessages:Int)),(48,.int .i64 x12)]∧τ=[.cells 0 (encGSchema a0),.map (wF AV.str AV.bool l11)]∧a0.fMessages=p15++q15∧x12=(qc p15:Int)∧zw.l15 a0 q15 x12 l11=some r) _ ⟨[],a0.fMessages,0,[],rfl,rfl,rfl,rfl,rfl,h⟩ .s ?_;rintro m L τ ⟨p15,q15,x12,l11,rfl,rfl,rfl,hE15,hi15,h⟩
 rcases q15 with _|⟨y15,q15⟩
 · have hz15:=yy hE15 hi15;simp only[zw.l15] at h
   refine rg tok [1,3,46,47,48,49] fun K hK=>?_
   simp only[go_sem,qb,qa,hz15];apply hK
   refine za fun Z16 hZ16=>?_
   refine zn rfl ?_;apply zy;apply hZ10
   refine za fun Z17 hZ17=>?_
   refine rgN [1,3,61,62,63] ?_;apply ze
   refine xj 61 fun hb22=>?_
   replace hb22:qc a0.fEnums≤9223372036854775807:=hb22.1;refine zq (fun m L τ=>∃ (p22 q22:List GEnumeration) (x19:Int) (l18:List (List UInt8×Bool)),m=qc q22∧L=[(1,.op 0 0 0),(3,.mp 1),(61,.ds true (qe encGEnumeration a0.fEnums) (qc a0.fEnums) false),(62,.int .i64 (qc a0.fEnums:Int)),(63,.int .i64 x19)]∧τ=[.cells 0 (encGSchema a0),.map (wF AV.str AV.bool l18)]∧a0.fEnums=p22++q22∧x19=(qc p22:Int)∧zw.l22 a0 q22 x19 l18=some r) _ ⟨[],a0.fEnums,0,l11,rfl,rfl,rfl,rfl,rfl,h⟩ .s ?_;rintro m L τ ⟨p22,q22,x19,l18,rfl,rfl,rfl,hE22,hi22,h⟩
   rcases q22 with _|⟨y22,q22⟩
   · have hz22:=yy hE22 hi22;simp only[zw.l22] at h
     refine rg tok [1,3,61,62,63,64] fun K hK=>?_
     simp only[go_sem,qb,qa,hz22];apply hK
     refine za fun Z23 hZ23=>?_
     refine zn rfl ?_;apply zy;apply hZ17;refine rgN [1,10] ?_;refine zW (L:=[(1,.op 0 0 0),(10,.mp 2)]) (τ:=[.cells 0 (encGSchema a0),.map (wF AV.str AV.bool l18),.map (wF AV.str AV.bool [])]) .s ?_
     refine za fun Z24 hZ24=>?_
     refine rgN [1,10,76,77,78] ?_;apply ze
     refine xj 76 fun hb29=>?_
     replace hb29:qc a0.fMethods≤9223372036854775807:=hb29.1;refine zq (fun m L τ=>∃ (p29 q29:List GMethod) (x26:Int) (l25:List (List UInt8×Bool)),m=qc q29∧L=[(1,.op 0 0 0),(10,.mp 1),(76,.ds true (qe encGMethod a0.fMethods) (qc a0.fMethods) false),(77,.int .i64 (qc a0.fMethods:Int)),(78,.int .i64 x26)]∧τ=[.cells 0 (encGSchema a0),.map (wF AV.str AV.bool l25)]∧a0.fMethods=p29++q29∧x26=(qc p29:Int)∧zw.l29 a0 q29 x26 l25=some r) _ ⟨[],a0.fMethods,0,[],rfl,rfl,rfl,rfl,rfl,h⟩ (.t [0,2] false) ?_;rintro m L τ ⟨p29,q29,x26,l25,rfl,rfl,rfl,hE29,hi29,h⟩
     rcases q29 with _|⟨y29,q29⟩
     · have hz29:=yy hE29 hi29;simp only[zw.l29] at h
       refine rg tok [1,10,76,77,78,79] fun K hK=>?_
       simp only[go_sem,qb,qa,hz29];apply hK
       refine za fun Z30 hZ30=>?_
       refine zn rfl ?_;apply zy;apply hZ24;refine rgN [2] ?_;cases h;exact rtA
     obtain⟨hz29,hw29,hx29,hE'29,hi'29⟩:=zX hE29 hi29 hb29;simp only[zw.l29] at h
     refine rg tok [1,10,76,77,78,79] fun K hK=>?_
     simp only[go_sem,qb,qa,hz29];apply hK
     refine za fun Z31 hZ31=>?_
     refine zo rfl ?_;apply zd;apply hZ31
     refine za fun Z32 hZ32=>?_
     apply ze;have f33:=E24.idxS hx29;have f34:=E24.loadS rfl rfl hx29
     refine rg tok [1,10,12,76,77,78] fun K hK=>?_
     simp only[go_sem,qb,qg,qa,qd,encGMethod,f33,f34];apply hK
     refine rc [1,10,12,14,76,77,78] fun K hK=>?_
     obtain⟨r35,hr35,h⟩:=zS h;refine rnN 3 ?_;refine clN rfl rfl rfl (zG.ev a0 y29.fIn r35 hr35 _) ?_;refine zj tok 6 ?_;simp only[go_sem,qb,qg,qa,qd,encGMessage];refine nkN hK ?_
     refine rc [1,10,12,14,16,76,77,78] fun K hK=>?_
     obtain⟨r36,hr36,h⟩:=zS h;refine rnN 3 ?_;refine clN rfl rfl rfl (zG.ev a0 y29.fOut r36 hr36 _) ?_;refine zj tok 6 ?_;simp only[go_sem,qb,qg,qa,qd,encGMessage];refine nkN hK ?_;apply ze
     refine rc [1,10,14,16,76,77,78,96] fun K hK=>?_
     obtain⟨r37,hr37,h⟩:=bind_some h;refine rnN 3 ?_;refine clN rfl rfl rfl (@id (ACalls qh 63 [.mp 1,.str y29.fName] [.cells 0 (encGSchema a0),.map (wF AV.str AV.bool l25),.cells 0 [.str y29.fName,.str y29.fIn,.str y29.fOut],.cells 0 (encGMessage r35.1),.cells 0 (encGMessage r36.1)] (fun r' σ'=>r'=.bool r37.1∧σ'=[.cells 0 (encGSchema a0),.map (wF AV.str AV.bool r37.2),.cells 0 [.str y29.fName,.str y29.fIn,.str y29.fOut],.cells 0 (encGMessage r35.1),.cells 0 (encGMessage r36.1)])) ((yi.ok l25 y29.fName r37 hr37).i [1])) ?_;refine rnN 2 ?_;refine nkN hK ?_;refine zm (b:=(!r37.1)) rfl (fun hc38=>?_) (fun hc38=>?_)
     · rw[if_pos hc38] at h;refine rgN [2] ?_;cases h;exact rtA
     rw[xQ hc38] at h
     refine rc [1,10,76,77,78,102] fun K hK=>?_
     refine rnN 3 ?_;refine zh 3 (fun L τ=>L=[(1,.op 0 0 0),(10,.mp 1),(76,.ds true (qe encGMethod a0.fMethods) (qc a0.fMethods) false),(77,.int .i64 (qc a0.fMethods:Int)),(78,.int .i64 x26),(108,.bool ((!r35.2)||(!r36.2)))]∧τ=[.cells 0 (encGSchema a0),.map (wF AV.str AV.bool r37.2),.cells 0 [.str y29.fName,.str y29.fIn,.str y29.fOut],.cells 0 (encGMessage r35.1),.cells 0 (encGMessage r36.1)]) ?_ ?_
     · refine zO (b:=(!r35.2)) 105 rfl (fun hg105=>?_) (fun hg105=>?_)
       · refine rnN 3 ?_;refine zb ⟨rfl,_,_,⟨rfl,rfl⟩,.b hg105⟩
       refine rnN 3 ?_;refine zb ⟨rfl,_,_,⟨rfl,rfl⟩,.b hg105⟩
     rintro _ _ ⟨rfl,rfl⟩;refine rnN 1 ?_;refine nkN hK ?_;refine zm (b:=((!r35.2)||(!r36.2))) rfl (fun hc39=>?_) (fun hc39=>?_)
     · rw[if_pos hc39] at h;refine rgN [2] ?_;cases h;exact rtA
     rw[xQ hc39] at h;apply zd;apply hZ32
     refine rgE tok [1,10,76,77,78] fun K hK=>?_
     simp only[go_sem,qb,qa,hw29];apply hK
     exact⟨_,_,_,qt q29.length,⟨p29++[y29],q29,x26+1,r37.2,rfl,rfl,rfl,hE'29,hi'29,h⟩,(.t [0,1] false)⟩
   obtain⟨hz22,hw22,hx22,hE'22,hi'22⟩:=zX hE22 hi22 hb22;simp only[zw.l22] at h
   refine rg tok [1,3,61,62,63,64] fun K hK=>?_
   simp only[go_sem,qb,qa,hz22];apply hK
   refine za fun Z40 hZ40=>?_
   refine zo rfl ?_;apply zd;apply hZ40
   refine za fun Z41 hZ41=>?_
   apply ze;have f42:=E23.idxS hx22;have f43:=E23.loadS rfl rfl hx22
   refine rg tok [1,3,8,61,62,63] fun K hK=>?_
   simp only[go_sem,qb,qg,qa,qd,encGEnumeration,f42,f43];apply hK
   refine rc [1,3,9,61,62,63] fun K hK=>?_
   obtain⟨r44,hr44,h⟩:=bind_some h;refine rnN 2 ?_;refine clN rfl rfl rfl (@id (ACalls qh 62 [.mp 1,.agg (encGEnumeration y22)] [.cells 0 (encGSchema a0),.map (wF AV.str AV.bool l18),.cells 0 (encGEnumeration y22)] (fun r' σ'=>r'=.int .i64 r44.1∧σ'=[.cells 0 (encGSchema a0),.map (wF AV.str AV.bool r44.2),.cells 0 (encGEnumeration y22)])) ((yw.ok l18 y22 r44 hr44).i [1])) ?_;refine rnN 1 ?_;refine nkN hK ?_;refine rgN [1,3,9,61,62,63,71] ?_;refine zx rfl (fun hc45=>?_) (fun hc45=>?_)
   · rw[if_neg hc45] at h;have t46:=eq_false hc45
     refine rg tok [2] fun K hK=>?_
     simp only[go_sem,qb,qa,t46];apply hK
     cases h;exact rtA
   rw[if_pos hc45] at h;have t47:=eq_true hc45;apply zd;apply hZ41
   refine rgE tok [1,3,61,62,63] fun K hK=>?_
   simp only[go_sem,qb,qa,hw22,t47];apply hK
   exact⟨_,_,_,qt q22.length,⟨p22++[y22],q22,x19+1,r44.2,rfl,rfl,rfl,hE'22,hi'22,h⟩,(.t [0,1] false)⟩
 obtain⟨hz15,hw15,hx15,hE'15,hi'15⟩:=zX hE15 hi15 hb15;simp only[zw.l15] at h
 refine rg tok [1,3,46,47,48,49] fun K hK=>?_
 simp only[go_sem,qb,qa,hz15];apply hK
 refine za fun Z48 hZ48=>?_
 refine zo rfl ?_;apply zd;apply hZ48
 refine za fun Z49 hZ49=>?_
 apply ze;have f50:=E22.idxS hx15;have f51:=E22.loadS rfl rfl hx15
 refine rg tok [1,3,5,46,47,48] fun K hK=>?_
 simp only[go_sem,qb,qg,qa,qd,encGMessage,f50,f51];apply hK
 refine rc [1,3,6,46,47,48] fun K hK=>?_
 obtain⟨r52,hr52,h⟩:=bind_some h;refine rnN 3 ?_;refine clN rfl rfl rfl (@id (ACalls qh 61 [.agg (encGSchema a0),.mp 1,.agg (encGMessage y15)] [.cells 0 (encGSchema a0),.map (wF AV.str AV.bool l11),.cells 0 (encGMessage y15)] (fun r' σ'=>r'=.int .i64 r52.1∧σ'=[.cells 0 (encGSchema a0),.map (wF AV.str AV.bool r52.2),.cells 0 (encGMessage y15)])) ((zF.ok a0 l11 y15 r52 hr52).i [1])) ?_;refine rnN 1 ?_;refine nkN hK ?_;refine rgN [1,3,6,46,47,48,57] ?_;refine zx rfl (fun hc53=>?_) (fun hc53=>?_)
 · rw[if_neg hc53] at h;have t54:=eq_false hc53
   refine rg tok [2] fun K hK=>?_
   simp only[go_sem,qb,qa,t54];apply hK
   cases h;exact rtA
 rw[if_pos hc53] at h;have t55:=eq_true hc53;apply zd;apply hZ49
 refine rgE tok [1,3,46,47,48] fun K hK=>?_
 simp only[go_sem,qb,qa,hw15,t55];apply hK
 exact⟨_,_,_,qt q15.length,⟨p15++[y15],q15,x12+1,r52.2,rfl,rfl,rfl,hE'15,hi'15,h⟩,(.t [0,1] false)⟩
theorem zw.ev (a0:GSchema)(r:Int)(h:zw a0=some r)(σ:Store):ACalls qh 39 [.agg (encGSchema a0)] σ (fun r' σ'=>r'=.int .i64 r∧σ'=σ):=
 (zw.ok a0 r h).c σ
def yL (a0:GSchema)(a1:List UInt8)(a2:List UInt8):Option (GTree×Int):=
 (zw a0).bind fun r2=>(if r2=0 then bnd (zG a0 a1) fun r6=>(if (!r6.2)=true then some ((⟨0,0,[],([]:List GEntry),([]:List GRaw)⟩:GTree),14) else (zz rounds a0 r6.1 a2 1).bind fun r9=>some (r9.1,r9.2)) else some ((⟨0,0,[],([]:List GEntry),([]:List GRaw)⟩:GTree),1))
theorem yL.ok (a0:GSchema)(a1:List UInt8)(a2:List UInt8)(r:GTree×Int)(h:yL a0 a1 a2=some r):ACalls qh 16 [.agg (encGSchema a0),.str a1,.ds true (qe encB a2) (qc a2) false] [] (fun r' _=>r'=.tup [.agg (cellsGTree r.1),.int .i64 r.2]):=by
 refine zf (rs:=[.cell 6 30,.tmp 7]) tok Tryz.func16 rfl Tryz.ntmps16 rfl Tryz.call16 (by simp) ?_;refine zl [(0,.agg (encGSchema a0)),(1,.str a1),(2,.ds true (qe encB a2) (qc a2) false)] ⟨rfl,rfl,rfl,trivial⟩ ?_;unfold yL at h
 refine rg tok [1,2,3,6] fun K hK=>?_
 simp only[go_sem,qb,qa,qd,reduceCtorEq,encGSchema];apply hK
 refine za fun Z1 hZ1=>?_
 refine rc [1,2,3,6,12] fun K hK=>?_
 obtain⟨r2,hr2,h⟩:=bind_some h;refine rnN 1 ?_;refine clN rfl rfl rfl (zw.ev a0 r2 hr2 _) ?_;refine rnN 1 ?_;refine nkN hK ?_;refine zx rfl (fun hc3=>?_) (fun hc3=>?_)
 · rw[if_neg hc3] at h;have t4:=eq_false hc3
   refine rg tok [6,7] fun K hK=>?_
   simp only[go_sem,qb,qg,qa,qd,t4];apply hK
   cases h;exact rtA
 rw[if_pos hc3] at h;have t5:=eq_true hc3;apply zd;apply hZ1
 refine rc [2,3,6,8,9] fun K hK=>?_
 obtain⟨r6,hr6,h⟩:=zS h;refine zj tok 2 ?_;simp only[go_sem,qb,qg,qa,qd,t5];refine clN rfl rfl rfl (zG.ev a0 a1 r6 hr6 _) ?_;refine zj tok 6 ?_;simp only[go_sem,qb,qg,qa,qd,encGMessage];refine nkN hK ?_
 refine za fun Z7 hZ7=>?_
 refine rgN [2,3,6,8,21] ?_;refine zm (b:=(!r6.2)) rfl (fun hc8=>?_) (fun hc8=>?_)
 · rw[if_pos hc8] at h;refine rgN [6,7] ?_;cases h;exact rtA
 rw[xQ hc8] at h;apply zd;apply hZ7
 refine rc [6,7] fun K hK=>?_
 obtain⟨r9,hr9,h⟩:=bind_some h;refine rnN 3 ?_;refine clN rfl rfl rfl (zz.ev rounds a0 r6.1 a2 1 r9 hr9 _) ?_;refine zj tok 4 ?_;simp only[go_sem,qb,qg,qa,qd,cellsGTree];refine nkN hK ?_;cases h;exact rtA
theorem yL.ev (a0:GSchema)(a1:List UInt8)(a2:List UInt8)(r:GTree×Int)(h:yL a0 a1 a2=some r)(σ:Store):ACalls qh 16 [.agg (encGSchema a0),.str a1,.ds true (qe encB a2) (qc a2) false] σ (fun r' σ'=>r'=.tup [.agg (cellsGTree r.1),.int .i64 r.2]∧σ'=σ):=
 (yL.ok a0 a1 a2 r h).c σ
def zY.l20 (y7:GTree→Int→Option Int)(a1:Int)(x7:Int)(rec10:Int→Int→Option Int):List GTree→Int→Int→Option Int
 |[],x17,x16=>(rec10 (x7+1) x16)
 |y20::q20,x17,x16=>(y7 y20 (IntKind.i64.wrap (a1-1))).bind fun r26=>((zY.l20 y7 a1 x7 rec10 q20) (x17+1) (if x16<r26 then r26 else x16))
def zY.l10 (y7:GTree→Int→Option Int)(a1:Int):List GEntry→Int→Int→Option Int
 |[],x7,x6=>some (IntKind.i64.wrap (x6+1))
 |y10::q10,x7,x6=>(zY.l20 y7 a1 x7 (zY.l10 y7 a1 q10) y10.fTrees 0 x6)
def zY.body (y7:GTree→Int→Option Int)(a0:GTree)(a1:Int):Option Int:=
 (if ((!(decide (a0.fKind=3)))||(decide (a1=0)))=true then some 0 else (zY.l10 y7 a1 a0.fEntries 0 0))
theorem zY.step (y7:GTree→Int→Option Int)(ih_value_deep:∀ (a0:GTree) (a1:Int) (r:Int),y7 a0 a1=some r→ACalls qh 152 [.agg (cellsGTree a0),.int .i64 a1] [] (fun r' _=>r'=.int .i64 r))(a0:GTree)(a1:Int)(r:Int)(h:zY.body y7 a0 a1=some r):ACalls qh 152 [.agg (cellsGTree a0),.int .i64 a1] [] (fun r' _=>r'=.int .i64 r):=by
 have ev_value_deep:=fun a0 a1 r h σ=>(ih_value_deep a0 a1 r h).c σ
 refine zf (rs:=[.tmp 4]) tok Tryz.func152 rfl Tryz.ntmps152 rfl Tryz.call152 (by simp) ?_;refine zl [(0,.agg (cellsGTree a0)),(1,.int .i64 a1)] ⟨rfl,rfl,trivial⟩ ?_;unfold zY.body at h
 refine rg tok [1,2] fun K hK=>?_
 simp only[go_sem,qb,qa,qd,reduceCtorEq,cellsGTree];apply hK
 refine za fun Z1 hZ1=>?_
 refine rc [1,2,16] fun K hK=>?_
 refine rnN 4 ?_;refine zh 3 (fun L τ=>L=[(1,.int .i64 a1),(2,.op 0 0 0),(16,.bool ((!(decide (a0.fKind=3)))||(decide (a1=0))))]∧τ=[.cells 0 (cellsGTree a0)]) ?_ ?_
 · refine yG 13 rfl (fun hg13=>?_) (fun hg13=>?_)
   · have t2:=eq_false hg13;refine rnN 3 ?_;refine zb ⟨rfl,_,_,⟨rfl,rfl⟩,.p t2⟩
   have t3:=eq_true hg13;refine rnN 3 ?_;refine zb ⟨rfl,_,_,⟨rfl,rfl⟩,.p t3⟩
 rintro _ _ ⟨rfl,rfl⟩;refine nkN hK ?_;refine zm (b:=((!(decide (a0.fKind=3)))||(decide (a1=0)))) rfl (fun hc4=>?_) (fun hc4=>?_)
 · rw[if_pos hc4] at h;refine rgN [4] ?_;cases h;exact rtA
 rw[xQ hc4] at h;apply zd;apply hZ1;refine rgN [1,2,5] ?_
 refine za fun Z5 hZ5=>?_
 refine rgN [1,5,18,19,20] ?_;apply ze
 refine xj 18 fun hb10=>?_
 replace hb10:qc a0.fEntries≤9223372036854775807:=hb10.1;refine zq (fun m L τ=>∃ (p10 q10:List GEntry) (x7:Int) (x6:Int),m=qc q10∧L=[(1,.int .i64 a1),(5,.int .i64 x6),(18,.ds true (qe encGEntry a0.fEntries) (qc a0.fEntries) false),(19,.int .i64 (qc a0.fEntries:Int)),(20,.int .i64 x7)]∧τ=[]∧a0.fEntries=p10++q10∧x7=(qc p10:Int)∧zY.l10 y7 a1 q10 x7 x6=some r) _ ⟨[],a0.fEntries,0,0,rfl,rfl,rfl,rfl,rfl,h⟩ (.t [] false) ?_;rintro m L τ ⟨p10,q10,x7,x6,rfl,rfl,rfl,hE10,hi10,h⟩
 rcases q10 with _|⟨y10,q10⟩
 · have hz10:=yy hE10 hi10;simp only[zY.l10] at h
   refine rg tok [1,5,18,19,20,21] fun K hK=>?_
   simp only[go_sem,qb,qa,hz10];apply hK
   refine za fun Z11 hZ11=>?_
   refine zn rfl ?_;apply zy;apply hZ5;refine rgN [4] ?_;cases h;exact rtA
 obtain⟨hz10,hw10,hx10,hE'10,hi'10⟩:=zX hE10 hi10 hb10;simp only[zY.l10] at h
 refine rg tok [1,5,18,19,20,21] fun K hK=>?_
 simp only[go_sem,qb,qa,hz10];apply hK
 refine za fun Z12 hZ12=>?_
 refine zo rfl ?_;apply zd;apply hZ12
 refine za fun Z13 hZ13=>?_
 apply ze;have f14:=E27.idxS hx10;have f15:=E27.loadS rfl rfl hx10
 refine rg tok [1,5,7,18,19,20] fun K hK=>?_
 simp only[go_sem,qb,qg,qa,qd,cellsGEntry,zU,f14,f15];apply hK
 refine rgN [1,5,18,19,20,25,26,27] ?_;apply ze
 refine xj 25 fun hb20=>?_
 replace hb20:qc y10.fTrees≤9223372036854775807:=hb20.1;refine zq (fun m L τ=>∃ (p20 q20:List GTree) (x17:Int) (x16:Int),m=qc q20∧L=[(1,.int .i64 a1),(5,.int .i64 x16),(18,.ds true (qe encGEntry a0.fEntries) (qc a0.fEntries) false),(19,.int .i64 (qc a0.fEntries:Int)),(20,.int .i64 x7),(25,.ds true (qe encGTree y10.fTrees) (qc y10.fTrees) false),(26,.int .i64 (qc y10.fTrees:Int)),(27,.int .i64 x17)]∧τ=[]∧y10.fTrees=p20++q20∧x17=(qc p20:Int)∧zY.l20 y7 a1 x7 (zY.l10 y7 a1 q10) q20 x17 x16=some r) _ ⟨[],y10.fTrees,0,x6,rfl,rfl,rfl,rfl,rfl,h⟩ (.t [] false) ?_;rintro m L τ ⟨p20,q20,x17,x16,rfl,rfl,rfl,hE20,hi20,h⟩
 rcases q20 with _|⟨y20,q20⟩
 · have hz20:=yy hE20 hi20;simp only[zY.l20] at h
   refine rg tok [1,5,18,19,20,25,26,27,28] fun K hK=>?_
   simp only[go_sem,qb,qa,hz20];apply hK
   refine za fun Z21 hZ21=>?_
   refine zn rfl ?_;apply zy;apply hZ13
   refine rgE tok [1,5,18,19,20] fun K hK=>?_
   simp only[go_sem,qb,qa,hw10];apply hK
   exact⟨_,_,_,qt q10.length,⟨p10++[y10],q10,x7+1,x16,rfl,rfl,rfl,hE'10,hi'10,h⟩,.s⟩
 obtain⟨hz20,hw20,hx20,hE'20,hi'20⟩:=zX hE20 hi20 hb20;simp only[zY.l20] at h
 refine rg tok [1,5,18,19,20,25,26,27,28] fun K hK=>?_
 simp only[go_sem,qb,qa,hz20];apply hK
 refine za fun Z22 hZ22=>?_
 refine zo rfl ?_;apply zd;apply hZ22
 refine za fun Z23 hZ23=>?_
 apply ze;have f24:=E90.idxS hx20;have f25:=E90.loadS rfl rfl hx20
 refine rg tok [1,5,9,18,19,20,25,26,27] fun K hK=>?_
 simp only[go_sem,qb,qg,qa,qd,cellsGTree,yV,f24,f25];apply hK
 refine rcE [1,5,18,19,20,25,26,27] fun K hK=>?_
 obtain⟨r26,hr26,h⟩:=bind_some h;refine rnN 4 ?_;refine clN rfl rfl rfl (ev_value_deep y20 (IntKind.i64.wrap (a1-1)) r26 hr26 _) ?_;refine zj tok 2 ?_;simp only[go_sem,qb,qa,vb8,foldO,evMax2];refine nkN hK ?_;apply hZ23
 refine rgE tok [1,5,18,19,20,25,26,27] fun K hK=>?_
 simp only[go_sem,qb,qa,hw20];apply hK
 exact⟨_,_,_,qt q20.length,⟨p20++[y20],q20,x17+1,(if x16<r26 then r26 else x16),rfl,rfl,rfl,hE'20,hi'20,h⟩,(.t [] false)⟩
def zY : Nat→GTree→Int→Option Int
 |0,_,_=>none
 |k+1,a0,a1=>zY.body (zY k) a0 a1
theorem zY.all (k:Nat):(∀ (a0:GTree) (a1:Int) (r:Int),zY k a0 a1=some r→ACalls qh 152 [.agg (cellsGTree a0),.int .i64 a1] [] (fun r' _=>r'=.int .i64 r)):=by
 induction k with
 |zero=>exact (fun a0 a1 r h=>by simp only[zY] at h; cases h)
 |succ k ih=>exact (fun a0 a1 r h=>zY.step _ ih a0 a1 r (by simpa only [zY] using h))
theorem zY.ev (k:Nat)(a0:GTree)(a1:Int)(r:Int)(h:zY k a0 a1=some r)(σ:Store):ACalls qh 152 [.agg (cellsGTree a0),.int .i64 a1] σ (fun r' σ'=>r'=.int .i64 r∧σ'=σ):=
 ((zY.all k) a0 a1 r h).c σ
def wH (a0:GTree):Option Int:=
 (zY rounds a0 101).bind fun r1=>some r1
theorem wH.ok (a0:GTree)(r:Int)(h:wH a0=some r):ACalls qh 131 [.agg (cellsGTree a0)] [] (fun r' _=>r'=.int .i64 r):=by
 refine zf (rs:=[.tmp 2]) tok Tryz.func131 rfl Tryz.ntmps131 rfl Tryz.call131 (by simp) ?_;refine zl [(0,.agg (cellsGTree a0))] ⟨rfl,trivial⟩ ?_;unfold wH at h
 refine rg tok [1] fun K hK=>?_
 simp only[go_sem,qb,qa,qd,reduceCtorEq,cellsGTree];apply hK
 refine rc [2] fun K hK=>?_
 obtain⟨r1,hr1,h⟩:=bind_some h;refine rnN 1 ?_;refine clN rfl rfl rfl (zY.ev rounds a0 101 r1 hr1 _) ?_;refine rnN 1 ?_;refine nkN hK ?_;cases h;exact rtA
end
section
set_option maxRecDepth 4000
set_option maxHeartbeats 1000000
open AM
theorem wH.ev (a0:GTree)(r:Int)(h:wH a0=some r)(σ:Store):ACalls qh 131 [.agg (cellsGTree a0)] σ (fun r' σ'=>r'=.int .i64 r∧σ'=σ):=
 (wH.ok a0 r h).c σ
def yn (a0:GRaw):Bool:=
 (if ((decide (a0.fTag<1))||(decide (500<a0.fTag)))=true then false else (if a0.fWire=0 then decide (a0.fB=[]) else (if a0.fWire=1 then ((decide (a0.fN=0))&&(decide ((qc a0.fB:Int)≤4096))) else false)))
theorem yn.ok (a0:GRaw)(r:Bool)(h:yn a0=r):ACalls qh 51 [.agg (encGRaw a0)] [] (fun r' _=>r'=.bool r):=by
 refine zf (rs:=[.tmp 2]) tok Tryz.func51 rfl Tryz.ntmps51 rfl Tryz.call51 (by simp) ?_;refine zl [(0,.agg (encGRaw a0))] ⟨rfl,trivial⟩ ?_;unfold yn at h
 refine rg tok [1] fun K hK=>?_
 simp only[go_sem,qb,qa,qd,reduceCtorEq,encGRaw];apply hK
 refine za fun Z1 hZ1=>?_
 refine rc [1,10] fun K hK=>?_
 refine rnN 4 ?_;refine zh 4 (fun L τ=>L=[(1,.op 0 0 0),(10,.bool ((decide (a0.fTag<1))||(decide (500<a0.fTag))))]∧τ=[.cells 0 [.int .i64 a0.fTag,.int .i64 a0.fWire,.int .i64 a0.fN,.str a0.fB]]) ?_ ?_
 · refine yG 6 rfl (fun hg6=>?_) (fun hg6=>?_)
   · have t2:=eq_true hg6;refine rnN 4 ?_;refine zb ⟨rfl,_,_,⟨rfl,rfl⟩,.p t2⟩
   have t3:=eq_false hg6;refine rnN 4 ?_;refine zb ⟨rfl,_,_,⟨rfl,rfl⟩,.p t3⟩
 rintro _ _ ⟨rfl,rfl⟩;refine nkN hK ?_;refine zm (b:=((decide (a0.fTag<1))||(decide (500<a0.fTag)))) rfl (fun hc4=>?_) (fun hc4=>?_)
 · rw[if_pos hc4] at h;refine rgN [2] ?_;cases h;exact rtA
 rw[xQ hc4] at h;apply zd;apply hZ1
 refine za fun Z5 hZ5=>?_
 refine rgN [1,12] ?_;apply ze;refine rgN [1,12,13] ?_;refine zx rfl (fun hc6=>?_) (fun hc6=>?_)
 · rw[if_pos hc6] at h;have t7:=eq_true hc6
   refine rg tok [2] fun K hK=>?_
   simp only[go_sem,qb,qa,qd,t7];apply hK
   cases h;exact rtA
 rw[if_neg hc6] at h;have t8:=eq_false hc6
 refine rg tok [1,18] fun K hK=>?_
 simp only[go_sem,qb,qa,t8];apply hK
 refine zx rfl (fun hc9=>?_) (fun hc9=>?_)
 · rw[if_pos hc9] at h;have t10:=eq_true hc9
   refine rc [2] fun K hK=>?_
   refine zj tok 4 ?_;simp only[go_sem,qb,qa,qd,t10];refine zh 5 (fun L τ=>L=[(28,.bool ((decide (a0.fN=0))&&(decide ((qc a0.fB:Int)≤4096))))]∧τ=[.cells 0 [.int .i64 a0.fTag,.int .i64 a0.fWire,.int .i64 a0.fN,.str a0.fB]]) ?_ ?_
   · refine yG 23 rfl (fun hg23=>?_) (fun hg23=>?_)
     · have t11:=eq_true hg23;refine rnN 5 ?_;refine zb ⟨rfl,_,_,⟨rfl,rfl⟩,.p t11⟩
     have t12:=eq_false hg23;refine rnN 5 ?_;refine zb ⟨rfl,_,_,⟨rfl,rfl⟩,.p t12⟩
   rintro _ _ ⟨rfl,rfl⟩;refine rnN 1 ?_;refine nkN hK ?_;cases h;exact rtA
 rw[if_neg hc9] at h;have t13:=eq_false hc9;apply zd;apply hZ5
 refine rg tok [2] fun K hK=>?_
 simp only[go_sem,qb,qa,t13];apply hK
 cases h;exact rtA
theorem yn.ev (a0:GRaw)(r:Bool)(h:yn a0=r)(σ:Store):ACalls qh 51 [.agg (encGRaw a0)] σ (fun r' σ'=>r'=.bool r∧σ'=σ):=
 (yn.ok a0 r h).c σ
def y0.l4 (a0:List GRaw):Nat→Int→Option Bool
 |0,_=>none
 |k4+1,x2=>(if x2<(qc a0:Int) then (Zd a0 x2).bind fun y9=>(Zd a0 (IntKind.i64.wrap (x2-1))).bind fun y12=>(if y9.fTag<y12.fTag then some false else ((y0.l4 a0 k4) (IntKind.i64.wrap (x2+1)))) else some true)
def y0 (a0:List GRaw):Option Bool:=
 (y0.l4 a0 rounds 1)
theorem y0.ok (a0:List GRaw)(r:Bool)(h:y0 a0=some r):ACalls qh 159 [.ds true (qe encGRaw a0) (qc a0) false] [] (fun r' _=>r'=.bool r):=by
 refine zf (rs:=[.tmp 2]) tok Tryz.func159 rfl Tryz.ntmps159 rfl Tryz.call159 (by simp) ?_;refine zl [(0,.ds true (qe encGRaw a0) (qc a0) false)] ⟨rfl,trivial⟩ ?_;unfold y0 at h;refine rgN [0] ?_
 refine za fun Z1 hZ1=>?_
 refine rgN [0,3] ?_;apply ze;refine zq (fun m L τ=>∃ (k4:Nat) (x2:Int),m=0+k4∧L=[(0,.ds true (qe encGRaw a0) (qc a0) false),(3,.int .i64 x2)]∧τ=[]∧y0.l4 a0 k4 x2=some r) _ ⟨rounds,1,rfl,rfl,rfl,h⟩ .s ?_;rintro m L τ ⟨k4,x2,rfl,rfl,rfl,h⟩
 rcases k4 with _|k4
 · cases h
 simp only[y0.l4] at h
 refine za fun Z5 hZ5=>?_
 refine rgN [0,3,7] ?_;refine zx rfl (fun hc6=>?_) (fun hc6=>?_)
 · rw[if_pos hc6] at h;have t7:=eq_true hc6;apply zd;apply hZ5
   refine za fun Z8 hZ8=>?_
   apply ze;obtain⟨y9,hy9,h⟩:=bind_some h;have f10:=E28.idxS hy9;have f11:=E28.fldS0 (f:=3) rfl rfl hy9;obtain⟨y12,hy12,h⟩:=bind_some h;have f13:=E28.idxS hy12;have f14:=E28.fldS0 (f:=3) rfl rfl hy12
   refine rd [0,3,21] fun K hK=>?_
   refine DW.start (T:=tab) [.any,.any,.any,.any,.at [],.any,.any,.any,.any,.any,.at [],.any] [] ?_;refine DW.runN tok 8 ?_;simp only[go_sem,qb,qa,reduceCtorEq,encGRaw,t7,f10,f11];refine DW.runN tok 4 ?_;simp only[go_sem,qb,qa,reduceCtorEq,encGRaw,f13,f14];refine DW.fin tok (by decide +kernel) rfl ?_;simp only[zi,upd,qa,reduceIte,yp,yY];apply hK
   refine zx rfl (fun hc15=>?_) (fun hc15=>?_)
   · rw[if_pos hc15] at h;have t16:=eq_true hc15
     refine rg tok [2] fun K hK=>?_
     simp only[go_sem,qb,qa,reduceCtorEq,t16];apply hK
     cases h;exact rtA
   rw[if_neg hc15] at h;have t17:=eq_false hc15;apply zd;apply hZ8
   refine rgE tok [0,3] fun K hK=>?_
   simp only[go_sem,qb,qa,reduceCtorEq,t17];apply hK
   exact⟨_,_,_,qt (0+k4),⟨k4,IntKind.i64.wrap (x2+1),rfl,rfl,rfl,h⟩,.s⟩
 rw[if_neg hc6] at h;have t18:=eq_false hc6;apply zy;apply hZ1
 refine rg tok [2] fun K hK=>?_
 simp only[go_sem,qb,qa,reduceCtorEq,t18];apply hK
 cases h;exact rtA
theorem y0.ev (a0:List GRaw)(r:Bool)(h:y0 a0=some r)(σ:Store):ACalls qh 159 [.ds true (qe encGRaw a0) (qc a0) false] σ (fun r' σ'=>r'=.bool r∧σ'=σ):=
 (y0.ok a0 r h).c σ
def yI.l16 (x2:Int)(rec4:Int→Option Bool)(y4:GRaw):List GEntry→Int→Option Bool
 |[],x14=>(rec4 (x2+1))
 |y16::q16,x14=>(if y16.fTag=y4.fTag then some false else ((yI.l16 x2 rec4 y4 q16) (x14+1)))
def yI.l4 (a0:GTree):List GRaw→Int→Option Bool
 |[],x2=>(y0 a0.fRest).bind fun r6=>some r6
 |y4::q4,x2=>bnd (yn y4) fun r12=>(if (!r12)=true then some false else (yI.l16 x2 (yI.l4 a0 q4) y4 a0.fEntries 0))
def yI (a0:GTree):Option Bool:=
 (yI.l4 a0 a0.fRest 0)
theorem yI.ok (a0:GTree)(r:Bool)(h:yI a0=some r):ACalls qh 154 [.agg (cellsGTree a0)] [] (fun r' _=>r'=.bool r):=by
 refine zf (rs:=[.tmp 2]) tok Tryz.func154 rfl Tryz.ntmps154 rfl Tryz.call154 (by simp) ?_;refine zl [(0,.agg (cellsGTree a0))] ⟨rfl,trivial⟩ ?_;unfold yI at h
 refine rg tok [1] fun K hK=>?_
 simp only[go_sem,qb,qa,qd,reduceCtorEq,cellsGTree];apply hK
 refine za fun Z1 hZ1=>?_
 refine rgN [1,8,9,10] ?_;apply ze
 refine xj 8 fun hb4=>?_
 replace hb4:qc a0.fRest≤9223372036854775807:=hb4.1;refine zq (fun m L τ=>∃ (p4 q4:List GRaw) (x2:Int),m=qc q4∧L=[(1,.op 0 0 0),(8,.ds true (qe encGRaw a0.fRest) (qc a0.fRest) false),(9,.int .i64 (qc a0.fRest:Int)),(10,.int .i64 x2)]∧τ=[.cells 0 (cellsGTree a0)]∧a0.fRest=p4++q4∧x2=(qc p4:Int)∧yI.l4 a0 q4 x2=some r) _ ⟨[],a0.fRest,0,rfl,rfl,rfl,rfl,rfl,h⟩ .s ?_;rintro m L τ ⟨p4,q4,x2,rfl,rfl,rfl,hE4,hi4,h⟩
 rcases q4 with _|⟨y4,q4⟩
 · have hz4:=yy hE4 hi4;simp only[yI.l4] at h
   refine rg tok [1,8,9,10,11] fun K hK=>?_
   simp only[go_sem,qb,qa,hz4];apply hK
   refine za fun Z5 hZ5=>?_
   refine zn rfl ?_;apply zy;apply hZ1
   refine rc [2] fun K hK=>?_
   obtain⟨r6,hr6,h⟩:=bind_some h;refine rnN 2 ?_;refine clN rfl rfl rfl (y0.ev a0.fRest r6 hr6 _) ?_;refine rnN 1 ?_;refine nkN hK ?_;cases h;exact rtA
 obtain⟨hz4,hw4,hx4,hE'4,hi'4⟩:=zX hE4 hi4 hb4;simp only[yI.l4] at h
 refine rg tok [1,8,9,10,11] fun K hK=>?_
 simp only[go_sem,qb,qa,hz4];apply hK
 refine za fun Z7 hZ7=>?_
 refine zo rfl ?_;apply zd;apply hZ7
 refine za fun Z8 hZ8=>?_
 apply ze;have f9:=E28.idxS hx4;have f10:=E28.loadS rfl rfl hx4
 refine rg tok [1,4,8,9,10] fun K hK=>?_
 simp only[go_sem,qb,qg,qa,qd,encGRaw,f9,f10];apply hK
 refine za fun Z11 hZ11=>?_
 refine rc [1,4,8,9,10,16] fun K hK=>?_
 obtain⟨r12,hr12,h⟩:=zS h;refine rnN 1 ?_;refine clN rfl rfl rfl (yn.ev y4 r12 hr12 _) ?_;refine rnN 1 ?_;refine nkN hK ?_;refine zm (b:=(!r12)) rfl (fun hc13=>?_) (fun hc13=>?_)
 · rw[if_pos hc13] at h;refine rgN [2] ?_;cases h;exact rtA
 rw[xQ hc13] at h;apply zd;apply hZ11;refine rgN [1,4,8,9,10,18,19,20] ?_;apply ze
 refine xj 18 fun hb16=>?_
 replace hb16:qc a0.fEntries≤9223372036854775807:=hb16.1;refine zq (fun m L τ=>∃ (p16 q16:List GEntry) (x14:Int),m=qc q16∧L=[(1,.op 0 0 0),(4,.op 1 0 0),(8,.ds true (qe encGRaw a0.fRest) (qc a0.fRest) false),(9,.int .i64 (qc a0.fRest:Int)),(10,.int .i64 x2),(18,.ds true (qe encGEntry a0.fEntries) (qc a0.fEntries) false),(19,.int .i64 (qc a0.fEntries:Int)),(20,.int .i64 x14)]∧τ=[.cells 0 (cellsGTree a0),.cells 0 [.int .i64 y4.fTag,.int .i64 y4.fWire,.int .i64 y4.fN,.str y4.fB]]∧a0.fEntries=p16++q16∧x14=(qc p16:Int)∧yI.l16 x2 (yI.l4 a0 q4) y4 q16 x14=some r) _ ⟨[],a0.fEntries,0,rfl,rfl,rfl,rfl,rfl,h⟩ .s ?_;rintro m L τ ⟨p16,q16,x14,rfl,rfl,rfl,hE16,hi16,h⟩
 rcases q16 with _|⟨y16,q16⟩
 · have hz16:=yy hE16 hi16;simp only[yI.l16] at h
   refine rg tok [1,4,8,9,10,18,19,20,21] fun K hK=>?_
   simp only[go_sem,qb,qa,hz16];apply hK
   refine za fun Z17 hZ17=>?_
   refine zn rfl ?_;apply zy;apply hZ8
   refine rgE tok [1,8,9,10] fun K hK=>?_
   simp only[go_sem,qb,qa,hw4];apply hK
   exact⟨_,_,_,qt q4.length,⟨p4++[y4],q4,x2+1,rfl,rfl,rfl,hE'4,hi'4,h⟩,(.t [0] false)⟩
 obtain⟨hz16,hw16,hx16,hE'16,hi'16⟩:=zX hE16 hi16 hb16;simp only[yI.l16] at h
 refine rg tok [1,4,8,9,10,18,19,20,21] fun K hK=>?_
 simp only[go_sem,qb,qa,hz16];apply hK
 refine za fun Z18 hZ18=>?_
 refine zo rfl ?_;apply zd;apply hZ18
 refine za fun Z19 hZ19=>?_
 apply ze;have f20:=E27.idxS hx16;have f21:=E27.loadS rfl rfl hx16
 refine rg tok [1,4,6,8,9,10,18,19,20] fun K hK=>?_
 simp only[go_sem,qb,qg,qa,qd,cellsGEntry,zU,f20,f21];apply hK
 refine rgN [1,4,8,9,10,18,19,20,28] ?_;refine zx rfl (fun hc22=>?_) (fun hc22=>?_)
 · rw[if_pos hc22] at h;have t23:=eq_true hc22
   refine rg tok [2] fun K hK=>?_
   simp only[go_sem,qb,qa,t23];apply hK
   cases h;exact rtA
 rw[if_neg hc22] at h;have t24:=eq_false hc22;apply zd;apply hZ19
 refine rgE tok [1,4,8,9,10,18,19,20] fun K hK=>?_
 simp only[go_sem,qb,qa,hw16,t24];apply hK
 exact⟨_,_,_,qt q16.length,⟨p16++[y16],q16,x14+1,rfl,rfl,rfl,hE'16,hi'16,h⟩,(.t [0,1] false)⟩
theorem yI.ev (a0:GTree)(r:Bool)(h:yI a0=some r)(σ:Store):ACalls qh 154 [.agg (cellsGTree a0)] σ (fun r' σ'=>r'=.bool r∧σ'=σ):=
 (yI.ok a0 r h).c σ
def zv.j25 (x16:Int)(rec18:Int→Option Bool)(x24:Bool):Option Bool:=
 (if x24=true then some false else (rec18 (x16+1)))
def zv.l18 (yb:GTree→Option Bool)(x3:Int)(rec6:Int→Int→Option Bool)(y6:GEntry):List GTree→Int→Option Bool
 |[],x16=>(rec6 (x3+1) y6.fTag)
 |y18::q18,x16=>(Zd y6.fTrees 0).bind fun y27=>(if y18.fKind=y27.fKind then (yb y18).bind fun r32=>(zv.j25 x16 (zv.l18 yb x3 rec6 y6 q18) (!r32)) else (zv.j25 x16 (zv.l18 yb x3 rec6 y6 q18) true))
def zv.l6 (yb:GTree→Option Bool):List GEntry→Int→Int→Option Bool
 |[],x3,x2=>some true
 |y6::q6,x3,x2=>(if ((((decide (y6.fTag≤x2))||(decide (500<y6.fTag)))||(decide ((qc y6.fTrees:Int)<1)))||(decide (64<(qc y6.fTrees:Int))))=true then some false else (zv.l18 yb x3 (zv.l6 yb q6) y6 y6.fTrees 0))
def zv.body (xG:GTree→Option Bool)(yb:GTree→Option Bool)(a0:GTree):Option Bool:=
 (zv.l6 yb a0.fEntries 0 0)
theorem zv.step (xG:GTree→Option Bool)(yb:GTree→Option Bool)(Yb:∀ (a0:GTree) (r:Bool),xG a0=some r→ACalls qh 153 [.agg (cellsGTree a0)] [] (fun r' _=>r'=.bool r))(YF:∀ (a0:GTree) (r:Bool),yb a0=some r→ACalls qh 132 [.agg (cellsGTree a0)] [] (fun r' _=>r'=.bool r))(a0:GTree)(r:Bool)(h:zv.body xG yb a0=some r):ACalls qh 153 [.agg (cellsGTree a0)] [] (fun r' _=>r'=.bool r):=by
 have ev_value_entries:=fun a0 r h σ=>(Yb a0 r h).c σ
 have ev_value_right:=fun a0 r h σ=>(YF a0 r h).c σ
 refine zf (rs:=[.tmp 2]) tok Tryz.func153 rfl Tryz.ntmps153 rfl Tryz.call153 (by simp) ?_;refine zl [(0,.agg (cellsGTree a0))] ⟨rfl,trivial⟩ ?_;unfold zv.body at h
 refine rg tok [1] fun K hK=>?_
 simp only[go_sem,qb,qa,qd,reduceCtorEq,cellsGTree];apply hK
 refine rgN [1,3] ?_
 refine za fun Z1 hZ1=>?_
 refine rgN [3,9,10,11] ?_;apply ze
 refine xj 9 fun hb6=>?_
 replace hb6:qc a0.fEntries≤9223372036854775807:=hb6.1;refine zq (fun m L τ=>∃ (p6 q6:List GEntry) (x3:Int) (x2:Int),m=qc q6∧L=[(3,.int .i64 x2),(9,.ds true (qe encGEntry a0.fEntries) (qc a0.fEntries) false),(10,.int .i64 (qc a0.fEntries:Int)),(11,.int .i64 x3)]∧τ=[]∧a0.fEntries=p6++q6∧x3=(qc p6:Int)∧zv.l6 yb q6 x3 x2=some r) _ ⟨[],a0.fEntries,0,0,rfl,rfl,rfl,rfl,rfl,h⟩ (.t [] false) ?_;rintro m L τ ⟨p6,q6,x3,x2,rfl,rfl,rfl,hE6,hi6,h⟩
 rcases q6 with _|⟨y6,q6⟩
 · have hz6:=yy hE6 hi6;simp only[zv.l6] at h
   refine rg tok [3,9,10,11,12] fun K hK=>?_
   simp only[go_sem,qb,qa,hz6];apply hK
   refine za fun Z7 hZ7=>?_
   refine zn rfl ?_;apply zy;apply hZ1;refine rgN [2] ?_;cases h;exact rtA
 obtain⟨hz6,hw6,hx6,hE'6,hi'6⟩:=zX hE6 hi6 hb6;simp only[zv.l6] at h
 refine rg tok [3,9,10,11,12] fun K hK=>?_
 simp only[go_sem,qb,qa,hz6];apply hK
 refine za fun Z8 hZ8=>?_
 refine zo rfl ?_;apply zd;apply hZ8
 refine za fun Z9 hZ9=>?_
 apply ze;have f10:=E27.idxS hx6;have f11:=E27.loadS rfl rfl hx6
 refine rg tok [3,5,9,10,11] fun K hK=>?_
 simp only[go_sem,qb,qg,qa,qd,cellsGEntry,zU,f10,f11];apply hK
 refine za fun Z12 hZ12=>?_
 refine rc [5,9,10,11,35] fun K hK=>?_
 refine rnN 5 ?_;refine zh 4 (fun L τ=>L=[(5,.op 0 0 0),(9,.ds true (qe encGEntry a0.fEntries) (qc a0.fEntries) false),(10,.int .i64 (qc a0.fEntries:Int)),(11,.int .i64 x3),(23,.bool ((decide (y6.fTag≤x2))||(decide (500<y6.fTag))))]∧τ=[.cells 0 (cellsGEntry y6)]) ?_ ?_
 · refine yG 19 rfl (fun hg19=>?_) (fun hg19=>?_)
   · have t13:=eq_true hg19;refine rnN 4 ?_;refine zb ⟨rfl,_,_,⟨rfl,rfl⟩,.p t13⟩
   have t14:=eq_false hg19;refine rnN 4 ?_;refine zb ⟨rfl,_,_,⟨rfl,rfl⟩,.p t14⟩
 rintro _ _ ⟨rfl,rfl⟩;refine rnN 1 ?_;refine zh 5 (fun L τ=>L=[(5,.op 0 0 0),(9,.ds true (qe encGEntry a0.fEntries) (qc a0.fEntries) false),(10,.int .i64 (qc a0.fEntries:Int)),(11,.int .i64 x3),(29,.bool (((decide (y6.fTag≤x2))||(decide (500<y6.fTag)))||(decide ((qc y6.fTrees:Int)<1))))]∧τ=[.cells 0 (cellsGEntry y6)]) ?_ ?_
 · refine zO (b:=((decide (y6.fTag≤x2))||(decide (500<y6.fTag)))) 24 rfl (fun hg24=>?_) (fun hg24=>?_)
   · refine rnN 5 ?_;refine zb ⟨rfl,_,_,⟨rfl,rfl⟩,.b hg24⟩
   refine rnN 5 ?_;refine zb ⟨rfl,_,_,⟨rfl,rfl⟩,.b hg24⟩
 rintro _ _ ⟨rfl,rfl⟩;refine rnN 1 ?_;refine zh 5 (fun L τ=>L=[(5,.op 0 0 0),(9,.ds true (qe encGEntry a0.fEntries) (qc a0.fEntries) false),(10,.int .i64 (qc a0.fEntries:Int)),(11,.int .i64 x3),(35,.bool ((((decide (y6.fTag≤x2))||(decide (500<y6.fTag)))||(decide ((qc y6.fTrees:Int)<1)))||(decide (64<(qc y6.fTrees:Int)))))]∧τ=[.cells 0 (cellsGEntry y6)]) ?_ ?_
 · refine zO (b:=(((decide (y6.fTag≤x2))||(decide (500<y6.fTag)))||(decide ((qc y6.fTrees:Int)<1)))) 30 rfl (fun hg30=>?_) (fun hg30=>?_)
   · refine rnN 5 ?_;refine zb ⟨rfl,_,_,⟨rfl,rfl⟩,.b hg30⟩
   refine rnN 5 ?_;refine zb ⟨rfl,_,_,⟨rfl,rfl⟩,.b hg30⟩
 rintro _ _ ⟨rfl,rfl⟩;refine nkN hK ?_;refine zm (b:=((((decide (y6.fTag≤x2))||(decide (500<y6.fTag)))||(decide ((qc y6.fTrees:Int)<1)))||(decide (64<(qc y6.fTrees:Int))))) rfl (fun hc15=>?_) (fun hc15=>?_)
 · rw[if_pos hc15] at h;refine rgN [2] ?_;cases h;exact rtA
 rw[xQ hc15] at h;apply zd;apply hZ12;refine rgN [3,5,9,10,11] ?_;refine rgN [3,5,9,10,11,39,40,41] ?_;apply ze
 refine xj 39 fun hb18=>?_
 replace hb18:qc y6.fTrees≤9223372036854775807:=hb18.1;refine zq (fun m L τ=>∃ (p18 q18:List GTree) (x16:Int),m=qc q18∧L=[(3,.int .i64 y6.fTag),(5,.op 0 0 0),(9,.ds true (qe encGEntry a0.fEntries) (qc a0.fEntries) false),(10,.int .i64 (qc a0.fEntries:Int)),(11,.int .i64 x3),(39,.ds true (qe encGTree y6.fTrees) (qc y6.fTrees) false),(40,.int .i64 (qc y6.fTrees:Int)),(41,.int .i64 x16)]∧τ=[.cells 0 (cellsGEntry y6)]∧y6.fTrees=p18++q18∧x16=(qc p18:Int)∧zv.l18 yb x3 (zv.l6 yb q6) y6 q18 x16=some r) _ ⟨[],y6.fTrees,0,rfl,rfl,rfl,rfl,rfl,h⟩ .s ?_;rintro m L τ ⟨p18,q18,x16,rfl,rfl,rfl,hE18,hi18,h⟩
 rcases q18 with _|⟨y18,q18⟩
 · have hz18:=yy hE18 hi18;simp only[zv.l18] at h
   refine rg tok [3,5,9,10,11,39,40,41,42] fun K hK=>?_
   simp only[go_sem,qb,qa,hz18];apply hK
   refine za fun Z19 hZ19=>?_
   refine zn rfl ?_;apply zy;apply hZ9
   refine rgE tok [3,9,10,11] fun K hK=>?_
   simp only[go_sem,qb,qa,hw6];apply hK
   exact⟨_,_,_,qt q6.length,⟨p6++[y6],q6,x3+1,y6.fTag,rfl,rfl,rfl,hE'6,hi'6,h⟩,(.t [] false)⟩
 obtain⟨hz18,hw18,hx18,hE'18,hi'18⟩:=zX hE18 hi18 hb18;simp only[zv.l18] at h
 refine rg tok [3,5,9,10,11,39,40,41,42] fun K hK=>?_
 simp only[go_sem,qb,qa,hz18];apply hK
 refine za fun Z20 hZ20=>?_
 refine zo rfl ?_;apply zd;apply hZ20
 refine za fun Z21 hZ21=>?_
 apply ze;have f22:=E90.idxS hx18;have f23:=E90.loadS rfl rfl hx18
 refine rg tok [3,5,7,9,10,11,39,40,41] fun K hK=>?_
 simp only[go_sem,qb,qg,qa,qd,cellsGTree,yV,f22,f23];apply hK
 refine wb (fun L τ=>∃ (x24:Bool),L=[(3,.int .i64 y6.fTag),(5,.op 0 0 0),(9,.ds true (qe encGEntry a0.fEntries) (qc a0.fEntries) false),(10,.int .i64 (qc a0.fEntries:Int)),(11,.int .i64 x3),(39,.ds true (qe encGTree y6.fTrees) (qc y6.fTrees) false),(40,.int .i64 (qc y6.fTrees:Int)),(41,.int .i64 x16),(57,.bool x24)]∧τ=[.cells 0 (cellsGEntry y6)]∧zv.j25 x16 (zv.l18 yb x3 (zv.l6 yb q6) y6 q18) x24=some r) ?_ ?_
 · refine rdE [3,5,9,10,11,39,40,41,57] fun K hK=>?_
   refine DW.start (T:=tab) [.any,.at [],.any,.at [],.any,.any,.at [],.any,.any,.at [],.eff,.any,.any] [] ?_;obtain⟨y27,hy27,h⟩:=bind_some h;have f28:=E90.idxS hy27;have f29:=E90.fldS0 (f:=3) rfl rfl hy27;refine DW.runN tok 8 ?_;simp only[go_sem,qb,qa,qd,cellsGTree,yV,f28,f29];refine DW.runN tok 1 ?_;simp only[go_sem,qb,qa]
   refine DW.if 53 rfl (fun hg53=>?_) (fun hg53=>?_)
   · rw[if_neg hg53] at h;have t30:=eq_false hg53;refine DW.runN tok 4 ?_;simp only[go_sem,qb,qa,t30];refine DW.fin tok (by decide +kernel) rfl ?_;simp only[zi,upd,qa,reduceIte,yp,yY];apply hK
     exact⟨_,_,⟨true,rfl,rfl,h⟩,(.t [0] false)⟩
   rw[if_pos hg53] at h;have t31:=eq_true hg53;obtain⟨r32,hr32,h⟩:=bind_some h;refine DW.runN tok 1 ?_;simp only[go_sem,qb,qg,qa,qd,t31];refine DW.call rfl rfl rfl (ev_value_right y18 r32 hr32 _) ?_;refine DW.runN tok 2 ?_;simp only[go_sem,qb,qa];refine DW.fin tok (by decide +kernel) rfl ?_;simp only[zi,upd,qa,reduceIte,yp,yY];apply hK
   exact⟨_,_,⟨!r32,rfl,rfl,h⟩,(.t [0] false)⟩
 rintro _ _ ⟨x24,rfl,rfl,h⟩;unfold zv.j25 at h;refine zm (b:=x24) rfl (fun hc26=>?_) (fun hc26=>?_)
 · rw[if_pos hc26] at h;refine rgN [2] ?_;cases h;exact rtA
 rw[xQ hc26] at h;apply zd;apply hZ21
 refine rgE tok [3,5,9,10,11,39,40,41] fun K hK=>?_
 simp only[go_sem,qb,qa,hw18];apply hK
 exact⟨_,_,_,qt q18.length,⟨p18++[y18],q18,x16+1,rfl,rfl,rfl,hE'18,hi'18,h⟩,.s⟩
def y1.body (xG:GTree→Option Bool)(yb:GTree→Option Bool)(a0:GTree):Option Bool:=
 (if a0.fKind=1 then some (((decide (a0.fS=[]))&&(decide ((qc a0.fEntries:Int)=0)))&&(decide ((qc a0.fRest:Int)=0))) else (if a0.fKind=2 then some (((decide (a0.fN=0))&&(decide ((qc a0.fEntries:Int)=0)))&&(decide ((qc a0.fRest:Int)=0))) else (if a0.fKind=3 then (if ((decide (a0.fN=0))&&(decide (a0.fS=[])))=true then (xG a0).bind fun r16=>some r16 else some false).bind fun c16=>(if c16=true then (yI a0).bind fun r18=>some r18 else some false).bind fun c18=>some c18 else some false)))
theorem y1.step (xG:GTree→Option Bool)(yb:GTree→Option Bool)(Yb:∀ (a0:GTree) (r:Bool),xG a0=some r→ACalls qh 153 [.agg (cellsGTree a0)] [] (fun r' _=>r'=.bool r))(YF:∀ (a0:GTree) (r:Bool),yb a0=some r→ACalls qh 132 [.agg (cellsGTree a0)] [] (fun r' _=>r'=.bool r))(a0:GTree)(r:Bool)(h:y1.body xG yb a0=some r):ACalls qh 132 [.agg (cellsGTree a0)] [] (fun r' _=>r'=.bool r):=by
 have ev_value_entries:=fun a0 r h σ=>(Yb a0 r h).c σ
 have ev_value_right:=fun a0 r h σ=>(YF a0 r h).c σ
 refine zf (rs:=[.tmp 2]) tok Tryz.func132 rfl Tryz.ntmps132 rfl Tryz.call132 (by simp) ?_;refine zl [(0,.agg (cellsGTree a0))] ⟨rfl,trivial⟩ ?_;unfold y1.body at h
 refine rg tok [1] fun K hK=>?_
 simp only[go_sem,qb,qa,qd,reduceCtorEq,cellsGTree];apply hK
 refine za fun Z1 hZ1=>?_
 refine rgN [1,4] ?_;apply ze;refine rgN [1,4,5] ?_;refine zx rfl (fun hc2=>?_) (fun hc2=>?_)
 · rw[if_pos hc2] at h;have t3:=eq_true hc2
   refine rc [2] fun K hK=>?_
   refine zj tok 4 ?_;simp only[go_sem,qb,qa,qd,t3];refine zh 5 (fun L τ=>L=[(1,.op 0 0 0),(15,.bool ((decide (a0.fS=[]))&&(decide ((qc a0.fEntries:Int)=0))))]∧τ=[.cells 0 (cellsGTree a0)]) ?_ ?_
   · refine yG 10 rfl (fun hg10=>?_) (fun hg10=>?_)
     · have t4:=eq_true hg10;refine rnN 5 ?_;refine zb ⟨rfl,_,_,⟨rfl,rfl⟩,.p t4⟩
     have t5:=eq_false hg10;refine rnN 5 ?_;refine zb ⟨rfl,_,_,⟨rfl,rfl⟩,.p t5⟩
   rintro _ _ ⟨rfl,rfl⟩;refine rnN 1 ?_;refine zh 5 (fun L τ=>L=[(21,.bool (((decide (a0.fS=[]))&&(decide ((qc a0.fEntries:Int)=0)))&&(decide ((qc a0.fRest:Int)=0))))]∧τ=[.cells 0 (cellsGTree a0)]) ?_ ?_
   · refine zO (b:=((decide (a0.fS=[]))&&(decide ((qc a0.fEntries:Int)=0)))) 16 rfl (fun hg16=>?_) (fun hg16=>?_)
     · refine rnN 5 ?_;refine zb ⟨rfl,_,_,⟨rfl,rfl⟩,.b hg16⟩
     refine rnN 5 ?_;refine zb ⟨rfl,_,_,⟨rfl,rfl⟩,.b hg16⟩
   rintro _ _ ⟨rfl,rfl⟩;refine rnN 1 ?_;refine nkN hK ?_;cases h;exact rtA
 rw[if_neg hc2] at h;have t6:=eq_false hc2
 refine rg tok [1,4,22] fun K hK=>?_
 simp only[go_sem,qb,qa,t6];apply hK
 refine zx rfl (fun hc7=>?_) (fun hc7=>?_)
 · rw[if_pos hc7] at h;have t8:=eq_true hc7
   refine rc [2] fun K hK=>?_
   refine zj tok 4 ?_;simp only[go_sem,qb,qa,qd,t8];refine zh 5 (fun L τ=>L=[(1,.op 0 0 0),(32,.bool ((decide (a0.fN=0))&&(decide ((qc a0.fEntries:Int)=0))))]∧τ=[.cells 0 (cellsGTree a0)]) ?_ ?_
   · refine yG 27 rfl (fun hg27=>?_) (fun hg27=>?_)
     · have t9:=eq_true hg27;refine rnN 5 ?_;refine zb ⟨rfl,_,_,⟨rfl,rfl⟩,.p t9⟩
     have t10:=eq_false hg27;refine rnN 5 ?_;refine zb ⟨rfl,_,_,⟨rfl,rfl⟩,.p t10⟩
   rintro _ _ ⟨rfl,rfl⟩;refine rnN 1 ?_;refine zh 5 (fun L τ=>L=[(38,.bool (((decide (a0.fN=0))&&(decide ((qc a0.fEntries:Int)=0)))&&(decide ((qc a0.fRest:Int)=0))))]∧τ=[.cells 0 (cellsGTree a0)]) ?_ ?_
   · refine zO (b:=((decide (a0.fN=0))&&(decide ((qc a0.fEntries:Int)=0)))) 33 rfl (fun hg33=>?_) (fun hg33=>?_)
     · refine rnN 5 ?_;refine zb ⟨rfl,_,_,⟨rfl,rfl⟩,.b hg33⟩
     refine rnN 5 ?_;refine zb ⟨rfl,_,_,⟨rfl,rfl⟩,.b hg33⟩
   rintro _ _ ⟨rfl,rfl⟩;refine rnN 1 ?_;refine nkN hK ?_;cases h;exact rtA
 rw[if_neg hc7] at h;have t11:=eq_false hc7
 refine rg tok [1,39] fun K hK=>?_
 simp only[go_sem,qb,qa,t11];apply hK
 refine zx rfl (fun hc12=>?_) (fun hc12=>?_)
 · rw[if_pos hc12] at h;have t13:=eq_true hc12
   refine rc [2] fun K hK=>?_
   refine zj tok 4 ?_;simp only[go_sem,qb,qa,qd,t13];refine zh 4 (fun L τ=>L=[(1,.op 0 0 0),(48,.bool ((decide (a0.fN=0))&&(decide (a0.fS=[]))))]∧τ=[.cells 0 (cellsGTree a0)]) ?_ ?_
   · refine yG 44 rfl (fun hg44=>?_) (fun hg44=>?_)
     · have t14:=eq_true hg44;refine rnN 4 ?_;refine zb ⟨rfl,_,_,⟨rfl,rfl⟩,.p t14⟩
     have t15:=eq_false hg44;refine rnN 4 ?_;refine zb ⟨rfl,_,_,⟨rfl,rfl⟩,.p t15⟩
   rintro _ _ ⟨rfl,rfl⟩;refine rnN 1 ?_;obtain⟨c16,hc16,h⟩:=bind_some h;refine zh 3 (fun L τ=>L=[(1,.op 0 0 0),(52,.bool c16)]∧τ=[.cells 0 (cellsGTree a0)]) ?_ ?_
   · refine zO (b:=((decide (a0.fN=0))&&(decide (a0.fS=[])))) 49 rfl (fun hg49=>?_) (fun hg49=>?_)
     · rw[if_pos hg49] at hc16;obtain⟨r17,hr17,hc16⟩:=bind_some hc16;refine rnN 1 ?_;refine clN rfl rfl rfl (ev_value_entries a0 r17 hr17 _) ?_;refine rnN 1 ?_;cases hc16;refine zb ⟨rfl,_,_,⟨rfl,rfl⟩,.b hg49⟩
     rw[xQ hg49] at hc16;refine rnN 3 ?_;cases hc16;refine zb ⟨rfl,_,_,⟨rfl,rfl⟩,.b hg49⟩
   rintro _ _ ⟨rfl,rfl⟩;refine rnN 1 ?_;obtain⟨c18,hc18,h⟩:=bind_some h;refine zh 3 (fun L τ=>L=[(56,.bool c18)]∧τ=[.cells 0 (cellsGTree a0)]) ?_ ?_
   · refine zO (b:=c16) 53 rfl (fun hg53=>?_) (fun hg53=>?_)
     · rw[if_pos hg53] at hc18;obtain⟨r19,hr19,hc18⟩:=bind_some hc18;refine rnN 1 ?_;refine clN rfl rfl rfl (yI.ev a0 r19 hr19 _) ?_;refine rnN 1 ?_;cases hc18;refine zb ⟨rfl,_,_,⟨rfl,rfl⟩,.b hg53⟩
     rw[xQ hg53] at hc18;refine rnN 3 ?_;cases hc18;refine zb ⟨rfl,_,_,⟨rfl,rfl⟩,.b hg53⟩
   rintro _ _ ⟨rfl,rfl⟩;refine rnN 1 ?_;refine nkN hK ?_;cases h;exact rtA
 rw[if_neg hc12] at h;have t20:=eq_false hc12;apply zd;apply hZ1
 refine rg tok [2] fun K hK=>?_
 simp only[go_sem,qb,qa,t20];apply hK
 cases h;exact rtA
mutual
def zv : Nat→GTree→Option Bool
 |0,_=>none
 |k+1,a0=>zv.body (zv k) (y1 k) a0
def y1 : Nat→GTree→Option Bool
 |0,_=>none
 |k+1,a0=>y1.body (zv k) (y1 k) a0
end
theorem zv.all (k:Nat):(∀ (a0:GTree) (r:Bool),zv k a0=some r→ACalls qh 153 [.agg (cellsGTree a0)] [] (fun r' _=>r'=.bool r))∧(∀ (a0:GTree) (r:Bool),y1 k a0=some r→ACalls qh 132 [.agg (cellsGTree a0)] [] (fun r' _=>r'=.bool r)):=by
 induction k with
 |zero=>exact⟨(fun a0 r h=>by simp only[zv] at h; cases h),(fun a0 r h=>by simp only[y1] at h; cases h)⟩
 |succ k ih=>exact⟨(fun a0 r h=>zv.step _ _ ih.1 ih.2 a0 r (by simpa only [zv] using h)),(fun a0 r h=>y1.step _ _ ih.1 ih.2 a0 r (by simpa only [y1] using h))⟩
theorem y1.ev (k:Nat)(a0:GTree)(r:Bool)(h:y1 k a0=some r)(σ:Store):ACalls qh 132 [.agg (cellsGTree a0)] σ (fun r' σ'=>r'=.bool r∧σ'=σ):=
 ((zv.all k).2 a0 r h).c σ
def wI (a0:GTree):Option Bool:=
 (wH a0).bind fun r1=>(if r1≤10 then (y1 rounds a0).bind fun r2=>some r2 else some false).bind fun c2=>some c2
theorem wI.ok (a0:GTree)(r:Bool)(h:wI a0=some r):ACalls qh 96 [.agg (cellsGTree a0)] [] (fun r' _=>r'=.bool r):=by
 refine zf (rs:=[.tmp 2]) tok Tryz.func96 rfl Tryz.ntmps96 rfl Tryz.call96 (by simp) ?_;refine zl [(0,.agg (cellsGTree a0))] ⟨rfl,trivial⟩ ?_;unfold wI at h
 refine rg tok [1] fun K hK=>?_
 simp only[go_sem,qb,qa,qd,reduceCtorEq,cellsGTree];apply hK
 refine rc [2] fun K hK=>?_
 obtain⟨r1,hr1,h⟩:=bind_some h;refine rnN 1 ?_;refine clN rfl rfl rfl (wH.ev a0 r1 hr1 _) ?_;refine rnN 2 ?_;obtain⟨c2,hc2,h⟩:=bind_some h;refine zh 3 (fun L τ=>L=[(9,.bool c2)]∧τ=[.cells 0 (cellsGTree a0)]) ?_ ?_
 · refine yG 6 rfl (fun hg6=>?_) (fun hg6=>?_)
   · have t3:=eq_true hg6;rw[if_pos hg6] at hc2;obtain⟨r4,hr4,hc2⟩:=bind_some hc2;refine rnN 1 ?_;refine clN rfl rfl rfl (y1.ev rounds a0 r4 hr4 _) ?_;refine rnN 1 ?_;cases hc2;refine zb ⟨rfl,_,_,⟨rfl,rfl⟩,.p t3⟩
   have t5:=eq_false hg6;rw[if_neg hg6] at hc2;refine rnN 3 ?_;cases hc2;refine zb ⟨rfl,_,_,⟨rfl,rfl⟩,.p t5⟩
 rintro _ _ ⟨rfl,rfl⟩;refine rnN 1 ?_;refine nkN hK ?_;cases h;exact rtA
theorem wI.ev (a0:GTree)(r:Bool)(h:wI a0=some r)(σ:Store):ACalls qh 96 [.agg (cellsGTree a0)] σ (fun r' σ'=>r'=.bool r∧σ'=σ):=
 (wI.ok a0 r h).c σ
def Ya (a0:Int):GValueValue:=
 (GValueValue.num a0)
theorem Ya.ok (a0:Int)(r:GValueValue)(h:Ya a0=r):ACalls qh 133 [.int .i64 a0] [] (fun r' _=>r'=.agg (encGValueValue r)):=by
 refine zf (rs:=[.cell 2 110]) tok Tryz.func133 rfl Tryz.ntmps133 rfl Tryz.call133 (by simp) ?_;refine zl [(0,.int .i64 a0)] ⟨rfl,trivial⟩ ?_;unfold Ya at h;refine rgN [0,2] ?_;refine rgN [2] ?_;cases h;exact rtA
theorem Ya.ev (a0:Int)(r:GValueValue)(h:Ya a0=r)(σ:Store):ACalls qh 133 [.int .i64 a0] σ (fun r' σ'=>r'=.agg (encGValueValue r)∧σ'=σ):=
 (Ya.ok a0 r h).c σ
def Z0 (a0:List UInt8):GValueValue:=
 (GValueValue.str a0)
theorem Z0.ok (a0:List UInt8)(r:GValueValue)(h:Z0 a0=r):ACalls qh 134 [.str a0] [] (fun r' _=>r'=.agg (encGValueValue r)):=by
 refine zf (rs:=[.cell 2 110]) tok Tryz.func134 rfl Tryz.ntmps134 rfl Tryz.call134 (by simp) ?_;refine zl [(0,.str a0)] ⟨rfl,trivial⟩ ?_;unfold Z0 at h;refine rgN [0,2] ?_;refine rgN [2] ?_;cases h;exact rtA
theorem Z0.ev (a0:List UInt8)(r:GValueValue)(h:Z0 a0=r)(σ:Store):ACalls qh 134 [.str a0] σ (fun r' σ'=>r'=.agg (encGValueValue r)∧σ'=σ):=
 (Z0.ok a0 r h).c σ
def yS (a0:List GRaw):Option (List GRaw):=(ZY (qc a0) 40).bind fun _=>some a0
theorem yS.ok (a0 r:List GRaw)(h:yS a0=some r):ACalls qh 135 [.ds true (qe encGRaw a0) (qc a0) false] [] (fun r' _=>r'=.ds true (qe encGRaw r) (qc r) false):=by
 obtain⟨_u,hu,h⟩:=bind_some h;have gu:=ym hu;cases h
 have f1:=fun nl tt σ=>wa E28.len a0 nl tt σ
 have f2:=zt E28.len a0;have f3:=ZZ encGRaw a0
 have fin:∀ σ id ver tt,Store.at σ id ver=some (qe encGRaw a0)→tell σ [] true 12 (.os true 4 id ver 0 (qc a0) tt)=.ds true (qe encGRaw a0) (qc a0) false:=by
  intro σ id ver tt hs
  simp only[Zg,wC,hs,qA,qq];rw[if_pos (by rw[f2]; exact qv _),← f2,uj,zH]
 refine zf (rs:=[.tmp 2]) tok Tryz.func135 rfl Tryz.ntmps135 rfl Tryz.call135 (by simp) ?_;refine zl [(0,.ds true (qe encGRaw a0) (qc a0) false)] ⟨rfl,trivial⟩ ?_;refine rgN [0] ?_
 refine za fun Z1 hZ1=>?_
 refine rc [0,4] fun K hK=>?_
 refine rnN 1 ?_
 refine vaL tok rfl rfl rfl rfl rfl rfl fun b hnil=>?_
 have hb:b=true→a0=[]:=fun hb=>by
  have:=hnil hb;simp only[yl,go_sem,reduceCtorEq] at this;exact u9 this
 clear hnil
 refine nkN hK ?_;cases b
 · refine zn rfl ?_;apply zd;apply hZ1
   refine rg tok [2] fun K hK=>?_
   by_cases h0:qc a0=0
   · obtain rfl:=u9 h0;simp only[go_sem,qb,qa,qd,reduceCtorEq,zB,zV,qV,ux,z8,zP,yl,yf,uo,ql,uI,uf];apply hK
     apply yz;simp only[ZF,yP,yX,xO,exists_eq_left',go_sem]
     first|rfl|(simp only[go_sem,qb,qg,qa,qd,qs,qH,reduceIte,reduceCtorEq,Zg,wC,qw]<;>rfl)
   have h1:=eq_false h0;simp only[go_sem,qb,qa,qd,reduceCtorEq,zB,zV,qV,ux,z8,zP,yl,f1,f3,h1,gu,yM,qw,qx,uI];apply hK
   apply yz;simp only[ZF,yP,yX,xO,exists_eq_left',go_sem];exact fin _ _ _ _ (by simp only[Store.at_hd,Store.at_tl,if_true])
 obtain rfl:=hb rfl;refine zo rfl ?_;refine rgN [2] ?_;apply yz;simp only[ZF,yP,yX,xO,exists_eq_left',go_sem]
 first|rfl|(simp only[go_sem,qb,qg,qa,qd,qs,qH,reduceIte,reduceCtorEq,YE,qw,qM,qQ,qU]<;>rfl)
theorem yS.own (a0 r:List GRaw)(h:yS a0=some r):ACalls qh 135 [.ds true (qe encGRaw a0) (qc a0) false] [] (fun r' σ'=>r'=.os true 4 0 0 0 (qc r) false∧σ'=[.cells 0 (qe encGRaw r)]):=by
 obtain⟨_u,hu,h⟩:=bind_some h;have gu:=ym hu;cases h
 have f1:=fun nl tt σ=>wa E28.len a0 nl tt σ
 have f2:=zt E28.len a0;have f3:=ZZ encGRaw a0;refine vck (rs:=[.tmp 2]) tok Tryz.func135 rfl Tryz.ntmps135 rfl Tryz.call135 (by simp) ?_;refine zl [(0,.ds true (qe encGRaw a0) (qc a0) false)] ⟨rfl,trivial⟩ ?_;refine rgN [0] ?_
 refine za fun Z1 hZ1=>?_
 refine rc [0,4] fun K hK=>?_
 refine rnN 1 ?_
 refine vaL tok rfl rfl rfl rfl rfl rfl fun b hnil=>?_
 have hb:b=true→a0=[]:=fun hb=>by
  have:=hnil hb;simp only[yl,go_sem,reduceCtorEq] at this;exact u9 this
 clear hnil
 refine nkN hK ?_;cases b
 · refine zn rfl ?_;apply zd;apply hZ1
   refine rg tok [2] fun K hK=>?_
   by_cases h0:qc a0=0
   · obtain rfl:=u9 h0;simp only[go_sem,qb,qa,qd,reduceCtorEq,zB,zV,qV,ux,z8,zP,yl,yf,uo,ql,uI,uf];apply hK
     apply yz;simp only[ZF,yP,yX,xO,exists_eq_left',go_sem];refine .inl ⟨0,true,by simp,?_,?_⟩
     · first|rfl|(simp only[go_sem,qb,qg,qa,qd,qs,qH,reduceIte,reduceCtorEq,Zg,ww,if_true]<;>rfl)
     first|rfl|(simp only[go_sem,qb,qg,qa,qd,qs,qH,reduceIte,reduceCtorEq,YK,vbF,Yn,YM,YL,qw]<;>rfl)
   have h1:=eq_false h0;simp only[go_sem,qb,qa,qd,reduceCtorEq,zB,zV,qV,ux,z8,zP,yl,f1,f3,h1,gu,yM,qw,qx,uI];apply hK
   apply yz;simp only[ZF,yP,yX,xO,exists_eq_left',go_sem,qd];refine .inl ⟨1,false,by simp,?_,?_⟩
   · first|rfl|(simp only[go_sem,qb,qg,qa,qd,qs,qH,reduceIte,reduceCtorEq,Zg,ww,if_true]<;>rfl)
   first|rfl|(simp only[go_sem,YK,Yn,YM,YL,zH]<;>rfl)
 obtain rfl:=hb rfl;refine zo rfl ?_;refine rgN [2] ?_;apply yz;simp only[ZF,yP,yX,xO,exists_eq_left',go_sem];refine .inr ?_
 first|rfl|(simp only[go_sem,qb,qg,qa,qd,qs,qH,reduceIte,reduceCtorEq,YE,qw,qM,qW,qy,qS]<;>rfl)
theorem yS.ev (a0 r:List GRaw)(h:yS a0=some r)(σ:Store):ACalls qh 135 [.ds true (qe encGRaw a0) (qc a0) false] σ (fun r' σ'=>r'=.ds true (qe encGRaw r) (qc r) false∧σ'=σ):=
 (yS.ok a0 r h).pureAt (by simp only[AV.canon,canonL,canon_all,qT,qy,Bool.true_or]) (by simp only[AV.canon,canon_all,qT,qy,Bool.true_or]) σ
def zL.l35 (yx:GTree→Option GValueValue)(l14:List GValueEntry)(x16:Int)(rec20:List GValueEntry→Int→Option GValueValue)(y25:GEntry):List GTree→Int→List GValueValue→Option GValueValue
 |[],x31,l29=>(ZY (qc l14+1) 32).bind fun _u37=>(rec20 (l14++[(⟨y25.fTag,l29⟩:GValueEntry)]) (IntKind.i64.wrap (x16+1)))
 |y35::q35,x31,l29=>(yx y35).bind fun r43=>(ZY (qc l29+1) 16).bind fun _u45=>((zL.l35 yx l14 x16 rec20 y25 q35) (x31+1) (l29++[r43]))
def zL.l20 (yx:GTree→Option GValueValue)(a0:GTree)(r12:List GRaw):Nat→List GValueEntry→Int→Option GValueValue
 |0,_,_=>none
 |k20+1,l14,x16=>(if x16<(qc a0.fEntries:Int) then (Zd a0.fEntries x16).bind fun y25=>(zL.l35 yx l14 x16 (zL.l20 yx a0 r12 k20) y25 y25.fTrees 0 ([]:List GValueValue)) else some (GValueValue.node l14 r12))
def zL.l62 (yx:GTree→Option GValueValue)(a0:GTree)(r12:List GRaw)(y52:GEntry):List GTree→Int→List GValueValue→Option GValueValue
 |[],x58,l56=>(zL.l20 yx a0 r12 rounds [(⟨y52.fTag,l56⟩:GValueEntry)] (IntKind.i64.wrap (0+1)))
 |y62::q62,x58,l56=>(yx y62).bind fun r68=>(ZY (qc l56+1) 16).bind fun _u70=>((zL.l62 yx a0 r12 y52 q62) (x58+1) (l56++[r68]))
def zL.body (yx:GTree→Option GValueValue)(a0:GTree):Option GValueValue:=
 (if a0.fKind=1 then bnd (Ya a0.fN) fun r4=>some r4 else (if a0.fKind=2 then bnd (Z0 a0.fS) fun r9=>some r9 else (yS a0.fRest).bind fun r12=>(if 0<(qc a0.fEntries:Int) then (Zd a0.fEntries 0).bind fun y52=>(zL.l62 yx a0 r12 y52 y52.fTrees 0 ([]:List GValueValue)) else some (GValueValue.node ([]:List GValueEntry) r12))))
end
section
set_option maxRecDepth 4000
set_option maxHeartbeats 1000000
open AM
theorem zL.step (yx:GTree→Option GValueValue)(ih_value_made:∀ (a0:GTree) (r:GValueValue),yx a0=some r→ACalls qh 97 [.agg (cellsGTree a0)] [] (fun r' _=>r'=.agg (encGValueValue r)))(a0:GTree)(r:GValueValue)(h:zL.body yx a0=some r):ACalls qh 97 [.agg (cellsGTree a0)] [] (fun r' _=>r'=.agg (encGValueValue r)):=by
 have ev_value_made:=fun a0 r h σ=>(ih_value_made a0 r h).c σ
 refine zf (rs:=[.cell 2 110]) tok Tryz.func97 rfl Tryz.ntmps97 rfl Tryz.call97 (by simp) ?_;refine zl [(0,.agg (cellsGTree a0))] ⟨rfl,trivial⟩ ?_;unfold zL.body at h
 refine rg tok [1,2] fun K hK=>?_
 simp only[go_sem,qb,qa,qd,reduceCtorEq,cellsGTree];apply hK
 refine za fun Z1 hZ1=>?_
 refine rgN [1,2,10] ?_;apply ze;refine rgN [1,2,10,11] ?_;refine zx rfl (fun hc2=>?_) (fun hc2=>?_)
 · rw[if_pos hc2] at h;have t3:=eq_true hc2
   refine rc [2] fun K hK=>?_
   obtain⟨r4,hr4,h⟩:=zS h;refine zj tok 2 ?_;simp only[go_sem,qb,qa,qd,t3];refine clN rfl rfl rfl (Ya.ev a0.fN r4 hr4 _) ?_;have f5:=ZO r4;unfold AV.one at f5;refine zj tok 1 ?_;simp only[go_sem,qg,qa,encGValueValue,f5];refine nkN hK ?_;cases h;exact rtA
 rw[if_neg hc2] at h;have t6:=eq_false hc2
 refine rg tok [1,2,16] fun K hK=>?_
 simp only[go_sem,qb,qa,t6];apply hK
 refine zx rfl (fun hc7=>?_) (fun hc7=>?_)
 · rw[if_pos hc7] at h;have t8:=eq_true hc7
   refine rc [2] fun K hK=>?_
   obtain⟨r9,hr9,h⟩:=zS h;refine zj tok 2 ?_;simp only[go_sem,qb,qa,qd,t8];refine clN rfl rfl rfl (Z0.ev a0.fS r9 hr9 _) ?_;have f10:=ZO r9;unfold AV.one at f10;refine zj tok 1 ?_;simp only[go_sem,qg,qa,encGValueValue,f10];refine nkN hK ?_;cases h;exact rtA
 rw[if_neg hc7] at h;have t11:=eq_false hc7;apply zd;apply hZ1
 refine rc [1,2,3] fun K hK=>?_
 obtain⟨r12,hr12,h⟩:=bind_some h;refine zj tok 2 ?_;simp only[go_sem,qb,qa,qd,t11];refine clN rfl rfl rfl (yS.ev a0.fRest r12 hr12 _) ?_;refine rnN 3 ?_;refine nkN hK ?_
 refine za fun Z13 hZ13=>?_
 refine rgN [2,3,27,28,29] ?_;apply ze;refine awp_loopS1 (fun m L τ=>∃ (k20:Nat) (l14:List GValueEntry) (x16:Int) (v15:Nat),m=0+k20∧L=[(2,.op 0 0 0),(3,.op 1 0 0),(27,.ds true (qe encGEntry a0.fEntries) (qc a0.fEntries) false),(28,.int .i64 (qc a0.fEntries:Int)),(29,.int .i64 x16)]∧τ=[.cells 0 [.nilI],.cells 0 [.os true 2 2 v15 0 (qc l14) false,.ds true (qe encGRaw r12) (qc r12) false],.cells v15 (qe encGValueEntry l14)]∧zL.l20 yx a0 r12 k20 l14 x16=some r) (rounds+1) ?_ ?_
 · refine rgN [2,3,27,28,29,30] ?_
   refine za fun Z48 hZ48=>?_
   refine zx rfl (fun hc49=>?_) (fun hc49=>?_)
   · rw[if_pos hc49] at h;have t50:=eq_true hc49;apply zd;apply hZ48
     refine za fun Z51 hZ51=>?_
     apply ze;obtain⟨y52,hy52,h⟩:=bind_some h;have f53:=E27.idxS hy52;have f54:=E27.loadS rfl rfl hy52
     refine rg tok [2,3,5,27,28,29] fun K hK=>?_
     simp only[go_sem,qb,qg,qa,qd,cellsGEntry,zU,t50,f53,f54];apply hK
     refine rgN [2,3,5,6,27,28,29] ?_;refine wN 4 1 1 rfl (by simp) rfl (L:=[(2,.op 1 0 0),(3,.op 2 0 0),(5,.op 3 0 0),(6,.op 4 0 0),(27,.ds true (qe encGEntry a0.fEntries) (qc a0.fEntries) false),(28,.int .i64 (qc a0.fEntries:Int)),(29,.int .i64 0)]) (τ:=[.cells 0 (cellsGTree a0),.cells 0 [.nilI],.cells 0 [.ds true [] 0 true,.ds true (qe encGRaw r12) (qc r12) false],.cells 0 (cellsGEntry y52),.cells 0 [.int .i64 y52.fTag,.os true 1 5 0 0 (qc ([]:List GValueValue)) false],.cells 0 (qe encGValueValue ([]:List GValueValue))]) .s ?_
     refine za fun Z55 hZ55=>?_
     refine rgN [2,3,6,27,28,29,37,38,39] ?_;apply ze
     refine xj 37 fun hb62=>?_
     replace hb62:qc y52.fTrees≤9223372036854775807:=hb62.1;refine zq (fun m L τ=>∃ (p62 q62:List GTree) (x58:Int) (l56:List GValueValue) (v57:Nat),m=qc q62∧L=[(2,.op 0 0 0),(3,.op 1 0 0),(6,.op 2 0 0),(27,.ds true (qe encGEntry a0.fEntries) (qc a0.fEntries) false),(28,.int .i64 (qc a0.fEntries:Int)),(29,.int .i64 0),(37,.ds true (qe encGTree y52.fTrees) (qc y52.fTrees) false),(38,.int .i64 (qc y52.fTrees:Int)),(39,.int .i64 x58)]∧τ=[.cells 0 [.nilI],.cells 0 [.ds true [] 0 true,.ds true (qe encGRaw r12) (qc r12) false],.cells 0 [.int .i64 y52.fTag,.os true 1 3 v57 0 (qc l56) false],.cells v57 (qe encGValueValue l56)]∧y52.fTrees=p62++q62∧x58=(qc p62:Int)∧zL.l62 yx a0 r12 y52 q62 x58 l56=some r) _ ⟨[],y52.fTrees,0,([]:List GValueValue),0,rfl,rfl,rfl,rfl,rfl,h⟩ (.t [1,2,4,5] false) ?_;rintro m L τ ⟨p62,q62,x58,l56,v57,rfl,rfl,rfl,hE62,hi62,h⟩
     rcases q62 with _|⟨y62,q62⟩
     · have hz62:=yy hE62 hi62;simp only[zL.l62] at h
       refine rg tok [2,3,6,27,28,29,37,38,39,40] fun K hK=>?_
       simp only[go_sem,qb,qa,hz62];apply hK
       refine za fun Z63 hZ63=>?_
       refine zn rfl ?_;apply zy;apply hZ55
       refine rdE [2,3,27,28,29] fun K hK=>?_
       refine DW.start (T:=tab) [.any,.any,.any,.any,.own 1 [],.at [],.eff,.eff,.any,.any,.eff] [(1,[])] ?_;refine DW.runN tok 8 ?_;simp only[go_sem,qb,qg,qa,qd,qs,reduceCtorEq,zB,zV,q2,qV,true_and,ub,z8,zP,yl,yM,uf,q1,AV.one,qT,qx,qj,ql,qq,qG];refine DW.runN tok 3 ?_;simp only[go_sem,qb,qg,qa,qd,qj,ql,qq];refine DW.fin tok (by decide +kernel) rfl ?_;simp only[zi,upd,qa,reduceIte,yp,yY];apply hK
       apply hZ51
       refine rgE tok [2,3,27,28,29] fun K hK=>?_
       simp only[go_sem,qb,qa];apply hK
       exact⟨_,_,_,(Nat.lt_succ_of_le (Nat.le_of_eq (qq rounds))),⟨rounds,[(⟨y52.fTag,l56⟩:GValueEntry)],IntKind.i64.wrap (0+1),0,rfl,rfl,rfl,h⟩,(.t [0,1,5] false)⟩
     obtain⟨hz62,hw62,hx62,hE'62,hi'62⟩:=zX hE62 hi62 hb62;simp only[zL.l62] at h
     refine rg tok [2,3,6,27,28,29,37,38,39,40] fun K hK=>?_
     simp only[go_sem,qb,qa,hz62];apply hK
     refine za fun Z64 hZ64=>?_
     refine zo rfl ?_;apply zd;apply hZ64
     refine za fun Z65 hZ65=>?_
     apply ze;have f66:=E90.idxS hx62;have f67:=E90.loadS rfl rfl hx62
     refine rg tok [2,3,6,8,27,28,29,37,38,39] fun K hK=>?_
     simp only[go_sem,qb,qg,qa,qd,cellsGTree,yV,f66,f67];apply hK
     obtain⟨r68,hr68,h⟩:=bind_some h;have f69:=ZO r68;unfold AV.one at f69;obtain⟨_u70,hu70,h⟩:=bind_some h;have gu70:=ym hu70;have f71:=(zt E156.len l56)
     refine rdE [2,3,6,27,28,29,37,38,39] fun K hK=>?_
     refine DW.start (T:=tab) [.any,.own 2 [],.at [],.eff,.eff,.eff,.any,.eff] [(2,[])] ?_;refine DW.runN tok 3 ?_;simp only[go_sem,qb,qg,qa,qd,encGValueValue,qj,ql,qq];refine DW.call rfl rfl rfl (ev_value_made y62 r68 hr68 _) ?_;refine DW.runN tok 4 ?_;simp only[go_sem,qb,qg,qa,qd,qs,zB,zV,q2,qV,true_and,ub,z8,zP,yl,encGValueValue,f69,gu70,f71,yM,uf,q1,AV.one,qT,qx,qj,ql,qq,qG];refine DW.fin tok (by decide +kernel) rfl ?_;simp only[zi,upd,qa,reduceIte,yp,yY];apply hK
     apply hZ65
     refine rgE tok [2,3,6,27,28,29,37,38,39] fun K hK=>?_
     simp only[go_sem,qb,qa,hw62];apply hK
     exact⟨_,_,_,qt q62.length,⟨p62++[y62],q62,x58+1,l56++[r68],v57+1,rfl,rfl,rfl,hE'62,hi'62,h⟩,(.t [0,1,2,3] false)⟩
   rw[if_neg hc49] at h;have t72:=eq_false hc49;apply zy;apply hZ13
   refine rg tok [2] fun K hK=>?_
   simp only[go_sem,qb,qg,qa,t72];apply hK
   cases h;exact rtA
 clear h
 rintro m L τ ⟨k20,l14,x16,v15,rfl,rfl,rfl,h⟩
 rcases k20 with _|k20
 · cases h
 simp only[zL.l20] at h;refine rgN [2,3,27,28,29,30] ?_
 refine za fun Z21 hZ21=>?_
 refine zx rfl (fun hc22=>?_) (fun hc22=>?_)
 · rw[if_pos hc22] at h;have t23:=eq_true hc22;apply zd;apply hZ21
   refine za fun Z24 hZ24=>?_
   apply ze;obtain⟨y25,hy25,h⟩:=bind_some h;have f26:=E27.idxS hy25;have f27:=E27.loadS rfl rfl hy25
   refine rg tok [2,3,5,27,28,29] fun K hK=>?_
   simp only[go_sem,qb,qg,qa,qd,cellsGEntry,zU,t23,f26,f27];apply hK
   refine rgN [2,3,5,6,27,28,29] ?_;refine wN 4 1 1 rfl (by simp) rfl (L:=[(2,.op 0 0 0),(3,.op 1 0 0),(5,.op 3 0 0),(6,.op 4 0 0),(27,.ds true (qe encGEntry a0.fEntries) (qc a0.fEntries) false),(28,.int .i64 (qc a0.fEntries:Int)),(29,.int .i64 x16)]) (τ:=[.cells 0 [.nilI],.cells 0 [.os true 2 2 v15 0 (qc l14) false,.ds true (qe encGRaw r12) (qc r12) false],.cells v15 (qe encGValueEntry l14),.cells 0 (cellsGEntry y25),.cells 0 [.int .i64 y25.fTag,.os true 1 5 0 0 (qc ([]:List GValueValue)) false],.cells 0 (qe encGValueValue ([]:List GValueValue))]) .s ?_
   refine za fun Z28 hZ28=>?_
   refine rgN [2,3,6,27,28,29,37,38,39] ?_;apply ze
   refine xj 37 fun hb35=>?_
   replace hb35:qc y25.fTrees≤9223372036854775807:=hb35.1;refine zq (fun m L τ=>∃ (p35 q35:List GTree) (x31:Int) (l29:List GValueValue) (v30:Nat),m=qc q35∧L=[(2,.op 0 0 0),(3,.op 1 0 0),(6,.op 3 0 0),(27,.ds true (qe encGEntry a0.fEntries) (qc a0.fEntries) false),(28,.int .i64 (qc a0.fEntries:Int)),(29,.int .i64 x16),(37,.ds true (qe encGTree y25.fTrees) (qc y25.fTrees) false),(38,.int .i64 (qc y25.fTrees:Int)),(39,.int .i64 x31)]∧τ=[.cells 0 [.nilI],.cells 0 [.os true 2 2 v15 0 (qc l14) false,.ds true (qe encGRaw r12) (qc r12) false],.cells v15 (qe encGValueEntry l14),.cells 0 [.int .i64 y25.fTag,.os true 1 4 v30 0 (qc l29) false],.cells v30 (qe encGValueValue l29)]∧y25.fTrees=p35++q35∧x31=(qc p35:Int)∧zL.l35 yx l14 x16 (zL.l20 yx a0 r12 k20) y25 q35 x31 l29=some r) _ ⟨[],y25.fTrees,0,([]:List GValueValue),0,rfl,rfl,rfl,rfl,rfl,h⟩ (.t [0,1,2,4,5] false) ?_;rintro m L τ ⟨p35,q35,x31,l29,v30,rfl,rfl,rfl,hE35,hi35,h⟩
   rcases q35 with _|⟨y35,q35⟩
   · have hz35:=yy hE35 hi35;simp only[zL.l35] at h
     refine rg tok [2,3,6,27,28,29,37,38,39,40] fun K hK=>?_
     simp only[go_sem,qb,qa,hz35];apply hK
     refine za fun Z36 hZ36=>?_
     refine zn rfl ?_;apply zy;apply hZ28;obtain⟨_u37,hu37,h⟩:=bind_some h;have gu37:=ym hu37;have f38:=(zt E190.len l14)
     refine rdE [2,3,27,28,29] fun K hK=>?_
     refine DW.start (T:=tab) [.any,.any,.any,.any,.own 1 [],.at [],.eff,.eff,.any,.any,.eff] [(1,[])] ?_;refine DW.runN tok 8 ?_;simp only[go_sem,qb,qg,qa,qd,qs,zB,zV,q2,qV,true_and,ub,z8,zP,yl,gu37,f38,yM,uf,q1,AV.one,qT,qx,qj,ql,qq,qG];refine DW.runN tok 3 ?_;simp only[go_sem,qb,qg,qa,qd,qj,ql,qq];refine DW.fin tok (by decide +kernel) rfl ?_;simp only[zi,upd,qa,reduceIte,yp,yY];apply hK
     apply hZ24
     refine rgE tok [2,3,27,28,29] fun K hK=>?_
     simp only[go_sem,qb,qa];apply hK
     exact⟨_,_,_,qt (0+k20),⟨k20,l14++[(⟨y25.fTag,l29⟩:GValueEntry)],IntKind.i64.wrap (x16+1),v15+1,rfl,rfl,rfl,h⟩,(.t [0,1,2] false)⟩
   obtain⟨hz35,hw35,hx35,hE'35,hi'35⟩:=zX hE35 hi35 hb35;simp only[zL.l35] at h
   refine rg tok [2,3,6,27,28,29,37,38,39,40] fun K hK=>?_
   simp only[go_sem,qb,qa,hz35];apply hK
   refine za fun Z39 hZ39=>?_
   refine zo rfl ?_;apply zd;apply hZ39
   refine za fun Z40 hZ40=>?_
   apply ze;have f41:=E90.idxS hx35;have f42:=E90.loadS rfl rfl hx35
   refine rg tok [2,3,6,8,27,28,29,37,38,39] fun K hK=>?_
   simp only[go_sem,qb,qg,qa,qd,cellsGTree,yV,f41,f42];apply hK
   obtain⟨r43,hr43,h⟩:=bind_some h;have f44:=ZO r43;unfold AV.one at f44;obtain⟨_u45,hu45,h⟩:=bind_some h;have gu45:=ym hu45;have f46:=(zt E156.len l29)
   refine rdE [2,3,6,27,28,29,37,38,39] fun K hK=>?_
   refine DW.start (T:=tab) [.any,.own 2 [],.at [],.eff,.eff,.eff,.any,.eff] [(2,[])] ?_;refine DW.runN tok 3 ?_;simp only[go_sem,qb,qg,qa,qd,encGValueValue,qj,ql,qq];refine DW.call rfl rfl rfl (ev_value_made y35 r43 hr43 _) ?_;refine DW.runN tok 4 ?_;simp only[go_sem,qb,qg,qa,qd,qs,zB,zV,q2,qV,true_and,ub,z8,zP,yl,encGValueValue,f44,gu45,f46,yM,uf,q1,AV.one,qT,qx,qj,ql,qq,qG];refine DW.fin tok (by decide +kernel) rfl ?_;simp only[zi,upd,qa,reduceIte,yp,yY];apply hK
   apply hZ40
   refine rgE tok [2,3,6,27,28,29,37,38,39] fun K hK=>?_
   simp only[go_sem,qb,qa,hw35];apply hK
   exact⟨_,_,_,qt q35.length,⟨p35++[y35],q35,x31+1,l29++[r43],v30+1,rfl,rfl,rfl,hE'35,hi'35,h⟩,(.t [0,1,2,3,4] false)⟩
 rw[if_neg hc22] at h;have t47:=eq_false hc22;apply zy;apply hZ13
 refine rg tok [2] fun K hK=>?_
 simp only[go_sem,qb,qg,qa,t47];apply hK
 cases h;exact rtA
def zL : Nat→GTree→Option GValueValue
 |0,_=>none
 |k+1,a0=>zL.body (zL k) a0
theorem zL.all (k:Nat):(∀ (a0:GTree) (r:GValueValue),zL k a0=some r→ACalls qh 97 [.agg (cellsGTree a0)] [] (fun r' _=>r'=.agg (encGValueValue r))):=by
 induction k with
 |zero=>exact (fun a0 r h=>by simp only[zL] at h; cases h)
 |succ k ih=>exact (fun a0 r h=>zL.step _ ih a0 r (by simpa only [zL] using h))
theorem zL.ev (k:Nat)(a0:GTree)(r:GValueValue)(h:zL k a0=some r)(σ:Store):ACalls qh 97 [.agg (cellsGTree a0)] σ (fun r' σ'=>r'=.agg (encGValueValue r)∧σ'=σ):=
 ((zL.all k) a0 r h).c σ
def ZX (a0:GTree):Option (GValueValue×Bool):=
 (wI a0).bind fun r2=>(if (!r2)=true then some (GValueValue.nil,false) else (zL rounds a0).bind fun r4=>some (r4,true))
theorem ZX.ok (a0:GTree)(r:GValueValue×Bool)(h:ZX a0=some r):ACalls qh 57 [.agg (cellsGTree a0)] [] (fun r' _=>r'=.tup [.agg (encGValueValue r.1),.bool r.2]):=by
 refine zf (rs:=[.cell 2 110,.tmp 3]) tok Tryz.func57 rfl Tryz.ntmps57 rfl Tryz.call57 (by simp) ?_;refine zl [(0,.agg (cellsGTree a0))] ⟨rfl,trivial⟩ ?_;unfold ZX at h
 refine rg tok [1,2] fun K hK=>?_
 simp only[go_sem,qb,qa,qd,reduceCtorEq,cellsGTree];apply hK
 refine za fun Z1 hZ1=>?_
 refine rc [1,2,6] fun K hK=>?_
 obtain⟨r2,hr2,h⟩:=bind_some h;refine rnN 1 ?_;refine clN rfl rfl rfl (wI.ev a0 r2 hr2 _) ?_;refine rnN 1 ?_;refine nkN hK ?_;refine zm (b:=(!r2)) rfl (fun hc3=>?_) (fun hc3=>?_)
 · rw[if_pos hc3] at h;refine rgN [2,3] ?_;cases h;exact rtA
 rw[xQ hc3] at h;apply zd;apply hZ1
 refine rc [2,3] fun K hK=>?_
 obtain⟨r4,hr4,h⟩:=bind_some h;refine rnN 1 ?_;refine clN rfl rfl rfl (zL.ev rounds a0 r4 hr4 _) ?_;have f5:=ZO r4;unfold AV.one at f5;refine zj tok 2 ?_;simp only[go_sem,qb,qg,qa,encGValueValue,f5];refine nkN hK ?_;cases h;exact rtA
theorem ZX.ev (a0:GTree)(r:GValueValue×Bool)(h:ZX a0=some r)(σ:Store):ACalls qh 57 [.agg (cellsGTree a0)] σ (fun r' σ'=>r'=.tup [.agg (encGValueValue r.1),.bool r.2]∧σ'=σ):=
 (ZX.ok a0 r h).c σ
def yH (a0:GValueValue):Option GValueNode:=
 (match a0 with|.nil=>none|.num n2=>none|.str s2=>none|.node e2 r2=>some (⟨e2,r2⟩:GValueNode))
theorem yH.ok (a0:GValueValue)(r:GValueNode)(h:yH a0=some r):ACalls qh 59 [.agg (encGValueValue a0)] [] (fun r' _=>r'=.dp (encGValueNode r) 0):=by
 refine zf (rs:=[.tmp 2]) tok Tryz.func59 rfl Tryz.ntmps59 rfl Tryz.call59 (by simp) ?_;refine zl [(0,.agg (encGValueValue a0))] ⟨rfl,trivial⟩ ?_;unfold yH at h;have f1:=ZO a0;unfold AV.one at f1
 refine rg tok [1] fun K hK=>?_
 simp only[go_sem,qb,qa,reduceCtorEq,encGValueValue,f1];apply hK
 rcases a0 with _|n2|s2|⟨e2,r2⟩
 · dsimp only at h
   try simp only[vbs]
   cases h
 · dsimp only at h
   try simp only[vbr]
   cases h
 · dsimp only at h
   try simp only[vbq]
   cases h
 dsimp only at h
 try simp only[XH]
 refine rg tok [2] fun K hK=>?_
 simp only[go_sem,qb,qa,xZ,wd,TypeDesc.isIface];apply hK
 cases h;exact rtA
theorem yH.ev (a0:GValueValue)(r:GValueNode)(h:yH a0=some r)(σ:Store):ACalls qh 59 [.agg (encGValueValue a0)] σ (fun r' σ'=>r'=.dp (encGValueNode r) 0∧σ'=σ):=
 (yH.ok a0 r h).c σ
def wQ (a0:GValueNode):Option (List GRaw):=
 (yS a0.frest).bind fun r1=>some r1
theorem wQ.own (a0:GValueNode)(r:List GRaw)(h:wQ a0=some r):ACalls qh 98 [.dp (encGValueNode a0) 0] [] (fun r' σ'=>r'=.os true 4 0 0 0 (qc r) false∧σ'=[.cells 0 (qe encGRaw r)]):=by
 refine ACalls.own0 (by simp only[push_cast]) ?_;refine ZS (rs:=[.tmp 2]) tok Tryz.func98 rfl Tryz.ntmps98 rfl Tryz.call98 (by simp) ?_;refine zl [(0,.dp (encGValueNode a0) 0)] ⟨rfl,trivial⟩ ?_;unfold wQ at h;refine rgN [0] ?_
 refine rc [2] fun K hK=>?_
 obtain⟨r1,hr1,h⟩:=bind_some h;refine zj tok 4 ?_;simp only[go_sem,qb,qa,qd,reduceCtorEq,encGValueNode,vau];refine clN rfl rfl rfl (@id (ACalls qh 135 [.ds true (qe encGRaw a0.frest) (qc a0.frest) false] [] (fun r' σ'=>r'=.os true 4 0 0 0 (qc r1) false∧σ'=[.cells 0 (qe encGRaw r1)])) ((yS.own a0.frest r1 hr1).ownAt0 (by simp only[push_cast]) (by simp only[push_cast]) _)) ?_;refine rnN 1 ?_;refine nkN hK ?_;apply yz;cases h;simp only[ZF,yP,yX,xO,exists_eq_left',go_sem];refine⟨0,0,by simp,?_,?_⟩
 · first|rfl|(simp only[go_sem,qb,qg,qa,qd,qs,qH,reduceIte,reduceCtorEq,push_cast,if_true,qA,qq,qD,qw,qB,qM,qW,qS,qU,qQ,qy,zH,encGRaw]<;>rfl)
 first|rfl|(simp only[go_sem,push_cast,qw,zH]<;>rfl)
def ya.l8 : List GValueEntry→Int→List Int→Option (List Int)
 |[],x4,l2=>some l2
 |y8::q8,x4,l2=>(ZY (qc l2+1) 8).bind fun _u14=>((ya.l8 q8) (x4+1) (l2++[y8.ftag]))
def ya (a0:GValueNode):Option (List Int):=
 (ya.l8 a0.fentries 0 ([]:List Int))
theorem ya.own (a0:GValueNode)(r:List Int)(h:ya a0=some r):ACalls qh 99 [.dp (encGValueNode a0) 0] [] (fun r' σ'=>r'=.os true 1 0 0 0 (qc r) false∧σ'=[.cells 0 (qe encI r)]):=by
 refine ACalls.own0 (by simp only[push_cast]) ?_;refine ZS (rs:=[.tmp 2]) tok Tryz.func99 rfl Tryz.ntmps99 rfl Tryz.call99 (by simp) ?_;refine zl [(0,.dp (encGValueNode a0) 0)] ⟨rfl,trivial⟩ ?_;unfold ya at h;refine rgN [0] ?_;refine rgN [0,3] ?_;refine Zy 3 1 rfl ?_;refine zW (L:=[(0,.dp (encGValueNode a0) 0),(3,.os true 1 0 0 0 (qc ([]:List Int)) false)]) (τ:=[.cells 0 (qe encI ([]:List Int))]) .s ?_
 refine za fun Z1 hZ1=>?_
 refine rg tok [3,9,10,11] fun K hK=>?_
 simp only[go_sem,qb,qa,qd,reduceCtorEq,encGValueNode,vau];apply hK
 apply ze
 refine xj 9 fun hb8=>?_
 replace hb8:qc a0.fentries≤9223372036854775807:=hb8.1;refine zq (fun m L τ=>∃ (p8 q8:List GValueEntry) (x4:Int) (l2:List Int) (v3:Nat),m=qc q8∧L=[(3,.os true 1 0 v3 0 (qc l2) false),(9,.ds true (qe encGValueEntry a0.fentries) (qc a0.fentries) false),(10,.int .i64 (qc a0.fentries:Int)),(11,.int .i64 x4)]∧τ=[.cells v3 (qe encI l2)]∧a0.fentries=p8++q8∧x4=(qc p8:Int)∧ya.l8 q8 x4 l2=some r) _ ⟨[],a0.fentries,0,([]:List Int),0,rfl,rfl,rfl,rfl,rfl,h⟩ .s ?_;rintro m L τ ⟨p8,q8,x4,l2,v3,rfl,rfl,rfl,hE8,hi8,h⟩
 rcases q8 with _|⟨y8,q8⟩
 · have hz8:=yy hE8 hi8;simp only[ya.l8] at h
   refine rg tok [3,9,10,11,12] fun K hK=>?_
   simp only[go_sem,qb,qa,hz8];apply hK
   refine za fun Z9 hZ9=>?_
   refine zn rfl ?_;apply zy;apply hZ1;refine rgN [2] ?_;apply yz;cases h;simp only[ZF,yP,yX,xO,exists_eq_left',go_sem];refine⟨0,v3,by simp,?_,?_⟩
   · first|rfl|(simp only[go_sem,qb,qg,qa,qd,qs,qH,reduceIte,reduceCtorEq,push_cast,if_true,qA,qq,qD,qw,qB,qM,qW,qS,qU,qQ,qy,zH]<;>rfl)
   first|rfl|(simp only[go_sem,push_cast,qw,zH]<;>rfl)
 obtain⟨hz8,hw8,hx8,hE'8,hi'8⟩:=zX hE8 hi8 hb8;simp only[ya.l8] at h
 refine rg tok [3,9,10,11,12] fun K hK=>?_
 simp only[go_sem,qb,qa,hz8];apply hK
 refine za fun Z10 hZ10=>?_
 refine zo rfl ?_;apply zd;apply hZ10
 refine za fun Z11 hZ11=>?_
 apply ze;have f12:=E190.idxS hx8;have f13:=E190.loadS rfl rfl hx8
 refine rg tok [3,5,9,10,11] fun K hK=>?_
 simp only[go_sem,qb,qg,qa,qd,cellsGValueEntry,xW,f12,f13];apply hK
 obtain⟨_u14,hu14,h⟩:=bind_some h;have gu14:=ym hu14;have f15:=(zt E45.len l2)
 refine rgE tok [3,9,10,11] fun K hK=>?_
 simp only[go_sem,qb,qg,qa,qd,qs,zB,zV,q2,qV,true_and,ub,z8,zP,yl,gu14,f15,yM,uf,q1,AV.one,qT,qx,qj,ql,qq,qG];apply hK
 apply hZ11
 refine rgE tok [3,9,10,11] fun K hK=>?_
 simp only[go_sem,qb,qa,hw8];apply hK
 exact⟨_,_,_,qt q8.length,⟨p8++[y8],q8,x4+1,l2++[y8.ftag],v3+1,rfl,rfl,rfl,hE'8,hi'8,h⟩,(.t [0] false)⟩
theorem ya.ok (a0:GValueNode)(r:List Int)(h:ya a0=some r):ACalls qh 99 [.dp (encGValueNode a0) 0] [] (fun r' _=>r'=.ds true (qe encI r) (qc r) false):=
 (ya.own a0 r h).ownData (zt E45.len r) (by simp only[push_cast])
theorem ya.ev (a0:GValueNode)(r:List Int)(h:ya a0=some r)(σ:Store):ACalls qh 99 [.dp (encGValueNode a0) 0] σ (fun r' σ'=>r'=.ds true (qe encI r) (qc r) false∧σ'=σ):=
 (ya.ok a0 r h).c σ
def wx (a0:List GValueValue):Option (List GValueValue):=(ZY (qc a0) 16).bind fun _=>some a0
theorem wx.own (a0 r:List GValueValue)(h:wx a0=some r):ACalls qh 136 [.ds true (qe encGValueValue a0) (qc a0) false] [] (fun r' σ'=>r'=.os true 1 0 0 0 (qc r) false∧σ'=[.cells 0 (qe encGValueValue r)]):=by
 obtain⟨_u,hu,h⟩:=bind_some h;have gu:=ym hu;cases h
 have f1:=fun nl tt σ=>wa E156.len a0 nl tt σ
 have f2:=zt E156.len a0;have f3:=ZZ encGValueValue a0;refine vck (rs:=[.tmp 2]) tok Tryz.func136 rfl Tryz.ntmps136 rfl Tryz.call136 (by simp) ?_;refine zl [(0,.ds true (qe encGValueValue a0) (qc a0) false)] ⟨rfl,trivial⟩ ?_;refine rgN [0] ?_
 refine za fun Z1 hZ1=>?_
 refine rc [0,4] fun K hK=>?_
 refine rnN 1 ?_
 refine vaL tok rfl rfl rfl rfl rfl rfl fun b hnil=>?_
 have hb:b=true→a0=[]:=fun hb=>by
  have:=hnil hb;simp only[yl,go_sem,reduceCtorEq] at this;exact u9 this
 clear hnil
 refine nkN hK ?_;cases b
 · refine zn rfl ?_;apply zd;apply hZ1
   refine rg tok [2] fun K hK=>?_
   by_cases h0:qc a0=0
   · obtain rfl:=u9 h0;simp only[go_sem,qb,qa,reduceCtorEq,zB,zV,qV,ux,z8,zP,yl,yf,uo,ql,uI,uf];apply hK
     apply yz;simp only[ZF,yP,yX,xO,exists_eq_left',go_sem];refine .inl ⟨0,true,by simp,?_,?_⟩
     · first|rfl|(simp only[go_sem,qb,qg,qa,qd,qs,qH,reduceIte,reduceCtorEq,Zg,ww,if_true]<;>rfl)
     first|rfl|(simp only[go_sem,qb,qg,qa,qd,qs,qH,reduceIte,reduceCtorEq,YK,vbF,Yn,YM,YL,qw]<;>rfl)
   have h1:=eq_false h0;simp only[go_sem,qb,qa,reduceCtorEq,zB,zV,qV,ux,z8,zP,yl,f1,f3,h1,gu,yM,qw,qx,uI];apply hK
   apply yz;simp only[ZF,yP,yX,xO,exists_eq_left',go_sem,qd];refine .inl ⟨1,false,by simp,?_,?_⟩
   · first|rfl|(simp only[go_sem,qb,qg,qa,qd,qs,qH,reduceIte,reduceCtorEq,Zg,ww,if_true]<;>rfl)
   first|rfl|(simp only[go_sem,YK,Yn,YM,YL,zH]<;>rfl)
 obtain rfl:=hb rfl;refine zo rfl ?_;refine rgN [2] ?_;apply yz;simp only[ZF,yP,yX,xO,exists_eq_left',go_sem];refine .inr ?_
 first|rfl|(simp only[go_sem,qb,qg,qa,qd,qs,qH,reduceIte,reduceCtorEq,YE,qw,qM,qW,qy,qS]<;>rfl)
def yA.l4 (a1:Int):List GValueEntry→Int→Option (List GValueValue)
 |[],x2=>some ([]:List GValueValue)
 |y4::q4,x2=>(if y4.ftag=a1 then (wx y4.fl).bind fun r12=>some r12 else ((yA.l4 a1 q4) (x2+1)))
def yA (a0:GValueNode)(a1:Int):Option (List GValueValue):=
 (yA.l4 a1 a0.fentries 0)
theorem yA.ok (a0:GValueNode)(a1:Int)(r:List GValueValue)(h:yA a0 a1=some r):ACalls qh 100 [.dp (encGValueNode a0) 0,.int .i64 a1] [] (fun r' _=>r'=.ds true (qe encGValueValue r) (qc r) false):=by
 refine zf (rs:=[.tmp 4]) tok Tryz.func100 rfl Tryz.ntmps100 rfl Tryz.call100 (by simp) ?_;refine zl [(0,.dp (encGValueNode a0) 0),(1,.int .i64 a1)] ⟨rfl,rfl,trivial⟩ ?_;unfold yA at h;refine rgN [0,1] ?_
 refine za fun Z1 hZ1=>?_
 refine rg tok [1,10,11,12] fun K hK=>?_
 simp only[go_sem,qb,qa,qd,reduceCtorEq,encGValueNode,vau];apply hK
 apply ze
 refine xj 10 fun hb4=>?_
 replace hb4:qc a0.fentries≤9223372036854775807:=hb4.1;refine zq (fun m L τ=>∃ (p4 q4:List GValueEntry) (x2:Int),m=qc q4∧L=[(1,.int .i64 a1),(10,.ds true (qe encGValueEntry a0.fentries) (qc a0.fentries) false),(11,.int .i64 (qc a0.fentries:Int)),(12,.int .i64 x2)]∧τ=[]∧a0.fentries=p4++q4∧x2=(qc p4:Int)∧yA.l4 a1 q4 x2=some r) _ ⟨[],a0.fentries,0,rfl,rfl,rfl,rfl,rfl,h⟩ .s ?_;rintro m L τ ⟨p4,q4,x2,rfl,rfl,rfl,hE4,hi4,h⟩
 rcases q4 with _|⟨y4,q4⟩
 · have hz4:=yy hE4 hi4;simp only[yA.l4] at h
   refine rg tok [1,10,11,12,13] fun K hK=>?_
   simp only[go_sem,qb,qa,hz4];apply hK
   refine za fun Z5 hZ5=>?_
   refine zn rfl ?_;apply zy;apply hZ1;refine rgN [4] ?_;cases h;exact rtA
 obtain⟨hz4,hw4,hx4,hE'4,hi'4⟩:=zX hE4 hi4 hb4;simp only[yA.l4] at h
 refine rg tok [1,10,11,12,13] fun K hK=>?_
 simp only[go_sem,qb,qa,hz4];apply hK
 refine za fun Z6 hZ6=>?_
 refine zo rfl ?_;apply zd;apply hZ6
 refine za fun Z7 hZ7=>?_
 apply ze;have f8:=E190.idxS hx4;have f9:=E190.loadS rfl rfl hx4
 refine rg tok [1,6,10,11,12] fun K hK=>?_
 simp only[go_sem,qb,qg,qa,qd,cellsGValueEntry,xW,f8,f9];apply hK
 refine rgN [1,6,10,11,12,19] ?_;refine zx rfl (fun hc10=>?_) (fun hc10=>?_)
 · rw[if_pos hc10] at h;have t11:=eq_true hc10
   refine rc [4] fun K hK=>?_
   obtain⟨r12,hr12,h⟩:=bind_some h;refine zj tok 2 ?_;simp only[go_sem,qb,qa,qd,t11];refine clN rfl rfl rfl (@id (ACalls qh 136 [.ds true (qe encGValueValue y4.fl) (qc y4.fl) false] [.cells 0 (cellsGValueEntry y4)] (fun r' σ'=>r'=.os true 1 1 0 0 (qc r12) false∧σ'=[.cells 0 (cellsGValueEntry y4),.cells 0 (qe encGValueValue r12)])) ((wx.own y4.fl r12 hr12).ownAt0 (by simp only[push_cast]) (by simp only[push_cast]) _)) ?_;refine rnN 1 ?_;refine nkN hK ?_;cases h;exact rtA
 rw[if_neg hc10] at h;have t13:=eq_false hc10;apply zd;apply hZ7
 refine rgE tok [1,10,11,12] fun K hK=>?_
 simp only[go_sem,qb,qa,hw4,t13];apply hK
 exact⟨_,_,_,qt q4.length,⟨p4++[y4],q4,x2+1,rfl,rfl,rfl,hE'4,hi'4,h⟩,(.t [] false)⟩
theorem yA.ev (a0:GValueNode)(a1:Int)(r:List GValueValue)(h:yA a0 a1=some r)(σ:Store):ACalls qh 100 [.dp (encGValueNode a0) 0,.int .i64 a1] σ (fun r' σ'=>r'=.ds true (qe encGValueValue r) (qc r) false∧σ'=σ):=
 (yA.ok a0 a1 r h).c σ
def xJ (a0:GValueValue):Int×Bool:=
 (match a0 with|.nil=>(0,false)|.num n2=>(n2,true)|.str s2=>(0,false)|.node e2 r2=>(0,false))
theorem xJ.ok (a0:GValueValue)(r:Int×Bool)(h:xJ a0=r):ACalls qh 155 [.agg (encGValueValue a0)] [] (fun r' _=>r'=.tup [.int .i64 r.1,.bool r.2]):=by
 refine zf (rs:=[.tmp 2,.tmp 3]) tok Tryz.func155 rfl Tryz.ntmps155 rfl Tryz.call155 (by simp) ?_;refine zl [(0,.agg (encGValueValue a0))] ⟨rfl,trivial⟩ ?_;unfold xJ at h;have f1:=ZO a0;unfold AV.one at f1
 refine rg tok [1] fun K hK=>?_
 simp only[go_sem,qb,qa,reduceCtorEq,encGValueValue,f1];apply hK
 rcases a0 with _|n2|s2|⟨e2,r2⟩
 · dsimp only at h
   try simp only[vbs]
   refine rg tok [4,5] fun K hK=>?_
   simp only[go_sem,qb,qa,qd,xZ,wd,TypeDesc.isIface];apply hK
   refine rgN [2,3] ?_;cases h;exact rtA
 · dsimp only at h
   try simp only[vbr]
   refine rg tok [4,5] fun K hK=>?_
   simp only[go_sem,qb,qa,qd,xZ,wd,TypeDesc.isIface];apply hK
   refine rgN [2,3] ?_;cases h;exact rtA
 · dsimp only at h
   try simp only[vbq]
   refine rg tok [4,5] fun K hK=>?_
   simp only[go_sem,qb,qa,qd,xZ,wd,TypeDesc.isIface];apply hK
   refine rgN [2,3] ?_;cases h;exact rtA
 dsimp only at h
 try simp only[XH]
 refine rg tok [4,5] fun K hK=>?_
 simp only[go_sem,qb,qa,qd,xZ,wd,TypeDesc.isIface];apply hK
 refine rgN [2,3] ?_;cases h;exact rtA
theorem xJ.ev (a0:GValueValue)(r:Int×Bool)(h:xJ a0=r)(σ:Store):ACalls qh 155 [.agg (encGValueValue a0)] σ (fun r' σ'=>r'=.tup [.int .i64 r.1,.bool r.2]∧σ'=σ):=
 (xJ.ok a0 r h).c σ
def xI (a0:GValueValue):List UInt8×Bool:=
 (match a0 with|.nil=>([],false)|.num n2=>([],false)|.str s2=>(s2,true)|.node e2 r2=>([],false))
theorem xI.ok (a0:GValueValue)(r:List UInt8×Bool)(h:xI a0=r):ACalls qh 156 [.agg (encGValueValue a0)] [] (fun r' _=>r'=.tup [.str r.1,.bool r.2]):=by
 refine zf (rs:=[.tmp 2,.tmp 3]) tok Tryz.func156 rfl Tryz.ntmps156 rfl Tryz.call156 (by simp) ?_;refine zl [(0,.agg (encGValueValue a0))] ⟨rfl,trivial⟩ ?_;unfold xI at h;have f1:=ZO a0;unfold AV.one at f1
 refine rg tok [1] fun K hK=>?_
 simp only[go_sem,qb,qa,reduceCtorEq,encGValueValue,f1];apply hK
 rcases a0 with _|n2|s2|⟨e2,r2⟩
 · dsimp only at h
   try simp only[vbs]
   refine rg tok [4,5] fun K hK=>?_
   simp only[go_sem,qb,qa,qd,xZ,wd,TypeDesc.isIface];apply hK
   refine rgN [2,3] ?_;cases h;exact rtA
 · dsimp only at h
   try simp only[vbr]
   refine rg tok [4,5] fun K hK=>?_
   simp only[go_sem,qb,qa,qd,xZ,wd,TypeDesc.isIface];apply hK
   refine rgN [2,3] ?_;cases h;exact rtA
 · dsimp only at h
   try simp only[vbq]
   refine rg tok [4,5] fun K hK=>?_
   simp only[go_sem,qb,qa,qd,xZ,wd,TypeDesc.isIface];apply hK
   refine rgN [2,3] ?_;cases h;exact rtA
 dsimp only at h
 try simp only[XH]
 refine rg tok [4,5] fun K hK=>?_
 simp only[go_sem,qb,qa,qd,xZ,wd,TypeDesc.isIface];apply hK
 refine rgN [2,3] ?_;cases h;exact rtA
theorem xI.ev (a0:GValueValue)(r:List UInt8×Bool)(h:xI a0=r)(σ:Store):ACalls qh 156 [.agg (encGValueValue a0)] σ (fun r' σ'=>r'=.tup [.str r.1,.bool r.2]∧σ'=σ):=
 (xI.ok a0 r h).c σ
def wh (a0:GValueValue):Option GValueValue:=
 bnd (xJ a0) fun r3=>(if r3.2=true then some (GValueValue.num r3.1) else bnd (xI a0) fun r6=>(if r6.2=true then some (GValueValue.str r6.1) else (yH a0).bind fun r8=>some (GValueValue.node r8.fentries r8.frest)))
theorem wh.ok (a0:GValueValue)(r:GValueValue)(h:wh a0=some r):ACalls qh 137 [.agg (encGValueValue a0)] [] (fun r' _=>r'=anyV r):=by
 refine zf (rs:=[.tmp 2]) tok Tryz.func137 rfl Tryz.ntmps137 rfl Tryz.call137 (by simp) ?_;refine zl [(0,.agg (encGValueValue a0))] ⟨rfl,trivial⟩ ?_;unfold wh at h;have f1:=ZO a0;unfold AV.one at f1
 refine rg tok [1] fun K hK=>?_
 simp only[go_sem,qb,qa,reduceCtorEq,encGValueValue,f1];apply hK
 refine za fun Z2 hZ2=>?_
 refine rc [1,3,4] fun K hK=>?_
 obtain⟨r3,hr3,h⟩:=zS h;refine rnN 1 ?_;refine clN rfl rfl rfl (xJ.ev a0 r3 hr3 _) ?_;refine rnN 5 ?_;refine nkN hK ?_;refine rgN [1,3,12] ?_;refine zm (b:=r3.2) rfl (fun hc4=>?_) (fun hc4=>?_)
 · rw[if_pos hc4] at h;refine rgN [2] ?_;cases h;exact rtA
 rw[xQ hc4] at h;apply zd;apply hZ2
 refine za fun Z5 hZ5=>?_
 refine rc [1,5,6] fun K hK=>?_
 obtain⟨r6,hr6,h⟩:=zS h;refine rnN 1 ?_;refine clN rfl rfl rfl (xI.ev a0 r6 hr6 _) ?_;refine rnN 5 ?_;refine nkN hK ?_;refine rgN [1,5,20] ?_;refine zm (b:=r6.2) rfl (fun hc7=>?_) (fun hc7=>?_)
 · rw[if_pos hc7] at h;refine rgN [2] ?_;cases h;exact rtA
 rw[xQ hc7] at h;apply zd;apply hZ5
 refine rc [2] fun K hK=>?_
 obtain⟨r8,hr8,h⟩:=bind_some h;refine rnN 1 ?_;refine clN rfl rfl rfl (yH.ev a0 r8 hr8 _) ?_;refine rnN 2 ?_;refine nkN hK ?_;cases h;exact rtA
theorem wh.ev (a0:GValueValue)(r:GValueValue)(h:wh a0=some r)(σ:Store):ACalls qh 137 [.agg (encGValueValue a0)] σ (fun r' σ'=>r'=anyV r∧σ'=σ):=
 (wh.ok a0 r h).c σ
def xo.l9 : Nat→List UInt8→Int→Option (List UInt8)
 |0,_,_=>none
 |k9+1,l3,x5=>(if 128≤x5 then (ZY (qc l3+1) 1).bind fun _u14=>((xo.l9 k9) (l3++[uc (qI (IntKind.u8.wrap ((ur (qE 8 (IntKind.u8.wrap x5) ||| qE 8 128):Nat):Int)))]) (Int.fdiv x5 (2^(min (qI 7) 64)))) else (ZY (qc l3+1) 1).bind fun _u18=>some (l3++[uc (qI (IntKind.u8.wrap x5))]))
def xo (a0:List UInt8)(a1:Int):Option (List UInt8):=
 (if 128≤a1 then (ZY (qc a0+1) 1).bind fun _u24=>(xo.l9 rounds (a0++[uc (qI (IntKind.u8.wrap ((ur (qE 8 (IntKind.u8.wrap a1) ||| qE 8 128):Nat):Int)))]) (Int.fdiv a1 (2^(min (qI 7) 64)))) else (ZY (qc a0+1) 1).bind fun _u28=>some (a0++[uc (qI (IntKind.u8.wrap a1))]))
theorem xo.own (a0:List UInt8)(a1:Int)(r:List UInt8)(h:xo a0 a1=some r):ACalls qh 89 [.ds true (qe encB a0) (qc a0) false,.int .u64 a1] [] (fun r' σ'=>r'=.os true 1 0 0 0 (qc r) false∧σ'=[.cells 0 (qe encB r)]):=by
 refine ACalls.own0 (by simp only[push_cast]) ?_;refine ZS (rs:=[.tmp 4]) tok Tryz.func89 rfl Tryz.ntmps89 rfl Tryz.call89 (by simp) ?_;refine zl [(0,.ds true (qe encB a0) (qc a0) false),(1,.int .u64 a1)] ⟨rfl,rfl,trivial⟩ ?_;unfold xo at h;refine rgN [0,1] ?_;have f1:=E34.sl_tight a0 .i64 .i64
 refine rg tok [0,1] fun K hK=>?_
 simp only[go_sem,qb,qa,reduceCtorEq,f1];apply hK
 refine za fun Z2 hZ2=>?_
 apply ze;refine awp_loopS1 (fun m L τ=>∃ (k9:Nat) (l3:List UInt8) (x5:Int) (v4:Nat),m=0+k9∧L=[(0,.os true 1 0 v4 0 (qc l3) false),(1,.int .u64 x5)]∧τ=[.cells v4 (qe encB l3)]∧xo.l9 k9 l3 x5=some r) (rounds+1) ?_ ?_
 · refine za fun Z20 hZ20=>?_
   refine rgN [0,1,12] ?_;refine zx rfl (fun hc21=>?_) (fun hc21=>?_)
   · rw[if_pos hc21] at h;have t22:=eq_true hc21;apply zd;apply hZ20;apply ze;have f23:=xq (T:=tab) (src:=140) (dst:=5) rfl rfl rfl;obtain⟨_u24,hu24,h⟩:=bind_some h;have gu24:=ym hu24;have f25:=app_tight E34.len a0 (m:=1) (by decide)
     refine rg tok [0,1] fun K hK=>?_
     simp only[go_sem,qb,qg,qa,qs,reduceCtorEq,zB,zV,q2,qV,true_and,ub,z8,yl,t22,f23,gu24,f25,yM,uf,q1,AV.one,qT,qx,qj,ql,qq,qG];apply hK
     refine zW (L:=[(0,.os true 1 1 0 0 (qc (a0++[uc (qI (IntKind.u8.wrap ((ur (qE 8 (IntKind.u8.wrap a1) ||| qE 8 128):Nat):Int)))])) false),(1,.int .u64 a1)]) (τ:=[.cells 0 [.int .u8 (IntKind.u8.wrap ((ur (qE 8 (IntKind.u8.wrap a1) ||| qE 8 128):Nat):Int))],.cells 0 (qe encB (a0++[uc (qI (IntKind.u8.wrap ((ur (qE 8 (IntKind.u8.wrap a1) ||| qE 8 128):Nat):Int)))]))]) (.same (by first|exact⟨rfl,rfl,trivial⟩|rfl|(simp only[go_sem,reduceCtorEq,Fits,qi,qj,ql,qq,and_self]<;>rfl)) (by first|exact⟨rfl,rfl,trivial⟩|rfl|(simp only[go_sem,encB,qR,qP,uo,qz,u8_wrap]<;>rfl))) ?_
     refine rgE tok [0,1] fun K hK=>?_
     simp only[go_sem,qb,qa,reduceCtorEq,Ys,Int.reduceLT];apply hK
     exact⟨_,_,_,(Nat.lt_succ_of_le (Nat.le_of_eq (qq rounds))),⟨rounds,a0++[uc (qI (IntKind.u8.wrap ((ur (qE 8 (IntKind.u8.wrap a1) ||| qE 8 128):Nat):Int)))],Int.fdiv a1 (2^(min (qI 7) 64)),0,rfl,rfl,rfl,h⟩,(.t [1] false)⟩
   rw[if_neg hc21] at h;have t26:=eq_false hc21;apply zy;apply hZ2;have f27:=xq (T:=tab) (src:=140) (dst:=5) rfl rfl rfl;obtain⟨_u28,hu28,h⟩:=bind_some h;have gu28:=ym hu28;have f29:=app_tight E34.len a0 (m:=1) (by decide)
   refine rg tok [4] fun K hK=>?_
   simp only[go_sem,qb,qg,qa,qs,reduceCtorEq,zB,zV,q2,qV,true_and,ub,z8,yl,t26,f27,gu28,f29,yM,uf,q1,AV.one,qT,qx,qj,ql,qq,qG];apply hK
   refine zW (L:=[(4,.os true 1 1 0 0 (qc (a0++[uc (qI (IntKind.u8.wrap a1))])) false)]) (τ:=[.cells 0 [.int .u8 (IntKind.u8.wrap a1)],.cells 0 (qe encB (a0++[uc (qI (IntKind.u8.wrap a1))]))]) (.same (by first|exact⟨rfl,trivial⟩|rfl|(simp only[go_sem,Fits,qi,qj,ql,qq,and_self]<;>rfl)) (by first|exact⟨rfl,trivial⟩|rfl|(simp only[go_sem,encB,qR,qP,uo,qz,u8_wrap]<;>rfl))) ?_;apply yz;cases h;simp only[ZF,yP,yX,xO,exists_eq_left',go_sem,qd];refine⟨1,0,by simp,?_,?_⟩
   · first|rfl|(simp only[go_sem,qb,qg,qa,qd,qs,qH,reduceIte,reduceCtorEq,push_cast,if_true,qA,qq,qD,qw,qB,qM,qW,qS,qU,qQ,qy,zH]<;>rfl)
   first|rfl|(simp only[go_sem,push_cast,qw,zH]<;>rfl)
 clear h
 rintro m L τ ⟨k9,l3,x5,v4,rfl,rfl,rfl,h⟩
 rcases k9 with _|k9
 · cases h
 simp only[xo.l9] at h
 refine za fun Z10 hZ10=>?_
 refine rgN [0,1,12] ?_;refine zx rfl (fun hc11=>?_) (fun hc11=>?_)
 · rw[if_pos hc11] at h;have t12:=eq_true hc11;apply zd;apply hZ10;apply ze;have f13:=xq (T:=tab) (src:=140) (dst:=5) rfl rfl rfl;obtain⟨_u14,hu14,h⟩:=bind_some h;have gu14:=ym hu14;have f15:=(zt E34.len l3)
   refine rg tok [0,1] fun K hK=>?_
   simp only[go_sem,qb,qg,qa,qs,reduceCtorEq,zB,zV,q2,qV,true_and,ub,z8,zP,yl,t12,f13,gu14,f15,yM,uf,q1,AV.one,qT,qx,qj,ql,qq,qG];apply hK
   refine zW (L:=[(0,.os true 1 0 (v4+1) 0 (qc (l3++[uc (qI (IntKind.u8.wrap ((ur (qE 8 (IntKind.u8.wrap x5) ||| qE 8 128):Nat):Int)))])) false),(1,.int .u64 x5)]) (τ:=[.cells (v4+1) (qe encB (l3++[uc (qI (IntKind.u8.wrap ((ur (qE 8 (IntKind.u8.wrap x5) ||| qE 8 128):Nat):Int)))])),.cells 0 [.int .u8 (IntKind.u8.wrap ((ur (qE 8 (IntKind.u8.wrap x5) ||| qE 8 128):Nat):Int))]]) (.same (by first|exact⟨rfl,rfl,trivial⟩|rfl|(simp only[go_sem,reduceCtorEq,Fits,qi,qj,ql,qq,and_self]<;>rfl)) (by first|exact⟨rfl,rfl,trivial⟩|rfl|(simp only[go_sem,encB,qR,qP,uo,qz,u8_wrap]<;>rfl))) ?_
   refine rgE tok [0,1] fun K hK=>?_
   simp only[go_sem,qb,qa,reduceCtorEq,Ys,Int.reduceLT];apply hK
   exact⟨_,_,_,qt (0+k9),⟨k9,l3++[uc (qI (IntKind.u8.wrap ((ur (qE 8 (IntKind.u8.wrap x5) ||| qE 8 128):Nat):Int)))],Int.fdiv x5 (2^(min (qI 7) 64)),v4+1,rfl,rfl,rfl,h⟩,(.t [0] false)⟩
 rw[if_neg hc11] at h;have t16:=eq_false hc11;apply zy;apply hZ2;have f17:=xq (T:=tab) (src:=140) (dst:=5) rfl rfl rfl;obtain⟨_u18,hu18,h⟩:=bind_some h;have gu18:=ym hu18;have f19:=(zt E34.len l3)
 refine rg tok [4] fun K hK=>?_
 simp only[go_sem,qb,qg,qa,qs,reduceCtorEq,zB,zV,q2,qV,true_and,ub,z8,zP,yl,t16,f17,gu18,f19,yM,uf,q1,AV.one,qT,qx,qj,ql,qq,qG];apply hK
 refine zW (L:=[(4,.os true 1 0 (v4+1) 0 (qc (l3++[uc (qI (IntKind.u8.wrap x5))])) false)]) (τ:=[.cells (v4+1) (qe encB (l3++[uc (qI (IntKind.u8.wrap x5))])),.cells 0 [.int .u8 (IntKind.u8.wrap x5)]]) (.same (by first|exact⟨rfl,trivial⟩|rfl|(simp only[go_sem,Fits,qi,qj,ql,qq,and_self]<;>rfl)) (by first|exact⟨rfl,trivial⟩|rfl|(simp only[go_sem,encB,qR,qP,uo,qz,u8_wrap]<;>rfl))) ?_;apply yz;cases h;simp only[ZF,yP,yX,xO,exists_eq_left',go_sem,qd];refine⟨0,v4+1,by simp,?_,?_⟩
 · first|rfl|(simp only[go_sem,qb,qg,qa,qd,qs,qH,reduceIte,reduceCtorEq,push_cast,if_true,qA,qq,qD,qw,qB,qM,qW,qS,qU,qQ,qy,zH]<;>rfl)
 first|rfl|(simp only[go_sem,push_cast,qw,zH]<;>rfl)
end
section
set_option maxRecDepth 4000
set_option maxHeartbeats 1000000
open AM
theorem xo.ok (a0:List UInt8)(a1:Int)(r:List UInt8)(h:xo a0 a1=some r):ACalls qh 89 [.ds true (qe encB a0) (qc a0) false,.int .u64 a1] [] (fun r' _=>r'=.ds true (qe encB r) (qc r) false):=
 (xo.own a0 a1 r h).ownData (zt E34.len r) (by simp only[push_cast])
theorem xo.ev (a0:List UInt8)(a1:Int)(r:List UInt8)(h:xo a0 a1=some r)(σ:Store):ACalls qh 89 [.ds true (qe encB a0) (qc a0) false,.int .u64 a1] σ (fun r' σ'=>r'=.ds true (qe encB r) (qc r) false∧σ'=σ):=
 (xo.ok a0 a1 r h).c σ
def ZU (a0:Int):Int:=
 IntKind.u64.wrap ((ur (qE 64 (IntKind.u64.wrap ((IntKind.u64.wrap a0)*2^(min (qI 1) 64))) ^^^ qE 64 (IntKind.u64.wrap (Int.fdiv a0 (2^(min (qI 63) 64))))):Nat):Int)
theorem ZU.ok (a0:Int)(r:Int)(h:ZU a0=r):ACalls qh 90 [.int .i64 a0] [] (fun r' _=>r'=.int .u64 r):=by
 refine zf (rs:=[.tmp 2]) tok Tryz.func90 rfl Tryz.ntmps90 rfl Tryz.call90 (by simp) ?_;refine zl [(0,.int .i64 a0)] ⟨rfl,trivial⟩ ?_;unfold ZU at h;refine rgN [0] ?_;have f1:=xq (T:=tab) (src:=3) (dst:=140) rfl rfl rfl;have f2:=xq (T:=tab) (src:=3) (dst:=140) rfl rfl rfl
 refine rg tok [2] fun K hK=>?_
 simp only[go_sem,qb,qa,reduceCtorEq,f1,Ys,Int.reduceLT];apply hK
 cases h;exact rtA
theorem ZU.ev (a0:Int)(r:Int)(h:ZU a0=r)(σ:Store):ACalls qh 90 [.int .i64 a0] σ (fun r' σ'=>r'=.int .u64 r∧σ'=σ):=
 (ZU.ok a0 r h).c σ
def ZT (a0:List UInt8)(a1:GRaw):Option (List UInt8×Bool):=
 bnd (yn a1) fun r2=>(if (!r2)=true then some (a0,false) else (xo a0 (IntKind.u64.wrap (IntKind.i64.wrap ((IntKind.i64.wrap (2*a1.fTag))+a1.fWire)))).bind fun r5=>(if a1.fWire=0 then bnd (ZU a1.fN) fun r9=>(xo r5 r9).bind fun r10=>some (r10,true) else (xo r5 (IntKind.u64.wrap (qc a1.fB:Int))).bind fun r13=>(ZY (qc r13+qc a1.fB) 1).bind fun _u14=>some (r13++a1.fB,true)))
theorem ZT.ok (a0:List UInt8)(a1:GRaw)(r:List UInt8×Bool)(h:ZT a0 a1=some r):ACalls qh 52 [.ds true (qe encB a0) (qc a0) false,.agg (encGRaw a1)] [] (fun r' _=>r'=.tup [.ds true (qe encB r.1) (qc r.1) false,.bool r.2]):=by
 refine zf (rs:=[.tmp 4,.tmp 5]) tok Tryz.func52 rfl Tryz.ntmps52 rfl Tryz.call52 (by simp) ?_;refine zl [(0,.ds true (qe encB a0) (qc a0) false),(1,.agg (encGRaw a1))] ⟨rfl,rfl,trivial⟩ ?_;unfold ZT at h
 refine rg tok [0,3] fun K hK=>?_
 simp only[go_sem,qb,qa,qd,reduceCtorEq,encGRaw];apply hK
 refine za fun Z1 hZ1=>?_
 refine rc [0,3,9] fun K hK=>?_
 obtain⟨r2,hr2,h⟩:=zS h;refine rnN 1 ?_;refine clN rfl rfl rfl (yn.ev a1 r2 hr2 _) ?_;refine rnN 1 ?_;refine nkN hK ?_;refine zm (b:=(!r2)) rfl (fun hc3=>?_) (fun hc3=>?_)
 · rw[if_pos hc3] at h;refine rgN [4,5] ?_;cases h;exact rtA
 rw[xQ hc3] at h;apply zd;apply hZ1
 refine rc [3,6] fun K hK=>?_
 have f4:=xq (T:=tab) (src:=3) (dst:=140) rfl rfl rfl;obtain⟨r5,hr5,h⟩:=bind_some h;refine zj tok 8 ?_;simp only[go_sem,qb,qa,qd,reduceCtorEq,f4];refine clN rfl rfl rfl (xo.ev a0 (IntKind.u64.wrap (IntKind.i64.wrap ((IntKind.i64.wrap (2*a1.fTag))+a1.fWire))) r5 hr5 _) ?_;refine rnN 1 ?_;refine nkN hK ?_
 refine za fun Z6 hZ6=>?_
 refine rgN [3,6,22] ?_;refine zx rfl (fun hc7=>?_) (fun hc7=>?_)
 · rw[if_pos hc7] at h;have t8:=eq_true hc7
   refine rc [4,5] fun K hK=>?_
   obtain⟨r9,hr9,h⟩:=zS h;refine zj tok 3 ?_;simp only[go_sem,qb,qa,qd,t8];refine clN rfl rfl rfl (ZU.ev a1.fN r9 hr9 _) ?_;obtain⟨r10,hr10,h⟩:=bind_some h;refine clN rfl rfl rfl (xo.ev r5 r9 r10 hr10 _) ?_;refine rnN 2 ?_;refine nkN hK ?_;cases h;exact rtA
 rw[if_neg hc7] at h;have t11:=eq_false hc7;apply zd;apply hZ6;have f12:=xq (T:=tab) (src:=3) (dst:=140) rfl rfl rfl;obtain⟨r13,hr13,h⟩:=bind_some h;obtain⟨_u14,hu14,h⟩:=bind_some h;have gu14:=ym hu14;have f15:=(zt E34.len r13)
 refine rd [4,5] fun K hK=>?_
 refine DW.start (T:=tab) [.any,.any,.at [],.at [],.at [],.eff,.any,.own 1 [],.eff,.any,.any] [(1,[])] ?_;refine DW.runN tok 5 ?_;simp only[go_sem,qb,qa,qd,t11,f12,qj,ql,qq];refine DW.callS rfl rfl rfl (@id (ACalls qh 89 [.ds true (qe encB r5) (qc r5) false,.int .u64 (IntKind.u64.wrap (qc a1.fB:Int))] [.cells 0 [.int .i64 a1.fTag,.int .i64 a1.fWire,.int .i64 a1.fN,.str a1.fB]] (fun r' σ'=>r'=.os true 1 1 0 0 (qc r13) false∧σ'=[.cells 0 [.int .i64 a1.fTag,.int .i64 a1.fWire,.int .i64 a1.fN,.str a1.fB],.cells 0 (qe encB r13)])) ((xo.own r5 (IntKind.u64.wrap (qc a1.fB:Int)) r13 hr13).ownAt0 (by simp only[push_cast]) (by simp only[push_cast]) _)) (vcj (by simp only[go_sem,qg])) ?_;refine DW.runN tok 5 ?_;simp only[go_sem,qb,qg,qa,qd,z8,zP,yl,true_and,gu14,f15,srcCells_s,vae,ZZ,qj,ql,qq];refine DW.fin tok (by decide +kernel) rfl ?_;simp only[zi,upd,qa,reduceIte,yp,yY];apply hK
 refine zW (L:=[(4,.os true 1 1 (0+1) 0 (qc (r13++a1.fB)) false),(5,.bool true)]) (τ:=[.cells 0 [.int .i64 a1.fTag,.int .i64 a1.fWire,.int .i64 a1.fN,.str a1.fB],.cells (0+1) (qe encB (r13++a1.fB))]) .s ?_;cases h;exact rtA
theorem ZT.ev (a0:List UInt8)(a1:GRaw)(r:List UInt8×Bool)(h:ZT a0 a1=some r)(σ:Store):ACalls qh 52 [.ds true (qe encB a0) (qc a0) false,.agg (encGRaw a1)] σ (fun r' σ'=>r'=.tup [.ds true (qe encB r.1) (qc r.1) false,.bool r.2]∧σ'=σ):=
 (ZT.ok a0 a1 r h).c σ
def ye.l11 : List GRaw→Int→List UInt8→Option (List UInt8×Int)
 |[],x8,x7=>some (x7,0)
 |y11::q11,x8,x7=>(ZT x7 y11).bind fun r17=>(if 4096<(qc r17.1:Int) then some (([]:List UInt8),4) else ((ye.l11 q11) (x8+1) r17.1))
def ye.l4 (a0:List GRaw):List GRaw→Int→Option (List UInt8×Int)
 |[],x2=>(ye.l11 a0 0 ([]:List UInt8))
 |y4::q4,x2=>bnd (yn y4) fun r25=>(if (!r25)=true then some (([]:List UInt8),1) else ((ye.l4 a0 q4) (x2+1)))
def ye (a0:List GRaw):Option (List UInt8×Int):=
 (ye.l4 a0 a0 0)
theorem ye.ok (a0:List GRaw)(r:List UInt8×Int)(h:ye a0=some r):ACalls qh 26 [.ds true (qe encGRaw a0) (qc a0) false] [] (fun r' _=>r'=.tup [.ds true (qe encB r.1) (qc r.1) false,.int .i64 r.2]):=by
 refine zf (rs:=[.tmp 2,.tmp 3]) tok Tryz.func26 rfl Tryz.ntmps26 rfl Tryz.call26 (by simp) ?_;refine zl [(0,.ds true (qe encGRaw a0) (qc a0) false)] ⟨rfl,trivial⟩ ?_;unfold ye at h;refine rgN [0] ?_
 refine za fun Z1 hZ1=>?_
 refine rgN [0,9,10,11] ?_;apply ze
 refine xj 0 fun hb4=>?_
 replace hb4:qc a0≤9223372036854775807:=hb4.1;refine zq (fun m L τ=>∃ (p4 q4:List GRaw) (x2:Int),m=qc q4∧L=[(0,.ds true (qe encGRaw a0) (qc a0) false),(9,.ds true (qe encGRaw a0) (qc a0) false),(10,.int .i64 (qc a0:Int)),(11,.int .i64 x2)]∧τ=[]∧a0=p4++q4∧x2=(qc p4:Int)∧ye.l4 a0 q4 x2=some r) _ ⟨[],a0,0,rfl,rfl,rfl,rfl,rfl,h⟩ .s ?_;rintro m L τ ⟨p4,q4,x2,rfl,rfl,rfl,hE4,hi4,h⟩
 rcases q4 with _|⟨y4,q4⟩
 · have hz4:=yy hE4 hi4;simp only[ye.l4] at h
   refine rg tok [0,9,10,11,12] fun K hK=>?_
   simp only[go_sem,qb,qa,reduceCtorEq,hz4];apply hK
   refine za fun Z5 hZ5=>?_
   refine zn rfl ?_;apply zy;apply hZ1;refine rgN [0,6] ?_
   refine za fun Z6 hZ6=>?_
   refine rgN [6,19,20,21] ?_;apply ze
   refine xj 19 fun hb11=>?_
   replace hb11:qc a0≤9223372036854775807:=hb11.1;refine zq (fun m L τ=>∃ (p11 q11:List GRaw) (x8:Int) (x7:List UInt8),m=qc q11∧L=[(6,.ds true (qe encB x7) (qc x7) false),(19,.ds true (qe encGRaw a0) (qc a0) false),(20,.int .i64 (qc a0:Int)),(21,.int .i64 x8)]∧τ=[]∧a0=p11++q11∧x8=(qc p11:Int)∧ye.l11 q11 x8 x7=some r) _ ⟨[],a0,0,([]:List UInt8),rfl,rfl,rfl,rfl,rfl,h⟩ (.t [] true) ?_;rintro m L τ ⟨p11,q11,x8,x7,rfl,rfl,rfl,hE11,hi11,h⟩
   rcases q11 with _|⟨y11,q11⟩
   · have hz11:=yy hE11 hi11;simp only[ye.l11] at h
     refine rg tok [6,19,20,21,22] fun K hK=>?_
     simp only[go_sem,qb,qa,hz11];apply hK
     refine za fun Z12 hZ12=>?_
     refine zn rfl ?_;apply zy;apply hZ6;refine rgN [2,3] ?_;cases h;exact rtA
   obtain⟨hz11,hw11,hx11,hE'11,hi'11⟩:=zX hE11 hi11 hb11;simp only[ye.l11] at h
   refine rg tok [6,19,20,21,22] fun K hK=>?_
   simp only[go_sem,qb,qa,hz11];apply hK
   refine za fun Z13 hZ13=>?_
   refine zo rfl ?_;apply zd;apply hZ13
   refine za fun Z14 hZ14=>?_
   apply ze;have f15:=E28.idxS hx11;have f16:=E28.loadS rfl rfl hx11
   refine rg tok [6,8,19,20,21] fun K hK=>?_
   simp only[go_sem,qb,qg,qa,qd,encGRaw,f15,f16];apply hK
   refine rc [6,19,20,21] fun K hK=>?_
   obtain⟨r17,hr17,h⟩:=bind_some h;refine rnN 2 ?_;refine clN rfl rfl rfl (ZT.ev x7 y11 r17 hr17 _) ?_;refine rnN 4 ?_;refine nkN hK ?_;refine rgN [6,19,20,21,33] ?_;refine zx rfl (fun hc18=>?_) (fun hc18=>?_)
   · rw[if_pos hc18] at h;have t19:=eq_true hc18
     refine rg tok [2,3] fun K hK=>?_
     simp only[go_sem,qb,qa,t19];apply hK
     cases h;exact rtA
   rw[if_neg hc18] at h;have t20:=eq_false hc18;apply zd;apply hZ14
   refine rgE tok [6,19,20,21] fun K hK=>?_
   simp only[go_sem,qb,qa,hw11,t20];apply hK
   exact⟨_,_,_,qt q11.length,⟨p11++[y11],q11,x8+1,r17.1,rfl,rfl,rfl,hE'11,hi'11,h⟩,(.t [] false)⟩
 obtain⟨hz4,hw4,hx4,hE'4,hi'4⟩:=zX hE4 hi4 hb4;simp only[ye.l4] at h
 refine rg tok [0,9,10,11,12] fun K hK=>?_
 simp only[go_sem,qb,qa,reduceCtorEq,hz4];apply hK
 refine za fun Z21 hZ21=>?_
 refine zo rfl ?_;apply zd;apply hZ21
 refine za fun Z22 hZ22=>?_
 apply ze;have f23:=E28.idxS hx4;have f24:=E28.loadS rfl rfl hx4
 refine rg tok [0,5,9,10,11] fun K hK=>?_
 simp only[go_sem,qb,qg,qa,qd,reduceCtorEq,encGRaw,f23,f24];apply hK
 refine rc [0,9,10,11,17] fun K hK=>?_
 obtain⟨r25,hr25,h⟩:=zS h;refine rnN 1 ?_;refine clN rfl rfl rfl (yn.ev y4 r25 hr25 _) ?_;refine rnN 1 ?_;refine nkN hK ?_;refine zm (b:=(!r25)) rfl (fun hc26=>?_) (fun hc26=>?_)
 · rw[if_pos hc26] at h;refine rgN [2,3] ?_;cases h;exact rtA
 rw[xQ hc26] at h;apply zd;apply hZ22
 refine rgE tok [0,9,10,11] fun K hK=>?_
 simp only[go_sem,qb,qa,reduceCtorEq,hw4];apply hK
 exact⟨_,_,_,qt q4.length,⟨p4++[y4],q4,x2+1,rfl,rfl,rfl,hE'4,hi'4,h⟩,(.t [] false)⟩
theorem ye.ev (a0:List GRaw)(r:List UInt8×Int)(h:ye a0=some r)(σ:Store):ACalls qh 26 [.ds true (qe encGRaw a0) (qc a0) false] σ (fun r' σ'=>r'=.tup [.ds true (qe encB r.1) (qc r.1) false,.int .i64 r.2]∧σ'=σ):=
 (ye.ok a0 r h).c σ
def xi.body (yT:GValueNode→Option (List UInt8×Int))(yg:Int→GValueValue→Option (GRaw×Int))(yZ:GValueNode→Option (List GRaw×Int))(a0:GValueNode):Option (List UInt8×Int):=
 (yZ a0).bind fun r1=>(if r1.2=0 then (ye r1.1).bind fun r6=>some (r6.1,r6.2) else some (([]:List UInt8),r1.2))
theorem xi.step (yT:GValueNode→Option (List UInt8×Int))(yg:Int→GValueValue→Option (GRaw×Int))(yZ:GValueNode→Option (List GRaw×Int))(Zj:∀ (a0:GValueNode) (r:List UInt8×Int),yT a0=some r→ACalls qh 138 [.dp (encGValueNode a0) 0] [] (fun r' _=>r'=.tup [.ds true (qe encB r.1) (qc r.1) false,.int .i64 r.2]))(ZI:∀ (a0:Int) (a1:GValueValue) (r:GRaw×Int),yg a0 a1=some r→ACalls qh 101 [.int .i64 a0,.agg (encGValueValue a1)] [] (fun r' _=>r'=.tup [.agg (encGRaw r.1),.int .i64 r.2]))(Zu:∀ (a0:GValueNode) (r:List GRaw×Int),yZ a0=some r→ACalls qh 58 [.dp (encGValueNode a0) 0] [] (fun r' _=>r'=.tup [.ds true (qe encGRaw r.1) (qc r.1) false,.int .i64 r.2]))(a0:GValueNode)(r:List UInt8×Int)(h:xi.body yT yg yZ a0=some r):ACalls qh 138 [.dp (encGValueNode a0) 0] [] (fun r' _=>r'=.tup [.ds true (qe encB r.1) (qc r.1) false,.int .i64 r.2]):=by
 have ev_encode_bytes:=fun a0 r h σ=>(Zj a0 r h).c σ
 have ev_encode_raw:=fun a0 a1 r h σ=>(ZI a0 a1 r h).c σ
 have ev_encode_raws:=fun a0 r h σ=>(Zu a0 r h).c σ
 refine zf (rs:=[.tmp 2,.tmp 3]) tok Tryz.func138 rfl Tryz.ntmps138 rfl Tryz.call138 (by simp) ?_;refine zl [(0,.dp (encGValueNode a0) 0)] ⟨rfl,trivial⟩ ?_;unfold xi.body at h;refine rgN [0] ?_
 refine rc [4,5] fun K hK=>?_
 obtain⟨r1,hr1,h⟩:=bind_some h;refine rnN 1 ?_;refine clN rfl rfl rfl (ev_encode_raws a0 r1 hr1 _) ?_;refine rnN 5 ?_;refine nkN hK ?_
 refine za fun Z2 hZ2=>?_
 refine rgN [4,5,12] ?_;refine zx rfl (fun hc3=>?_) (fun hc3=>?_)
 · rw[if_neg hc3] at h;have t4:=eq_false hc3
   refine rg tok [2,3] fun K hK=>?_
   simp only[go_sem,qb,qa,t4];apply hK
   cases h;exact rtA
 rw[if_pos hc3] at h;have t5:=eq_true hc3;apply zd;apply hZ2
 refine rc [2,3] fun K hK=>?_
 obtain⟨r6,hr6,h⟩:=bind_some h;refine zj tok 1 ?_;simp only[go_sem,qb,qa,t5];refine clN rfl rfl rfl (ye.ev r1.1 r6 hr6 _) ?_;refine rnN 4 ?_;refine nkN hK ?_;cases h;exact rtA
def yN.j3 (m1_2:GRaw):Option (GRaw×Int):=
 (if 4096<(qc m1_2.fB:Int) then some ((⟨0,0,0,[]⟩:GRaw),4) else some (m1_2,0))
def yN.body (yT:GValueNode→Option (List UInt8×Int))(yg:Int→GValueValue→Option (GRaw×Int))(yZ:GValueNode→Option (List GRaw×Int))(a0:Int)(a1:GValueValue):Option (GRaw×Int):=
 (wh a1).bind fun r8=>(match r8 with|.nil=>(yN.j3 (⟨a0,1,0,[]⟩:GRaw))|.num n9=>some ((⟨a0,0,n9,[]⟩:GRaw),0)|.str s9=>(yN.j3 (⟨a0,1,0,s9⟩:GRaw))|.node e9 r9=>(yT (⟨e9,r9⟩:GValueNode)).bind fun r10=>(if r10.2=0 then (yN.j3 (⟨a0,1,0,r10.1⟩:GRaw)) else some ((⟨0,0,0,[]⟩:GRaw),r10.2)))
theorem yN.step (yT:GValueNode→Option (List UInt8×Int))(yg:Int→GValueValue→Option (GRaw×Int))(yZ:GValueNode→Option (List GRaw×Int))(Zj:∀ (a0:GValueNode) (r:List UInt8×Int),yT a0=some r→ACalls qh 138 [.dp (encGValueNode a0) 0] [] (fun r' _=>r'=.tup [.ds true (qe encB r.1) (qc r.1) false,.int .i64 r.2]))(ZI:∀ (a0:Int) (a1:GValueValue) (r:GRaw×Int),yg a0 a1=some r→ACalls qh 101 [.int .i64 a0,.agg (encGValueValue a1)] [] (fun r' _=>r'=.tup [.agg (encGRaw r.1),.int .i64 r.2]))(Zu:∀ (a0:GValueNode) (r:List GRaw×Int),yZ a0=some r→ACalls qh 58 [.dp (encGValueNode a0) 0] [] (fun r' _=>r'=.tup [.ds true (qe encGRaw r.1) (qc r.1) false,.int .i64 r.2]))(a0:Int)(a1:GValueValue)(r:GRaw×Int)(h:yN.body yT yg yZ a0 a1=some r):ACalls qh 101 [.int .i64 a0,.agg (encGValueValue a1)] [] (fun r' _=>r'=.tup [.agg (encGRaw r.1),.int .i64 r.2]):=by
 have ev_encode_bytes:=fun a0 r h σ=>(Zj a0 r h).c σ
 have ev_encode_raw:=fun a0 a1 r h σ=>(ZI a0 a1 r h).c σ
 have ev_encode_raws:=fun a0 r h σ=>(Zu a0 r h).c σ
 refine zf (rs:=[.cell 4 62,.tmp 5]) tok Tryz.func101 rfl Tryz.ntmps101 rfl Tryz.call101 (by simp) ?_;refine zl [(0,.int .i64 a0),(1,.agg (encGValueValue a1))] ⟨rfl,rfl,trivial⟩ ?_;unfold yN.body at h;have f1:=ZO a1;unfold AV.one at f1
 refine rg tok [0,3,4] fun K hK=>?_
 simp only[go_sem,qb,qa,reduceCtorEq,encGValueValue,f1];apply hK
 refine rgN [0,3,4,6] ?_;refine wb (fun L τ=>∃ (m1_2:GRaw),L=[(4,.op 0 0 0),(6,.op 1 0 0)]∧τ=[.cells 0 [.int .i64 0,.int .i64 0,.int .i64 0,.str []],.cells 0 [.int .i64 m1_2.fTag,.int .i64 m1_2.fWire,.int .i64 m1_2.fN,.str m1_2.fB]]∧yN.j3 m1_2=some r) ?_ ?_
 · refine rc [0,4,6,15] fun K hK=>?_
   obtain⟨r8,hr8,h⟩:=bind_some h;refine rnN 1 ?_;refine clN rfl rfl rfl (wh.ev a1 r8 hr8 _) ?_;refine nkN hK ?_;apply ze
   rcases r8 with _|n9|s9|⟨e9,r9⟩
   · dsimp only at h
     try simp only[anyV_nil]
     refine rg tok [0,4,6,15,17,18] fun K hK=>?_
     simp only[go_sem,qb,qa,qd,reduceCtorEq,xZ,wd,TypeDesc.isIface];apply hK
     refine zn rfl ?_
     refine rg tok [4,6,15,23,24] fun K hK=>?_
     simp only[go_sem,qb,qa,qd,reduceCtorEq,xZ,wd,TypeDesc.isIface];apply hK
     refine zn rfl ?_
     refine rg tok [4,6,28,29] fun K hK=>?_
     simp only[go_sem,qb,qa,qd,xZ,wd,TypeDesc.isIface];apply hK
     refine zn rfl ?_;apply zd;exact⟨_,_,⟨(⟨a0,1,0,[]⟩:GRaw),rfl,rfl,h⟩,(.t [1,2] false)⟩
   · dsimp only at h
     try simp only[anyV_num]
     refine rg tok [0,4,6,15,17,18] fun K hK=>?_
     simp only[go_sem,qb,qa,qd,reduceCtorEq,xZ,wd,TypeDesc.isIface];apply hK
     refine zo rfl ?_;refine rgN [0,4,7] ?_;refine rgN [4,5] ?_;cases h;exact rtA
   · dsimp only at h
     try simp only[anyV_str]
     refine rg tok [0,4,6,15,17,18] fun K hK=>?_
     simp only[go_sem,qb,qa,qd,reduceCtorEq,xZ,wd,TypeDesc.isIface];apply hK
     refine zn rfl ?_
     refine rg tok [4,6,15,23,24] fun K hK=>?_
     simp only[go_sem,qb,qa,qd,reduceCtorEq,xZ,wd,TypeDesc.isIface];apply hK
     refine zo rfl ?_;refine rgN [4,6,8] ?_
     refine rgE tok [4,6] fun K hK=>?_
     simp only[go_sem,qb,qg,qa,qd];apply hK
     exact⟨_,_,⟨(⟨a0,1,0,s9⟩:GRaw),rfl,rfl,h⟩,(.t [1,2] false)⟩
   dsimp only at h
   try simp only[anyV_node]
   refine rg tok [0,4,6,15,17,18] fun K hK=>?_
   simp only[go_sem,qb,qa,qd,reduceCtorEq,xZ,wd,TypeDesc.isIface];apply hK
   refine zn rfl ?_
   refine rg tok [4,6,15,23,24] fun K hK=>?_
   simp only[go_sem,qb,qa,qd,reduceCtorEq,xZ,wd,TypeDesc.isIface];apply hK
   refine zn rfl ?_
   refine rg tok [4,6,28,29] fun K hK=>?_
   simp only[go_sem,qb,qa,qd,xZ,wd,TypeDesc.isIface];apply hK
   refine zo rfl ?_;refine rgN [4,6,9] ?_
   refine rc [4,6,10,11] fun K hK=>?_
   obtain⟨r10,hr10,h⟩:=bind_some h;refine rnN 1 ?_;refine clN rfl rfl rfl (ev_encode_bytes (⟨e9,r9⟩:GValueNode) r10 hr10 _) ?_;refine rnN 5 ?_;refine nkN hK ?_
   refine za fun Z11 hZ11=>?_
   refine rgN [4,6,10,11,36] ?_;refine zx rfl (fun hc12=>?_) (fun hc12=>?_)
   · rw[if_neg hc12] at h;have t13:=eq_false hc12
     refine rg tok [4,5] fun K hK=>?_
     simp only[go_sem,qb,qg,qa,qd,t13];apply hK
     cases h;exact rtA
   rw[if_pos hc12] at h;have t14:=eq_true hc12;apply zd;apply hZ11;have f15:=vaB (T:=tab) (src:=34) (dst:=9) rfl rfl rfl rfl rfl rfl r10.1
   refine rgE tok [4,6] fun K hK=>?_
   simp only[go_sem,qb,qg,qa,qd,t14,f15];apply hK
   exact⟨_,_,⟨(⟨a0,1,0,r10.1⟩:GRaw),rfl,rfl,h⟩,(.t [1,2] false)⟩
 rintro _ _ ⟨m1_2,rfl,rfl,h⟩;unfold yN.j3 at h
 refine za fun Z4 hZ4=>?_
 refine rgN [4,6,45] ?_;refine zx rfl (fun hc5=>?_) (fun hc5=>?_)
 · rw[if_pos hc5] at h;have t6:=eq_true hc5
   refine rg tok [4,5] fun K hK=>?_
   simp only[go_sem,qb,qg,qa,qd,t6];apply hK
   cases h;exact rtA
 rw[if_neg hc5] at h;have t7:=eq_false hc5;apply zd;apply hZ4
 refine rg tok [4,5] fun K hK=>?_
 simp only[go_sem,qb,qg,qa,qd,t7];apply hK
 cases h;exact rtA
def zR.l24 (yg:Int→GValueValue→Option (GRaw×Int))(x6:Int)(rec10:Int→List GRaw→Option (List GRaw×Int))(y10:Int):List GValueValue→Int→List GRaw→Option (List GRaw×Int)
 |[],x20,l18=>(rec10 (x6+1) l18)
 |y24::q24,x20,l18=>(yg y10 y24).bind fun r31=>(if r31.2=0 then (ZY (qc l18+1) 40).bind fun _u36=>((zR.l24 yg x6 rec10 y10 q24) (x20+1) (l18++[r31.1])) else some (([]:List GRaw),r31.2))
def zR.l10 (yg:Int→GValueValue→Option (GRaw×Int))(a0:GValueNode):List Int→Int→List GRaw→Option (List GRaw×Int)
 |[],x6,l4=>(zM l4).bind fun r12=>some (r12,0)
 |y10::q10,x6,l4=>(yA a0 y10).bind fun r17=>(zR.l24 yg x6 (zR.l10 yg a0 q10) y10 r17 0 l4)
def zR.body (yT:GValueNode→Option (List UInt8×Int))(yg:Int→GValueValue→Option (GRaw×Int))(yZ:GValueNode→Option (List GRaw×Int))(a0:GValueNode):Option (List GRaw×Int):=
 (wQ a0).bind fun r1=>(ya a0).bind fun r3=>(zR.l10 yg a0 r3 0 r1)
theorem zR.step (yT:GValueNode→Option (List UInt8×Int))(yg:Int→GValueValue→Option (GRaw×Int))(yZ:GValueNode→Option (List GRaw×Int))(Zj:∀ (a0:GValueNode) (r:List UInt8×Int),yT a0=some r→ACalls qh 138 [.dp (encGValueNode a0) 0] [] (fun r' _=>r'=.tup [.ds true (qe encB r.1) (qc r.1) false,.int .i64 r.2]))(ZI:∀ (a0:Int) (a1:GValueValue) (r:GRaw×Int),yg a0 a1=some r→ACalls qh 101 [.int .i64 a0,.agg (encGValueValue a1)] [] (fun r' _=>r'=.tup [.agg (encGRaw r.1),.int .i64 r.2]))(Zu:∀ (a0:GValueNode) (r:List GRaw×Int),yZ a0=some r→ACalls qh 58 [.dp (encGValueNode a0) 0] [] (fun r' _=>r'=.tup [.ds true (qe encGRaw r.1) (qc r.1) false,.int .i64 r.2]))(a0:GValueNode)(r:List GRaw×Int)(h:zR.body yT yg yZ a0=some r):ACalls qh 58 [.dp (encGValueNode a0) 0] [] (fun r' _=>r'=.tup [.ds true (qe encGRaw r.1) (qc r.1) false,.int .i64 r.2]):=by
 have ev_encode_bytes:=fun a0 r h σ=>(Zj a0 r h).c σ
 have ev_encode_raw:=fun a0 a1 r h σ=>(ZI a0 a1 r h).c σ
 have ev_encode_raws:=fun a0 r h σ=>(Zu a0 r h).c σ
 refine zf (rs:=[.tmp 2,.tmp 3]) tok Tryz.func58 rfl Tryz.ntmps58 rfl Tryz.call58 (by simp) ?_;refine zl [(0,.dp (encGValueNode a0) 0)] ⟨rfl,trivial⟩ ?_;unfold zR.body at h;refine rgN [0] ?_
 refine rc [0,4] fun K hK=>?_
 obtain⟨r1,hr1,h⟩:=bind_some h;refine rnN 1 ?_;refine clN rfl rfl rfl (@id (ACalls qh 98 [.dp (encGValueNode a0) 0] [] (fun r' σ'=>r'=.os true 4 0 0 0 (qc r1) false∧σ'=[.cells 0 (qe encGRaw r1)])) ((wQ.own a0 r1 hr1).ownAt0 (by simp only[push_cast]) (by simp only[push_cast]) _)) ?_;refine rnN 1 ?_;refine nkN hK ?_
 refine za fun Z2 hZ2=>?_
 refine rc [0,4,14,15,16] fun K hK=>?_
 obtain⟨r3,hr3,h⟩:=bind_some h;refine rnN 1 ?_;refine clN rfl rfl rfl (ya.ev a0 r3 hr3 _) ?_;refine rnN 2 ?_;refine nkN hK ?_;apply ze
 refine xj 14 fun hb10=>?_
 replace hb10:qc r3≤9223372036854775807:=hb10.1;refine zq (fun m L τ=>∃ (p10 q10:List Int) (x6:Int) (l4:List GRaw) (v5:Nat),m=qc q10∧L=[(0,.dp (encGValueNode a0) 0),(4,.os true 4 0 v5 0 (qc l4) false),(14,.ds true (qe encI r3) (qc r3) false),(15,.int .i64 (qc r3:Int)),(16,.int .i64 x6)]∧τ=[.cells v5 (qe encGRaw l4)]∧r3=p10++q10∧x6=(qc p10:Int)∧zR.l10 yg a0 q10 x6 l4=some r) _ ⟨[],r3,0,r1,0,rfl,rfl,rfl,rfl,rfl,h⟩ .s ?_;rintro m L τ ⟨p10,q10,x6,l4,v5,rfl,rfl,rfl,hE10,hi10,h⟩
 rcases q10 with _|⟨y10,q10⟩
 · have hz10:=yy hE10 hi10;simp only[zR.l10] at h
   refine rg tok [0,4,14,15,16,17] fun K hK=>?_
   simp only[go_sem,qb,qa,reduceCtorEq,hz10];apply hK
   refine za fun Z11 hZ11=>?_
   refine zn rfl ?_;apply zy;apply hZ2
   refine rc [2,3] fun K hK=>?_
   obtain⟨r12,hr12,h⟩:=bind_some h;refine rnN 1 ?_;refine vam (L:=[(43,.ds true (qe encGRaw l4) (qc l4) false)]) (τ:=[]) (.t [] false) ?_;refine clN rfl rfl rfl (zM.ev l4 r12 hr12 _) ?_;refine rnN 2 ?_;refine nkN hK ?_;cases h;exact rtA
 obtain⟨hz10,hw10,hx10,hE'10,hi'10⟩:=zX hE10 hi10 hb10;simp only[zR.l10] at h
 refine rg tok [0,4,14,15,16,17] fun K hK=>?_
 simp only[go_sem,qb,qa,reduceCtorEq,hz10];apply hK
 refine za fun Z13 hZ13=>?_
 refine zo rfl ?_;apply zd;apply hZ13
 refine za fun Z14 hZ14=>?_
 apply ze;have f15:=E45.idxS hx10;have f16:=E45.fldS0 (f:=3) rfl rfl hx10
 refine rg tok [0,4,6,14,15,16] fun K hK=>?_
 simp only[go_sem,qb,qa,reduceCtorEq,encI,f15,f16];apply hK
 refine rc [0,4,6,14,15,16,22,23,24] fun K hK=>?_
 obtain⟨r17,hr17,h⟩:=bind_some h;refine rnN 2 ?_;refine clN rfl rfl rfl (yA.ev a0 y10 r17 hr17 _) ?_;refine rnN 2 ?_;refine nkN hK ?_;apply ze
 refine xj 22 fun hb24=>?_
 replace hb24:qc r17≤9223372036854775807:=hb24.1;refine zq (fun m L τ=>∃ (p24 q24:List GValueValue) (x20:Int) (l18:List GRaw) (v19:Nat),m=qc q24∧L=[(0,.dp (encGValueNode a0) 0),(4,.os true 4 0 v19 0 (qc l18) false),(6,.int .i64 y10),(14,.ds true (qe encI r3) (qc r3) false),(15,.int .i64 (qc r3:Int)),(16,.int .i64 x6),(22,.ds true (qe encGValueValue r17) (qc r17) false),(23,.int .i64 (qc r17:Int)),(24,.int .i64 x20)]∧τ=[.cells v19 (qe encGRaw l18)]∧r17=p24++q24∧x20=(qc p24:Int)∧zR.l24 yg x6 (zR.l10 yg a0 q10) y10 q24 x20 l18=some r) _ ⟨[],r17,0,l4,v5,rfl,rfl,rfl,rfl,rfl,h⟩ .s ?_;rintro m L τ ⟨p24,q24,x20,l18,v19,rfl,rfl,rfl,hE24,hi24,h⟩
 rcases q24 with _|⟨y24,q24⟩
 · have hz24:=yy hE24 hi24;simp only[zR.l24] at h
   refine rg tok [0,4,6,14,15,16,22,23,24,25] fun K hK=>?_
   simp only[go_sem,qb,qa,reduceCtorEq,hz24];apply hK
   refine za fun Z25 hZ25=>?_
   refine zn rfl ?_;apply zy;apply hZ14
   refine rgE tok [0,4,14,15,16] fun K hK=>?_
   simp only[go_sem,qb,qa,reduceCtorEq,hw10];apply hK
   exact⟨_,_,_,qt q10.length,⟨p10++[y10],q10,x6+1,l18,v19,rfl,rfl,rfl,hE'10,hi'10,h⟩,.s⟩
 obtain⟨hz24,hw24,hx24,hE'24,hi'24⟩:=zX hE24 hi24 hb24;simp only[zR.l24] at h
 refine rg tok [0,4,6,14,15,16,22,23,24,25] fun K hK=>?_
 simp only[go_sem,qb,qa,reduceCtorEq,hz24];apply hK
 refine za fun Z26 hZ26=>?_
 refine zo rfl ?_;apply zd;apply hZ26
 refine za fun Z27 hZ27=>?_
 apply ze;have f28:=E156.idxS hx24;have f29:=E156.loadS rfl rfl hx24;have f30:=ZO y24;unfold AV.one at f30
 refine rg tok [0,4,6,8,14,15,16,22,23,24] fun K hK=>?_
 simp only[go_sem,qb,qg,qa,reduceCtorEq,encGValueValue,f28,f29,f30];apply hK
 refine rc [0,4,6,9,10,14,15,16,22,23,24] fun K hK=>?_
 obtain⟨r31,hr31,h⟩:=bind_some h;refine rnN 2 ?_;refine clN rfl rfl rfl (ev_encode_raw y10 y24 r31 hr31 _) ?_;refine zj tok 6 ?_;simp only[go_sem,qb,qg,qa,qd,reduceCtorEq,encGRaw];refine nkN hK ?_
 refine za fun Z32 hZ32=>?_
 refine rgN [0,4,6,9,10,14,15,16,22,23,24,35] ?_;refine zx rfl (fun hc33=>?_) (fun hc33=>?_)
 · rw[if_neg hc33] at h;have t34:=eq_false hc33
   refine rg tok [2,3] fun K hK=>?_
   simp only[go_sem,qb,qa,reduceCtorEq,t34];apply hK
   cases h;exact rtA
 rw[if_pos hc33] at h;have t35:=eq_true hc33;apply zd;apply hZ32;obtain⟨_u36,hu36,h⟩:=bind_some h;have gu36:=ym hu36;have f37:=(zt E28.len l18)
 refine rgE tok [0,4,6,14,15,16,22,23,24] fun K hK=>?_
 simp only[go_sem,qb,qg,qa,qd,qs,reduceCtorEq,zB,zV,q2,qV,true_and,ub,z8,zP,yl,t35,gu36,f37,yM,uf,q1,AV.one,qT,qx,qj,ql,qq,qG];apply hK
 apply hZ27
 refine rgE tok [0,4,6,14,15,16,22,23,24] fun K hK=>?_
 simp only[go_sem,qb,qa,reduceCtorEq,hw24];apply hK
 exact⟨_,_,_,qt q24.length,⟨p24++[y24],q24,x20+1,l18++[r31.1],v19+1,rfl,rfl,rfl,hE'24,hi'24,h⟩,(.t [0] false)⟩
mutual
def xi : Nat→GValueNode→Option (List UInt8×Int)
 |0,_=>none
 |k+1,a0=>xi.body (xi k) (yN k) (zR k) a0
def yN : Nat→Int→GValueValue→Option (GRaw×Int)
 |0,_,_=>none
 |k+1,a0,a1=>yN.body (xi k) (yN k) (zR k) a0 a1
def zR : Nat→GValueNode→Option (List GRaw×Int)
 |0,_=>none
 |k+1,a0=>zR.body (xi k) (yN k) (zR k) a0
end
theorem xi.all (k:Nat):(∀ (a0:GValueNode) (r:List UInt8×Int),xi k a0=some r→ACalls qh 138 [.dp (encGValueNode a0) 0] [] (fun r' _=>r'=.tup [.ds true (qe encB r.1) (qc r.1) false,.int .i64 r.2]))∧(∀ (a0:Int) (a1:GValueValue) (r:GRaw×Int),yN k a0 a1=some r→ACalls qh 101 [.int .i64 a0,.agg (encGValueValue a1)] [] (fun r' _=>r'=.tup [.agg (encGRaw r.1),.int .i64 r.2]))∧(∀ (a0:GValueNode) (r:List GRaw×Int),zR k a0=some r→ACalls qh 58 [.dp (encGValueNode a0) 0] [] (fun r' _=>r'=.tup [.ds true (qe encGRaw r.1) (qc r.1) false,.int .i64 r.2])):=by
 induction k with
 |zero=>exact⟨(fun a0 r h=>by simp only[xi] at h; cases h),(fun a0 a1 r h=>by simp only[yN] at h; cases h),(fun a0 r h=>by simp only[zR] at h; cases h)⟩
 |succ k ih=>exact⟨(fun a0 r h=>xi.step _ _ _ ih.1 ih.2.1 ih.2.2 a0 r (by simpa only [xi] using h)),(fun a0 a1 r h=>yN.step _ _ _ ih.1 ih.2.1 ih.2.2 a0 a1 r (by simpa only [yN] using h)),(fun a0 r h=>zR.step _ _ _ ih.1 ih.2.1 ih.2.2 a0 r (by simpa only [zR] using h))⟩
theorem zR.ev (k:Nat)(a0:GValueNode)(r:List GRaw×Int)(h:zR k a0=some r)(σ:Store):ACalls qh 58 [.dp (encGValueNode a0) 0] σ (fun r' σ'=>r'=.tup [.ds true (qe encGRaw r.1) (qc r.1) false,.int .i64 r.2]∧σ'=σ):=
 ((xi.all k).2.2 a0 r h).c σ
def wM (a0:GTree):Option (List GRaw×Int):=
 (ZX a0).bind fun r1=>(if ((!r1.2)||(!(decide (a0.fKind=3))))=true then some (([]:List GRaw),1) else (yH r1.1).bind fun r5=>(zR rounds r5).bind fun r6=>some (r6.1,r6.2))
theorem wM.ok (a0:GTree)(r:List GRaw×Int)(h:wM a0=some r):ACalls qh 37 [.agg (cellsGTree a0)] [] (fun r' _=>r'=.tup [.ds true (qe encGRaw r.1) (qc r.1) false,.int .i64 r.2]):=by
 refine zf (rs:=[.tmp 2,.tmp 3]) tok Tryz.func37 rfl Tryz.ntmps37 rfl Tryz.call37 (by simp) ?_;refine zl [(0,.agg (cellsGTree a0))] ⟨rfl,trivial⟩ ?_;unfold wM at h
 refine rg tok [1] fun K hK=>?_
 simp only[go_sem,qb,qa,qd,reduceCtorEq,cellsGTree];apply hK
 refine rc [1,4,5] fun K hK=>?_
 obtain⟨r1,hr1,h⟩:=bind_some h;refine rnN 1 ?_;refine clN rfl rfl rfl (ZX.ev a0 r1 hr1 _) ?_;have f2:=ZO r1.1;unfold AV.one at f2;refine zj tok 6 ?_;simp only[go_sem,qb,qg,qa,qd,encGValueValue,f2];refine nkN hK ?_
 refine za fun Z3 hZ3=>?_
 refine rc [4,17] fun K hK=>?_
 refine rnN 3 ?_;refine zh 4 (fun L τ=>L=[(4,.op 1 0 0),(17,.bool ((!r1.2)||(!(decide (a0.fKind=3)))))]∧τ=[.cells 0 (cellsGTree a0),.cells 0 [ifcV r1.1]]) ?_ ?_
 · refine zO (b:=(!r1.2)) 13 rfl (fun hg13=>?_) (fun hg13=>?_)
   · refine rnN 4 ?_;refine zb ⟨rfl,_,_,⟨rfl,rfl⟩,.b hg13⟩
   refine rnN 4 ?_;refine zb ⟨rfl,_,_,⟨rfl,rfl⟩,.b hg13⟩
 rintro _ _ ⟨rfl,rfl⟩;refine nkN hK ?_;refine zm (b:=((!r1.2)||(!(decide (a0.fKind=3))))) rfl (fun hc4=>?_) (fun hc4=>?_)
 · rw[if_pos hc4] at h;refine rgN [2,3] ?_;cases h;exact rtA
 rw[xQ hc4] at h;apply zd;apply hZ3
 refine rc [2,3] fun K hK=>?_
 obtain⟨r5,hr5,h⟩:=bind_some h;refine rnN 1 ?_;refine clN rfl rfl rfl (yH.ev r1.1 r5 hr5 _) ?_;obtain⟨r6,hr6,h⟩:=bind_some h;refine clN rfl rfl rfl (zR.ev rounds r5 r6 hr6 _) ?_;refine rnN 4 ?_;refine nkN hK ?_;cases h;exact rtA
theorem wM.ev (a0:GTree)(r:List GRaw×Int)(h:wM a0=some r)(σ:Store):ACalls qh 37 [.agg (cellsGTree a0)] σ (fun r' σ'=>r'=.tup [.ds true (qe encGRaw r.1) (qc r.1) false,.int .i64 r.2]∧σ'=σ):=
 (wM.ok a0 r h).c σ
def xB (a0:GTree):Option (List UInt8×Int):=
 (wM a0).bind fun r1=>(if r1.2=0 then (ye r1.1).bind fun r6=>some (r6.1,r6.2) else some (([]:List UInt8),r1.2))
theorem xB.ok (a0:GTree)(r:List UInt8×Int)(h:xB a0=some r):ACalls qh 14 [.agg (cellsGTree a0)] [] (fun r' _=>r'=.tup [.ds true (qe encB r.1) (qc r.1) false,.int .i64 r.2]):=by
 refine zf (rs:=[.tmp 2,.tmp 3]) tok Tryz.func14 rfl Tryz.ntmps14 rfl Tryz.call14 (by simp) ?_;refine zl [(0,.agg (cellsGTree a0))] ⟨rfl,trivial⟩ ?_;unfold xB at h
 refine rg tok [1] fun K hK=>?_
 simp only[go_sem,qb,qa,qd,reduceCtorEq,cellsGTree];apply hK
 refine rc [4,5] fun K hK=>?_
 obtain⟨r1,hr1,h⟩:=bind_some h;refine rnN 1 ?_;refine clN rfl rfl rfl (wM.ev a0 r1 hr1 _) ?_;refine rnN 5 ?_;refine nkN hK ?_
 refine za fun Z2 hZ2=>?_
 refine rgN [4,5,12] ?_;refine zx rfl (fun hc3=>?_) (fun hc3=>?_)
 · rw[if_neg hc3] at h;have t4:=eq_false hc3
   refine rg tok [2,3] fun K hK=>?_
   simp only[go_sem,qb,qa,t4];apply hK
   cases h;exact rtA
 rw[if_pos hc3] at h;have t5:=eq_true hc3;apply zd;apply hZ2
 refine rc [2,3] fun K hK=>?_
 obtain⟨r6,hr6,h⟩:=bind_some h;refine zj tok 1 ?_;simp only[go_sem,qb,qa,t5];refine clN rfl rfl rfl (ye.ev r1.1 r6 hr6 _) ?_;refine rnN 4 ?_;refine nkN hK ?_;cases h;exact rtA
theorem xB.ev (a0:GTree)(r:List UInt8×Int)(h:xB a0=some r)(σ:Store):ACalls qh 14 [.agg (cellsGTree a0)] σ (fun r' σ'=>r'=.tup [.ds true (qe encB r.1) (qc r.1) false,.int .i64 r.2]∧σ'=σ):=
 (xB.ok a0 r h).c σ
def w7 (a0:GSchema)(a1:List UInt8)(a2:List UInt8):Option Bool:=
 (yL a0 a1 a2).bind fun r1=>(if r1.2=0 then (xB r1.1).bind fun r6=>some ((decide (r6.2=0))&&(decide (r6.1=a2))) else some false)
theorem w7.ok (a0:GSchema)(a1:List UInt8)(a2:List UInt8)(r:Bool)(h:w7 a0 a1 a2=some r):ACalls qh 24 [.agg (encGSchema a0),.str a1,.ds true (qe encB a2) (qc a2) false] [] (fun r' _=>r'=.bool r):=by
 refine zf (rs:=[.tmp 6]) tok Tryz.func24 rfl Tryz.ntmps24 rfl Tryz.call24 (by simp) ?_;refine zl [(0,.agg (encGSchema a0)),(1,.str a1),(2,.ds true (qe encB a2) (qc a2) false)] ⟨rfl,rfl,rfl,trivial⟩ ?_;unfold w7 at h
 refine rg tok [1,2,3] fun K hK=>?_
 simp only[go_sem,qb,qa,qd,reduceCtorEq,encGSchema];apply hK
 refine rc [2,7,8] fun K hK=>?_
 obtain⟨r1,hr1,h⟩:=bind_some h;refine rnN 3 ?_;refine clN rfl rfl rfl (yL.ev a0 a1 a2 r1 hr1 _) ?_;refine zj tok 6 ?_;simp only[go_sem,qb,qg,qa,qd,cellsGTree];refine nkN hK ?_
 refine za fun Z2 hZ2=>?_
 refine rgN [2,7,18] ?_;refine zx rfl (fun hc3=>?_) (fun hc3=>?_)
 · rw[if_neg hc3] at h;have t4:=eq_false hc3
   refine rg tok [6] fun K hK=>?_
   simp only[go_sem,qb,qa,t4];apply hK
   cases h;exact rtA
 rw[if_pos hc3] at h;have t5:=eq_true hc3;apply zd;apply hZ2
 refine rc [2,8,9] fun K hK=>?_
 obtain⟨r6,hr6,h⟩:=bind_some h;refine zj tok 1 ?_;simp only[go_sem,qb,qg,qa,qd,t5];refine clN rfl rfl rfl (xB.ev r1.1 r6 hr6 _) ?_;refine rnN 5 ?_;refine nkN hK ?_
 refine rc [6] fun K hK=>?_
 refine rnN 3 ?_;refine zh 6 (fun L τ=>L=[(32,.bool ((decide (r6.2=0))&&(decide (r6.1=a2))))]∧τ=[.cells 0 (encGSchema a0),.cells 0 (cellsGTree r1.1)]) ?_ ?_
 · refine yG 26 rfl (fun hg26=>?_) (fun hg26=>?_)
   · have t7:=eq_true hg26;have f8:=vaB (T:=tab) (src:=34) (dst:=9) rfl rfl rfl rfl rfl rfl r6.1;have f9:=vaB (T:=tab) (src:=34) (dst:=9) rfl rfl rfl rfl rfl rfl a2;refine zj tok 6 ?_;simp only[go_sem,qb,qa,f8,f9];refine zb ⟨rfl,_,_,⟨rfl,rfl⟩,.p t7⟩
   have t10:=eq_false hg26;refine rnN 6 ?_;refine zb ⟨rfl,_,_,⟨rfl,rfl⟩,.p t10⟩
 rintro _ _ ⟨rfl,rfl⟩;refine rnN 1 ?_;refine nkN hK ?_;cases h;exact rtA
def xU  : Option Bool:=
 (yL (⟨[97],[(⟨[109],([]:List GField),([]:List Int)⟩:GMessage)],([]:List GEnumeration),([]:List GMethod)⟩:GSchema) [109] [(2:UInt8),(10:UInt8)]).bind fun r2=>(if ((decide (r2.2=0))&&(decide ((qc r2.1.fRest:Int)=1)))=true then (Zd r2.1.fRest 0).bind fun y5=>some (decide (y5.fTag=1)&&(decide (y5.fWire=0)&&(decide (y5.fN=5)&&decide (y5.fB=[])))) else some false).bind fun c5=>(if c5=true then (w7 (⟨[97],[(⟨[109],([]:List GField),([]:List Int)⟩:GMessage)],([]:List GEnumeration),([]:List GMethod)⟩:GSchema) [109] [(2:UInt8),(10:UInt8)]).bind fun r10=>some r10 else some false).bind fun c9=>some c9
theorem xU.ok  (r:Bool)(h:xU=some r):ACalls qh 13 [] [] (fun r' _=>r'=.bool r):=by
 refine zf (rs:=[.tmp 0]) tok Tryz.func13 rfl Tryz.ntmps13 rfl Tryz.call13 (by simp) ?_;refine zl [] trivial ?_;unfold xU at h;refine rgN [] ?_
 refine rg tok [1] fun K hK=>?_
 simp only[go_sem,qb,qg,qa,qd,qs,zB,zV,q2,qV,true_and,ub];apply hK
 refine rc [1,2,3] fun K hK=>?_
 have f1:=fun (o0:Zr) (o1:Zr) (τ:Store)=>conv_same (T:=tab) (s:=34) (off:=0) (len:=2) (sz:=1) (nl:=true) (t:=true) rfl rfl rfl rfl (σ:=o0::o1::.cells 0 [.int .u8 2,.int .u8 10]::τ) (id:=2) (ver:=0) (by simp only[Store.at_hd,Store.at_tl,if_true]; rfl) ⟨by simp,by decide,rfl⟩
 obtain⟨r2,hr2,h⟩:=bind_some h;refine zj tok 3 ?_;simp only[go_sem,qb,qg,qa,qd,qs,zB,zV,q2,qV,true_and,ub,f1];refine vam (L:=[(1,.op 0 0 0),(8,.agg [.str [97],.ds true (qe encGMessage [(⟨[109],([]:List GField),([]:List Int)⟩:GMessage)]) (qc [(⟨[109],([]:List GField),([]:List Int)⟩:GMessage)]) false,.ds true (qe encGEnumeration ([]:List GEnumeration)) (qc ([]:List GEnumeration)) false,.ds true (qe encGMethod ([]:List GMethod)) (qc ([]:List GMethod)) false]),(10,.ds true (qe encB [(2:UInt8),(10:UInt8)]) (qc [(2:UInt8),(10:UInt8)]) false)]) (τ:=[.cells 0 [.str [97],.ds true (qe encGMessage [(⟨[109],([]:List GField),([]:List Int)⟩:GMessage)]) (qc [(⟨[109],([]:List GField),([]:List Int)⟩:GMessage)]) false,.ds true (qe encGEnumeration ([]:List GEnumeration)) (qc ([]:List GEnumeration)) false,.ds true (qe encGMethod ([]:List GMethod)) (qc ([]:List GMethod)) false]]) (.t [1] true) ?_;refine clN rfl rfl rfl (ACalls.loose (yL.ev (⟨[97],[(⟨[109],([]:List GField),([]:List Int)⟩:GMessage)],([]:List GEnumeration),([]:List GMethod)⟩:GSchema) [109] [(2:UInt8),(10:UInt8)] r2 hr2 _)) ?_;refine zj tok 6 ?_;simp only[go_sem,qb,qg,qa,qd,cellsGTree];refine nkN hK ?_
 refine rc [0] fun K hK=>?_
 refine rnN 3 ?_;refine zh 5 (fun L τ=>L=[(1,.op 0 0 0),(2,.op 1 0 0),(21,.bool ((decide (r2.2=0))&&(decide ((qc r2.1.fRest:Int)=1))))]∧τ=[.cells 0 [.str [97],.ds true (qe encGMessage [(⟨[109],([]:List GField),([]:List Int)⟩:GMessage)]) (qc [(⟨[109],([]:List GField),([]:List Int)⟩:GMessage)]) false,.ds true (qe encGEnumeration ([]:List GEnumeration)) (qc ([]:List GEnumeration)) false,.ds true (qe encGMethod ([]:List GMethod)) (qc ([]:List GMethod)) false],.cells 0 (cellsGTree r2.1)]) ?_ ?_
 · refine yG 16 rfl (fun hg16=>?_) (fun hg16=>?_)
   · have t3:=eq_true hg16;refine rnN 5 ?_;refine zb ⟨rfl,_,_,⟨rfl,rfl⟩,.p t3⟩
   have t4:=eq_false hg16;refine rnN 5 ?_;refine zb ⟨rfl,_,_,⟨rfl,rfl⟩,.p t4⟩
 rintro _ _ ⟨rfl,rfl⟩;refine rnN 1 ?_;obtain⟨c5,hc5,h⟩:=bind_some h;refine zh 7 (fun L τ=>L=[(1,.op 0 0 0),(29,.bool c5)]∧τ=[.cells 0 [.str [97],.ds true (qe encGMessage [(⟨[109],([]:List GField),([]:List Int)⟩:GMessage)]) (qc [(⟨[109],([]:List GField),([]:List Int)⟩:GMessage)]) false,.ds true (qe encGEnumeration ([]:List GEnumeration)) (qc ([]:List GEnumeration)) false,.ds true (qe encGMethod ([]:List GMethod)) (qc ([]:List GMethod)) false],.cells 0 (cellsGTree r2.1)]) ?_ ?_
 · refine zO (b:=((decide (r2.2=0))&&(decide ((qc r2.1.fRest:Int)=1)))) 22 rfl (fun hg22=>?_) (fun hg22=>?_)
   · rw[if_pos hg22] at hc5;obtain⟨y6,hy6,hc5⟩:=bind_some hc5;have f7:=E28.idxS hy6;have f8:=E28.loadS rfl rfl hy6;refine zj tok 7 ?_;simp only[go_sem,qb,qg,qa,qd,encGRaw,f7,f8,evEqA,ceqL,ceq];cases hc5;refine zb ⟨rfl,_,_,⟨rfl,rfl⟩,.b hg22⟩
   rw[xQ hg22] at hc5;refine rnN 7 ?_;cases hc5;refine zb ⟨rfl,_,_,⟨rfl,rfl⟩,.b hg22⟩
 rintro _ _ ⟨rfl,rfl⟩;refine rnN 1 ?_;obtain⟨c9,hc9,h⟩:=bind_some h;refine zh 5 (fun L τ=>L=[(35,.bool c9)]∧τ=[]) ?_ ?_
 · refine zO (b:=c5) 30 rfl (fun hg30=>?_) (fun hg30=>?_)
   · rw[if_pos hg30] at hc9
     have f10:=fun (o0:Zr) (o1:Zr) (τ:Store)=>conv_same (T:=tab) (s:=34) (off:=0) (len:=2) (sz:=1) (nl:=true) (t:=true) rfl rfl rfl rfl (σ:=o0::o1::.cells 0 [.int .u8 2,.int .u8 10]::τ) (id:=2) (ver:=0) (by simp only[Store.at_hd,Store.at_tl,if_true]; rfl) ⟨by simp,by decide,rfl⟩
     obtain⟨r11,hr11,hc9⟩:=bind_some hc9;refine zj tok 3 ?_;simp only[go_sem,qb,qg,qa,qd,qs,zB,zV,q2,qV,true_and,ub,f10];refine clN rfl rfl rfl (w7.ok (⟨[97],[(⟨[109],([]:List GField),([]:List Int)⟩:GMessage)],([]:List GEnumeration),([]:List GMethod)⟩:GSchema) [109] [(2:UInt8),(10:UInt8)] r11 hr11).ld ?_;refine rnN 1 ?_;cases hc9;refine zb ⟨rfl,_,_,⟨rfl,rfl⟩,.told [] false (by decide) (by simp) (by first|rfl|simp) (by first|rfl|(simp only[← qR,← qi]; simp only[go_sem,qb,qg,qa,qd,qs,qH,reduceIte,reduceCtorEq,push_cast,if_true,qA,qq,qD,qw,qB,qM,qW,qS,qU,qQ,qy,TLS,encGMessage,and_self,zH]; done)|(simp only[go_sem,qb,qg,qa,qd,qs,qH,reduceIte,reduceCtorEq,push_cast,if_true,qA,qq,qD,qw,qB,qM,qW,qS,qU,qQ,qy,TLS,encB,encI,encS,encBo,vbi,wW,qR,qP,uo,qz,qx,qi,qj,ql,qq,qp,qG,uX,encGMessage,and_self,zH]<;>first|rfl|(and_intros<;>rfl))) (by first|rfl|(simp only[← qR,← qi]; simp only[go_sem,qb,qg,qa,qd,qs,qH,reduceIte,reduceCtorEq,push_cast,hg30,if_true,qA,qq,qD,qw,qB,qM,qW,qS,qU,qQ,qy,TLS,encGMessage,and_self,zH]; done)|(simp only[go_sem,qa,push_cast,hg30,if_true,TLS,uo,qz,ql,encGMessage,and_self]<;>first|rfl|(and_intros<;>rfl)))⟩
   rw[xQ hg30] at hc9;refine zj tok 5 ?_;simp only[go_sem,qb,qa,true_and];cases hc9;refine zb ⟨rfl,_,_,⟨rfl,rfl⟩,.told [] false (by decide) (by simp) (by first|rfl|simp) (by first|rfl|(simp only[← qR,← qi]; simp only[go_sem,qb,qg,qa,qd,qs,qH,reduceIte,reduceCtorEq,push_cast,if_true,qA,qq,qD,qw,qB,qM,qW,qS,qU,qQ,qy,TLS,encGMessage,and_self,zH]; done)|(simp only[go_sem,qb,qg,qa,qd,qs,qH,reduceIte,reduceCtorEq,push_cast,if_true,qA,qq,qD,qw,qB,qM,qW,qS,qU,qQ,qy,TLS,encB,encI,encS,encBo,vbi,wW,qR,qP,uo,qz,qx,qi,qj,ql,qq,qp,qG,uX,encGMessage,and_self,zH]<;>first|rfl|(and_intros<;>rfl))) (by first|rfl|(simp only[← qR,← qi]; simp only[go_sem,qb,qg,qa,qd,qs,qH,reduceIte,reduceCtorEq,push_cast,hg30,if_true,qA,qq,qD,qw,qB,qM,qW,qS,qU,qQ,qy,TLS,encGMessage,and_self,zH]; done)|(simp only[go_sem,qa,push_cast,hg30,if_true,TLS,uo,qz,ql,encGMessage,and_self]<;>first|rfl|(and_intros<;>rfl)))⟩
 rintro _ _ ⟨rfl,rfl⟩;refine rnN 1 ?_;refine nkN hK ?_;cases h;exact rtA
end
section
set_option maxRecDepth 4000
set_option maxHeartbeats 1000000
open AM
theorem xU.ev  (r:Bool)(h:xU=some r)(σ:Store):ACalls qh 13 [] σ (fun r' σ'=>r'=.bool r∧σ'=σ):=
 (xU.ok  r h).c σ
def wu (a0:List GRaw):Option (List GRaw):=
 (ZY (qc a0) 40).bind fun _u2=>some a0
theorem wu.own (a0:List GRaw)(r:List GRaw)(h:wu a0=some r):ACalls qh 38 [.ds true (qe encGRaw a0) (qc a0) false] [] (fun r' σ'=>r'=.os true 4 0 0 0 (qc r) false∧σ'=[.cells 0 (qe encGRaw r)]):=by
 refine ACalls.own0 (by simp only[push_cast]) ?_;refine ZS (rs:=[.tmp 2]) tok Tryz.func38 rfl Tryz.ntmps38 rfl Tryz.call38 (by simp) ?_;refine zl [(0,.ds true (qe encGRaw a0) (qc a0) false)] ⟨rfl,trivial⟩ ?_;unfold wu at h;refine rgN [0] ?_
 have f1:=fun nl tt σ=>wa E28.len a0 nl tt σ
 obtain⟨_u2,hu2,h⟩:=bind_some h;have gu2:=ym hu2
 refine rg tok [2] fun K hK=>?_
 simp only[go_sem,qb,qa,reduceCtorEq,z8,zP,yl,true_and,f1,gu2,ZZ,qx,ql,qq];apply hK
 refine zW (L:=[(2,.os true 4 0 0 0 (qc a0) false)]) (τ:=[.cells 0 (qe encGRaw a0)]) .s ?_;apply yz;cases h;simp only[ZF,yP,yX,xO,exists_eq_left',go_sem];refine⟨0,0,by simp,?_,?_⟩
 · first|rfl|(simp only[go_sem,qb,qg,qa,qd,qs,qH,reduceIte,reduceCtorEq,push_cast,if_true,qA,qq,qD,qw,qB,qM,qW,qS,qU,qQ,qy,zH,encGRaw]<;>rfl)
 first|rfl|(simp only[go_sem,push_cast,qw,zH]<;>rfl)
theorem wu.ok (a0:List GRaw)(r:List GRaw)(h:wu a0=some r):ACalls qh 38 [.ds true (qe encGRaw a0) (qc a0) false] [] (fun r' _=>r'=.ds true (qe encGRaw r) (qc r) false):=
 (wu.own a0 r h).ownData (zt E28.len r) (by simp only[push_cast])
theorem wu.ev (a0:List GRaw)(r:List GRaw)(h:wu a0=some r)(σ:Store):ACalls qh 38 [.ds true (qe encGRaw a0) (qc a0) false] σ (fun r' σ'=>r'=.ds true (qe encGRaw r) (qc r) false∧σ'=σ):=
 (wu.ok a0 r h).c σ
def yd.l22 (xa:GTree→Option GTree)(x5:Int)(l3:List GEntry)(rec9:Int→List GEntry→Option GTree)(y9:GEntry):List GTree→Int→List GTree→Option GTree
 |[],x18,l16=>(ZY (qc l3+1) 32).bind fun _u26=>(rec9 (x5+1) (l3++[(⟨y9.fTag,l16⟩:GEntry)]))
 |y22::q22,x18,l16=>(xa y22).bind fun r36=>(ZY (qc l16+1) 80).bind fun _u37=>((yd.l22 xa x5 l3 rec9 y9 q22) (x18+1) (l16++[r36]))
def yd.l9 (xa:GTree→Option GTree)(a0:GTree)(r1:List GRaw):List GEntry→Int→List GEntry→Option GTree
 |[],x5,l3=>some (⟨a0.fKind,a0.fN,a0.fS,l3,r1⟩:GTree)
 |y9::q9,x5,l3=>(yd.l22 xa x5 l3 (yd.l9 xa a0 r1 q9) y9 y9.fTrees 0 ([]:List GTree))
def yd.body (xa:GTree→Option GTree)(a0:GTree):Option GTree:=
 (wu a0.fRest).bind fun r1=>(yd.l9 xa a0 r1 a0.fEntries 0 ([]:List GEntry))
theorem yd.step (xa:GTree→Option GTree)(ih_law00_Tree:∀ (a0:GTree) (r:GTree),xa a0=some r→ACalls qh 15 [.agg (cellsGTree a0)] [] (fun r' _=>r'=.agg (cellsGTree r)))(a0:GTree)(r:GTree)(h:yd.body xa a0=some r):ACalls qh 15 [.agg (cellsGTree a0)] [] (fun r' _=>r'=.agg (cellsGTree r)):=by
 have ev_law00_Tree:=fun a0 r h σ=>(ih_law00_Tree a0 r h).c σ
 refine zf (rs:=[.cell 2 30]) tok Tryz.func15 rfl Tryz.ntmps15 rfl Tryz.call15 (by simp) ?_;refine zl [(0,.agg (cellsGTree a0))] ⟨rfl,trivial⟩ ?_;unfold yd.body at h
 refine rg tok [1,2] fun K hK=>?_
 simp only[go_sem,qb,qa,qd,reduceCtorEq,cellsGTree];apply hK
 obtain⟨r1,hr1,h⟩:=bind_some h
 refine rd [1,2,3] fun K hK=>?_
 refine DW.start (T:=tab) [.any,.own 2 [],.any,.own 2 [],.any,.own 2 [],.any,.at [],.eff,.any,.flt,.eff] [(2,[])] ?_;refine DW.runN tok 8 ?_;simp only[go_sem,qb,qa,qd,cellsGTree];refine DW.call rfl rfl rfl (wu.ev a0.fRest r1 hr1 _) ?_;refine DW.runN tok 3 ?_;simp only[go_sem,qb,qg,qa,qd];refine DW.fin tok (by decide +kernel) rfl ?_;simp only[zi,upd,qa,reduceIte,yp,yY];apply hK
 refine wN 2 3 2 rfl (by simp) rfl (L:=[(1,.op 0 0 0),(2,.op 1 0 0),(3,.op 2 0 0)]) (τ:=[.cells 0 (cellsGTree a0),.cells 0 [.int .i64 0,.int .i64 0,.str [],.ds true [] 0 true,.ds true [] 0 true],.cells 0 [.int .i64 a0.fKind,.int .i64 a0.fN,.str a0.fS,.os true 2 3 0 0 (qc ([]:List GEntry)) false,.ds true (qe encGRaw r1) (qc r1) false],.cells 0 (qe encGEntry ([]:List GEntry))]) .s ?_
 refine za fun Z2 hZ2=>?_
 refine rgN [1,2,3,4] ?_;apply ze
 refine xn 0 rfl fun hb9=>?_
 replace hb9:qc a0.fEntries≤9223372036854775807:=hb9.2.2.2.1.1;refine zq (fun m L τ=>∃ (p9 q9:List GEntry) (x5:Int) (l3:List GEntry) (v4:Nat),m=qc q9∧L=[(1,.op 0 0 0),(2,.op 1 0 0),(3,.op 2 0 0),(4,.int .i64 x5)]∧τ=[.cells 0 (cellsGTree a0),.cells 0 [.int .i64 0,.int .i64 0,.str [],.ds true [] 0 true,.ds true [] 0 true],.cells 0 [.int .i64 a0.fKind,.int .i64 a0.fN,.str a0.fS,.os true 2 3 v4 0 (qc l3) false,.ds true (qe encGRaw r1) (qc r1) false],.cells v4 (qe encGEntry l3)]∧a0.fEntries=p9++q9∧x5=(qc p9:Int)∧yd.l9 xa a0 r1 q9 x5 l3=some r) _ ⟨[],a0.fEntries,0,([]:List GEntry),0,rfl,rfl,rfl,rfl,rfl,h⟩ .s ?_;rintro m L τ ⟨p9,q9,x5,l3,v4,rfl,rfl,rfl,hE9,hi9,h⟩
 rcases q9 with _|⟨y9,q9⟩
 · have hz9:=yy hE9 hi9;simp only[yd.l9] at h
   refine za fun Z10 hZ10=>?_
   refine rg tok [1,2,3,4,21] fun K hK=>?_
   simp only[go_sem,qb,qa,qd,hz9];apply hK
   refine zn rfl ?_;apply zy;apply hZ2;refine rgN [2] ?_;cases h;exact rtA
 obtain⟨hz9,hw9,hx9,hE'9,hi'9⟩:=zX hE9 hi9 hb9;simp only[yd.l9] at h
 refine za fun Z11 hZ11=>?_
 refine rg tok [1,2,3,4,21] fun K hK=>?_
 simp only[go_sem,qb,qa,qd,hz9];apply hK
 refine zo rfl ?_;apply zd;apply hZ11
 refine za fun Z12 hZ12=>?_
 apply ze;have f13:=E27.idxS hx9;have f14:=E27.fldS0 (f:=3) rfl rfl hx9
 refine rg tok [1,2,3,4,5] fun K hK=>?_
 simp only[go_sem,qb,qg,qa,qd,cellsGEntry,zU,f13,f14];apply hK
 refine wN 4 1 5 rfl (by simp) rfl (L:=[(1,.op 0 0 0),(2,.op 1 0 0),(3,.op 2 0 0),(4,.int .i64 x5),(5,.op 4 0 0)]) (τ:=[.cells 0 (cellsGTree a0),.cells 0 [.int .i64 0,.int .i64 0,.str [],.ds true [] 0 true,.ds true [] 0 true],.cells 0 [.int .i64 a0.fKind,.int .i64 a0.fN,.str a0.fS,.os true 2 3 v4 0 (qc l3) false,.ds true (qe encGRaw r1) (qc r1) false],.cells v4 (qe encGEntry l3),.cells 0 [.int .i64 y9.fTag,.os true 5 5 0 0 (qc ([]:List GTree)) false],.cells 0 (qe encGTree ([]:List GTree))]) .s ?_
 refine za fun Z15 hZ15=>?_
 refine rgN [1,2,3,4,5,6] ?_;apply ze
 refine xn 0 rfl fun hb22=>?_
 replace hb22:=vaz hb22.2.2.2.1.2 hx9;rw[zU] at hb22;replace hb22:qc y9.fTrees≤9223372036854775807:=hb22.2.1.1;refine zq (fun m L τ=>∃ (p22 q22:List GTree) (x18:Int) (l16:List GTree) (v17:Nat),m=qc q22∧L=[(1,.op 0 0 0),(2,.op 1 0 0),(3,.op 2 0 0),(4,.int .i64 x5),(5,.op 4 0 0),(6,.int .i64 x18)]∧τ=[.cells 0 (cellsGTree a0),.cells 0 [.int .i64 0,.int .i64 0,.str [],.ds true [] 0 true,.ds true [] 0 true],.cells 0 [.int .i64 a0.fKind,.int .i64 a0.fN,.str a0.fS,.os true 2 3 v4 0 (qc l3) false,.ds true (qe encGRaw r1) (qc r1) false],.cells v4 (qe encGEntry l3),.cells 0 [.int .i64 y9.fTag,.os true 5 5 v17 0 (qc l16) false],.cells v17 (qe encGTree l16)]∧y9.fTrees=p22++q22∧x18=(qc p22:Int)∧yd.l22 xa x5 l3 (yd.l9 xa a0 r1 q9) y9 q22 x18 l16=some r) _ ⟨[],y9.fTrees,0,([]:List GTree),0,rfl,rfl,rfl,rfl,rfl,h⟩ .s ?_;rintro m L τ ⟨p22,q22,x18,l16,v17,rfl,rfl,rfl,hE22,hi22,h⟩
 rcases q22 with _|⟨y22,q22⟩
 · have hz22:=yy hE22 hi22;simp only[yd.l22] at h
   refine za fun Z23 hZ23=>?_
   have f24:=E27.idxS hx9;have f25:=E27.fldS (f:=90) rfl rfl hx9 (o:=1) (by decide)
   refine rg tok [1,2,3,4,5,6,39] fun K hK=>?_
   simp only[go_sem,qb,qa,qd,cellsGEntry,zU,hz22,f24,f25];apply hK
   refine zn rfl ?_;apply zy;apply hZ15;obtain⟨_u26,hu26,h⟩:=bind_some h;have gu26:=ym hu26;have f27:=(zt E27.len l3)
   refine rgE tok [1,2,3,4] fun K hK=>?_
   simp only[go_sem,qb,qg,qa,qd,qs,zB,zV,q2,qV,true_and,ub,z8,zP,yl,gu26,f27,yM,uf,q1,AV.one,qT,qx,qj,ql,qq,qG];apply hK
   apply hZ12
   refine rgE tok [1,2,3,4] fun K hK=>?_
   simp only[go_sem,qb,qa,hw9];apply hK
   exact⟨_,_,_,qt q9.length,⟨p9++[y9],q9,x5+1,l3++[(⟨y9.fTag,l16⟩:GEntry)],v4+1,rfl,rfl,rfl,hE'9,hi'9,h⟩,(.t [0,1,2,3] false)⟩
 obtain⟨hz22,hw22,hx22,hE'22,hi'22⟩:=zX hE22 hi22 hb22;simp only[yd.l22] at h
 refine za fun Z28 hZ28=>?_
 have f29:=E27.idxS hx9;have f30:=E27.fldS (f:=90) rfl rfl hx9 (o:=1) (by decide)
 refine rg tok [1,2,3,4,5,6,39] fun K hK=>?_
 simp only[go_sem,qb,qa,qd,cellsGEntry,zU,hz22,f29,f30];apply hK
 refine zo rfl ?_;apply zd;apply hZ28
 refine za fun Z31 hZ31=>?_
 apply ze;have f32:=E27.idxS hx9;have f33:=E27.fldS (f:=90) rfl rfl hx9 (o:=1) (by decide);have f34:=E90.idxS hx22;have f35:=E90.loadS rfl rfl hx22;obtain⟨r36,hr36,h⟩:=bind_some h;obtain⟨_u37,hu37,h⟩:=bind_some h;have gu37:=ym hu37;have f38:=(zt E90.len l16)
 refine rdE [1,2,3,4,5,6] fun K hK=>?_
 refine DW.start (T:=tab) [.any,.own 2 [],.any,.at [],.any,.any,.any,.at [],.any,.any,.at [],.eff,.eff,.eff,.any,.eff] [(2,[])] ?_;refine DW.runN tok 8 ?_;simp only[go_sem,qb,qa,qd,cellsGEntry,cellsGTree,zU,f32,f33,qj,ql,qq];refine DW.runN tok 3 ?_;simp only[go_sem,qb,qa,cellsGTree,yV,f34,f35];refine DW.call rfl rfl rfl (ev_law00_Tree y22 r36 hr36 _) ?_;refine DW.runN tok 4 ?_;simp only[go_sem,qb,qg,qa,qd,qs,zB,zV,q2,qV,true_and,ub,z8,zP,yl,cellsGTree,gu37,f38,yM,uf,q1,AV.one,qT,qx,qj,ql,qq,qG];refine DW.fin tok (by decide +kernel) rfl ?_;simp only[zi,upd,qa,reduceIte,yp,yY];apply hK
 apply hZ31
 refine rgE tok [1,2,3,4,5,6] fun K hK=>?_
 simp only[go_sem,qb,qa,hw22];apply hK
 exact⟨_,_,_,qt q22.length,⟨p22++[y22],q22,x18+1,l16++[r36],v17+1,rfl,rfl,rfl,hE'22,hi'22,h⟩,(.t [0,1,2,3,4,5] false)⟩
def yd : Nat→GTree→Option GTree
 |0,_=>none
 |k+1,a0=>yd.body (yd k) a0
theorem yd.all (k:Nat):(∀ (a0:GTree) (r:GTree),yd k a0=some r→ACalls qh 15 [.agg (cellsGTree a0)] [] (fun r' _=>r'=.agg (cellsGTree r))):=by
 induction k with
 |zero=>exact (fun a0 r h=>by simp only[yd] at h; cases h)
 |succ k ih=>exact (fun a0 r h=>yd.step _ ih a0 r (by simpa only [yd] using h))
theorem yd.ev (k:Nat)(a0:GTree)(r:GTree)(h:yd k a0=some r)(σ:Store):ACalls qh 15 [.agg (cellsGTree a0)] σ (fun r' σ'=>r'=.agg (cellsGTree r)∧σ'=σ):=
 ((yd.all k) a0 r h).c σ
def wv (a0:List Int):Option (List Int):=
 (ZY (qc a0) 8).bind fun _u2=>some a0
theorem wv.own (a0:List Int)(r:List Int)(h:wv a0=some r):ACalls qh 42 [.ds true (qe encI a0) (qc a0) false] [] (fun r' σ'=>r'=.os true 1 0 0 0 (qc r) false∧σ'=[.cells 0 (qe encI r)]):=by
 refine ACalls.own0 (by simp only[push_cast]) ?_;refine ZS (rs:=[.tmp 2]) tok Tryz.func42 rfl Tryz.ntmps42 rfl Tryz.call42 (by simp) ?_;refine zl [(0,.ds true (qe encI a0) (qc a0) false)] ⟨rfl,trivial⟩ ?_;unfold wv at h;refine rgN [0] ?_
 have f1:=fun nl tt σ=>wa E45.len a0 nl tt σ
 obtain⟨_u2,hu2,h⟩:=bind_some h;have gu2:=ym hu2
 refine rg tok [2] fun K hK=>?_
 simp only[go_sem,qb,qa,reduceCtorEq,z8,zP,yl,true_and,f1,gu2,ZZ,qx,ql,qq];apply hK
 refine zW (L:=[(2,.os true 1 0 0 0 (qc a0) false)]) (τ:=[.cells 0 (qe encI a0)]) .s ?_;apply yz;cases h;simp only[ZF,yP,yX,xO,exists_eq_left',go_sem];refine⟨0,0,by simp,?_,?_⟩
 · first|rfl|(simp only[go_sem,qb,qg,qa,qd,qs,qH,reduceIte,reduceCtorEq,push_cast,if_true,qA,qq,qD,qw,qB,qM,qW,qS,qU,qQ,qy,zH]<;>rfl)
 first|rfl|(simp only[go_sem,push_cast,qw,zH]<;>rfl)
theorem wv.ok (a0:List Int)(r:List Int)(h:wv a0=some r):ACalls qh 42 [.ds true (qe encI a0) (qc a0) false] [] (fun r' _=>r'=.ds true (qe encI r) (qc r) false):=
 (wv.own a0 r h).ownData (zt E45.len r) (by simp only[push_cast])
theorem wv.ev (a0:List Int)(r:List Int)(h:wv a0=some r)(σ:Store):ACalls qh 42 [.ds true (qe encI a0) (qc a0) false] σ (fun r' σ'=>r'=.ds true (qe encI r) (qc r) false∧σ'=σ):=
 (wv.ok a0 r h).c σ
def yh.l19 (a0:GSchema)(l4:List GMessage):List GEnumeration→Int→List GEnumeration→Option GSchema
 |[],x15,l13=>some (⟨a0.fName,l4,l13,a0.fMethods⟩:GSchema)
 |y19::q19,x15,l13=>(ZY (qc y19.fValues) 24).bind fun _u28=>(ZY (qc l13+1) 40).bind fun _u29=>((yh.l19 a0 l4 q19) (x15+1) (l13++[(⟨y19.fName,y19.fValues⟩:GEnumeration)]))
def yh.l10 (a0:GSchema):List GMessage→Int→List GMessage→Option GSchema
 |[],x6,l4=>(yh.l19 a0 l4 a0.fEnums 0 ([]:List GEnumeration))
 |y10::q10,x6,l4=>(ZY (qc y10.fFields) 56).bind fun _u36=>(wv y10.fReserved).bind fun r37=>(ZY (qc l4+1) 64).bind fun _u38=>((yh.l10 a0 q10) (x6+1) (l4++[(⟨y10.fName,y10.fFields,r37⟩:GMessage)]))
def yh (a0:GSchema):Option GSchema:=
 (ZY (qc a0.fMethods) 48).bind fun _u2=>(yh.l10 a0 a0.fMessages 0 ([]:List GMessage))
theorem yh.ok (a0:GSchema)(r:GSchema)(h:yh a0=some r):ACalls qh 17 [.agg (encGSchema a0)] [] (fun r' _=>r'=.agg (encGSchema r)):=by
 refine zf (rs:=[.cell 2 26]) tok Tryz.func17 rfl Tryz.ntmps17 rfl Tryz.call17 (by simp) ?_;refine zl [(0,.agg (encGSchema a0))] ⟨rfl,trivial⟩ ?_;unfold yh at h
 refine rg tok [1,2] fun K hK=>?_
 simp only[go_sem,qb,qa,qd,reduceCtorEq,encGSchema];apply hK
 have f1:=fun nl tt σ=>wa E24.len a0.fMethods nl tt σ
 obtain⟨_u2,hu2,h⟩:=bind_some h;have gu2:=ym hu2
 refine rd [1,2,3] fun K hK=>?_
 refine DW.start (T:=tab) [.any,.own 2 [],.any,.at [],.eff,.any,.flt,.eff] [(2,[])] ?_;refine DW.runN tok 8 ?_;simp only[go_sem,qb,qg,qa,qd,z8,zP,yl,true_and,encGSchema,f1,gu2,ZZ,uf,q1,AV.one,qT,qx,qj,ql,qq,qG];refine DW.fin tok (by decide +kernel) rfl ?_;simp only[zi,upd,qa,reduceIte,yp,yY];apply hK
 refine wN 3 1 3 rfl (by simp) rfl (L:=[(1,.op 0 0 0),(2,.op 1 0 0),(3,.op 3 0 0)]) (τ:=[.cells 0 (encGSchema a0),.cells 0 [.str [],.ds true [] 0 true,.ds true [] 0 true,.ds true [] 0 true],.cells 0 (qe encGMethod a0.fMethods),.cells 0 [.str a0.fName,.os true 3 4 0 0 (qc ([]:List GMessage)) false,.ds true [] 0 true,.os true 3 2 0 0 (qc a0.fMethods) false],.cells 0 (qe encGMessage ([]:List GMessage))]) .s ?_;refine wN 3 2 2 rfl (by simp) rfl (L:=[(1,.op 0 0 0),(2,.op 1 0 0),(3,.op 3 0 0)]) (τ:=[.cells 0 (encGSchema a0),.cells 0 [.str [],.ds true [] 0 true,.ds true [] 0 true,.ds true [] 0 true],.cells 0 (qe encGMethod a0.fMethods),.cells 0 [.str a0.fName,.os true 3 4 0 0 (qc ([]:List GMessage)) false,.os true 2 5 0 0 (qc ([]:List GEnumeration)) false,.os true 3 2 0 0 (qc a0.fMethods) false],.cells 0 (qe encGMessage ([]:List GMessage)),.cells 0 (qe encGEnumeration ([]:List GEnumeration))]) .s ?_;refine zW (L:=[(1,.op 0 0 0),(2,.op 1 0 0),(3,.op 3 0 0)]) (τ:=[.cells 0 (encGSchema a0),.cells 0 [.str [],.ds true [] 0 true,.ds true [] 0 true,.ds true [] 0 true],.cells 0 (qe encGMethod a0.fMethods),.cells 0 [.str a0.fName,.os true 3 4 0 0 (qc ([]:List GMessage)) false,.os true 2 5 0 0 (qc ([]:List GEnumeration)) false,.os true 3 2 0 0 (qc a0.fMethods) false],.cells 0 (qe encGMessage ([]:List GMessage)),.cells 0 (qe encGEnumeration ([]:List GEnumeration))]) .s ?_
 refine za fun Z3 hZ3=>?_
 refine rgN [1,2,3,4] ?_;apply ze
 refine xn 0 rfl fun hb10=>?_
 replace hb10:qc a0.fMessages≤9223372036854775807:=hb10.2.1.1;refine zq (fun m L τ=>∃ (p10 q10:List GMessage) (x6:Int) (l4:List GMessage) (v5:Nat),m=qc q10∧L=[(1,.op 0 0 0),(2,.op 1 0 0),(3,.op 3 0 0),(4,.int .i64 x6)]∧τ=[.cells 0 (encGSchema a0),.cells 0 [.str [],.ds true [] 0 true,.ds true [] 0 true,.ds true [] 0 true],.cells 0 (qe encGMethod a0.fMethods),.cells 0 [.str a0.fName,.os true 3 4 v5 0 (qc l4) false,.os true 2 5 0 0 (qc ([]:List GEnumeration)) false,.os true 3 2 0 0 (qc a0.fMethods) false],.cells v5 (qe encGMessage l4),.cells 0 (qe encGEnumeration ([]:List GEnumeration))]∧a0.fMessages=p10++q10∧x6=(qc p10:Int)∧yh.l10 a0 q10 x6 l4=some r) _ ⟨[],a0.fMessages,0,([]:List GMessage),0,rfl,rfl,rfl,rfl,rfl,h⟩ .s ?_;rintro m L τ ⟨p10,q10,x6,l4,v5,rfl,rfl,rfl,hE10,hi10,h⟩
 rcases q10 with _|⟨y10,q10⟩
 · have hz10:=yy hE10 hi10;simp only[yh.l10] at h
   refine za fun Z11 hZ11=>?_
   refine rg tok [1,2,3,4,17] fun K hK=>?_
   simp only[go_sem,qb,qa,qd,hz10];apply hK
   refine zn rfl ?_;apply zy;apply hZ3
   refine za fun Z12 hZ12=>?_
   refine rgN [1,2,3,6] ?_;apply ze
   refine xn 0 rfl fun hb19=>?_
   replace hb19:qc a0.fEnums≤9223372036854775807:=hb19.2.2.1.1;refine zq (fun m L τ=>∃ (p19 q19:List GEnumeration) (x15:Int) (l13:List GEnumeration) (v14:Nat),m=qc q19∧L=[(1,.op 0 0 0),(2,.op 1 0 0),(3,.op 3 0 0),(6,.int .i64 x15)]∧τ=[.cells 0 (encGSchema a0),.cells 0 [.str [],.ds true [] 0 true,.ds true [] 0 true,.ds true [] 0 true],.cells 0 (qe encGMethod a0.fMethods),.cells 0 [.str a0.fName,.os true 3 4 v5 0 (qc l4) false,.os true 2 5 v14 0 (qc l13) false,.os true 3 2 0 0 (qc a0.fMethods) false],.cells v5 (qe encGMessage l4),.cells v14 (qe encGEnumeration l13)]∧a0.fEnums=p19++q19∧x15=(qc p19:Int)∧yh.l19 a0 l4 q19 x15 l13=some r) _ ⟨[],a0.fEnums,0,([]:List GEnumeration),0,rfl,rfl,rfl,rfl,rfl,h⟩ .s ?_;rintro m L τ ⟨p19,q19,x15,l13,v14,rfl,rfl,rfl,hE19,hi19,h⟩
   rcases q19 with _|⟨y19,q19⟩
   · have hz19:=yy hE19 hi19;simp only[yh.l19] at h
     refine za fun Z20 hZ20=>?_
     refine rg tok [1,2,3,6,43] fun K hK=>?_
     simp only[go_sem,qb,qa,qd,hz19];apply hK
     refine zn rfl ?_;apply zy;apply hZ12;refine rgN [2] ?_;cases h;exact rtA
   obtain⟨hz19,hw19,hx19,hE'19,hi'19⟩:=zX hE19 hi19 hb19;simp only[yh.l19] at h
   refine za fun Z21 hZ21=>?_
   refine rg tok [1,2,3,6,43] fun K hK=>?_
   simp only[go_sem,qb,qa,qd,hz19];apply hK
   refine zo rfl ?_;apply zd;apply hZ21
   refine za fun Z22 hZ22=>?_
   apply ze;have f23:=E23.idxS hx19;have f24:=E23.fldS0 (f:=9) rfl rfl hx19;have f25:=E23.idxS hx19;have f26:=E23.fldS (f:=82) rfl rfl hx19 (o:=1) (by decide)
   have f27:=fun nl tt σ=>wa E82.len y19.fValues nl tt σ
   obtain⟨_u28,hu28,h⟩:=bind_some h;have gu28:=ym hu28;obtain⟨_u29,hu29,h⟩:=bind_some h;have gu29:=ym hu29;have f30:=(zt E23.len l13)
   refine rdE [1,2,3,6] fun K hK=>?_
   refine DW.start (T:=tab) [.any,.own 2 [],.any,.own 1 [],.any,.any,.any,.own 1 [],.any,.at [],.any,.any,.any,.at [],.eff,.any,.eff,.eff,.any,.eff] [(2,[]),(1,[])] ?_;refine DW.runN tok 8 ?_;simp only[go_sem,qb,qa,qd,encGEnumeration,encGSchema,f23,f24,qj,ql,qq];refine DW.runN tok 8 ?_;simp only[go_sem,qb,qg,qa,qd,z8,zP,yl,true_and,encGEnumeration,f23,f26,f27,gu28,ZZ,uf,q1,AV.one,qT,qx,qj,ql,qq,qG];refine DW.runN tok 4 ?_;simp only[go_sem,qb,qg,qa,qd,qs,zB,zV,q2,qV,true_and,ub,z8,zP,yl,gu29,f30,uf,q1,AV.one,qT,qx,qj,ql,qq,qG,yM];refine DW.fin tok (by decide +kernel) rfl ?_;simp only[zi,upd,qa,reduceIte,yp,yY];apply hK
   apply hZ22
   refine rgE tok [1,2,3,6] fun K hK=>?_
   simp only[go_sem,qb,qa,hw19];apply hK
   exact⟨_,_,_,qt q19.length,⟨p19++[y19],q19,x15+1,l13++[(⟨y19.fName,y19.fValues⟩:GEnumeration)],v14+1,rfl,rfl,rfl,hE'19,hi'19,h⟩,(.t [0,1,2,3,4,5] false)⟩
 obtain⟨hz10,hw10,hx10,hE'10,hi'10⟩:=zX hE10 hi10 hb10;simp only[yh.l10] at h
 refine za fun Z31 hZ31=>?_
 refine rg tok [1,2,3,4,17] fun K hK=>?_
 simp only[go_sem,qb,qa,qd,hz10];apply hK
 refine zo rfl ?_;apply zd;apply hZ31
 refine za fun Z32 hZ32=>?_
 apply ze;have f33:=E22.idxS hx10;have f34:=E22.loadS rfl rfl hx10
 refine rg tok [1,2,3,4,5] fun K hK=>?_
 simp only[go_sem,qb,qg,qa,qd,encGMessage,f33,f34];apply hK
 have f35:=fun nl tt σ=>wa E47.len y10.fFields nl tt σ
 obtain⟨_u36,hu36,h⟩:=bind_some h;have gu36:=ym hu36;obtain⟨r37,hr37,h⟩:=bind_some h;obtain⟨_u38,hu38,h⟩:=bind_some h;have gu38:=ym hu38;have f39:=(zt E22.len l4)
 refine rdE [1,2,3,4] fun K hK=>?_
 refine DW.start (T:=tab) [.any,.own 3 [],.any,.own 2 [],.any,.at [],.eff,.any,.own 1 [],.eff,.any,.eff,.eff,.any,.eff] [(3,[]),(2,[]),(1,[])] ?_;refine DW.runN tok 8 ?_;simp only[go_sem,qb,qg,qa,qd,z8,zP,yl,true_and,encGSchema,f35,gu36,ZZ,uo,qx,qj,ql,qq,qG];refine DW.runN tok 1 ?_;simp only[go_sem,qb,qa,qd,qj,ql,qq];refine DW.call rfl rfl rfl (wv.ev y10.fReserved r37 hr37 _) ?_;refine DW.runN tok 5 ?_;simp only[go_sem,qb,qg,qa,qd,qs,zB,zV,q2,qV,true_and,ub,z8,zP,yl,gu38,f39,uf,q1,AV.one,qT,qx,qj,ql,qq,qG,yM];refine DW.fin tok (by decide +kernel) rfl ?_;simp only[zi,upd,qa,reduceIte,yp,yY];apply hK
 apply hZ32
 refine rgE tok [1,2,3,4] fun K hK=>?_
 simp only[go_sem,qb,qa,hw10];apply hK
 exact⟨_,_,_,qt q10.length,⟨p10++[y10],q10,x6+1,l4++[(⟨y10.fName,y10.fFields,r37⟩:GMessage)],v5+1,rfl,rfl,rfl,hE'10,hi'10,h⟩,(.t [0,1,2,3,4,5] false)⟩
theorem yh.ev (a0:GSchema)(r:GSchema)(h:yh a0=some r)(σ:Store):ACalls qh 17 [.agg (encGSchema a0)] σ (fun r' σ'=>r'=.agg (encGSchema r)∧σ'=σ):=
 (yh.ok a0 r h).c σ
def xV (a0:List UInt8):Option (List UInt8):=
 (ZY (qc a0) 1).bind fun _u2=>some a0
theorem xV.own (a0:List UInt8)(r:List UInt8)(h:xV a0=some r):ACalls qh 18 [.ds true (qe encB a0) (qc a0) false] [] (fun r' σ'=>r'=.os true 1 0 0 0 (qc r) false∧σ'=[.cells 0 (qe encB r)]):=by
 refine ACalls.own0 (by simp only[push_cast]) ?_;refine ZS (rs:=[.tmp 2]) tok Tryz.func18 rfl Tryz.ntmps18 rfl Tryz.call18 (by simp) ?_;refine zl [(0,.ds true (qe encB a0) (qc a0) false)] ⟨rfl,trivial⟩ ?_;unfold xV at h;refine rgN [0] ?_
 have f1:=fun nl tt σ=>wa E34.len a0 nl tt σ
 obtain⟨_u2,hu2,h⟩:=bind_some h;have gu2:=ym hu2
 refine rg tok [2] fun K hK=>?_
 simp only[go_sem,qb,qa,reduceCtorEq,z8,zP,yl,true_and,f1,gu2,ZZ,qx,ql,qq];apply hK
 refine zW (L:=[(2,.os true 1 0 0 0 (qc a0) false)]) (τ:=[.cells 0 (qe encB a0)]) .s ?_;apply yz;cases h;simp only[ZF,yP,yX,xO,exists_eq_left',go_sem];refine⟨0,0,by simp,?_,?_⟩
 · first|rfl|(simp only[go_sem,qb,qg,qa,qd,qs,qH,reduceIte,reduceCtorEq,push_cast,if_true,qA,qq,qD,qw,qB,qM,qW,qS,qU,qQ,qy,zH]<;>rfl)
 first|rfl|(simp only[go_sem,push_cast,qw,zH]<;>rfl)
theorem xV.ok (a0:List UInt8)(r:List UInt8)(h:xV a0=some r):ACalls qh 18 [.ds true (qe encB a0) (qc a0) false] [] (fun r' _=>r'=.ds true (qe encB r) (qc r) false):=
 (xV.own a0 r h).ownData (zt E34.len r) (by simp only[push_cast])
theorem xV.ev (a0:List UInt8)(r:List UInt8)(h:xV a0=some r)(σ:Store):ACalls qh 18 [.ds true (qe encB a0) (qc a0) false] σ (fun r' σ'=>r'=.ds true (qe encB r) (qc r) false∧σ'=σ):=
 (xV.ok a0 r h).c σ
def xv (a0:Int):Bool:=
 ((((((decide (97≤a0))&&(decide (a0≤122)))||((decide (65≤a0))&&(decide (a0≤90))))||(decide (a0=95)))||((((decide (192≤a0))&&(decide (a0≤591)))&&(!(decide (a0=215))))&&(!(decide (a0=247)))))||(((decide (913≤a0))&&(decide (a0≤969)))&&(!(decide (a0=930)))))
theorem xv.ok (a0:Int)(r:Bool)(h:xv a0=r):ACalls qh 79 [.int .i32 a0] [] (fun r' _=>r'=.bool r):=by
 refine zf (rs:=[.tmp 2]) tok Tryz.func79 rfl Tryz.ntmps79 rfl Tryz.call79 (by simp) ?_;refine zl [(0,.int .i32 a0)] ⟨rfl,trivial⟩ ?_;unfold xv at h;refine rgN [0] ?_
 refine rc [2] fun K hK=>?_
 refine rnN 3 ?_;refine zh 3 (fun L τ=>L=[(0,.int .i32 a0),(8,.bool ((decide (97≤a0))&&(decide (a0≤122))))]∧τ=[]) ?_ ?_
 · refine yG 5 rfl (fun hg5=>?_) (fun hg5=>?_)
   · have t1:=eq_true hg5;refine rnN 3 ?_;refine zb ⟨rfl,_,_,⟨rfl,rfl⟩,.p t1⟩
   have t2:=eq_false hg5;refine rnN 3 ?_;refine zb ⟨rfl,_,_,⟨rfl,rfl⟩,.p t2⟩
 rintro _ _ ⟨rfl,rfl⟩;refine rnN 1 ?_;refine zh 7 (fun L τ=>L=[(0,.int .i32 a0),(16,.bool (((decide (97≤a0))&&(decide (a0≤122)))||((decide (65≤a0))&&(decide (a0≤90)))))]∧τ=[]) ?_ ?_
 · refine zO (b:=((decide (97≤a0))&&(decide (a0≤122)))) 9 rfl (fun hg9=>?_) (fun hg9=>?_)
   · refine rnN 7 ?_;refine zb ⟨rfl,_,_,⟨rfl,rfl⟩,.b hg9⟩
   refine rnN 3 ?_;refine zh 3 (fun L τ=>L=[(0,.int .i32 a0),(9,.bool false),(15,.bool ((decide (65≤a0))&&(decide (a0≤90))))]∧τ=[]) ?_ ?_
   · refine yG 12 rfl (fun hg12=>?_) (fun hg12=>?_)
     · have t3:=eq_true hg12;refine rnN 3 ?_;refine zb ⟨rfl,_,_,⟨rfl,rfl⟩,.p t3⟩
     have t4:=eq_false hg12;refine rnN 3 ?_;refine zb ⟨rfl,_,_,⟨rfl,rfl⟩,.p t4⟩
   rintro _ _ ⟨rfl,rfl⟩;refine rnN 1 ?_;refine zb ⟨rfl,_,_,⟨rfl,rfl⟩,.b hg9⟩
 rintro _ _ ⟨rfl,rfl⟩;refine rnN 1 ?_;refine zh 3 (fun L τ=>L=[(0,.int .i32 a0),(20,.bool ((((decide (97≤a0))&&(decide (a0≤122)))||((decide (65≤a0))&&(decide (a0≤90))))||(decide (a0=95))))]∧τ=[]) ?_ ?_
 · refine zO (b:=(((decide (97≤a0))&&(decide (a0≤122)))||((decide (65≤a0))&&(decide (a0≤90))))) 17 rfl (fun hg17=>?_) (fun hg17=>?_)
   · refine rnN 3 ?_;refine zb ⟨rfl,_,_,⟨rfl,rfl⟩,.b hg17⟩
   refine rnN 3 ?_;refine zb ⟨rfl,_,_,⟨rfl,rfl⟩,.b hg17⟩
 rintro _ _ ⟨rfl,rfl⟩;refine rnN 1 ?_;refine zh 15 (fun L τ=>L=[(0,.int .i32 a0),(36,.bool (((((decide (97≤a0))&&(decide (a0≤122)))||((decide (65≤a0))&&(decide (a0≤90))))||(decide (a0=95)))||((((decide (192≤a0))&&(decide (a0≤591)))&&(!(decide (a0=215))))&&(!(decide (a0=247))))))]∧τ=[]) ?_ ?_
 · refine zO (b:=((((decide (97≤a0))&&(decide (a0≤122)))||((decide (65≤a0))&&(decide (a0≤90))))||(decide (a0=95)))) 21 rfl (fun hg21=>?_) (fun hg21=>?_)
   · refine rnN 10 ?_;refine rnN 5 ?_;refine zb ⟨rfl,_,_,⟨rfl,rfl⟩,.b hg21⟩
   refine rnN 3 ?_;refine zh 3 (fun L τ=>L=[(0,.int .i32 a0),(21,.bool false),(27,.bool ((decide (192≤a0))&&(decide (a0≤591))))]∧τ=[]) ?_ ?_
   · refine yG 24 rfl (fun hg24=>?_) (fun hg24=>?_)
     · have t5:=eq_true hg24;refine rnN 3 ?_;refine zb ⟨rfl,_,_,⟨rfl,rfl⟩,.p t5⟩
     have t6:=eq_false hg24;refine rnN 3 ?_;refine zb ⟨rfl,_,_,⟨rfl,rfl⟩,.p t6⟩
   rintro _ _ ⟨rfl,rfl⟩;refine rnN 1 ?_;refine zh 3 (fun L τ=>L=[(0,.int .i32 a0),(21,.bool false),(31,.bool (((decide (192≤a0))&&(decide (a0≤591)))&&(!(decide (a0=215)))))]∧τ=[]) ?_ ?_
   · refine zO (b:=((decide (192≤a0))&&(decide (a0≤591)))) 28 rfl (fun hg28=>?_) (fun hg28=>?_)
     · refine rnN 3 ?_;refine zb ⟨rfl,_,_,⟨rfl,rfl⟩,.b hg28⟩
     refine rnN 3 ?_;refine zb ⟨rfl,_,_,⟨rfl,rfl⟩,.b hg28⟩
   rintro _ _ ⟨rfl,rfl⟩;refine rnN 1 ?_;refine zh 3 (fun L τ=>L=[(0,.int .i32 a0),(21,.bool false),(35,.bool ((((decide (192≤a0))&&(decide (a0≤591)))&&(!(decide (a0=215))))&&(!(decide (a0=247)))))]∧τ=[]) ?_ ?_
   · refine zO (b:=(((decide (192≤a0))&&(decide (a0≤591)))&&(!(decide (a0=215))))) 32 rfl (fun hg32=>?_) (fun hg32=>?_)
     · refine rnN 3 ?_;refine zb ⟨rfl,_,_,⟨rfl,rfl⟩,.b hg32⟩
     refine rnN 3 ?_;refine zb ⟨rfl,_,_,⟨rfl,rfl⟩,.b hg32⟩
   rintro _ _ ⟨rfl,rfl⟩;refine rnN 1 ?_;refine zb ⟨rfl,_,_,⟨rfl,rfl⟩,.b hg21⟩
 rintro _ _ ⟨rfl,rfl⟩;refine rnN 1 ?_;refine zh 11 (fun L τ=>L=[(48,.bool ((((((decide (97≤a0))&&(decide (a0≤122)))||((decide (65≤a0))&&(decide (a0≤90))))||(decide (a0=95)))||((((decide (192≤a0))&&(decide (a0≤591)))&&(!(decide (a0=215))))&&(!(decide (a0=247)))))||(((decide (913≤a0))&&(decide (a0≤969)))&&(!(decide (a0=930))))))]∧τ=[]) ?_ ?_
 · refine zO (b:=(((((decide (97≤a0))&&(decide (a0≤122)))||((decide (65≤a0))&&(decide (a0≤90))))||(decide (a0=95)))||((((decide (192≤a0))&&(decide (a0≤591)))&&(!(decide (a0=215))))&&(!(decide (a0=247)))))) 37 rfl (fun hg37=>?_) (fun hg37=>?_)
   · refine rnN 10 ?_;refine rnN 1 ?_;refine zb ⟨rfl,_,_,⟨rfl,rfl⟩,.b hg37⟩
   refine rnN 3 ?_;refine zh 3 (fun L τ=>L=[(0,.int .i32 a0),(37,.bool false),(43,.bool ((decide (913≤a0))&&(decide (a0≤969))))]∧τ=[]) ?_ ?_
   · refine yG 40 rfl (fun hg40=>?_) (fun hg40=>?_)
     · have t7:=eq_true hg40;refine rnN 3 ?_;refine zb ⟨rfl,_,_,⟨rfl,rfl⟩,.p t7⟩
     have t8:=eq_false hg40;refine rnN 3 ?_;refine zb ⟨rfl,_,_,⟨rfl,rfl⟩,.p t8⟩
   rintro _ _ ⟨rfl,rfl⟩;refine rnN 1 ?_;refine zh 3 (fun L τ=>L=[(37,.bool false),(47,.bool (((decide (913≤a0))&&(decide (a0≤969)))&&(!(decide (a0=930)))))]∧τ=[]) ?_ ?_
   · refine zO (b:=((decide (913≤a0))&&(decide (a0≤969)))) 44 rfl (fun hg44=>?_) (fun hg44=>?_)
     · refine rnN 3 ?_;refine zb ⟨rfl,_,_,⟨rfl,rfl⟩,.b hg44⟩
     refine rnN 3 ?_;refine zb ⟨rfl,_,_,⟨rfl,rfl⟩,.b hg44⟩
   rintro _ _ ⟨rfl,rfl⟩;refine rnN 1 ?_;refine zb ⟨rfl,_,_,⟨rfl,rfl⟩,.b hg37⟩
 rintro _ _ ⟨rfl,rfl⟩;refine rnN 1 ?_;refine nkN hK ?_;cases h;exact rtA
theorem xv.ev (a0:Int)(r:Bool)(h:xv a0=r)(σ:Store):ACalls qh 79 [.int .i32 a0] σ (fun r' σ'=>r'=.bool r∧σ'=σ):=
 (xv.ok a0 r h).c σ
def xh.j3 (x2:Bool):Bool:=
 (if x2=true then true else false)
def xh (a0:List UInt8):Bool:=
 (if a0=[115,99,104,101,109,97] then (xh.j3 (decide (a0=[115,99,104,101,109,97]))) else (if a0=[109,101,115,115,97,103,101] then (xh.j3 (decide (a0=[109,101,115,115,97,103,101]))) else (if a0=[101,110,117,109] then (xh.j3 (decide (a0=[101,110,117,109]))) else (if a0=[99,97,108,108] then (xh.j3 (decide (a0=[99,97,108,108]))) else (if a0=[114,101,116,117,114,110,115] then (xh.j3 (decide (a0=[114,101,116,117,114,110,115]))) else (if a0=[114,101,115,101,114,118,101,100] then (xh.j3 (decide (a0=[114,101,115,101,114,118,101,100]))) else (if a0=[111,112,116,105,111,110,97,108] then (xh.j3 (decide (a0=[111,112,116,105,111,110,97,108]))) else (if a0=[114,101,112,101,97,116,101,100] then (xh.j3 (decide (a0=[114,101,112,101,97,116,101,100]))) else (if a0=[105,110,116,51,50] then (xh.j3 (decide (a0=[105,110,116,51,50]))) else (if a0=[105,110,116,54,52] then (xh.j3 (decide (a0=[105,110,116,54,52]))) else (if a0=[98,111,111,108] then (xh.j3 (decide (a0=[98,111,111,108]))) else (if a0=[116,101,120,116] then (xh.j3 (decide (a0=[116,101,120,116]))) else (xh.j3 (decide (a0=[98,121,116,101,115])))))))))))))))
theorem xh.ok (a0:List UInt8)(r:Bool)(h:xh a0=r):ACalls qh 80 [.str a0] [] (fun r' _=>r'=.bool r):=by
 refine zf (rs:=[.tmp 2]) tok Tryz.func80 rfl Tryz.ntmps80 rfl Tryz.call80 (by simp) ?_;refine zl [(0,.str a0)] ⟨rfl,trivial⟩ ?_;unfold xh at h;refine rgN [0] ?_
 refine za fun Z1 hZ1=>?_
 refine rgN [3] ?_;apply ze;refine wb (fun L τ=>∃ (x2:Bool),L=[(4,.bool x2)]∧τ=[]∧xh.j3 x2=r) ?_ ?_
 · refine rgN [3,4] ?_;refine zx rfl (fun hc5=>?_) (fun hc5=>?_)
   · rw[if_pos hc5] at h;have t6:=eq_true hc5;apply zd;exact⟨_,_,⟨decide (a0=[115,99,104,101,109,97]),rfl,rfl,h⟩,.s⟩
   rw[if_neg hc5] at h;have t7:=eq_false hc5
   refine rg tok [3,4] fun K hK=>?_
   simp only[go_sem,qb,qa,t7];apply hK
   refine zx rfl (fun hc8=>?_) (fun hc8=>?_)
   · rw[if_pos hc8] at h;have t9:=eq_true hc8;apply zd;exact⟨_,_,⟨decide (a0=[109,101,115,115,97,103,101]),rfl,rfl,h⟩,.s⟩
   rw[if_neg hc8] at h;have t10:=eq_false hc8
   refine rg tok [3,4] fun K hK=>?_
   simp only[go_sem,qb,qa,t10];apply hK
   refine zx rfl (fun hc11=>?_) (fun hc11=>?_)
   · rw[if_pos hc11] at h;have t12:=eq_true hc11;apply zd;exact⟨_,_,⟨decide (a0=[101,110,117,109]),rfl,rfl,h⟩,.s⟩
   rw[if_neg hc11] at h;have t13:=eq_false hc11
   refine rg tok [3,4] fun K hK=>?_
   simp only[go_sem,qb,qa,t13];apply hK
   refine zx rfl (fun hc14=>?_) (fun hc14=>?_)
   · rw[if_pos hc14] at h;have t15:=eq_true hc14;apply zd;exact⟨_,_,⟨decide (a0=[99,97,108,108]),rfl,rfl,h⟩,.s⟩
   rw[if_neg hc14] at h;have t16:=eq_false hc14
   refine rg tok [3,4] fun K hK=>?_
   simp only[go_sem,qb,qa,t16];apply hK
   refine zx rfl (fun hc17=>?_) (fun hc17=>?_)
   · rw[if_pos hc17] at h;have t18:=eq_true hc17;apply zd;exact⟨_,_,⟨decide (a0=[114,101,116,117,114,110,115]),rfl,rfl,h⟩,.s⟩
   rw[if_neg hc17] at h;have t19:=eq_false hc17
   refine rg tok [3,4] fun K hK=>?_
   simp only[go_sem,qb,qa,t19];apply hK
   refine zx rfl (fun hc20=>?_) (fun hc20=>?_)
   · rw[if_pos hc20] at h;have t21:=eq_true hc20;apply zd;exact⟨_,_,⟨decide (a0=[114,101,115,101,114,118,101,100]),rfl,rfl,h⟩,.s⟩
   rw[if_neg hc20] at h;have t22:=eq_false hc20
   refine rg tok [3,4] fun K hK=>?_
   simp only[go_sem,qb,qa,t22];apply hK
   refine zx rfl (fun hc23=>?_) (fun hc23=>?_)
   · rw[if_pos hc23] at h;have t24:=eq_true hc23;apply zd;exact⟨_,_,⟨decide (a0=[111,112,116,105,111,110,97,108]),rfl,rfl,h⟩,.s⟩
   rw[if_neg hc23] at h;have t25:=eq_false hc23
   refine rg tok [3,4] fun K hK=>?_
   simp only[go_sem,qb,qa,t25];apply hK
   refine zx rfl (fun hc26=>?_) (fun hc26=>?_)
   · rw[if_pos hc26] at h;have t27:=eq_true hc26;apply zd;exact⟨_,_,⟨decide (a0=[114,101,112,101,97,116,101,100]),rfl,rfl,h⟩,.s⟩
   rw[if_neg hc26] at h;have t28:=eq_false hc26
   refine rg tok [3,4] fun K hK=>?_
   simp only[go_sem,qb,qa,t28];apply hK
   refine zx rfl (fun hc29=>?_) (fun hc29=>?_)
   · rw[if_pos hc29] at h;have t30:=eq_true hc29;apply zd;exact⟨_,_,⟨decide (a0=[105,110,116,51,50]),rfl,rfl,h⟩,.s⟩
   rw[if_neg hc29] at h;have t31:=eq_false hc29
   refine rg tok [3,4] fun K hK=>?_
   simp only[go_sem,qb,qa,t31];apply hK
   refine zx rfl (fun hc32=>?_) (fun hc32=>?_)
   · rw[if_pos hc32] at h;have t33:=eq_true hc32;apply zd;exact⟨_,_,⟨decide (a0=[105,110,116,54,52]),rfl,rfl,h⟩,.s⟩
   rw[if_neg hc32] at h;have t34:=eq_false hc32
   refine rg tok [3,4] fun K hK=>?_
   simp only[go_sem,qb,qa,t34];apply hK
   refine zx rfl (fun hc35=>?_) (fun hc35=>?_)
   · rw[if_pos hc35] at h;have t36:=eq_true hc35;apply zd;exact⟨_,_,⟨decide (a0=[98,111,111,108]),rfl,rfl,h⟩,.s⟩
   rw[if_neg hc35] at h;have t37:=eq_false hc35
   refine rg tok [3,4] fun K hK=>?_
   simp only[go_sem,qb,qa,t37];apply hK
   refine zx rfl (fun hc38=>?_) (fun hc38=>?_)
   · rw[if_pos hc38] at h;have t39:=eq_true hc38;apply zd;exact⟨_,_,⟨decide (a0=[116,101,120,116]),rfl,rfl,h⟩,.s⟩
   rw[if_neg hc38] at h;have t40:=eq_false hc38
   refine rgE tok [4] fun K hK=>?_
   simp only[go_sem,qb,qa,t40];apply hK
   exact⟨_,_,⟨decide (a0=[98,121,116,101,115]),rfl,rfl,h⟩,.s⟩
 rintro _ _ ⟨x2,rfl,rfl,h⟩;unfold xh.j3 at h;refine zm (b:=x2) rfl (fun hc4=>?_) (fun hc4=>?_)
 · rw[if_pos hc4] at h;refine rgN [2] ?_;cases h;exact rtA
 rw[xQ hc4] at h;apply zd;apply hZ1;refine rgN [2] ?_;cases h;exact rtA
theorem xh.ev (a0:List UInt8)(r:Bool)(h:xh a0=r)(σ:Store):ACalls qh 80 [.str a0] σ (fun r' σ'=>r'=.bool r∧σ'=σ):=
 (xh.ok a0 r h).c σ
def wg (a0:Int):Bool:=
 ((decide (48≤a0))&&(decide (a0≤57)))
end
end Go.Proofs.YtaddlmlpeghonaaGreatDoor
