/- Parts of the proof, cut down to what it needs. -/
import Derived.Test.YtaddlmlpeghonaaGreatDoorIDc
set_option linter.constructorNameAsVariable false
set_option linter.unusedSimpArgs false
set_option linter.unusedVariables false
namespace Go.Proofs.YtaddlmlpeghonaaGreatDoor
open _root_.List renaming length → qc, flatMap → qe, length_append → qi, length_cons → qj, length_nil → ql, mem_cons_of_mem → qm, mem_cons_self → qo, append_assoc → qq, getD_eq_getElem?_getD → qt, nil_append → qw, map_nil → qx, append_nil → qz, mem_cons → qA, length_singleton → qC, cons_append → qD, length_eq_zero_iff → qF, getElem?_append_left → qH, drop_zero → qI, map_cons → qJ, map_append → qK, replicate → qM, flatMap_cons → qN, flatMap_append → qQ, range_zero → qS, getElem?_set_ne → qT, all_cons → qV, getElem?_eq_getElem → qW, range_succ → qZ, mem_append_right → q1, length_map → q2, getElem?_eq_some_iff → q3, mem_map → ua, all_nil → ub, all_eq_true → ue, mem_append → uh, take_length → ui, set_cons_zero → uk, take_of_length_le → ul, getElem?_append_right → um, flatMap_nil → un, mem_append_left → uo, take_append_drop → ut, set_cons_succ → uu, pairwise_cons → uv, mem_singleton → uw, getElem?_set_self → ux, nodup_cons → uy, getElem?_eq_none → uz, length_set → uC, filter_cons → uF, range → uH, getElem?_cons_zero → uJ, getElem?_cons_succ → uK, length_take → uL, drop_eq_getElem_cons → uO, length_drop → uQ, reverse_cons → uZ, set → u0, eq_nil_of_length_eq_zero → u4, drop_drop → u7
open _root_.Option renaming bind_some → qg, map_some → uE, getD_some → uR
open _root_.Nat renaming reduceEqDiff → qa, reduceLT → qb, reduceAdd → qd, reduceLeDiff → qf, lt_succ_self → qr, zero_add → qs, le_refl → qu, reduceMul → qv, reduceSub → qO, mul_le_mul_right → qY, reduceMod → q9, lt_of_lt_of_le → uj, zero_le → uq, le_trans → uA, zero_mul → uG, sub_self → uN, sub_zero → uP, succ_mul → uU, add_zero → uV, add_mul → uX, lt_or_ge → u3, add_assoc → u5
open _root_.Bool renaming and_eq_true → qn, not_false → qE, or_eq_true → qG, and_self → qP, or_true → qU, not_true → qX, and_true → q7, false_eq_true → uc, or_false → ud, and_false → uf, true_and → uB, false_or → uI, false_ne_true → uM, not_eq_true' → uS
open _root_.Int renaming toNat → qB, toNat_natCast → qR, reduceEq → uW, le_refl → u6
open _root_.BitVec renaming ofInt → qy, toNat → ur
open _root_.Array renaming length_toList → ug, getD_eq_getD_getElem? → uD, getElem?_eq_getElem → uT, getElem?_setIfInBounds_ne → uY, getElem?_modify → u9
open _root_.UInt8 renaming ofNat → q5
open Result renaming andThen_ok → qk
open Sem renaming run_bind → qp, run_pure → qL
open _root_.Go.Proofs.Tryz renaming prog → qh
section
set_option maxRecDepth 4000
set_option maxHeartbeats 1000000
open AM
def zH.l25 (x2:Int)(x3:Int)(rec6:Int→Int→Option Bool)(y12:GMessage):List GField→Int→Option Bool
 |[],x23=>(rec6 (IntKind.i64.wrap (x2+(qc y12.fName:Int))) (IntKind.i64.wrap (x3+1)))
 |y25::q25,x23=>(if ((decide (200<(qc y25.fName:Int)))||(decide (200<(qc y25.fType.fName:Int))))=true then some false else ((zH.l25 x2 x3 rec6 y12 q25) (x23+1)))
def zH.l60 (x41:Int)(rec43:Int→Option Bool):List GNamed→Int→Option Bool
 |[],x58=>(rec43 (IntKind.i64.wrap (x41+1)))
 |y60::q60,x58=>(if 200<(qc y60.fName:Int) then some false else ((zH.l60 x41 rec43 q60) (x58+1)))
def zH.l78 (a0:GSchema)(x2:Int):Nat→Int→Option Bool
 |0,_=>none
 |k78+1,x76=>(if ((decide (x76<(qc a0.fMethods:Int)))&&(decide (x76<20)))=true then (Zt a0.fMethods x76).bind fun y84=>(if (((decide (200<(qc y84.fName:Int)))||(decide (200<(qc y84.fIn:Int))))||(decide (200<(qc y84.fOut:Int))))=true then some false else ((zH.l78 a0 x2 k78) (IntKind.i64.wrap (x76+1)))) else some ((((decide (x2<3000))&&(decide ((qc a0.fMessages:Int)≤14)))&&(decide ((qc a0.fEnums:Int)≤10)))&&(decide ((qc a0.fMethods:Int)≤10))))
def zH.l43 (a0:GSchema)(x2:Int):Nat→Int→Option Bool
 |0,_=>none
 |k43+1,x41=>(if ((decide (x41<(qc a0.fEnums:Int)))&&(decide (x41<20)))=true then (Zt a0.fEnums x41).bind fun y50=>(if ((decide (200<(qc y50.fName:Int)))||(decide (24<(qc y50.fValues:Int))))=true then some false else (zH.l60 x41 (zH.l43 a0 x2 k43) y50.fValues 0)) else (zH.l78 a0 x2 rounds 0))
def zH.l6 (a0:GSchema):Nat→Int→Int→Option Bool
 |0,_,_=>none
 |k6+1,x2,x3=>(if ((decide (x3<(qc a0.fMessages:Int)))&&(decide (x3<20)))=true then (Zt a0.fMessages x3).bind fun y12=>(if ((decide (20<(qc y12.fFields:Int)))||(decide (40<(qc y12.fReserved:Int))))=true then some false else (zH.l25 x2 x3 (zH.l6 a0 k6) y12 y12.fFields 0)) else (zH.l43 a0 x2 rounds 0))
def zH (a0:GSchema):Option Bool:=
 (zH.l6 a0 rounds (qc a0.fName:Int) 0)
theorem zH.ok (a0:GSchema)(r:Bool)(h:zH a0=some r):ACalls qh 11 [.agg (encGSchema a0)] [] (fun r' _=>r'=.bool r):=by
 refine zf (rs:=[.tmp 2]) tok Tryz.func11 rfl Tryz.ntmps11 rfl Tryz.call11 (by simp) ?_;refine zk [(0,.agg (encGSchema a0))] ⟨rfl,trivial⟩ ?_;unfold zH at h
 refine rg tok [1] fun K hK=>?_
 simp only[go_sem,qb,qa,qd,reduceCtorEq,encGSchema];apply hK
 refine rgN [1,3] ?_
 refine za fun Z1 hZ1=>?_
 refine rgN [1,3,4] ?_;apply ze;refine zq (fun m L τ=>∃ (k6:Nat) (x2:Int) (x3:Int),m=0+k6∧L=[(1,.op 0 0 0),(3,.int .i64 x2),(4,.int .i64 x3)]∧τ=[.cells 0 (encGSchema a0)]∧zH.l6 a0 k6 x2 x3=some r) _ ⟨rounds,(qc a0.fName:Int),0,rfl,rfl,rfl,h⟩ .s ?_;rintro m L τ ⟨k6,x2,x3,rfl,rfl,rfl,h⟩
 rcases k6 with _|k6
 · cases h
 simp only[zH.l6] at h
 refine za fun Z7 hZ7=>?_
 refine rc [1,3,4,21] fun K hK=>?_
 refine rnN 6 ?_;refine zh 3 (fun L τ=>L=[(1,.op 0 0 0),(3,.int .i64 x2),(4,.int .i64 x3),(21,.bool ((decide (x3<(qc a0.fMessages:Int)))&&(decide (x3<20))))]∧τ=[.cells 0 (encGSchema a0)]) ?_ ?_
 · refine yx 18 rfl (fun hg18=>?_) (fun hg18=>?_)
   · have t8:=eq_true hg18;refine rnN 3 ?_;refine zb ⟨rfl,_,_,⟨rfl,rfl⟩,.p t8⟩
   have t9:=eq_false hg18;refine rnN 3 ?_;refine zb ⟨rfl,_,_,⟨rfl,rfl⟩,.p t9⟩
 rintro _ _ ⟨rfl,rfl⟩;refine nkN hK ?_;refine zm (b:=((decide (x3<(qc a0.fMessages:Int)))&&(decide (x3<20)))) rfl (fun hc10=>?_) (fun hc10=>?_)
 · rw[if_pos hc10] at h;apply zd;apply hZ7
   refine za fun Z11 hZ11=>?_
   apply ze;obtain⟨y12,hy12,h⟩:=bind_some h;have f13:=E22.idxS hy12;have f14:=E22.fldS0 (f:=9) rfl rfl hy12
   refine rg tok [1,3,4] fun K hK=>?_
   simp only[go_sem,qb,qa,qd,encGMessage,f13,f14];apply hK
   refine za fun Z15 hZ15=>?_
   refine rc [1,3,4,50] fun K hK=>?_
   have f16:=E22.idxS hy12;have f17:=E22.fldS (f:=47) rfl rfl hy12 (o:=1) (by decide);refine zi tok 9 ?_;simp only[go_sem,qb,qa,qd,encGMessage,f16,f17];refine zh 9 (fun L τ=>L=[(1,.op 0 0 0),(3,.int .i64 (IntKind.i64.wrap (x2+(qc y12.fName:Int)))),(4,.int .i64 x3),(50,.bool ((decide (20<(qc y12.fFields:Int)))||(decide (40<(qc y12.fReserved:Int)))))]∧τ=[.cells 0 (encGSchema a0)]) ?_ ?_
   · refine yx 41 rfl (fun hg41=>?_) (fun hg41=>?_)
     · have t18:=eq_true hg41;refine rnN 9 ?_;refine zb ⟨rfl,_,_,⟨rfl,rfl⟩,.p t18⟩
     have t19:=eq_false hg41;have f20:=E22.idxS hy12;have f21:=E22.fldS (f:=45) rfl rfl hy12 (o:=2) (by decide);refine zi tok 9 ?_;simp only[go_sem,qb,qa,qd,encGMessage,f20,f21];refine zb ⟨rfl,_,_,⟨rfl,rfl⟩,.p t19⟩
   rintro _ _ ⟨rfl,rfl⟩;refine nkN hK ?_;refine zm (b:=((decide (20<(qc y12.fFields:Int)))||(decide (40<(qc y12.fReserved:Int))))) rfl (fun hc22=>?_) (fun hc22=>?_)
   · rw[if_pos hc22] at h;refine rgN [2] ?_;cases h;exact rtA
   rw[xS hc22] at h;apply zd;apply hZ15;refine rgN [1,3,4,5] ?_;apply ze
   refine xu 0 rfl fun hb25=>?_
   replace hb25:=vaD hb25.2.1.2 hy12;replace hb25:qc y12.fFields≤9223372036854775807:=hb25.2.1.1;refine zq (fun m L τ=>∃ (p25 q25:List GField) (x23:Int),m=qc q25∧L=[(1,.op 0 0 0),(3,.int .i64 (IntKind.i64.wrap (x2+(qc y12.fName:Int)))),(4,.int .i64 x3),(5,.int .i64 x23)]∧τ=[.cells 0 (encGSchema a0)]∧y12.fFields=p25++q25∧x23=(qc p25:Int)∧zH.l25 x2 x3 (zH.l6 a0 k6) y12 q25 x23=some r) _ ⟨[],y12.fFields,0,rfl,rfl,rfl,rfl,rfl,h⟩ .s ?_;rintro m L τ ⟨p25,q25,x23,rfl,rfl,rfl,hE25,hi25,h⟩
   rcases q25 with _|⟨y25,q25⟩
   · have hz25:=yr hE25 hi25;simp only[zH.l25] at h
     refine za fun Z26 hZ26=>?_
     have f27:=E22.idxS hy12;have f28:=E22.fldS (f:=47) rfl rfl hy12 (o:=1) (by decide)
     refine rg tok [1,3,4,5,59] fun K hK=>?_
     simp only[go_sem,qb,qa,qd,encGMessage,hz25,f27,f28];apply hK
     refine zn rfl ?_;apply zv;apply hZ11
     refine rgE tok [1,3,4] fun K hK=>?_
     simp only[go_sem,qb,qa];apply hK
     exact⟨_,_,_,qr (0+k6),⟨k6,IntKind.i64.wrap (x2+(qc y12.fName:Int)),IntKind.i64.wrap (x3+1),rfl,rfl,rfl,h⟩,.s⟩
   obtain⟨hz25,hw25,hx25,hE'25,hi'25⟩:=zW hE25 hi25 hb25;simp only[zH.l25] at h
   refine za fun Z29 hZ29=>?_
   have f30:=E22.idxS hy12;have f31:=E22.fldS (f:=47) rfl rfl hy12 (o:=1) (by decide)
   refine rg tok [1,3,4,5,59] fun K hK=>?_
   simp only[go_sem,qb,qa,qd,encGMessage,hz25,f30,f31];apply hK
   refine zp rfl ?_;apply zd;apply hZ29
   refine za fun Z32 hZ32=>?_
   apply ze;have f33:=E22.idxS hy12;have f34:=E22.fldS (f:=47) rfl rfl hy12 (o:=1) (by decide);have f35:=E47.idxS hx25;have f36:=E47.loadS rfl rfl hx25
   refine rg tok [1,3,4,5,6] fun K hK=>?_
   simp only[go_sem,qb,qf,qa,qd,encGField,encGMessage,f33,f34,f35,f36];apply hK
   refine rc [1,3,4,5,81] fun K hK=>?_
   refine rnN 5 ?_;refine zh 6 (fun L τ=>L=[(1,.op 0 0 0),(3,.int .i64 (IntKind.i64.wrap (x2+(qc y12.fName:Int)))),(4,.int .i64 x3),(5,.int .i64 x23),(81,.bool ((decide (200<(qc y25.fName:Int)))||(decide (200<(qc y25.fType.fName:Int)))))]∧τ=[.cells 0 (encGSchema a0),.cells 0 (encGField y25)]) ?_ ?_
   · refine yx 75 rfl (fun hg75=>?_) (fun hg75=>?_)
     · have t37:=eq_true hg75;refine rnN 6 ?_;refine zb ⟨rfl,_,_,⟨rfl,rfl⟩,.p t37⟩
     have t38:=eq_false hg75;refine rnN 6 ?_;refine zb ⟨rfl,_,_,⟨rfl,rfl⟩,.p t38⟩
   rintro _ _ ⟨rfl,rfl⟩;refine nkN hK ?_;refine zm (b:=((decide (200<(qc y25.fName:Int)))||(decide (200<(qc y25.fType.fName:Int))))) rfl (fun hc39=>?_) (fun hc39=>?_)
   · rw[if_pos hc39] at h;refine rgN [2] ?_;cases h;exact rtA
   rw[xS hc39] at h;apply zd;apply hZ32
   refine rgE tok [1,3,4,5] fun K hK=>?_
   simp only[go_sem,qb,qa,hw25];apply hK
   exact⟨_,_,_,qr q25.length,⟨p25++[y25],q25,x23+1,rfl,rfl,rfl,hE'25,hi'25,h⟩,(.t [0] false)⟩
 rw[xS hc10] at h;apply zv;apply hZ1
 refine za fun Z40 hZ40=>?_
 refine rgN [1,3,7] ?_;apply ze;refine zq (fun m L τ=>∃ (k43:Nat) (x41:Int),m=0+k43∧L=[(1,.op 0 0 0),(3,.int .i64 x2),(7,.int .i64 x41)]∧τ=[.cells 0 (encGSchema a0)]∧zH.l43 a0 x2 k43 x41=some r) _ ⟨rounds,0,rfl,rfl,rfl,h⟩ .s ?_;rintro m L τ ⟨k43,x41,rfl,rfl,rfl,h⟩
 rcases k43 with _|k43
 · cases h
 simp only[zH.l43] at h
 refine za fun Z44 hZ44=>?_
 refine rc [1,3,7,90] fun K hK=>?_
 refine rnN 6 ?_;refine zh 3 (fun L τ=>L=[(1,.op 0 0 0),(3,.int .i64 x2),(7,.int .i64 x41),(90,.bool ((decide (x41<(qc a0.fEnums:Int)))&&(decide (x41<20))))]∧τ=[.cells 0 (encGSchema a0)]) ?_ ?_
 · refine yx 87 rfl (fun hg87=>?_) (fun hg87=>?_)
   · have t45:=eq_true hg87;refine rnN 3 ?_;refine zb ⟨rfl,_,_,⟨rfl,rfl⟩,.p t45⟩
   have t46:=eq_false hg87;refine rnN 3 ?_;refine zb ⟨rfl,_,_,⟨rfl,rfl⟩,.p t46⟩
 rintro _ _ ⟨rfl,rfl⟩;refine nkN hK ?_;refine zm (b:=((decide (x41<(qc a0.fEnums:Int)))&&(decide (x41<20)))) rfl (fun hc47=>?_) (fun hc47=>?_)
 · rw[if_pos hc47] at h;apply zd;apply hZ44
   refine za fun Z48 hZ48=>?_
   apply ze
   refine za fun Z49 hZ49=>?_
   refine rc [1,3,7,110] fun K hK=>?_
   obtain⟨y50,hy50,h⟩:=bind_some h;have f51:=E23.idxS hy50;have f52:=E23.fldS0 (f:=9) rfl rfl hy50;refine zi tok 9 ?_;simp only[go_sem,qb,qa,qd,encGEnumeration,f51,f52];refine zh 9 (fun L τ=>L=[(1,.op 0 0 0),(3,.int .i64 x2),(7,.int .i64 x41),(110,.bool ((decide (200<(qc y50.fName:Int)))||(decide (24<(qc y50.fValues:Int)))))]∧τ=[.cells 0 (encGSchema a0)]) ?_ ?_
   · refine yx 101 rfl (fun hg101=>?_) (fun hg101=>?_)
     · have t53:=eq_true hg101;refine rnN 9 ?_;refine zb ⟨rfl,_,_,⟨rfl,rfl⟩,.p t53⟩
     have t54:=eq_false hg101;have f55:=E23.idxS hy50;have f56:=E23.fldS (f:=82) rfl rfl hy50 (o:=1) (by decide);refine zi tok 9 ?_;simp only[go_sem,qb,qa,qd,encGEnumeration,f55,f56];refine zb ⟨rfl,_,_,⟨rfl,rfl⟩,.p t54⟩
   rintro _ _ ⟨rfl,rfl⟩;refine nkN hK ?_;refine zm (b:=((decide (200<(qc y50.fName:Int)))||(decide (24<(qc y50.fValues:Int))))) rfl (fun hc57=>?_) (fun hc57=>?_)
   · rw[if_pos hc57] at h;refine rgN [2] ?_;cases h;exact rtA
   rw[xS hc57] at h;apply zd;apply hZ49;refine rgN [1,3,7,8] ?_;apply ze
   refine xu 0 rfl fun hb60=>?_
   replace hb60:=vaD hb60.2.2.1.2 hy50;replace hb60:qc y50.fValues≤9223372036854775807:=hb60.2.1.1;refine zq (fun m L τ=>∃ (p60 q60:List GNamed) (x58:Int),m=qc q60∧L=[(1,.op 0 0 0),(3,.int .i64 x2),(7,.int .i64 x41),(8,.int .i64 x58)]∧τ=[.cells 0 (encGSchema a0)]∧y50.fValues=p60++q60∧x58=(qc p60:Int)∧zH.l60 x41 (zH.l43 a0 x2 k43) q60 x58=some r) _ ⟨[],y50.fValues,0,rfl,rfl,rfl,rfl,rfl,h⟩ .s ?_;rintro m L τ ⟨p60,q60,x58,rfl,rfl,rfl,hE60,hi60,h⟩
   rcases q60 with _|⟨y60,q60⟩
   · have hz60:=yr hE60 hi60;simp only[zH.l60] at h
     refine za fun Z61 hZ61=>?_
     have f62:=E23.idxS hy50;have f63:=E23.fldS (f:=82) rfl rfl hy50 (o:=1) (by decide)
     refine rg tok [1,3,7,8,119] fun K hK=>?_
     simp only[go_sem,qb,qa,qd,encGEnumeration,hz60,f62,f63];apply hK
     refine zn rfl ?_;apply zv;apply hZ48
     refine rgE tok [1,3,7] fun K hK=>?_
     simp only[go_sem,qb,qa];apply hK
     exact⟨_,_,_,qr (0+k43),⟨k43,IntKind.i64.wrap (x41+1),rfl,rfl,rfl,h⟩,.s⟩
   obtain⟨hz60,hw60,hx60,hE'60,hi'60⟩:=zW hE60 hi60 hb60;simp only[zH.l60] at h
   refine za fun Z64 hZ64=>?_
   have f65:=E23.idxS hy50;have f66:=E23.fldS (f:=82) rfl rfl hy50 (o:=1) (by decide)
   refine rg tok [1,3,7,8,119] fun K hK=>?_
   simp only[go_sem,qb,qa,qd,encGEnumeration,hz60,f65,f66];apply hK
   refine zp rfl ?_;apply zd;apply hZ64
   refine za fun Z67 hZ67=>?_
   apply ze;have f68:=E23.idxS hy50;have f69:=E23.fldS (f:=82) rfl rfl hy50 (o:=1) (by decide);have f70:=E82.idxS hx60;have f71:=E82.fldS0 (f:=9) rfl rfl hx60
   refine rg tok [1,3,7,8,133] fun K hK=>?_
   simp only[go_sem,qb,qa,qd,encGEnumeration,encGNamed,f68,f69,f70,f71];apply hK
   refine zo rfl (fun hc72=>?_) (fun hc72=>?_)
   · rw[if_pos hc72] at h;have t73:=eq_true hc72
     refine rg tok [2] fun K hK=>?_
     simp only[go_sem,qb,qa,t73];apply hK
     cases h;exact rtA
   rw[if_neg hc72] at h;have t74:=eq_false hc72;apply zd;apply hZ67
   refine rgE tok [1,3,7,8] fun K hK=>?_
   simp only[go_sem,qb,qa,hw60,t74];apply hK
   exact⟨_,_,_,qr q60.length,⟨p60++[y60],q60,x58+1,rfl,rfl,rfl,hE'60,hi'60,h⟩,.s⟩
 rw[xS hc47] at h;apply zv;apply hZ40
 refine za fun Z75 hZ75=>?_
 refine rgN [1,3,9] ?_;apply ze;refine zq (fun m L τ=>∃ (k78:Nat) (x76:Int),m=0+k78∧L=[(1,.op 0 0 0),(3,.int .i64 x2),(9,.int .i64 x76)]∧τ=[.cells 0 (encGSchema a0)]∧zH.l78 a0 x2 k78 x76=some r) _ ⟨rounds,0,rfl,rfl,rfl,h⟩ .s ?_;rintro m L τ ⟨k78,x76,rfl,rfl,rfl,h⟩
 rcases k78 with _|k78
 · cases h
 simp only[zH.l78] at h
 refine za fun Z79 hZ79=>?_
 refine rc [1,3,9,142] fun K hK=>?_
 refine rnN 6 ?_;refine zh 3 (fun L τ=>L=[(1,.op 0 0 0),(3,.int .i64 x2),(9,.int .i64 x76),(142,.bool ((decide (x76<(qc a0.fMethods:Int)))&&(decide (x76<20))))]∧τ=[.cells 0 (encGSchema a0)]) ?_ ?_
 · refine yx 139 rfl (fun hg139=>?_) (fun hg139=>?_)
   · have t80:=eq_true hg139;refine rnN 3 ?_;refine zb ⟨rfl,_,_,⟨rfl,rfl⟩,.p t80⟩
   have t81:=eq_false hg139;refine rnN 3 ?_;refine zb ⟨rfl,_,_,⟨rfl,rfl⟩,.p t81⟩
 rintro _ _ ⟨rfl,rfl⟩;refine nkN hK ?_;refine zm (b:=((decide (x76<(qc a0.fMethods:Int)))&&(decide (x76<20)))) rfl (fun hc82=>?_) (fun hc82=>?_)
 · rw[if_pos hc82] at h;apply zd;apply hZ79
   refine za fun Z83 hZ83=>?_
   apply ze
   refine rc [1,3,9,172] fun K hK=>?_
   obtain⟨y84,hy84,h⟩:=bind_some h;have f85:=E24.idxS hy84;have f86:=E24.fldS0 (f:=9) rfl rfl hy84;refine zi tok 9 ?_;simp only[go_sem,qb,qa,qd,encGMethod,f85,f86];refine zh 9 (fun L τ=>L=[(1,.op 0 0 0),(3,.int .i64 x2),(9,.int .i64 x76),(162,.bool ((decide (200<(qc y84.fName:Int)))||(decide (200<(qc y84.fIn:Int)))))]∧τ=[.cells 0 (encGSchema a0)]) ?_ ?_
   · refine yx 153 rfl (fun hg153=>?_) (fun hg153=>?_)
     · have t87:=eq_true hg153;refine rnN 9 ?_;refine zb ⟨rfl,_,_,⟨rfl,rfl⟩,.p t87⟩
     have t88:=eq_false hg153;have f89:=E24.idxS hy84;have f90:=E24.fldS (f:=9) rfl rfl hy84 (o:=1) (by decide);refine zi tok 9 ?_;simp only[go_sem,qb,qa,qd,encGMethod,f89,f90];refine zb ⟨rfl,_,_,⟨rfl,rfl⟩,.p t88⟩
   rintro _ _ ⟨rfl,rfl⟩;refine rnN 1 ?_;refine zh 9 (fun L τ=>L=[(1,.op 0 0 0),(3,.int .i64 x2),(9,.int .i64 x76),(172,.bool (((decide (200<(qc y84.fName:Int)))||(decide (200<(qc y84.fIn:Int))))||(decide (200<(qc y84.fOut:Int)))))]∧τ=[.cells 0 (encGSchema a0)]) ?_ ?_
   · refine zN (b:=((decide (200<(qc y84.fName:Int)))||(decide (200<(qc y84.fIn:Int))))) 163 rfl (fun hg163=>?_) (fun hg163=>?_)
     · refine rnN 9 ?_;refine zb ⟨rfl,_,_,⟨rfl,rfl⟩,.b hg163⟩
     have f91:=E24.idxS hy84;have f92:=E24.fldS (f:=9) rfl rfl hy84 (o:=2) (by decide);refine zi tok 9 ?_;simp only[go_sem,qb,qa,qd,encGMethod,f91,f92];refine zb ⟨rfl,_,_,⟨rfl,rfl⟩,.b hg163⟩
   rintro _ _ ⟨rfl,rfl⟩;refine nkN hK ?_;refine zm (b:=(((decide (200<(qc y84.fName:Int)))||(decide (200<(qc y84.fIn:Int))))||(decide (200<(qc y84.fOut:Int))))) rfl (fun hc93=>?_) (fun hc93=>?_)
   · rw[if_pos hc93] at h;refine rgN [2] ?_;cases h;exact rtA
   rw[xS hc93] at h;apply zd;apply hZ83
   refine rgE tok [1,3,9] fun K hK=>?_
   simp only[go_sem,qb,qa];apply hK
   exact⟨_,_,_,qr (0+k78),⟨k78,IntKind.i64.wrap (x76+1),rfl,rfl,rfl,h⟩,.s⟩
 rw[xS hc82] at h;apply zv;apply hZ75
 refine rc [2] fun K hK=>?_
 refine rnN 3 ?_;refine zh 5 (fun L τ=>L=[(1,.op 0 0 0),(180,.bool ((decide (x2<3000))&&(decide ((qc a0.fMessages:Int)≤14))))]∧τ=[.cells 0 (encGSchema a0)]) ?_ ?_
 · refine yx 175 rfl (fun hg175=>?_) (fun hg175=>?_)
   · have t94:=eq_true hg175;refine rnN 5 ?_;refine zb ⟨rfl,_,_,⟨rfl,rfl⟩,.p t94⟩
   have t95:=eq_false hg175;refine rnN 5 ?_;refine zb ⟨rfl,_,_,⟨rfl,rfl⟩,.p t95⟩
 rintro _ _ ⟨rfl,rfl⟩;refine rnN 1 ?_;refine zh 5 (fun L τ=>L=[(1,.op 0 0 0),(186,.bool (((decide (x2<3000))&&(decide ((qc a0.fMessages:Int)≤14)))&&(decide ((qc a0.fEnums:Int)≤10))))]∧τ=[.cells 0 (encGSchema a0)]) ?_ ?_
 · refine zN (b:=((decide (x2<3000))&&(decide ((qc a0.fMessages:Int)≤14)))) 181 rfl (fun hg181=>?_) (fun hg181=>?_)
   · refine rnN 5 ?_;refine zb ⟨rfl,_,_,⟨rfl,rfl⟩,.b hg181⟩
   refine rnN 5 ?_;refine zb ⟨rfl,_,_,⟨rfl,rfl⟩,.b hg181⟩
 rintro _ _ ⟨rfl,rfl⟩;refine rnN 1 ?_;refine zh 5 (fun L τ=>L=[(192,.bool ((((decide (x2<3000))&&(decide ((qc a0.fMessages:Int)≤14)))&&(decide ((qc a0.fEnums:Int)≤10)))&&(decide ((qc a0.fMethods:Int)≤10))))]∧τ=[.cells 0 (encGSchema a0)]) ?_ ?_
 · refine zN (b:=(((decide (x2<3000))&&(decide ((qc a0.fMessages:Int)≤14)))&&(decide ((qc a0.fEnums:Int)≤10)))) 187 rfl (fun hg187=>?_) (fun hg187=>?_)
   · refine rnN 5 ?_;refine zb ⟨rfl,_,_,⟨rfl,rfl⟩,.b hg187⟩
   refine rnN 5 ?_;refine zb ⟨rfl,_,_,⟨rfl,rfl⟩,.b hg187⟩
 rintro _ _ ⟨rfl,rfl⟩;refine rnN 1 ?_;refine nkN hK ?_;cases h;exact rtA
theorem zH.ev (a0:GSchema)(r:Bool)(h:zH a0=some r)(σ:Store):ACalls qh 11 [.agg (encGSchema a0)] σ (fun r' σ'=>r'=.bool r∧σ'=σ):=
 (zH.ok a0 r h).c σ
def yR.l9 (a0:List UInt8):Nat→Nat→Int→Option Int
 |0,_,_=>none
 |k9+1,p5,x6=>(if p5<qc a0 then ((yR.l9 a0 k9) (p5+(YO a0 p5).2) (IntKind.i64.wrap (x6+1))) else some x6)
def yR (a0:List UInt8):Option Int:=
 (yC a0).bind fun r2=>(if (!r2)=true then some 0 else (yR.l9 a0 rounds 0 0))
theorem yR.ok (a0:List UInt8)(r:Int)(h:yR a0=some r):ACalls qh 102 [.str a0] [] (fun r' _=>r'=.int .i64 r):=by
 refine zf (rs:=[.tmp 2]) tok Tryz.func102 rfl Tryz.ntmps102 rfl Tryz.call102 (by simp) ?_;refine zk [(0,.str a0)] ⟨rfl,trivial⟩ ?_;unfold yR at h;refine rgN [0] ?_
 refine za fun Z1 hZ1=>?_
 refine rc [0,6] fun K hK=>?_
 obtain⟨r2,hr2,h⟩:=bind_some h;refine rnN 1 ?_;refine clN rfl rfl rfl (yC.ev a0 r2 hr2 _) ?_;refine rnN 1 ?_;refine nkN hK ?_;refine zm (b:=(!r2)) rfl (fun hc3=>?_) (fun hc3=>?_)
 · rw[if_pos hc3] at h;refine rgN [2] ?_;cases h;exact rtA
 rw[xS hc3] at h;apply zd;apply hZ1;refine rgN [0,3] ?_
 refine za fun Z4 hZ4=>?_
 refine rgN [3,8] ?_;apply ze;refine zq (fun m L τ=>∃ (k9:Nat) (p5:Nat) (x6:Int),m=0+k9∧L=[(3,.int .i64 x6),(8,.it 0)]∧τ=[.iter a0 p5]∧yR.l9 a0 k9 p5 x6=some r) _ ⟨rounds,0,0,rfl,rfl,rfl,h⟩ .s ?_;rintro m L τ ⟨k9,p5,x6,rfl,rfl,rfl,h⟩
 rcases k9 with _|k9
 · cases h
 simp only[yR.l9] at h
 by_cases hn10:p5<qc a0
 · rw[if_pos hn10] at h;have t11:=eq_true hn10
   refine rg tok [3,8,10] fun K hK=>?_
   simp only[go_sem,qb,qa,qd,vav,if_true,if_false,t11];apply hK
   refine za fun Z12 hZ12=>?_
   refine zp rfl ?_;apply zd;apply hZ12;apply ze
   refine rgE tok [3,8] fun K hK=>?_
   simp only[go_sem,qb,qa];apply hK
   exact⟨_,_,_,qr (0+k9),⟨k9,p5+(YO a0 p5).2,IntKind.i64.wrap (x6+1),rfl,rfl,rfl,h⟩,.s⟩
 rw[if_neg hn10] at h;have t13:=eq_false hn10
 refine rg tok [3,8,10] fun K hK=>?_
 simp only[go_sem,qb,qa,vav,if_true,if_false,t13];apply hK
 refine za fun Z14 hZ14=>?_
 refine zn rfl ?_;apply zv;apply hZ4;refine rgN [2] ?_;cases h;exact rtA
theorem yR.ev (a0:List UInt8)(r:Int)(h:yR a0=some r)(σ:Store):ACalls qh 102 [.str a0] σ (fun r' σ'=>r'=.int .i64 r∧σ'=σ):=
 (yR.ok a0 r h).c σ
def xq.j3 (x2:Bool):Bool:=
 (if x2=true then true else false)
def xq (a0:List UInt8):Bool:=
 (if a0=[115,99,104,101,109,97] then (xq.j3 (decide (a0=[115,99,104,101,109,97]))) else (if a0=[109,101,115,115,97,103,101] then (xq.j3 (decide (a0=[109,101,115,115,97,103,101]))) else (if a0=[101,110,117,109] then (xq.j3 (decide (a0=[101,110,117,109]))) else (if a0=[99,97,108,108] then (xq.j3 (decide (a0=[99,97,108,108]))) else (if a0=[114,101,116,117,114,110,115] then (xq.j3 (decide (a0=[114,101,116,117,114,110,115]))) else (if a0=[114,101,115,101,114,118,101,100] then (xq.j3 (decide (a0=[114,101,115,101,114,118,101,100]))) else (if a0=[111,112,116,105,111,110,97,108] then (xq.j3 (decide (a0=[111,112,116,105,111,110,97,108]))) else (if a0=[114,101,112,101,97,116,101,100] then (xq.j3 (decide (a0=[114,101,112,101,97,116,101,100]))) else (if a0=[105,110,116,51,50] then (xq.j3 (decide (a0=[105,110,116,51,50]))) else (if a0=[105,110,116,54,52] then (xq.j3 (decide (a0=[105,110,116,54,52]))) else (if a0=[98,111,111,108] then (xq.j3 (decide (a0=[98,111,111,108]))) else (if a0=[116,101,120,116] then (xq.j3 (decide (a0=[116,101,120,116]))) else (xq.j3 (decide (a0=[98,121,116,101,115])))))))))))))))
theorem xq.ok (a0:List UInt8)(r:Bool)(h:xq a0=r):ACalls qh 103 [.str a0] [] (fun r' _=>r'=.bool r):=by
 refine zf (rs:=[.tmp 2]) tok Tryz.func103 rfl Tryz.ntmps103 rfl Tryz.call103 (by simp) ?_;refine zk [(0,.str a0)] ⟨rfl,trivial⟩ ?_;unfold xq at h;refine rgN [0] ?_
 refine za fun Z1 hZ1=>?_
 refine rgN [3] ?_;apply ze;refine xL (fun L τ=>∃ (x2:Bool),L=[(4,.bool x2)]∧τ=[]∧xq.j3 x2=r) ?_ ?_
 · refine rgN [3,4] ?_;refine zo rfl (fun hc5=>?_) (fun hc5=>?_)
   · rw[if_pos hc5] at h;have t6:=eq_true hc5;apply zd;exact⟨_,_,⟨decide (a0=[115,99,104,101,109,97]),rfl,rfl,h⟩,.s⟩
   rw[if_neg hc5] at h;have t7:=eq_false hc5
   refine rg tok [3,4] fun K hK=>?_
   simp only[go_sem,qb,qa,t7];apply hK
   refine zo rfl (fun hc8=>?_) (fun hc8=>?_)
   · rw[if_pos hc8] at h;have t9:=eq_true hc8;apply zd;exact⟨_,_,⟨decide (a0=[109,101,115,115,97,103,101]),rfl,rfl,h⟩,.s⟩
   rw[if_neg hc8] at h;have t10:=eq_false hc8
   refine rg tok [3,4] fun K hK=>?_
   simp only[go_sem,qb,qa,t10];apply hK
   refine zo rfl (fun hc11=>?_) (fun hc11=>?_)
   · rw[if_pos hc11] at h;have t12:=eq_true hc11;apply zd;exact⟨_,_,⟨decide (a0=[101,110,117,109]),rfl,rfl,h⟩,.s⟩
   rw[if_neg hc11] at h;have t13:=eq_false hc11
   refine rg tok [3,4] fun K hK=>?_
   simp only[go_sem,qb,qa,t13];apply hK
   refine zo rfl (fun hc14=>?_) (fun hc14=>?_)
   · rw[if_pos hc14] at h;have t15:=eq_true hc14;apply zd;exact⟨_,_,⟨decide (a0=[99,97,108,108]),rfl,rfl,h⟩,.s⟩
   rw[if_neg hc14] at h;have t16:=eq_false hc14
   refine rg tok [3,4] fun K hK=>?_
   simp only[go_sem,qb,qa,t16];apply hK
   refine zo rfl (fun hc17=>?_) (fun hc17=>?_)
   · rw[if_pos hc17] at h;have t18:=eq_true hc17;apply zd;exact⟨_,_,⟨decide (a0=[114,101,116,117,114,110,115]),rfl,rfl,h⟩,.s⟩
   rw[if_neg hc17] at h;have t19:=eq_false hc17
   refine rg tok [3,4] fun K hK=>?_
   simp only[go_sem,qb,qa,t19];apply hK
   refine zo rfl (fun hc20=>?_) (fun hc20=>?_)
   · rw[if_pos hc20] at h;have t21:=eq_true hc20;apply zd;exact⟨_,_,⟨decide (a0=[114,101,115,101,114,118,101,100]),rfl,rfl,h⟩,.s⟩
   rw[if_neg hc20] at h;have t22:=eq_false hc20
   refine rg tok [3,4] fun K hK=>?_
   simp only[go_sem,qb,qa,t22];apply hK
   refine zo rfl (fun hc23=>?_) (fun hc23=>?_)
   · rw[if_pos hc23] at h;have t24:=eq_true hc23;apply zd;exact⟨_,_,⟨decide (a0=[111,112,116,105,111,110,97,108]),rfl,rfl,h⟩,.s⟩
   rw[if_neg hc23] at h;have t25:=eq_false hc23
   refine rg tok [3,4] fun K hK=>?_
   simp only[go_sem,qb,qa,t25];apply hK
   refine zo rfl (fun hc26=>?_) (fun hc26=>?_)
   · rw[if_pos hc26] at h;have t27:=eq_true hc26;apply zd;exact⟨_,_,⟨decide (a0=[114,101,112,101,97,116,101,100]),rfl,rfl,h⟩,.s⟩
   rw[if_neg hc26] at h;have t28:=eq_false hc26
   refine rg tok [3,4] fun K hK=>?_
   simp only[go_sem,qb,qa,t28];apply hK
   refine zo rfl (fun hc29=>?_) (fun hc29=>?_)
   · rw[if_pos hc29] at h;have t30:=eq_true hc29;apply zd;exact⟨_,_,⟨decide (a0=[105,110,116,51,50]),rfl,rfl,h⟩,.s⟩
   rw[if_neg hc29] at h;have t31:=eq_false hc29
   refine rg tok [3,4] fun K hK=>?_
   simp only[go_sem,qb,qa,t31];apply hK
   refine zo rfl (fun hc32=>?_) (fun hc32=>?_)
   · rw[if_pos hc32] at h;have t33:=eq_true hc32;apply zd;exact⟨_,_,⟨decide (a0=[105,110,116,54,52]),rfl,rfl,h⟩,.s⟩
   rw[if_neg hc32] at h;have t34:=eq_false hc32
   refine rg tok [3,4] fun K hK=>?_
   simp only[go_sem,qb,qa,t34];apply hK
   refine zo rfl (fun hc35=>?_) (fun hc35=>?_)
   · rw[if_pos hc35] at h;have t36:=eq_true hc35;apply zd;exact⟨_,_,⟨decide (a0=[98,111,111,108]),rfl,rfl,h⟩,.s⟩
   rw[if_neg hc35] at h;have t37:=eq_false hc35
   refine rg tok [3,4] fun K hK=>?_
   simp only[go_sem,qb,qa,t37];apply hK
   refine zo rfl (fun hc38=>?_) (fun hc38=>?_)
   · rw[if_pos hc38] at h;have t39:=eq_true hc38;apply zd;exact⟨_,_,⟨decide (a0=[116,101,120,116]),rfl,rfl,h⟩,.s⟩
   rw[if_neg hc38] at h;have t40:=eq_false hc38
   refine rgE tok [4] fun K hK=>?_
   simp only[go_sem,qb,qa,t40];apply hK
   exact⟨_,_,⟨decide (a0=[98,121,116,101,115]),rfl,rfl,h⟩,.s⟩
 rintro _ _ ⟨x2,rfl,rfl,h⟩;unfold xq.j3 at h;refine zm (b:=x2) rfl (fun hc4=>?_) (fun hc4=>?_)
 · rw[if_pos hc4] at h;refine rgN [2] ?_;cases h;exact rtA
 rw[xS hc4] at h;apply zd;apply hZ1;refine rgN [2] ?_;cases h;exact rtA
theorem xq.ev (a0:List UInt8)(r:Bool)(h:xq a0=r)(σ:Store):ACalls qh 103 [.str a0] σ (fun r' σ'=>r'=.bool r∧σ'=σ):=
 (xq.ok a0 r h).c σ
def wC (a0:Int)(a1:Int)(a2:Int):Bool:=
 ((decide (a1≤a0))&&(decide (a0≤a2)))
theorem wC.ok (a0:Int)(a1:Int)(a2:Int)(r:Bool)(h:wC a0 a1 a2=r):ACalls qh 139 [.int .i32 a0,.int .i32 a1,.int .i32 a2] [] (fun r' _=>r'=.bool r):=by
 refine zf (rs:=[.tmp 6]) tok Tryz.func139 rfl Tryz.ntmps139 rfl Tryz.call139 (by simp) ?_;refine zk [(0,.int .i32 a0),(1,.int .i32 a1),(2,.int .i32 a2)] ⟨rfl,rfl,rfl,trivial⟩ ?_;unfold wC at h;refine rgN [0,1,2] ?_
 refine rc [6] fun K hK=>?_
 refine rnN 4 ?_;refine zh 4 (fun L τ=>L=[(14,.bool ((decide (a1≤a0))&&(decide (a0≤a2))))]∧τ=[]) ?_ ?_
 · refine yx 10 rfl (fun hg10=>?_) (fun hg10=>?_)
   · have t1:=eq_true hg10;refine rnN 4 ?_;refine zb ⟨rfl,_,_,⟨rfl,rfl⟩,.p t1⟩
   have t2:=eq_false hg10;refine rnN 4 ?_;refine zb ⟨rfl,_,_,⟨rfl,rfl⟩,.p t2⟩
 rintro _ _ ⟨rfl,rfl⟩;refine rnN 1 ?_;refine nkN hK ?_;cases h;exact rtA
theorem wC.ev (a0:Int)(a1:Int)(a2:Int)(r:Bool)(h:wC a0 a1 a2=r)(σ:Store):ACalls qh 139 [.int .i32 a0,.int .i32 a1,.int .i32 a2] σ (fun r' σ'=>r'=.bool r∧σ'=σ):=
 (wC.ok a0 a1 a2 r h).c σ
def xi.j6 (a0:Int)(x5:Bool):Bool:=
 (if x5=true then false else bnd (wC a0 97 122) fun r8=>bnd (if r8=true then true else bnd (wC a0 65 90) fun r9=>r9) fun c9=>bnd (if c9=true then true else bnd (wC a0 192 591) fun r11=>r11) fun c11=>bnd (if c11=true then true else bnd (wC a0 913 969) fun r13=>r13) fun c13=>c13)
def xi (a0:Int):Bool:=
 (if a0=95 then true else (if a0=215 then (xi.j6 a0 (decide (a0=215))) else (if a0=247 then (xi.j6 a0 (decide (a0=247))) else (xi.j6 a0 (decide (a0=930))))))
theorem xi.ok (a0:Int)(r:Bool)(h:xi a0=r):ACalls qh 104 [.int .i32 a0] [] (fun r' _=>r'=.bool r):=by
 refine zf (rs:=[.tmp 2]) tok Tryz.func104 rfl Tryz.ntmps104 rfl Tryz.call104 (by simp) ?_;refine zk [(0,.int .i32 a0)] ⟨rfl,trivial⟩ ?_;unfold xi at h;refine rgN [0] ?_
 refine za fun Z1 hZ1=>?_
 refine rgN [0,3] ?_;apply ze;refine rgN [0,3,4] ?_;refine zo rfl (fun hc2=>?_) (fun hc2=>?_)
 · rw[if_pos hc2] at h;have t3:=eq_true hc2
   refine rg tok [2] fun K hK=>?_
   simp only[go_sem,qb,qa,reduceCtorEq,t3];apply hK
   cases h;exact rtA
 rw[if_neg hc2] at h;have t4:=eq_false hc2;refine xL (fun L τ=>∃ (x5:Bool),L=[(0,.int .i32 a0),(6,.bool x5)]∧τ=[]∧xi.j6 a0 x5=r) ?_ ?_
 · refine rg tok [0,3,6] fun K hK=>?_
   simp only[go_sem,qb,qa,reduceCtorEq,t4];apply hK
   refine zo rfl (fun hc15=>?_) (fun hc15=>?_)
   · rw[if_pos hc15] at h;have t16:=eq_true hc15;apply zd;exact⟨_,_,⟨decide (a0=215),rfl,rfl,h⟩,.s⟩
   rw[if_neg hc15] at h;have t17:=eq_false hc15
   refine rg tok [0,3,6] fun K hK=>?_
   simp only[go_sem,qb,qa,reduceCtorEq,t17];apply hK
   refine zo rfl (fun hc18=>?_) (fun hc18=>?_)
   · rw[if_pos hc18] at h;have t19:=eq_true hc18;apply zd;exact⟨_,_,⟨decide (a0=247),rfl,rfl,h⟩,.s⟩
   rw[if_neg hc18] at h;have t20:=eq_false hc18
   refine rgE tok [0,6] fun K hK=>?_
   simp only[go_sem,qb,qa,reduceCtorEq,t20];apply hK
   exact⟨_,_,⟨decide (a0=930),rfl,rfl,h⟩,.s⟩
 rintro _ _ ⟨x5,rfl,rfl,h⟩;unfold xi.j6 at h;refine zm (b:=x5) rfl (fun hc7=>?_) (fun hc7=>?_)
 · rw[if_pos hc7] at h;refine rgN [2] ?_;cases h;exact rtA
 rw[xS hc7] at h;apply zd;apply hZ1
 refine rc [2] fun K hK=>?_
 obtain⟨r8,hr8,h⟩:=zO h;refine rnN 1 ?_;refine clN rfl rfl rfl (wC.ev a0 97 122 r8 hr8 _) ?_;refine rnN 1 ?_;obtain⟨c9,hc9,h⟩:=zO h;refine zh 3 (fun L τ=>L=[(0,.int .i32 a0),(15,.bool c9)]∧τ=[]) ?_ ?_
 · refine zN (b:=r8) 12 rfl (fun hg12=>?_) (fun hg12=>?_)
   · rw[if_pos hg12] at hc9;refine rnN 3 ?_;subst hc9;refine zb ⟨rfl,_,_,⟨rfl,rfl⟩,.b hg12⟩
   rw[xS hg12] at hc9;obtain⟨r10,hr10,hc9⟩:=zO hc9;refine rnN 1 ?_;refine clN rfl rfl rfl (wC.ev a0 65 90 r10 hr10 _) ?_;refine rnN 1 ?_;subst hc9;refine zb ⟨rfl,_,_,⟨rfl,rfl⟩,.b hg12⟩
 rintro _ _ ⟨rfl,rfl⟩;refine rnN 1 ?_;obtain⟨c11,hc11,h⟩:=zO h;refine zh 3 (fun L τ=>L=[(0,.int .i32 a0),(19,.bool c11)]∧τ=[]) ?_ ?_
 · refine zN (b:=c9) 16 rfl (fun hg16=>?_) (fun hg16=>?_)
   · rw[if_pos hg16] at hc11;refine rnN 3 ?_;subst hc11;refine zb ⟨rfl,_,_,⟨rfl,rfl⟩,.b hg16⟩
   rw[xS hg16] at hc11;obtain⟨r12,hr12,hc11⟩:=zO hc11;refine rnN 1 ?_;refine clN rfl rfl rfl (wC.ev a0 192 591 r12 hr12 _) ?_;refine rnN 1 ?_;subst hc11;refine zb ⟨rfl,_,_,⟨rfl,rfl⟩,.b hg16⟩
 rintro _ _ ⟨rfl,rfl⟩;refine rnN 1 ?_;obtain⟨c13,hc13,h⟩:=zO h;refine zh 3 (fun L τ=>L=[(23,.bool c13)]∧τ=[]) ?_ ?_
 · refine zN (b:=c11) 20 rfl (fun hg20=>?_) (fun hg20=>?_)
   · rw[if_pos hg20] at hc13;refine rnN 3 ?_;subst hc13;refine zb ⟨rfl,_,_,⟨rfl,rfl⟩,.b hg20⟩
   rw[xS hg20] at hc13;obtain⟨r14,hr14,hc13⟩:=zO hc13;refine rnN 1 ?_;refine clN rfl rfl rfl (wC.ev a0 913 969 r14 hr14 _) ?_;refine rnN 1 ?_;subst hc13;refine zb ⟨rfl,_,_,⟨rfl,rfl⟩,.b hg20⟩
 rintro _ _ ⟨rfl,rfl⟩;refine rnN 1 ?_;refine nkN hK ?_;cases h;exact rtA
theorem xi.ev (a0:Int)(r:Bool)(h:xi a0=r)(σ:Store):ACalls qh 104 [.int .i32 a0] σ (fun r' σ'=>r'=.bool r∧σ'=σ):=
 (xi.ok a0 r h).c σ
def wY (a0:Int):Bool:=
 bnd (wC a0 48 57) fun r1=>r1
theorem wY.ok (a0:Int)(r:Bool)(h:wY a0=r):ACalls qh 105 [.int .i32 a0] [] (fun r' _=>r'=.bool r):=by
 refine zf (rs:=[.tmp 2]) tok Tryz.func105 rfl Tryz.ntmps105 rfl Tryz.call105 (by simp) ?_;refine zk [(0,.int .i32 a0)] ⟨rfl,trivial⟩ ?_;unfold wY at h;refine rgN [0] ?_
 refine rc [2] fun K hK=>?_
 obtain⟨r1,hr1,h⟩:=zO h;refine rnN 1 ?_;refine clN rfl rfl rfl (wC.ev a0 48 57 r1 hr1 _) ?_;refine rnN 1 ?_;refine nkN hK ?_;cases h;exact rtA
theorem wY.ev (a0:Int)(r:Bool)(h:wY a0=r)(σ:Store):ACalls qh 105 [.int .i32 a0] σ (fun r' σ'=>r'=.bool r∧σ'=σ):=
 (wY.ok a0 r h).c σ
def yE.l11 (a0:List UInt8):Nat→Nat→Option Bool
 |0,_=>none
 |k11+1,p9=>(if p9<qc a0 then bnd (xi ((YO a0 p9).1:Int)) fun r15=>bnd (if (!r15)=true then bnd (if ((p9:Nat):Int)=0 then true else bnd (wY ((YO a0 p9).1:Int)) fun r16 => !r16) fun c16=>c16 else false) fun c16=>(if c16=true then some false else ((yE.l11 a0 k11) (p9+(YO a0 p9).2))) else some true)
def yE (a0:List UInt8):Option Bool:=
 (yR a0).bind fun r1=>bnd (if ((decide (r1<1))||(decide (20<r1)))=true then true else bnd (xq a0) fun r5=>r5) fun c5=>(if c5=true then some false else (yE.l11 a0 rounds 0))
theorem yE.ok (a0:List UInt8)(r:Bool)(h:yE a0=some r):ACalls qh 60 [.str a0] [] (fun r' _=>r'=.bool r):=by
 refine zf (rs:=[.tmp 2]) tok Tryz.func60 rfl Tryz.ntmps60 rfl Tryz.call60 (by simp) ?_;refine zk [(0,.str a0)] ⟨rfl,trivial⟩ ?_;unfold yE at h;refine rgN [0] ?_
 refine rc [0,3] fun K hK=>?_
 obtain⟨r1,hr1,h⟩:=bind_some h;refine rnN 1 ?_;refine clN rfl rfl rfl (yR.ev a0 r1 hr1 _) ?_;refine rnN 1 ?_;refine nkN hK ?_
 refine za fun Z2 hZ2=>?_
 refine rc [0,17] fun K hK=>?_
 refine rnN 3 ?_;refine zh 3 (fun L τ=>L=[(0,.str a0),(13,.bool ((decide (r1<1))||(decide (20<r1))))]∧τ=[]) ?_ ?_
 · refine yx 10 rfl (fun hg10=>?_) (fun hg10=>?_)
   · have t3:=eq_true hg10;refine rnN 3 ?_;refine zb ⟨rfl,_,_,⟨rfl,rfl⟩,.p t3⟩
   have t4:=eq_false hg10;refine rnN 3 ?_;refine zb ⟨rfl,_,_,⟨rfl,rfl⟩,.p t4⟩
 rintro _ _ ⟨rfl,rfl⟩;refine rnN 1 ?_;obtain⟨c5,hc5,h⟩:=zO h;refine zh 3 (fun L τ=>L=[(0,.str a0),(17,.bool c5)]∧τ=[]) ?_ ?_
 · refine zN (b:=((decide (r1<1))||(decide (20<r1)))) 14 rfl (fun hg14=>?_) (fun hg14=>?_)
   · rw[if_pos hg14] at hc5;refine rnN 3 ?_;subst hc5;refine zb ⟨rfl,_,_,⟨rfl,rfl⟩,.b hg14⟩
   rw[xS hg14] at hc5;obtain⟨r6,hr6,hc5⟩:=zO hc5;refine rnN 1 ?_;refine clN rfl rfl rfl (xq.ev a0 r6 hr6 _) ?_;refine rnN 1 ?_;subst hc5;refine zb ⟨rfl,_,_,⟨rfl,rfl⟩,.b hg14⟩
 rintro _ _ ⟨rfl,rfl⟩;refine nkN hK ?_;refine zm (b:=c5) rfl (fun hc7=>?_) (fun hc7=>?_)
 · rw[if_pos hc7] at h;refine rgN [2] ?_;cases h;exact rtA
 rw[xS hc7] at h;apply zd;apply hZ2
 refine za fun Z8 hZ8=>?_
 refine rgN [19] ?_;apply ze;refine zq (fun m L τ=>∃ (k11:Nat) (p9:Nat),m=0+k11∧L=[(19,.it 0)]∧τ=[.iter a0 p9]∧yE.l11 a0 k11 p9=some r) _ ⟨rounds,0,rfl,rfl,rfl,h⟩ .s ?_;rintro m L τ ⟨k11,p9,rfl,rfl,rfl,h⟩
 rcases k11 with _|k11
 · cases h
 simp only[yE.l11] at h
 by_cases hn12:p9<qc a0
 · rw[if_pos hn12] at h;have t13:=eq_true hn12
   refine rg tok [19,20,21] fun K hK=>?_
   simp only[go_sem,qb,qa,qd,vav,if_true,if_false,t13];apply hK
   refine za fun Z14 hZ14=>?_
   refine zp rfl ?_;apply zd;apply hZ14;apply ze;refine rgN [4,5,19] ?_
   refine rc [19,35] fun K hK=>?_
   obtain⟨r15,hr15,h⟩:=zO h;refine rnN 1 ?_;refine clN rfl rfl rfl (xi.ev ((YO a0 p9).1:Int) r15 hr15 _) ?_;refine rnN 2 ?_;obtain⟨c16,hc16,h⟩:=zO h;refine zh 8 (fun L τ=>L=[(19,.it 0),(35,.bool c16)]∧τ=[.iter a0 (p9+(YO a0 p9).2)]) ?_ ?_
   · refine zN (b:=(!r15)) 27 rfl (fun hg27=>?_) (fun hg27=>?_)
     · rw[if_pos hg27] at hc16;refine rnN 3 ?_;obtain⟨c17,hc17,hc16⟩:=zO hc16;refine zh 4 (fun L τ=>L=[(19,.it 0),(27,.bool true),(34,.bool c17)]∧τ=[.iter a0 (p9+(YO a0 p9).2)]) ?_ ?_
       · refine yx 30 rfl (fun hg30=>?_) (fun hg30=>?_)
         · have t18:=eq_true hg30;rw[if_pos hg30] at hc17;refine rnN 4 ?_;subst hc17;refine zb ⟨rfl,_,_,⟨rfl,rfl⟩,.p t18⟩
         have t19:=eq_false hg30;rw[if_neg hg30] at hc17;obtain⟨r20,hr20,hc17⟩:=zO hc17;refine rnN 1 ?_;refine clN rfl rfl rfl (wY.ev ((YO a0 p9).1:Int) r20 hr20 _) ?_;refine rnN 2 ?_;subst hc17;refine zb ⟨rfl,_,_,⟨rfl,rfl⟩,.p t19⟩
       rintro _ _ ⟨rfl,rfl⟩;refine rnN 1 ?_;subst hc16;refine zb ⟨rfl,_,_,⟨rfl,rfl⟩,.b hg27⟩
     rw[xS hg27] at hc16;refine rnN 8 ?_;subst hc16;refine zb ⟨rfl,_,_,⟨rfl,rfl⟩,.b hg27⟩
   rintro _ _ ⟨rfl,rfl⟩;refine nkN hK ?_;refine zm (b:=c16) rfl (fun hc21=>?_) (fun hc21=>?_)
   · rw[if_pos hc21] at h;refine rgN [2] ?_;cases h;exact rtA
   rw[xS hc21] at h;apply zd;exact⟨_,_,_,qr (0+k11),⟨k11,p9+(YO a0 p9).2,rfl,rfl,rfl,h⟩,.s⟩
 rw[if_neg hn12] at h;have t22:=eq_false hn12
 refine rg tok [19,20,21] fun K hK=>?_
 simp only[go_sem,qb,qa,vav,if_true,if_false,t22];apply hK
 refine za fun Z23 hZ23=>?_
 refine zn rfl ?_;apply zv;apply hZ8;refine rgN [2] ?_;cases h;exact rtA
end
section
set_option maxRecDepth 4000
set_option maxHeartbeats 1000000
open AM
theorem yE.ev (a0:List UInt8)(r:Bool)(h:yE a0=some r)(σ:Store):ACalls qh 60 [.str a0] σ (fun r' σ'=>r'=.bool r∧σ'=σ):=
 (yE.ok a0 r h).c σ
def yn (a0:List (List UInt8×Bool))(a1:List UInt8):Option (Bool×List (List UInt8×Bool)):=
 (yE a1).bind fun r2=>(if ((!r2)||((vaV a0 a1).getD false))=true then some (false,a0) else some (true,va5 a0 a1 true))
theorem yn.ok (a0:List (List UInt8×Bool))(a1:List UInt8)(r:Bool×List (List UInt8×Bool))(h:yn a0 a1=some r):ACalls qh 63 [.mp 0,.str a1] [.map (wH AV.str AV.bool a0)] (fun r' σ'=>r'=.bool r.1∧σ'=[.map (wH AV.str AV.bool r.2)]):=by
 refine vcp [0] (rs:=[.tmp 4]) tok Tryz.func63 rfl Tryz.ntmps63 rfl Tryz.call63 (by simp) rfl ?_;refine zk [(0,.mp 0),(1,.str a1)] ⟨rfl,rfl,trivial⟩ ?_;unfold yn at h;refine rgN [0,1] ?_
 refine za fun Z1 hZ1=>?_
 refine rc [0,1,12] fun K hK=>?_
 obtain⟨r2,hr2,h⟩:=bind_some h;refine rnN 1 ?_;refine clN rfl rfl rfl (yE.ev a1 r2 hr2 _) ?_;refine rnN 2 ?_;refine zh 4 (fun L τ=>L=[(0,.mp 0),(1,.str a1),(12,.bool ((!r2)||((vaV a0 a1).getD false)))]∧τ=[.map (wH AV.str AV.bool a0)]) ?_ ?_
 · refine zN (b:=(!r2)) 8 rfl (fun hg8=>?_) (fun hg8=>?_)
   · refine zi tok 4 ?_;simp only[go_sem,qb,qa,reduceCtorEq,if_false,if_true];refine zb ⟨rfl,_,_,⟨rfl,rfl⟩,.b hg8⟩
   have f3:=fun (x:Store)=>vbr (T:=tab) (t:=117) (ek:=AV.str) (ev:=AV.bool) (z:=false) (KeyE.str rfl rfl rfl rfl) rfl rfl rfl rfl a0 a1 false (.map (wH AV.str AV.bool a0)::x) 0 rfl
   refine zi tok 4 ?_;simp only[go_sem,qb,qa,reduceCtorEq,X4,uc,if_false,if_true,f3];refine zb ⟨rfl,_,_,⟨rfl,rfl⟩,.b hg8⟩
 rintro _ _ ⟨rfl,rfl⟩;refine nkN hK ?_;refine zm (b:=((!r2)||((vaV a0 a1).getD false))) rfl (fun hc4=>?_) (fun hc4=>?_)
 · rw[if_pos hc4] at h;refine rgN [4] ?_;apply yH;cases h;simp only[ZQ,y5,xj,xX,exists_eq_left',go_sem];refine⟨by decide,by simp,?_,?_⟩
   · first|rfl|(simp only[go_sem,qb,qf,qa,qd,qv,qO,reduceIte,reduceCtorEq,push_cast,if_true,qI,qs,qJ,qx,qK,qU,ud,q7,uf,qX,qE,zZ]<;>rfl)
   first|rfl|(simp only[go_sem,push_cast,qx]<;>rfl)
 rw[xS hc4] at h;apply zd;apply hZ1
 have f5:=fun (x:Store)=>vbo (T:=tab) (t:=117) (ek:=AV.str) (ev:=AV.bool) (KeyE.str rfl rfl rfl rfl) rfl rfl a0 a1 true (.map (wH AV.str AV.bool a0)::x) 0 rfl
 refine rg tok [] fun K hK=>?_
 simp only[go_sem,qb,qa,reduceCtorEq,f5];apply hK
 refine rgN [4] ?_;apply yH;cases h;simp only[ZQ,y5,xj,xX,exists_eq_left',go_sem];refine⟨by decide,by simp,?_,?_⟩
 · first|rfl|(simp only[go_sem,qb,qf,qa,qd,qv,qO,reduceIte,reduceCtorEq,push_cast,if_true,qI,qs,qJ,qx,qK,qU,ud,q7,uf,qX,qE,zZ]<;>rfl)
 first|rfl|(simp only[go_sem,push_cast,qx]<;>rfl)
def Zb (a0:Int):Bool:=
 ((decide (1≤a0))&&(decide (a0≤500)))
theorem Zb.ok (a0:Int)(r:Bool)(h:Zb a0=r):ACalls qh 106 [.int .i64 a0] [] (fun r' _=>r'=.bool r):=by
 refine zf (rs:=[.tmp 2]) tok Tryz.func106 rfl Tryz.ntmps106 rfl Tryz.call106 (by simp) ?_;refine zk [(0,.int .i64 a0)] ⟨rfl,trivial⟩ ?_;unfold Zb at h;refine rgN [0] ?_
 refine rc [2] fun K hK=>?_
 refine rnN 3 ?_;refine zh 3 (fun L τ=>L=[(8,.bool ((decide (1≤a0))&&(decide (a0≤500))))]∧τ=[]) ?_ ?_
 · refine yx 5 rfl (fun hg5=>?_) (fun hg5=>?_)
   · have t1:=eq_true hg5;refine rnN 3 ?_;refine zb ⟨rfl,_,_,⟨rfl,rfl⟩,.p t1⟩
   have t2:=eq_false hg5;refine rnN 3 ?_;refine zb ⟨rfl,_,_,⟨rfl,rfl⟩,.p t2⟩
 rintro _ _ ⟨rfl,rfl⟩;refine rnN 1 ?_;refine nkN hK ?_;cases h;exact rtA
theorem Zb.ev (a0:Int)(r:Bool)(h:Zb a0=r)(σ:Store):ACalls qh 106 [.int .i64 a0] σ (fun r' σ'=>r'=.bool r∧σ'=σ):=
 (Zb.ok a0 r h).c σ
def xE.l4 (a1:List UInt8):List GEnumeration→Int→GEnumeration×Bool
 |[],x2=>((⟨[],([]:List GNamed)⟩:GEnumeration),false)
 |y4::q4,x2=>(if y4.fName=a1 then (y4,true) else ((xE.l4 a1 q4) (x2+1)))
def xE (a0:GSchema)(a1:List UInt8):GEnumeration×Bool:=
 (xE.l4 a1 a0.fEnums 0)
theorem xE.ok (a0:GSchema)(a1:List UInt8)(r:GEnumeration×Bool)(h:xE a0 a1=r):ACalls qh 140 [.agg (encGSchema a0),.str a1] [] (fun r' _=>r'=.tup [.agg (encGEnumeration r.1),.bool r.2]):=by
 refine zf (rs:=[.cell 4 84,.tmp 5]) tok Tryz.func140 rfl Tryz.ntmps140 rfl Tryz.call140 (by simp) ?_;refine zk [(0,.agg (encGSchema a0)),(1,.str a1)] ⟨rfl,rfl,trivial⟩ ?_;unfold xE at h
 refine rg tok [1,2,4] fun K hK=>?_
 simp only[go_sem,qb,qa,qd,reduceCtorEq,encGSchema];apply hK
 refine za fun Z1 hZ1=>?_
 refine rgN [1,4,9,10,11] ?_;apply ze
 refine yZ 9 fun hb4=>?_
 replace hb4:qc a0.fEnums≤9223372036854775807:=hb4.1;refine zq (fun m L τ=>∃ (p4 q4:List GEnumeration) (x2:Int),m=qc q4∧L=[(1,.str a1),(4,.op 0 0 0),(9,.ds true (qe encGEnumeration a0.fEnums) (qc a0.fEnums) false),(10,.int .i64 (qc a0.fEnums:Int)),(11,.int .i64 x2)]∧τ=[.cells 0 [.str [],.ds true [] 0 true]]∧a0.fEnums=p4++q4∧x2=(qc p4:Int)∧xE.l4 a1 q4 x2=r) _ ⟨[],a0.fEnums,0,rfl,rfl,rfl,rfl,rfl,h⟩ (.t [1] false) ?_;rintro m L τ ⟨p4,q4,x2,rfl,rfl,rfl,hE4,hi4,h⟩
 rcases q4 with _|⟨y4,q4⟩
 · have hz4:=yr hE4 hi4;simp only[xE.l4] at h
   refine rg tok [1,4,9,10,11,12] fun K hK=>?_
   simp only[go_sem,qb,qa,hz4];apply hK
   refine za fun Z5 hZ5=>?_
   refine zn rfl ?_;apply zv;apply hZ1;refine rgN [4,5] ?_;cases h;exact rtA
 obtain⟨hz4,hw4,hx4,hE'4,hi'4⟩:=zW hE4 hi4 hb4;simp only[xE.l4] at h
 refine rg tok [1,4,9,10,11,12] fun K hK=>?_
 simp only[go_sem,qb,qa,hz4];apply hK
 refine za fun Z6 hZ6=>?_
 refine zp rfl ?_;apply zd;apply hZ6
 refine za fun Z7 hZ7=>?_
 apply ze;have f8:=E23.idxS hx4;have f9:=E23.loadS rfl rfl hx4
 refine rg tok [1,4,7,9,10,11] fun K hK=>?_
 simp only[go_sem,qb,qf,qa,qd,encGEnumeration,f8,f9];apply hK
 refine rgN [1,4,7,9,10,11,18] ?_;refine zo rfl (fun hc10=>?_) (fun hc10=>?_)
 · rw[if_pos hc10] at h;have t11:=eq_true hc10
   refine rg tok [4,5] fun K hK=>?_
   simp only[go_sem,qb,qf,qa,qd,t11];apply hK
   cases h;exact rtA
 rw[if_neg hc10] at h;have t12:=eq_false hc10;apply zd;apply hZ7
 refine rgE tok [1,4,9,10,11] fun K hK=>?_
 simp only[go_sem,qb,qa,hw4,t12];apply hK
 exact⟨_,_,_,qr q4.length,⟨p4++[y4],q4,x2+1,rfl,rfl,rfl,hE'4,hi'4,h⟩,(.t [0] false)⟩
theorem xE.ev (a0:GSchema)(a1:List UInt8)(r:GEnumeration×Bool)(h:xE a0 a1=r)(σ:Store):ACalls qh 140 [.agg (encGSchema a0),.str a1] σ (fun r' σ'=>r'=.tup [.agg (encGEnumeration r.1),.bool r.2]∧σ'=σ):=
 (xE.ok a0 a1 r h).c σ
def wb (a0:GSchema)(a1:GField):Bool:=
 (if a1.fType.fKind=6 then bnd (xE a0 a1.fType.fName) fun r6=>(((decide (1≤a1.fLabel))&&(decide (a1.fLabel≤3)))&&r6.2) else (if a1.fType.fKind=7 then bnd (zG a0 a1.fType.fName) fun r10=>(((decide (1≤a1.fLabel))&&(decide (a1.fLabel≤3)))&&r10.2) else (((((decide (1≤a1.fLabel))&&(decide (a1.fLabel≤3)))&&(decide (1≤a1.fType.fKind)))&&(decide (a1.fType.fName=[])))&&(decide (a1.fType.fKind<6)))))
theorem wb.ok (a0:GSchema)(a1:GField)(r:Bool)(h:wb a0 a1=r):ACalls qh 107 [.agg (encGSchema a0),.agg (encGField a1)] [] (fun r' _=>r'=.bool r):=by
 refine zf (rs:=[.tmp 4]) tok Tryz.func107 rfl Tryz.ntmps107 rfl Tryz.call107 (by simp) ?_;refine zk [(0,.agg (encGSchema a0)),(1,.agg (encGField a1))] ⟨rfl,rfl,trivial⟩ ?_;unfold wb at h
 refine rg tok [2,3] fun K hK=>?_
 simp only[go_sem,qb,qa,qd,reduceCtorEq,encGField,encGSchema];apply hK
 refine rc [2,3,5] fun K hK=>?_
 refine rnN 4 ?_;refine zh 4 (fun L τ=>L=[(2,.op 0 0 0),(3,.op 1 0 0),(17,.bool ((decide (1≤a1.fLabel))&&(decide (a1.fLabel≤3))))]∧τ=[.cells 0 (encGSchema a0),.cells 0 (encGField a1)]) ?_ ?_
 · refine yx 13 rfl (fun hg13=>?_) (fun hg13=>?_)
   · have t1:=eq_true hg13;refine rnN 4 ?_;refine zb ⟨rfl,_,_,⟨rfl,rfl⟩,.p t1⟩
   have t2:=eq_false hg13;refine rnN 4 ?_;refine zb ⟨rfl,_,_,⟨rfl,rfl⟩,.p t2⟩
 rintro _ _ ⟨rfl,rfl⟩;refine rnN 1 ?_;refine nkN hK ?_
 refine za fun Z3 hZ3=>?_
 refine rgN [2,3,5,20] ?_;apply ze;refine rgN [2,3,5,20,21] ?_;refine zo rfl (fun hc4=>?_) (fun hc4=>?_)
 · rw[if_pos hc4] at h;have t5:=eq_true hc4
   refine rc [5,7] fun K hK=>?_
   obtain⟨r6,hr6,h⟩:=zO h;refine zi tok 4 ?_;simp only[go_sem,qb,qf,qa,qd,t5];refine clN rfl rfl rfl (xE.ev a0 a1.fType.fName r6 hr6 _) ?_;refine zi tok 6 ?_;simp only[go_sem,qb,qf,qa,qd,encGEnumeration];refine nkN hK ?_
   refine rc [4] fun K hK=>?_
   refine rnN 2 ?_;refine zh 2 (fun L τ=>L=[(34,.bool (((decide (1≤a1.fLabel))&&(decide (a1.fLabel≤3)))&&r6.2))]∧τ=[.cells 0 (encGSchema a0),.cells 0 (encGField a1),.cells 0 (encGEnumeration r6.1)]) ?_ ?_
   · refine zN (b:=((decide (1≤a1.fLabel))&&(decide (a1.fLabel≤3)))) 32 rfl (fun hg32=>?_) (fun hg32=>?_)
     · refine rnN 2 ?_;refine zb ⟨rfl,_,_,⟨rfl,rfl⟩,.b hg32⟩
     refine rnN 2 ?_;refine zb ⟨rfl,_,_,⟨rfl,rfl⟩,.b hg32⟩
   rintro _ _ ⟨rfl,rfl⟩;refine rnN 1 ?_;refine nkN hK ?_;cases h;exact rtA
 rw[if_neg hc4] at h;have t7:=eq_false hc4
 refine rg tok [2,3,5,35] fun K hK=>?_
 simp only[go_sem,qb,qa,t7];apply hK
 refine zo rfl (fun hc8=>?_) (fun hc8=>?_)
 · rw[if_pos hc8] at h;have t9:=eq_true hc8
   refine rc [5,9] fun K hK=>?_
   obtain⟨r10,hr10,h⟩:=zO h;refine zi tok 4 ?_;simp only[go_sem,qb,qf,qa,qd,t9];refine clN rfl rfl rfl (zG.ev a0 a1.fType.fName r10 hr10 _) ?_;refine zi tok 6 ?_;simp only[go_sem,qb,qf,qa,qd,encGMessage];refine nkN hK ?_
   refine rc [4] fun K hK=>?_
   refine rnN 2 ?_;refine zh 2 (fun L τ=>L=[(48,.bool (((decide (1≤a1.fLabel))&&(decide (a1.fLabel≤3)))&&r10.2))]∧τ=[.cells 0 (encGSchema a0),.cells 0 (encGField a1),.cells 0 (encGMessage r10.1)]) ?_ ?_
   · refine zN (b:=((decide (1≤a1.fLabel))&&(decide (a1.fLabel≤3)))) 46 rfl (fun hg46=>?_) (fun hg46=>?_)
     · refine rnN 2 ?_;refine zb ⟨rfl,_,_,⟨rfl,rfl⟩,.b hg46⟩
     refine rnN 2 ?_;refine zb ⟨rfl,_,_,⟨rfl,rfl⟩,.b hg46⟩
   rintro _ _ ⟨rfl,rfl⟩;refine rnN 1 ?_;refine nkN hK ?_;cases h;exact rtA
 rw[if_neg hc8] at h;have t11:=eq_false hc8;apply zd;apply hZ3
 refine rc [4] fun K hK=>?_
 refine zi tok 2 ?_;simp only[go_sem,qb,qa,t11];refine zh 5 (fun L τ=>L=[(3,.op 1 0 0),(55,.bool (((decide (1≤a1.fLabel))&&(decide (a1.fLabel≤3)))&&(decide (1≤a1.fType.fKind))))]∧τ=[.cells 0 (encGSchema a0),.cells 0 (encGField a1)]) ?_ ?_
 · refine zN (b:=((decide (1≤a1.fLabel))&&(decide (a1.fLabel≤3)))) 50 rfl (fun hg50=>?_) (fun hg50=>?_)
   · refine rnN 5 ?_;refine zb ⟨rfl,_,_,⟨rfl,rfl⟩,.b hg50⟩
   refine rnN 5 ?_;refine zb ⟨rfl,_,_,⟨rfl,rfl⟩,.b hg50⟩
 rintro _ _ ⟨rfl,rfl⟩;refine rnN 1 ?_;refine zh 8 (fun L τ=>L=[(3,.op 1 0 0),(64,.bool ((((decide (1≤a1.fLabel))&&(decide (a1.fLabel≤3)))&&(decide (1≤a1.fType.fKind)))&&(decide (a1.fType.fName=[]))))]∧τ=[.cells 0 (encGSchema a0),.cells 0 (encGField a1)]) ?_ ?_
 · refine zN (b:=(((decide (1≤a1.fLabel))&&(decide (a1.fLabel≤3)))&&(decide (1≤a1.fType.fKind)))) 56 rfl (fun hg56=>?_) (fun hg56=>?_)
   · refine zi tok 8 ?_;simp only[go_sem,qb,qf,qa,qd,evEqA,ceqL,ceq];refine zb ⟨rfl,_,_,⟨rfl,rfl⟩,.b hg56⟩
   refine rnN 8 ?_;refine zb ⟨rfl,_,_,⟨rfl,rfl⟩,.b hg56⟩
 rintro _ _ ⟨rfl,rfl⟩;refine rnN 1 ?_;refine zh 5 (fun L τ=>L=[(70,.bool (((((decide (1≤a1.fLabel))&&(decide (a1.fLabel≤3)))&&(decide (1≤a1.fType.fKind)))&&(decide (a1.fType.fName=[])))&&(decide (a1.fType.fKind<6))))]∧τ=[.cells 0 (encGSchema a0),.cells 0 (encGField a1)]) ?_ ?_
 · refine zN (b:=((((decide (1≤a1.fLabel))&&(decide (a1.fLabel≤3)))&&(decide (1≤a1.fType.fKind)))&&(decide (a1.fType.fName=[])))) 65 rfl (fun hg65=>?_) (fun hg65=>?_)
   · refine rnN 5 ?_;refine zb ⟨rfl,_,_,⟨rfl,rfl⟩,.b hg65⟩
   refine rnN 5 ?_;refine zb ⟨rfl,_,_,⟨rfl,rfl⟩,.b hg65⟩
 rintro _ _ ⟨rfl,rfl⟩;refine rnN 1 ?_;refine nkN hK ?_;cases h;exact rtA
theorem wb.ev (a0:GSchema)(a1:GField)(r:Bool)(h:wb a0 a1=r)(σ:Store):ACalls qh 107 [.agg (encGSchema a0),.agg (encGField a1)] σ (fun r' σ'=>r'=.bool r∧σ'=σ):=
 (wb.ok a0 a1 r h).c σ
def zF.l21 (a0:GSchema)(r2:Bool×List (List UInt8×Bool)):List GField→Int→List (Int×Bool)→List (List UInt8×Bool)→Option (Int×List (List UInt8×Bool))
 |[],x17,l15,l16=>some (0,r2.2)
 |y21::q21,x17,l15,l16=>(yn l16 y21.fName).bind fun r28=>(if (!r28.1)=true then some (6,r2.2) else bnd (Zb y21.fTag) fun r30=>(if ((!r30)||((vaV l15 y21.fTag).getD false))=true then some (7,r2.2) else bnd (wb a0 y21) fun r33=>(if (!r33)=true then some (8,r2.2) else ((zF.l21 a0 r2 q21) (x17+1) (va5 l15 y21.fTag true) r28.2))))
def zF.l12 (a0:GSchema)(a2:GMessage)(r2:Bool×List (List UInt8×Bool)):List Int→Int→List (Int×Bool)→Option (Int×List (List UInt8×Bool))
 |[],x9,l8=>(zF.l21 a0 r2 a2.fFields 0 l8 [])
 |y12::q12,x9,l8=>bnd (Zb y12) fun r41=>(if ((!r41)||((vaV l8 y12).getD false))=true then some (7,r2.2) else ((zF.l12 a0 a2 r2 q12) (x9+1) (va5 l8 y12 true)))
def zF (a0:GSchema)(a1:List (List UInt8×Bool))(a2:GMessage):Option (Int×List (List UInt8×Bool)):=
 (yn a1 a2.fName).bind fun r2=>(if (!r2.1)=true then some (6,r2.2) else (if ((decide (16<(qc a2.fFields:Int)))||(decide (32<(qc a2.fReserved:Int))))=true then some (4,r2.2) else (zF.l12 a0 a2 r2 a2.fReserved 0 [])))
theorem zF.ok (a0:GSchema)(a1:List (List UInt8×Bool))(a2:GMessage)(r:Int×List (List UInt8×Bool))(h:zF a0 a1 a2=some r):ACalls qh 61 [.agg (encGSchema a0),.mp 0,.agg (encGMessage a2)] [.map (wH AV.str AV.bool a1)] (fun r' σ'=>r'=.int .i64 r.1∧σ'=[.map (wH AV.str AV.bool r.2)]):=by
 refine vcp [0] (rs:=[.tmp 6]) tok Tryz.func61 rfl Tryz.ntmps61 rfl Tryz.call61 (by simp) rfl ?_;refine zk [(0,.agg (encGSchema a0)),(1,.mp 0),(2,.agg (encGMessage a2))] ⟨rfl,rfl,rfl,trivial⟩ ?_;unfold zF at h
 refine rg tok [1,3,5] fun K hK=>?_
 simp only[go_sem,qb,qa,qd,reduceCtorEq,encGMessage,encGSchema];apply hK
 refine za fun Z1 hZ1=>?_
 apply ze
 refine rc [3,5,13] fun K hK=>?_
 obtain⟨r2,hr2,h⟩:=bind_some h;refine rnN 3 ?_;refine clN rfl rfl rfl (@id (ACalls qh 63 [.mp 0,.str a2.fName] [.map (wH AV.str AV.bool a1),.cells 0 (encGSchema a0),.cells 0 (encGMessage a2)] (fun r' σ'=>r'=.bool r2.1∧σ'=[.map (wH AV.str AV.bool r2.2),.cells 0 (encGSchema a0),.cells 0 (encGMessage a2)])) ((yn.ok a1 a2.fName r2 hr2).i [0])) ?_;refine rnN 2 ?_;refine nkN hK ?_;refine zm (b:=(!r2.1)) rfl (fun hc3=>?_) (fun hc3=>?_)
 · rw[if_pos hc3] at h;refine rgN [6] ?_;apply yH;cases h;simp only[ZQ,y5,xj,xX,exists_eq_left',go_sem,qd];refine⟨by decide,by simp,?_,?_⟩
   · first|rfl|(simp only[go_sem,qb,qf,qa,qd,qv,qO,reduceIte,reduceCtorEq,push_cast,if_true,qI,qs,qJ,qx,qK,qU,ud,q7,uf,qX,qE,zZ]<;>rfl)
   first|rfl|(simp only[go_sem,push_cast,qx]<;>rfl)
 rw[xS hc3] at h
 refine rc [3,5,19] fun K hK=>?_
 refine rnN 5 ?_;refine zh 5 (fun L τ=>L=[(3,.op 1 0 0),(5,.op 2 0 0),(29,.bool ((decide (16<(qc a2.fFields:Int)))||(decide (32<(qc a2.fReserved:Int)))))]∧τ=[.map (wH AV.str AV.bool r2.2),.cells 0 (encGSchema a0),.cells 0 (encGMessage a2)]) ?_ ?_
 · refine yx 24 rfl (fun hg24=>?_) (fun hg24=>?_)
   · have t4:=eq_true hg24;refine rnN 5 ?_;refine zb ⟨rfl,_,_,⟨rfl,rfl⟩,.p t4⟩
   have t5:=eq_false hg24;refine rnN 5 ?_;refine zb ⟨rfl,_,_,⟨rfl,rfl⟩,.p t5⟩
 rintro _ _ ⟨rfl,rfl⟩;refine rnN 1 ?_;refine nkN hK ?_;refine zm (b:=((decide (16<(qc a2.fFields:Int)))||(decide (32<(qc a2.fReserved:Int))))) rfl (fun hc6=>?_) (fun hc6=>?_)
 · rw[if_pos hc6] at h;refine rgN [6] ?_;apply yH;cases h;simp only[ZQ,y5,xj,xX,exists_eq_left',go_sem,qd];refine⟨by decide,by simp,?_,?_⟩
   · first|rfl|(simp only[go_sem,qb,qf,qa,qd,qv,qO,reduceIte,reduceCtorEq,push_cast,if_true,qI,qs,qJ,qx,qK,qU,ud,q7,uf,qX,qE,zZ]<;>rfl)
   first|rfl|(simp only[go_sem,push_cast,qx]<;>rfl)
 rw[xS hc6] at h;apply zd;apply hZ1;refine rgN [3,5,7] ?_;refine zR (L:=[(3,.op 1 0 0),(5,.op 2 0 0),(7,.mp 3)]) (τ:=[.map (wH AV.str AV.bool r2.2),.cells 0 (encGSchema a0),.cells 0 (encGMessage a2),.map (wH (AV.int .i64) AV.bool [])]) .s ?_
 refine za fun Z7 hZ7=>?_
 refine rgN [3,5,7,32,33,34] ?_;apply ze
 refine yZ 32 fun hb12=>?_
 replace hb12:qc a2.fReserved≤9223372036854775807:=hb12.1;refine zq (fun m L τ=>∃ (p12 q12:List Int) (x9:Int) (l8:List (Int×Bool)),m=qc q12∧L=[(3,.op 1 0 0),(5,.op 2 0 0),(7,.mp 3),(32,.ds true (qe encI a2.fReserved) (qc a2.fReserved) false),(33,.int .i64 (qc a2.fReserved:Int)),(34,.int .i64 x9)]∧τ=[.map (wH AV.str AV.bool r2.2),.cells 0 (encGSchema a0),.cells 0 (encGMessage a2),.map (wH (AV.int .i64) AV.bool l8)]∧a2.fReserved=p12++q12∧x9=(qc p12:Int)∧zF.l12 a0 a2 r2 q12 x9 l8=some r) _ ⟨[],a2.fReserved,0,[],rfl,rfl,rfl,rfl,rfl,h⟩ .s ?_;rintro m L τ ⟨p12,q12,x9,l8,rfl,rfl,rfl,hE12,hi12,h⟩
 rcases q12 with _|⟨y12,q12⟩
 · have hz12:=yr hE12 hi12;simp only[zF.l12] at h
   refine rg tok [3,5,7,32,33,34,35] fun K hK=>?_
   simp only[go_sem,qb,qa,hz12];apply hK
   refine za fun Z13 hZ13=>?_
   refine zn rfl ?_;apply zv;apply hZ7;refine rgN [3,5,7,10] ?_;refine zR (L:=[(3,.op 1 0 0),(5,.op 2 0 0),(7,.mp 3),(10,.mp 4)]) (τ:=[.map (wH AV.str AV.bool r2.2),.cells 0 (encGSchema a0),.cells 0 (encGMessage a2),.map (wH (AV.int .i64) AV.bool l8),.map (wH AV.str AV.bool [])]) .s ?_
   refine za fun Z14 hZ14=>?_
   refine rgN [3,7,10,51,52,53] ?_;apply ze
   refine yZ 51 fun hb21=>?_
   replace hb21:qc a2.fFields≤9223372036854775807:=hb21.1;refine zq (fun m L τ=>∃ (p21 q21:List GField) (x17:Int) (l15:List (Int×Bool)) (l16:List (List UInt8×Bool)),m=qc q21∧L=[(3,.op 1 0 0),(7,.mp 2),(10,.mp 3),(51,.ds true (qe encGField a2.fFields) (qc a2.fFields) false),(52,.int .i64 (qc a2.fFields:Int)),(53,.int .i64 x17)]∧τ=[.map (wH AV.str AV.bool r2.2),.cells 0 (encGSchema a0),.map (wH (AV.int .i64) AV.bool l15),.map (wH AV.str AV.bool l16)]∧a2.fFields=p21++q21∧x17=(qc p21:Int)∧zF.l21 a0 r2 q21 x17 l15 l16=some r) _ ⟨[],a2.fFields,0,l8,[],rfl,rfl,rfl,rfl,rfl,h⟩ (.t [0,1,3,4] false) ?_;rintro m L τ ⟨p21,q21,x17,l15,l16,rfl,rfl,rfl,hE21,hi21,h⟩
   rcases q21 with _|⟨y21,q21⟩
   · have hz21:=yr hE21 hi21;simp only[zF.l21] at h
     refine rg tok [3,7,10,51,52,53,54] fun K hK=>?_
     simp only[go_sem,qb,qa,hz21];apply hK
     refine za fun Z22 hZ22=>?_
     refine zn rfl ?_;apply zv;apply hZ14;refine rgN [6] ?_;apply yH;cases h;simp only[ZQ,y5,xj,xX,exists_eq_left',go_sem,qd];refine⟨by decide,by simp,?_,?_⟩
     · first|rfl|(simp only[go_sem,qb,qf,qa,qd,qv,qO,reduceIte,reduceCtorEq,push_cast,if_true,qI,qs,qJ,qx,qK,qU,ud,q7,uf,qX,qE,zZ]<;>rfl)
     first|rfl|(simp only[go_sem,push_cast,qx]<;>rfl)
   obtain⟨hz21,hw21,hx21,hE'21,hi'21⟩:=zW hE21 hi21 hb21;simp only[zF.l21] at h
   refine rg tok [3,7,10,51,52,53,54] fun K hK=>?_
   simp only[go_sem,qb,qa,hz21];apply hK
   refine za fun Z23 hZ23=>?_
   refine zp rfl ?_;apply zd;apply hZ23
   refine za fun Z24 hZ24=>?_
   apply ze;have f25:=E47.idxS hx21;have f26:=E47.loadS rfl rfl hx21
   refine rg tok [3,7,10,12,51,52,53] fun K hK=>?_
   simp only[go_sem,qb,qf,qa,qd,encGField,f25,f26];apply hK
   refine za fun Z27 hZ27=>?_
   apply ze
   refine rc [3,7,10,12,51,52,53,57] fun K hK=>?_
   obtain⟨r28,hr28,h⟩:=bind_some h;refine rnN 3 ?_;refine clN rfl rfl rfl (@id (ACalls qh 63 [.mp 3,.str y21.fName] [.map (wH AV.str AV.bool r2.2),.cells 0 (encGSchema a0),.map (wH (AV.int .i64) AV.bool l15),.map (wH AV.str AV.bool l16),.cells 0 (encGField y21)] (fun r' σ'=>r'=.bool r28.1∧σ'=[.map (wH AV.str AV.bool r2.2),.cells 0 (encGSchema a0),.map (wH (AV.int .i64) AV.bool l15),.map (wH AV.str AV.bool r28.2),.cells 0 (encGField y21)])) ((yn.ok l16 y21.fName r28 hr28).i [3])) ?_;refine rnN 2 ?_;refine nkN hK ?_;refine zm (b:=(!r28.1)) rfl (fun hc29=>?_) (fun hc29=>?_)
   · rw[if_pos hc29] at h;refine rgN [6] ?_;apply yH;cases h;simp only[ZQ,y5,xj,xX,exists_eq_left',go_sem,qd];refine⟨by decide,by simp,?_,?_⟩
     · first|rfl|(simp only[go_sem,qb,qf,qa,qd,qv,qO,reduceIte,reduceCtorEq,push_cast,if_true,qI,qs,qJ,qx,qK,qU,ud,q7,uf,qX,qE,zZ]<;>rfl)
     first|rfl|(simp only[go_sem,push_cast,qx]<;>rfl)
   rw[xS hc29] at h
   refine rc [3,7,10,12,51,52,53,63] fun K hK=>?_
   obtain⟨r30,hr30,h⟩:=zO h;refine rnN 2 ?_;refine clN rfl rfl rfl (Zb.ev y21.fTag r30 hr30 _) ?_;refine rnN 2 ?_;refine zh 5 (fun L τ=>L=[(3,.op 1 0 0),(7,.mp 2),(10,.mp 3),(12,.op 4 0 0),(51,.ds true (qe encGField a2.fFields) (qc a2.fFields) false),(52,.int .i64 (qc a2.fFields:Int)),(53,.int .i64 x17),(73,.bool ((!r30)||((vaV l15 y21.fTag).getD false)))]∧τ=[.map (wH AV.str AV.bool r2.2),.cells 0 (encGSchema a0),.map (wH (AV.int .i64) AV.bool l15),.map (wH AV.str AV.bool r28.2),.cells 0 (encGField y21)]) ?_ ?_
   · refine zN (b:=(!r30)) 68 rfl (fun hg68=>?_) (fun hg68=>?_)
     · refine zi tok 5 ?_;simp only[go_sem,qb,qa,if_false,if_true];refine zb ⟨rfl,_,_,⟨rfl,rfl⟩,.b hg68⟩
     have f31:=fun (o0:ZK) (o1:ZK) (x:Store)=>vbr (T:=tab) (t:=161) (ek:=(AV.int .i64)) (ev:=AV.bool) (z:=false) (KeyE.int rfl rfl rfl rfl) rfl rfl rfl rfl l15 y21.fTag false (o0::o1::.map (wH (AV.int .i64) AV.bool l15)::x) 2 rfl
     refine zi tok 5 ?_;simp only[go_sem,qb,qa,qd,X4,uc,if_false,if_true,f31];refine zb ⟨rfl,_,_,⟨rfl,rfl⟩,.b hg68⟩
   rintro _ _ ⟨rfl,rfl⟩;refine rnN 1 ?_;refine nkN hK ?_;refine zm (b:=((!r30)||((vaV l15 y21.fTag).getD false))) rfl (fun hc32=>?_) (fun hc32=>?_)
   · rw[if_pos hc32] at h;refine rgN [6] ?_;apply yH;cases h;simp only[ZQ,y5,xj,xX,exists_eq_left',go_sem,qd];refine⟨by decide,by simp,?_,?_⟩
     · first|rfl|(simp only[go_sem,qb,qf,qa,qd,qv,qO,reduceIte,reduceCtorEq,push_cast,if_true,qI,qs,qJ,qx,qK,qU,ud,q7,uf,qX,qE,zZ]<;>rfl)
     first|rfl|(simp only[go_sem,push_cast,qx]<;>rfl)
   rw[xS hc32] at h
   refine rc [3,7,10,12,51,52,53,74] fun K hK=>?_
   obtain⟨r33,hr33,h⟩:=zO h;refine rnN 2 ?_;refine clN rfl rfl rfl (wb.ev a0 y21 r33 hr33 _) ?_;refine rnN 2 ?_;refine nkN hK ?_;refine zm (b:=(!r33)) rfl (fun hc34=>?_) (fun hc34=>?_)
   · rw[if_pos hc34] at h;refine rgN [6] ?_;apply yH;cases h;simp only[ZQ,y5,xj,xX,exists_eq_left',go_sem,qd];refine⟨by decide,by simp,?_,?_⟩
     · first|rfl|(simp only[go_sem,qb,qf,qa,qd,qv,qO,reduceIte,reduceCtorEq,push_cast,if_true,qI,qs,qJ,qx,qK,qU,ud,q7,uf,qX,qE,zZ]<;>rfl)
     first|rfl|(simp only[go_sem,push_cast,qx]<;>rfl)
   rw[xS hc34] at h;apply zd;apply hZ27
   have f35:=fun (o0:ZK) (o1:ZK) (x:Store)=>vbo (T:=tab) (t:=161) (ek:=(AV.int .i64)) (ev:=AV.bool) (KeyE.int rfl rfl rfl rfl) rfl rfl l15 y21.fTag true (o0::o1::.map (wH (AV.int .i64) AV.bool l15)::x) 2 rfl
   refine rgE tok [3,7,10,51,52,53] fun K hK=>?_
   simp only[go_sem,qb,qa,qd,f35];apply hK
   apply hZ24
   refine rgE tok [3,7,10,51,52,53] fun K hK=>?_
   simp only[go_sem,qb,qa,hw21];apply hK
   exact⟨_,_,_,qr q21.length,⟨p21++[y21],q21,x17+1,va5 l15 y21.fTag true,r28.2,rfl,rfl,rfl,hE'21,hi'21,h⟩,(.t [0,1,2,3] false)⟩
 obtain⟨hz12,hw12,hx12,hE'12,hi'12⟩:=zW hE12 hi12 hb12;simp only[zF.l12] at h
 refine rg tok [3,5,7,32,33,34,35] fun K hK=>?_
 simp only[go_sem,qb,qa,hz12];apply hK
 refine za fun Z36 hZ36=>?_
 refine zp rfl ?_;apply zd;apply hZ36
 refine za fun Z37 hZ37=>?_
 apply ze;have f38:=E45.idxS hx12;have f39:=E45.fldS0 (f:=3) rfl rfl hx12
 refine rg tok [3,5,7,9,32,33,34] fun K hK=>?_
 simp only[go_sem,qb,qa,encI,f38,f39];apply hK
 refine za fun Z40 hZ40=>?_
 refine rc [3,5,7,9,32,33,34,45] fun K hK=>?_
 obtain⟨r41,hr41,h⟩:=zO h;refine rnN 1 ?_;refine clN rfl rfl rfl (Zb.ev y12 r41 hr41 _) ?_;refine rnN 2 ?_;refine zh 4 (fun L τ=>L=[(3,.op 1 0 0),(5,.op 2 0 0),(7,.mp 3),(9,.int .i64 y12),(32,.ds true (qe encI a2.fReserved) (qc a2.fReserved) false),(33,.int .i64 (qc a2.fReserved:Int)),(34,.int .i64 x9),(45,.bool ((!r41)||((vaV l8 y12).getD false)))]∧τ=[.map (wH AV.str AV.bool r2.2),.cells 0 (encGSchema a0),.cells 0 (encGMessage a2),.map (wH (AV.int .i64) AV.bool l8)]) ?_ ?_
 · refine zN (b:=(!r41)) 41 rfl (fun hg41=>?_) (fun hg41=>?_)
   · refine zi tok 4 ?_;simp only[go_sem,qb,qa,if_false,if_true];refine zb ⟨rfl,_,_,⟨rfl,rfl⟩,.b hg41⟩
   have f42:=fun (o0:ZK) (o1:ZK) (o2:ZK) (x:Store)=>vbr (T:=tab) (t:=161) (ek:=(AV.int .i64)) (ev:=AV.bool) (z:=false) (KeyE.int rfl rfl rfl rfl) rfl rfl rfl rfl l8 y12 false (o0::o1::o2::.map (wH (AV.int .i64) AV.bool l8)::x) 3 rfl
   refine zi tok 4 ?_;simp only[go_sem,qb,qa,X4,uc,if_false,if_true,f42];refine zb ⟨rfl,_,_,⟨rfl,rfl⟩,.b hg41⟩
 rintro _ _ ⟨rfl,rfl⟩;refine nkN hK ?_;refine zm (b:=((!r41)||((vaV l8 y12).getD false))) rfl (fun hc43=>?_) (fun hc43=>?_)
 · rw[if_pos hc43] at h;refine rgN [6] ?_;apply yH;cases h;simp only[ZQ,y5,xj,xX,exists_eq_left',go_sem,qd];refine⟨by decide,by simp,?_,?_⟩
   · first|rfl|(simp only[go_sem,qb,qf,qa,qd,qv,qO,reduceIte,reduceCtorEq,push_cast,if_true,qI,qs,qJ,qx,qK,qU,ud,q7,uf,qX,qE,zZ]<;>rfl)
   first|rfl|(simp only[go_sem,push_cast,qx]<;>rfl)
 rw[xS hc43] at h;apply zd;apply hZ40
 have f44:=fun (o0:ZK) (o1:ZK) (o2:ZK) (x:Store)=>vbo (T:=tab) (t:=161) (ek:=(AV.int .i64)) (ev:=AV.bool) (KeyE.int rfl rfl rfl rfl) rfl rfl l8 y12 true (o0::o1::o2::.map (wH (AV.int .i64) AV.bool l8)::x) 3 rfl
 refine rgE tok [3,5,7,32,33,34] fun K hK=>?_
 simp only[go_sem,qb,qa,f44];apply hK
 apply hZ37
 refine rgE tok [3,5,7,32,33,34] fun K hK=>?_
 simp only[go_sem,qb,qa,hw12];apply hK
 exact⟨_,_,_,qr q12.length,⟨p12++[y12],q12,x9+1,va5 l8 y12 true,rfl,rfl,rfl,hE'12,hi'12,h⟩,.s⟩
def yy.l23 (r2:Bool×List (List UInt8×Bool)):List GNamed→Int→List (List UInt8×Bool)→List (Int×Bool)→Option (Int×List (List UInt8×Bool))
 |[],x19,l17,l18=>some (0,r2.2)
 |y23::q23,x19,l17,l18=>(yn l17 y23.fName).bind fun r30=>(if (!r30.1)=true then some (6,r2.2) else (if (((decide (y23.fN<0))||(decide (2147483647<y23.fN)))||((vaV l18 y23.fN).getD false))=true then some (11,r2.2) else ((yy.l23 r2 q23) (x19+1) r30.2 (va5 l18 y23.fN true))))
def yy.l12 (a1:GEnumeration)(r2:Bool×List (List UInt8×Bool)):List GNamed→Int→Bool→Option (Int×List (List UInt8×Bool))
 |[],x9,x8=>(if (!x8)=true then some (12,r2.2) else (yy.l23 r2 a1.fValues 0 [] []))
 |y12::q12,x9,x8=>((yy.l12 a1 r2 q12) (x9+1) (x8||(decide (y12.fN=0))))
def yy (a0:List (List UInt8×Bool))(a1:GEnumeration):Option (Int×List (List UInt8×Bool)):=
 (yn a0 a1.fName).bind fun r2=>(if (!r2.1)=true then some (6,r2.2) else (if 16<(qc a1.fValues:Int) then some (4,r2.2) else (yy.l12 a1 r2 a1.fValues 0 false)))
theorem yy.ok (a0:List (List UInt8×Bool))(a1:GEnumeration)(r:Int×List (List UInt8×Bool))(h:yy a0 a1=some r):ACalls qh 62 [.mp 0,.agg (encGEnumeration a1)] [.map (wH AV.str AV.bool a0)] (fun r' σ'=>r'=.int .i64 r.1∧σ'=[.map (wH AV.str AV.bool r.2)]):=by
 refine vcp [0] (rs:=[.tmp 4]) tok Tryz.func62 rfl Tryz.ntmps62 rfl Tryz.call62 (by simp) rfl ?_;refine zk [(0,.mp 0),(1,.agg (encGEnumeration a1))] ⟨rfl,rfl,trivial⟩ ?_;unfold yy at h
 refine rg tok [0,3] fun K hK=>?_
 simp only[go_sem,qb,qa,qd,reduceCtorEq,encGEnumeration];apply hK
 refine za fun Z1 hZ1=>?_
 apply ze
 refine rc [3,12] fun K hK=>?_
 obtain⟨r2,hr2,h⟩:=bind_some h;refine rnN 3 ?_;refine clN rfl rfl rfl (@id (ACalls qh 63 [.mp 0,.str a1.fName] [.map (wH AV.str AV.bool a0),.cells 0 (encGEnumeration a1)] (fun r' σ'=>r'=.bool r2.1∧σ'=[.map (wH AV.str AV.bool r2.2),.cells 0 (encGEnumeration a1)])) ((yn.ok a0 a1.fName r2 hr2).i [0])) ?_;refine rnN 2 ?_;refine nkN hK ?_;refine zm (b:=(!r2.1)) rfl (fun hc3=>?_) (fun hc3=>?_)
 · rw[if_pos hc3] at h;refine rgN [4] ?_;apply yH;cases h;simp only[ZQ,y5,xj,xX,exists_eq_left',go_sem,qd];refine⟨by decide,by simp,?_,?_⟩
   · first|rfl|(simp only[go_sem,qb,qf,qa,qd,qv,qO,reduceIte,reduceCtorEq,push_cast,if_true,qI,qs,qJ,qx,qK,qU,ud,q7,uf,qX,qE,zZ]<;>rfl)
   first|rfl|(simp only[go_sem,push_cast,qx]<;>rfl)
 rw[xS hc3] at h;refine rgN [3,18] ?_;refine zo rfl (fun hc4=>?_) (fun hc4=>?_)
 · rw[if_pos hc4] at h;have t5:=eq_true hc4
   refine rg tok [4] fun K hK=>?_
   simp only[go_sem,qb,qa,t5];apply hK
   apply yH;cases h;simp only[ZQ,y5,xj,xX,exists_eq_left',go_sem,qd];refine⟨by decide,by simp,?_,?_⟩
   · first|rfl|(simp only[go_sem,qb,qf,qa,qd,qv,qO,reduceIte,reduceCtorEq,push_cast,if_true,qI,qs,qJ,qx,qK,qU,ud,q7,uf,qX,qE,zZ]<;>rfl)
   first|rfl|(simp only[go_sem,push_cast,qx]<;>rfl)
 rw[if_neg hc4] at h;have t6:=eq_false hc4;apply zd;apply hZ1
 refine rg tok [3,5] fun K hK=>?_
 simp only[go_sem,qb,qa,t6];apply hK
 refine za fun Z7 hZ7=>?_
 refine rgN [3,5,24,25,26] ?_;apply ze
 refine yZ 24 fun hb12=>?_
 replace hb12:qc a1.fValues≤9223372036854775807:=hb12.1;refine zq (fun m L τ=>∃ (p12 q12:List GNamed) (x9:Int) (x8:Bool),m=qc q12∧L=[(3,.op 1 0 0),(5,.bool x8),(24,.ds true (qe encGNamed a1.fValues) (qc a1.fValues) false),(25,.int .i64 (qc a1.fValues:Int)),(26,.int .i64 x9)]∧τ=[.map (wH AV.str AV.bool r2.2),.cells 0 (encGEnumeration a1)]∧a1.fValues=p12++q12∧x9=(qc p12:Int)∧yy.l12 a1 r2 q12 x9 x8=some r) _ ⟨[],a1.fValues,0,false,rfl,rfl,rfl,rfl,rfl,h⟩ .s ?_;rintro m L τ ⟨p12,q12,x9,x8,rfl,rfl,rfl,hE12,hi12,h⟩
 rcases q12 with _|⟨y12,q12⟩
 · have hz12:=yr hE12 hi12;simp only[yy.l12] at h
   refine rg tok [3,5,24,25,26,27] fun K hK=>?_
   simp only[go_sem,qb,qa,hz12];apply hK
   refine za fun Z13 hZ13=>?_
   refine zn rfl ?_;apply zv;apply hZ7
   refine za fun Z14 hZ14=>?_
   refine rgN [3,38] ?_;refine zm (b:=(!x8)) rfl (fun hc15=>?_) (fun hc15=>?_)
   · rw[if_pos hc15] at h;refine rgN [4] ?_;apply yH;cases h;simp only[ZQ,y5,xj,xX,exists_eq_left',go_sem,qd];refine⟨by decide,by simp,?_,?_⟩
     · first|rfl|(simp only[go_sem,qb,qf,qa,qd,qv,qO,reduceIte,reduceCtorEq,push_cast,if_true,qI,qs,qJ,qx,qK,qU,ud,q7,uf,qX,qE,zZ]<;>rfl)
     first|rfl|(simp only[go_sem,push_cast,qx]<;>rfl)
   rw[xS hc15] at h;apply zd;apply hZ14;refine rgN [3,8,9] ?_;refine zR (L:=[(3,.op 1 0 0),(8,.mp 2),(9,.mp 3)]) (τ:=[.map (wH AV.str AV.bool r2.2),.cells 0 (encGEnumeration a1),.map (wH AV.str AV.bool []),.map (wH (AV.int .i64) AV.bool [])]) .s ?_
   refine za fun Z16 hZ16=>?_
   refine rgN [8,9,42,43,44] ?_;apply ze
   refine yZ 42 fun hb23=>?_
   replace hb23:qc a1.fValues≤9223372036854775807:=hb23.1;refine zq (fun m L τ=>∃ (p23 q23:List GNamed) (x19:Int) (l17:List (List UInt8×Bool)) (l18:List (Int×Bool)),m=qc q23∧L=[(8,.mp 1),(9,.mp 2),(42,.ds true (qe encGNamed a1.fValues) (qc a1.fValues) false),(43,.int .i64 (qc a1.fValues:Int)),(44,.int .i64 x19)]∧τ=[.map (wH AV.str AV.bool r2.2),.map (wH AV.str AV.bool l17),.map (wH (AV.int .i64) AV.bool l18)]∧a1.fValues=p23++q23∧x19=(qc p23:Int)∧yy.l23 r2 q23 x19 l17 l18=some r) _ ⟨[],a1.fValues,0,[],[],rfl,rfl,rfl,rfl,rfl,h⟩ (.t [0,2,3] false) ?_;rintro m L τ ⟨p23,q23,x19,l17,l18,rfl,rfl,rfl,hE23,hi23,h⟩
   rcases q23 with _|⟨y23,q23⟩
   · have hz23:=yr hE23 hi23;simp only[yy.l23] at h
     refine rg tok [8,9,42,43,44,45] fun K hK=>?_
     simp only[go_sem,qb,qa,hz23];apply hK
     refine za fun Z24 hZ24=>?_
     refine zn rfl ?_;apply zv;apply hZ16;refine rgN [4] ?_;apply yH;cases h;simp only[ZQ,y5,xj,xX,exists_eq_left',go_sem,qd];refine⟨by decide,by simp,?_,?_⟩
     · first|rfl|(simp only[go_sem,qb,qf,qa,qd,qv,qO,reduceIte,reduceCtorEq,push_cast,if_true,qI,qs,qJ,qx,qK,qU,ud,q7,uf,qX,qE,zZ]<;>rfl)
     first|rfl|(simp only[go_sem,push_cast,qx]<;>rfl)
   obtain⟨hz23,hw23,hx23,hE'23,hi'23⟩:=zW hE23 hi23 hb23;simp only[yy.l23] at h
   refine rg tok [8,9,42,43,44,45] fun K hK=>?_
   simp only[go_sem,qb,qa,hz23];apply hK
   refine za fun Z25 hZ25=>?_
   refine zp rfl ?_;apply zd;apply hZ25
   refine za fun Z26 hZ26=>?_
   apply ze;have f27:=E82.idxS hx23;have f28:=E82.loadS rfl rfl hx23
   refine rg tok [8,9,11,42,43,44] fun K hK=>?_
   simp only[go_sem,qb,qf,qa,qd,encGNamed,f27,f28];apply hK
   refine za fun Z29 hZ29=>?_
   apply ze
   refine rc [8,9,11,42,43,44,48] fun K hK=>?_
   obtain⟨r30,hr30,h⟩:=bind_some h;refine rnN 3 ?_;refine clN rfl rfl rfl (@id (ACalls qh 63 [.mp 1,.str y23.fName] [.map (wH AV.str AV.bool r2.2),.map (wH AV.str AV.bool l17),.map (wH (AV.int .i64) AV.bool l18),.cells 0 [.str y23.fName,.int .i64 y23.fN]] (fun r' σ'=>r'=.bool r30.1∧σ'=[.map (wH AV.str AV.bool r2.2),.map (wH AV.str AV.bool r30.2),.map (wH (AV.int .i64) AV.bool l18),.cells 0 [.str y23.fName,.int .i64 y23.fN]])) ((yn.ok l17 y23.fName r30 hr30).i [1])) ?_;refine rnN 2 ?_;refine nkN hK ?_;refine zm (b:=(!r30.1)) rfl (fun hc31=>?_) (fun hc31=>?_)
   · rw[if_pos hc31] at h;refine rgN [4] ?_;apply yH;cases h;simp only[ZQ,y5,xj,xX,exists_eq_left',go_sem,qd];refine⟨by decide,by simp,?_,?_⟩
     · first|rfl|(simp only[go_sem,qb,qf,qa,qd,qv,qO,reduceIte,reduceCtorEq,push_cast,if_true,qI,qs,qJ,qx,qK,qU,ud,q7,uf,qX,qE,zZ]<;>rfl)
     first|rfl|(simp only[go_sem,push_cast,qx]<;>rfl)
   rw[xS hc31] at h
   refine rc [8,9,11,42,43,44,54] fun K hK=>?_
   refine rnN 4 ?_;refine zh 4 (fun L τ=>L=[(8,.mp 1),(9,.mp 2),(11,.op 3 0 0),(42,.ds true (qe encGNamed a1.fValues) (qc a1.fValues) false),(43,.int .i64 (qc a1.fValues:Int)),(44,.int .i64 x19),(62,.bool ((decide (y23.fN<0))||(decide (2147483647<y23.fN))))]∧τ=[.map (wH AV.str AV.bool r2.2),.map (wH AV.str AV.bool r30.2),.map (wH (AV.int .i64) AV.bool l18),.cells 0 [.str y23.fName,.int .i64 y23.fN]]) ?_ ?_
   · refine yx 58 rfl (fun hg58=>?_) (fun hg58=>?_)
     · have t32:=eq_true hg58;refine rnN 4 ?_;refine zb ⟨rfl,_,_,⟨rfl,rfl⟩,.p t32⟩
     have t33:=eq_false hg58;refine rnN 4 ?_;refine zb ⟨rfl,_,_,⟨rfl,rfl⟩,.p t33⟩
   rintro _ _ ⟨rfl,rfl⟩;refine rnN 1 ?_;refine zh 5 (fun L τ=>L=[(8,.mp 1),(9,.mp 2),(11,.op 3 0 0),(42,.ds true (qe encGNamed a1.fValues) (qc a1.fValues) false),(43,.int .i64 (qc a1.fValues:Int)),(44,.int .i64 x19),(68,.bool (((decide (y23.fN<0))||(decide (2147483647<y23.fN)))||((vaV l18 y23.fN).getD false)))]∧τ=[.map (wH AV.str AV.bool r2.2),.map (wH AV.str AV.bool r30.2),.map (wH (AV.int .i64) AV.bool l18),.cells 0 [.str y23.fName,.int .i64 y23.fN]]) ?_ ?_
   · refine zN (b:=((decide (y23.fN<0))||(decide (2147483647<y23.fN)))) 63 rfl (fun hg63=>?_) (fun hg63=>?_)
     · refine zi tok 5 ?_;simp only[go_sem,qb,qa,if_false,if_true];refine zb ⟨rfl,_,_,⟨rfl,rfl⟩,.b hg63⟩
     have f34:=fun (o0:ZK) (o1:ZK) (x:Store)=>vbr (T:=tab) (t:=161) (ek:=(AV.int .i64)) (ev:=AV.bool) (z:=false) (KeyE.int rfl rfl rfl rfl) rfl rfl rfl rfl l18 y23.fN false (o0::o1::.map (wH (AV.int .i64) AV.bool l18)::x) 2 rfl
     refine zi tok 5 ?_;simp only[go_sem,qb,qa,qd,X4,uc,if_false,if_true,f34];refine zb ⟨rfl,_,_,⟨rfl,rfl⟩,.b hg63⟩
   rintro _ _ ⟨rfl,rfl⟩;refine rnN 1 ?_;refine nkN hK ?_;refine zm (b:=(((decide (y23.fN<0))||(decide (2147483647<y23.fN)))||((vaV l18 y23.fN).getD false))) rfl (fun hc35=>?_) (fun hc35=>?_)
   · rw[if_pos hc35] at h;refine rgN [4] ?_;apply yH;cases h;simp only[ZQ,y5,xj,xX,exists_eq_left',go_sem,qd];refine⟨by decide,by simp,?_,?_⟩
     · first|rfl|(simp only[go_sem,qb,qf,qa,qd,qv,qO,reduceIte,reduceCtorEq,push_cast,if_true,qI,qs,qJ,qx,qK,qU,ud,q7,uf,qX,qE,zZ]<;>rfl)
     first|rfl|(simp only[go_sem,push_cast,qx]<;>rfl)
   rw[xS hc35] at h;apply zd;apply hZ29
   have f36:=fun (o0:ZK) (o1:ZK) (x:Store)=>vbo (T:=tab) (t:=161) (ek:=(AV.int .i64)) (ev:=AV.bool) (KeyE.int rfl rfl rfl rfl) rfl rfl l18 y23.fN true (o0::o1::.map (wH (AV.int .i64) AV.bool l18)::x) 2 rfl
   refine rgE tok [8,9,42,43,44] fun K hK=>?_
   simp only[go_sem,qb,qa,qd,f36];apply hK
   apply hZ26
   refine rgE tok [8,9,42,43,44] fun K hK=>?_
   simp only[go_sem,qb,qa,hw23];apply hK
   exact⟨_,_,_,qr q23.length,⟨p23++[y23],q23,x19+1,r30.2,va5 l18 y23.fN true,rfl,rfl,rfl,hE'23,hi'23,h⟩,(.t [0,1,2] false)⟩
 obtain⟨hz12,hw12,hx12,hE'12,hi'12⟩:=zW hE12 hi12 hb12;simp only[yy.l12] at h
 refine rg tok [3,5,24,25,26,27] fun K hK=>?_
 simp only[go_sem,qb,qa,hz12];apply hK
 refine za fun Z37 hZ37=>?_
 refine zp rfl ?_;apply zd;apply hZ37
 refine za fun Z38 hZ38=>?_
 apply ze;have f39:=E82.idxS hx12;have f40:=E82.loadS rfl rfl hx12
 refine rg tok [3,5,7,24,25,26] fun K hK=>?_
 simp only[go_sem,qb,qf,qa,qd,encGNamed,f39,f40];apply hK
 refine rcE [3,5,24,25,26] fun K hK=>?_
 refine rnN 2 ?_;refine zh 4 (fun L τ=>L=[(3,.op 1 0 0),(5,.bool x8),(24,.ds true (qe encGNamed a1.fValues) (qc a1.fValues) false),(25,.int .i64 (qc a1.fValues:Int)),(26,.int .i64 x9),(35,.bool (x8||(decide (y12.fN=0))))]∧τ=[.map (wH AV.str AV.bool r2.2),.cells 0 (encGEnumeration a1),.cells 0 [.str y12.fName,.int .i64 y12.fN]]) ?_ ?_
 · refine zN (b:=x8) 31 rfl (fun hg31=>?_) (fun hg31=>?_)
   · refine rnN 4 ?_;refine zb ⟨rfl,_,_,⟨rfl,rfl⟩,.b hg31⟩
   refine rnN 4 ?_;refine zb ⟨rfl,_,_,⟨rfl,rfl⟩,.b hg31⟩
 rintro _ _ ⟨rfl,rfl⟩;refine rnN 1 ?_;refine nkN hK ?_;apply hZ38
 refine rgE tok [3,5,24,25,26] fun K hK=>?_
 simp only[go_sem,qb,qa,hw12];apply hK
 exact⟨_,_,_,qr q12.length,⟨p12++[y12],q12,x9+1,(x8||(decide (y12.fN=0))),rfl,rfl,rfl,hE'12,hi'12,h⟩,(.t [0,1] false)⟩
end
section
set_option maxRecDepth 4000
set_option maxHeartbeats 1000000
open AM
def zx.l29 (a0:GSchema):List GMethod→Int→List (List UInt8×Bool)→Option Int
 |[],x26,l25=>some 0
 |y29::q29,x26,l25=>bnd (zG a0 y29.fIn) fun r35=>bnd (zG a0 y29.fOut) fun r36=>(yn l25 y29.fName).bind fun r37=>(if (!r37.1)=true then some 6 else (if ((!r35.2)||(!r36.2))=true then some 8 else ((zx.l29 a0 q29) (x26+1) r37.2)))
def zx.l22 (a0:GSchema):List GEnumeration→Int→List (List UInt8×Bool)→Option Int
 |[],x19,l18=>(zx.l29 a0 a0.fMethods 0 [])
 |y22::q22,x19,l18=>(yy l18 y22).bind fun r44=>(if r44.1=0 then ((zx.l22 a0 q22) (x19+1) r44.2) else some r44.1)
def zx.l15 (a0:GSchema):List GMessage→Int→List (List UInt8×Bool)→Option Int
 |[],x12,l11=>(zx.l22 a0 a0.fEnums 0 l11)
 |y15::q15,x12,l11=>(zF a0 l11 y15).bind fun r52=>(if r52.1=0 then ((zx.l15 a0 q15) (x12+1) r52.2) else some r52.1)
def zx (a0:GSchema):Option Int:=
 (yE a0.fName).bind fun r2=>(if (!r2)=true then some 6 else (if (qc a0.fMessages:Int)=0 then some 12 else (if (((decide (10<(qc a0.fMessages:Int)))||(decide (6<(qc a0.fEnums:Int))))||(decide (6<(qc a0.fMethods:Int))))=true then some 4 else (zx.l15 a0 a0.fMessages 0 []))))
theorem zx.ok (a0:GSchema)(r:Int)(h:zx a0=some r):ACalls qh 39 [.agg (encGSchema a0)] [] (fun r' _=>r'=.int .i64 r):=by
 refine zf (rs:=[.tmp 2]) tok Tryz.func39 rfl Tryz.ntmps39 rfl Tryz.call39 (by simp) ?_;refine zk [(0,.agg (encGSchema a0))] ⟨rfl,trivial⟩ ?_;unfold zx at h
 refine rg tok [1] fun K hK=>?_
 simp only[go_sem,qb,qa,qd,reduceCtorEq,encGSchema];apply hK
 refine za fun Z1 hZ1=>?_
 apply ze
 refine rc [1,17] fun K hK=>?_
 obtain⟨r2,hr2,h⟩:=bind_some h;refine rnN 2 ?_;refine clN rfl rfl rfl (yE.ev a0.fName r2 hr2 _) ?_;refine rnN 2 ?_;refine nkN hK ?_;refine zm (b:=(!r2)) rfl (fun hc3=>?_) (fun hc3=>?_)
 · rw[if_pos hc3] at h;refine rgN [2] ?_;cases h;exact rtA
 rw[xS hc3] at h;refine rgN [1,22] ?_;refine zo rfl (fun hc4=>?_) (fun hc4=>?_)
 · rw[if_pos hc4] at h;have t5:=eq_true hc4
   refine rg tok [2] fun K hK=>?_
   simp only[go_sem,qb,qa,t5];apply hK
   cases h;exact rtA
 rw[if_neg hc4] at h;have t6:=eq_false hc4
 refine rc [1,27] fun K hK=>?_
 refine zi tok 5 ?_;simp only[go_sem,qb,qa,qd,t6];refine zh 5 (fun L τ=>L=[(1,.op 0 0 0),(37,.bool ((decide (10<(qc a0.fMessages:Int)))||(decide (6<(qc a0.fEnums:Int)))))]∧τ=[.cells 0 (encGSchema a0)]) ?_ ?_
 · refine yx 32 rfl (fun hg32=>?_) (fun hg32=>?_)
   · have t7:=eq_true hg32;refine rnN 5 ?_;refine zb ⟨rfl,_,_,⟨rfl,rfl⟩,.p t7⟩
   have t8:=eq_false hg32;refine rnN 5 ?_;refine zb ⟨rfl,_,_,⟨rfl,rfl⟩,.p t8⟩
 rintro _ _ ⟨rfl,rfl⟩;refine rnN 1 ?_;refine zh 5 (fun L τ=>L=[(1,.op 0 0 0),(43,.bool (((decide (10<(qc a0.fMessages:Int)))||(decide (6<(qc a0.fEnums:Int))))||(decide (6<(qc a0.fMethods:Int)))))]∧τ=[.cells 0 (encGSchema a0)]) ?_ ?_
 · refine zN (b:=((decide (10<(qc a0.fMessages:Int)))||(decide (6<(qc a0.fEnums:Int))))) 38 rfl (fun hg38=>?_) (fun hg38=>?_)
   · refine rnN 5 ?_;refine zb ⟨rfl,_,_,⟨rfl,rfl⟩,.b hg38⟩
   refine rnN 5 ?_;refine zb ⟨rfl,_,_,⟨rfl,rfl⟩,.b hg38⟩
 rintro _ _ ⟨rfl,rfl⟩;refine rnN 1 ?_;refine nkN hK ?_;refine zm (b:=(((decide (10<(qc a0.fMessages:Int)))||(decide (6<(qc a0.fEnums:Int))))||(decide (6<(qc a0.fMethods:Int))))) rfl (fun hc9=>?_) (fun hc9=>?_)
 · rw[if_pos hc9] at h;refine rgN [2] ?_;cases h;exact rtA
 rw[xS hc9] at h;apply zd;apply hZ1;refine rgN [1,3] ?_;refine zR (L:=[(1,.op 0 0 0),(3,.mp 1)]) (τ:=[.cells 0 (encGSchema a0),.map (wH AV.str AV.bool [])]) .s ?_
 refine za fun Z10 hZ10=>?_
 refine rgN [1,3,46,47,48] ?_;apply ze
 refine yZ 46 fun hb15=>?_
 replace hb15:qc a0.fMessages≤9223372036854775807:=hb15.1;refine zq (fun m L τ=>∃ (p15 q15:List GMessage) (x12:Int) (l11:List (List UInt8×Bool)),m=qc q15∧L=[(1,.op 0 0 0),(3,.mp 1),(46,.ds true (qe encGMessage a0.fMessages) (qc a0.fMessages) false),(47,.int .i64 (qc a0.fMessages:Int)),(48,.int .i64 x12)]∧τ=[.cells 0 (encGSchema a0),.map (wH AV.str AV.bool l11)]∧a0.fMessages=p15++q15∧x12=(qc p15:Int)∧zx.l15 a0 q15 x12 l11=some r) _ ⟨[],a0.fMessages,0,[],rfl,rfl,rfl,rfl,rfl,h⟩ .s ?_;rintro m L τ ⟨p15,q15,x12,l11,rfl,rfl,rfl,hE15,hi15,h⟩
 rcases q15 with _|⟨y15,q15⟩
 · have hz15:=yr hE15 hi15;simp only[zx.l15] at h
   refine rg tok [1,3,46,47,48,49] fun K hK=>?_
   simp only[go_sem,qb,qa,hz15];apply hK
   refine za fun Z16 hZ16=>?_
   refine zn rfl ?_;apply zv;apply hZ10
   refine za fun Z17 hZ17=>?_
   refine rgN [1,3,61,62,63] ?_;apply ze
   refine yZ 61 fun hb22=>?_
   replace hb22:qc a0.fEnums≤9223372036854775807:=hb22.1;refine zq (fun m L τ=>∃ (p22 q22:List GEnumeration) (x19:Int) (l18:List (List UInt8×Bool)),m=qc q22∧L=[(1,.op 0 0 0),(3,.mp 1),(61,.ds true (qe encGEnumeration a0.fEnums) (qc a0.fEnums) false),(62,.int .i64 (qc a0.fEnums:Int)),(63,.int .i64 x19)]∧τ=[.cells 0 (encGSchema a0),.map (wH AV.str AV.bool l18)]∧a0.fEnums=p22++q22∧x19=(qc p22:Int)∧zx.l22 a0 q22 x19 l18=some r) _ ⟨[],a0.fEnums,0,l11,rfl,rfl,rfl,rfl,rfl,h⟩ .s ?_;rintro m L τ ⟨p22,q22,x19,l18,rfl,rfl,rfl,hE22,hi22,h⟩
   rcases q22 with _|⟨y22,q22⟩
   · have hz22:=yr hE22 hi22;simp only[zx.l22] at h
     refine rg tok [1,3,61,62,63,64] fun K hK=>?_
     simp only[go_sem,qb,qa,hz22];apply hK
     refine za fun Z23 hZ23=>?_
     refine zn rfl ?_;apply zv;apply hZ17;refine rgN [1,10] ?_;refine zR (L:=[(1,.op 0 0 0),(10,.mp 2)]) (τ:=[.cells 0 (encGSchema a0),.map (wH AV.str AV.bool l18),.map (wH AV.str AV.bool [])]) .s ?_
     refine za fun Z24 hZ24=>?_
     refine rgN [1,10,76,77,78] ?_;apply ze
     refine yZ 76 fun hb29=>?_
     replace hb29:qc a0.fMethods≤9223372036854775807:=hb29.1;refine zq (fun m L τ=>∃ (p29 q29:List GMethod) (x26:Int) (l25:List (List UInt8×Bool)),m=qc q29∧L=[(1,.op 0 0 0),(10,.mp 1),(76,.ds true (qe encGMethod a0.fMethods) (qc a0.fMethods) false),(77,.int .i64 (qc a0.fMethods:Int)),(78,.int .i64 x26)]∧τ=[.cells 0 (encGSchema a0),.map (wH AV.str AV.bool l25)]∧a0.fMethods=p29++q29∧x26=(qc p29:Int)∧zx.l29 a0 q29 x26 l25=some r) _ ⟨[],a0.fMethods,0,[],rfl,rfl,rfl,rfl,rfl,h⟩ (.t [0,2] false) ?_;rintro m L τ ⟨p29,q29,x26,l25,rfl,rfl,rfl,hE29,hi29,h⟩
     rcases q29 with _|⟨y29,q29⟩
     · have hz29:=yr hE29 hi29;simp only[zx.l29] at h
       refine rg tok [1,10,76,77,78,79] fun K hK=>?_
       simp only[go_sem,qb,qa,hz29];apply hK
       refine za fun Z30 hZ30=>?_
       refine zn rfl ?_;apply zv;apply hZ24;refine rgN [2] ?_;cases h;exact rtA
     obtain⟨hz29,hw29,hx29,hE'29,hi'29⟩:=zW hE29 hi29 hb29;simp only[zx.l29] at h
     refine rg tok [1,10,76,77,78,79] fun K hK=>?_
     simp only[go_sem,qb,qa,hz29];apply hK
     refine za fun Z31 hZ31=>?_
     refine zp rfl ?_;apply zd;apply hZ31
     refine za fun Z32 hZ32=>?_
     apply ze;have f33:=E24.idxS hx29;have f34:=E24.loadS rfl rfl hx29
     refine rg tok [1,10,12,76,77,78] fun K hK=>?_
     simp only[go_sem,qb,qf,qa,qd,encGMethod,f33,f34];apply hK
     refine rc [1,10,12,14,76,77,78] fun K hK=>?_
     obtain⟨r35,hr35,h⟩:=zO h;refine rnN 3 ?_;refine clN rfl rfl rfl (zG.ev a0 y29.fIn r35 hr35 _) ?_;refine zi tok 6 ?_;simp only[go_sem,qb,qf,qa,qd,encGMessage];refine nkN hK ?_
     refine rc [1,10,12,14,16,76,77,78] fun K hK=>?_
     obtain⟨r36,hr36,h⟩:=zO h;refine rnN 3 ?_;refine clN rfl rfl rfl (zG.ev a0 y29.fOut r36 hr36 _) ?_;refine zi tok 6 ?_;simp only[go_sem,qb,qf,qa,qd,encGMessage];refine nkN hK ?_;apply ze
     refine rc [1,10,14,16,76,77,78,96] fun K hK=>?_
     obtain⟨r37,hr37,h⟩:=bind_some h;refine rnN 3 ?_;refine clN rfl rfl rfl (@id (ACalls qh 63 [.mp 1,.str y29.fName] [.cells 0 (encGSchema a0),.map (wH AV.str AV.bool l25),.cells 0 [.str y29.fName,.str y29.fIn,.str y29.fOut],.cells 0 (encGMessage r35.1),.cells 0 (encGMessage r36.1)] (fun r' σ'=>r'=.bool r37.1∧σ'=[.cells 0 (encGSchema a0),.map (wH AV.str AV.bool r37.2),.cells 0 [.str y29.fName,.str y29.fIn,.str y29.fOut],.cells 0 (encGMessage r35.1),.cells 0 (encGMessage r36.1)])) ((yn.ok l25 y29.fName r37 hr37).i [1])) ?_;refine rnN 2 ?_;refine nkN hK ?_;refine zm (b:=(!r37.1)) rfl (fun hc38=>?_) (fun hc38=>?_)
     · rw[if_pos hc38] at h;refine rgN [2] ?_;cases h;exact rtA
     rw[xS hc38] at h
     refine rc [1,10,76,77,78,102] fun K hK=>?_
     refine rnN 3 ?_;refine zh 3 (fun L τ=>L=[(1,.op 0 0 0),(10,.mp 1),(76,.ds true (qe encGMethod a0.fMethods) (qc a0.fMethods) false),(77,.int .i64 (qc a0.fMethods:Int)),(78,.int .i64 x26),(108,.bool ((!r35.2)||(!r36.2)))]∧τ=[.cells 0 (encGSchema a0),.map (wH AV.str AV.bool r37.2),.cells 0 [.str y29.fName,.str y29.fIn,.str y29.fOut],.cells 0 (encGMessage r35.1),.cells 0 (encGMessage r36.1)]) ?_ ?_
     · refine zN (b:=(!r35.2)) 105 rfl (fun hg105=>?_) (fun hg105=>?_)
       · refine rnN 3 ?_;refine zb ⟨rfl,_,_,⟨rfl,rfl⟩,.b hg105⟩
       refine rnN 3 ?_;refine zb ⟨rfl,_,_,⟨rfl,rfl⟩,.b hg105⟩
     rintro _ _ ⟨rfl,rfl⟩;refine rnN 1 ?_;refine nkN hK ?_;refine zm (b:=((!r35.2)||(!r36.2))) rfl (fun hc39=>?_) (fun hc39=>?_)
     · rw[if_pos hc39] at h;refine rgN [2] ?_;cases h;exact rtA
     rw[xS hc39] at h;apply zd;apply hZ32
     refine rgE tok [1,10,76,77,78] fun K hK=>?_
     simp only[go_sem,qb,qa,hw29];apply hK
     exact⟨_,_,_,qr q29.length,⟨p29++[y29],q29,x26+1,r37.2,rfl,rfl,rfl,hE'29,hi'29,h⟩,(.t [0,1] false)⟩
   obtain⟨hz22,hw22,hx22,hE'22,hi'22⟩:=zW hE22 hi22 hb22;simp only[zx.l22] at h
   refine rg tok [1,3,61,62,63,64] fun K hK=>?_
   simp only[go_sem,qb,qa,hz22];apply hK
   refine za fun Z40 hZ40=>?_
   refine zp rfl ?_;apply zd;apply hZ40
   refine za fun Z41 hZ41=>?_
   apply ze;have f42:=E23.idxS hx22;have f43:=E23.loadS rfl rfl hx22
   refine rg tok [1,3,8,61,62,63] fun K hK=>?_
   simp only[go_sem,qb,qf,qa,qd,encGEnumeration,f42,f43];apply hK
   refine rc [1,3,9,61,62,63] fun K hK=>?_
   obtain⟨r44,hr44,h⟩:=bind_some h;refine rnN 2 ?_;refine clN rfl rfl rfl (@id (ACalls qh 62 [.mp 1,.agg (encGEnumeration y22)] [.cells 0 (encGSchema a0),.map (wH AV.str AV.bool l18),.cells 0 (encGEnumeration y22)] (fun r' σ'=>r'=.int .i64 r44.1∧σ'=[.cells 0 (encGSchema a0),.map (wH AV.str AV.bool r44.2),.cells 0 (encGEnumeration y22)])) ((yy.ok l18 y22 r44 hr44).i [1])) ?_;refine rnN 1 ?_;refine nkN hK ?_;refine rgN [1,3,9,61,62,63,71] ?_;refine zo rfl (fun hc45=>?_) (fun hc45=>?_)
   · rw[if_neg hc45] at h;have t46:=eq_false hc45
     refine rg tok [2] fun K hK=>?_
     simp only[go_sem,qb,qa,t46];apply hK
     cases h;exact rtA
   rw[if_pos hc45] at h;have t47:=eq_true hc45;apply zd;apply hZ41
   refine rgE tok [1,3,61,62,63] fun K hK=>?_
   simp only[go_sem,qb,qa,hw22,t47];apply hK
   exact⟨_,_,_,qr q22.length,⟨p22++[y22],q22,x19+1,r44.2,rfl,rfl,rfl,hE'22,hi'22,h⟩,(.t [0,1] false)⟩
 obtain⟨hz15,hw15,hx15,hE'15,hi'15⟩:=zW hE15 hi15 hb15;simp only[zx.l15] at h
 refine rg tok [1,3,46,47,48,49] fun K hK=>?_
 simp only[go_sem,qb,qa,hz15];apply hK
 refine za fun Z48 hZ48=>?_
 refine zp rfl ?_;apply zd;apply hZ48
 refine za fun Z49 hZ49=>?_
 apply ze;have f50:=E22.idxS hx15;have f51:=E22.loadS rfl rfl hx15
 refine rg tok [1,3,5,46,47,48] fun K hK=>?_
 simp only[go_sem,qb,qf,qa,qd,encGMessage,f50,f51];apply hK
 refine rc [1,3,6,46,47,48] fun K hK=>?_
 obtain⟨r52,hr52,h⟩:=bind_some h;refine rnN 3 ?_;refine clN rfl rfl rfl (@id (ACalls qh 61 [.agg (encGSchema a0),.mp 1,.agg (encGMessage y15)] [.cells 0 (encGSchema a0),.map (wH AV.str AV.bool l11),.cells 0 (encGMessage y15)] (fun r' σ'=>r'=.int .i64 r52.1∧σ'=[.cells 0 (encGSchema a0),.map (wH AV.str AV.bool r52.2),.cells 0 (encGMessage y15)])) ((zF.ok a0 l11 y15 r52 hr52).i [1])) ?_;refine rnN 1 ?_;refine nkN hK ?_;refine rgN [1,3,6,46,47,48,57] ?_;refine zo rfl (fun hc53=>?_) (fun hc53=>?_)
 · rw[if_neg hc53] at h;have t54:=eq_false hc53
   refine rg tok [2] fun K hK=>?_
   simp only[go_sem,qb,qa,t54];apply hK
   cases h;exact rtA
 rw[if_pos hc53] at h;have t55:=eq_true hc53;apply zd;apply hZ49
 refine rgE tok [1,3,46,47,48] fun K hK=>?_
 simp only[go_sem,qb,qa,hw15,t55];apply hK
 exact⟨_,_,_,qr q15.length,⟨p15++[y15],q15,x12+1,r52.2,rfl,rfl,rfl,hE'15,hi'15,h⟩,(.t [0,1] false)⟩
theorem zx.ev (a0:GSchema)(r:Int)(h:zx a0=some r)(σ:Store):ACalls qh 39 [.agg (encGSchema a0)] σ (fun r' σ'=>r'=.int .i64 r∧σ'=σ):=
 (zx.ok a0 r h).c σ
def xp (a0:GSchema)(a1:List UInt8)(a2:List UInt8):Option (GTree×Int):=
 (zx a0).bind fun r2=>(if r2=0 then bnd (zG a0 a1) fun r6=>(if (!r6.2)=true then some ((⟨0,0,[],([]:List GEntry),([]:List GRaw)⟩:GTree),14) else (zz rounds a0 r6.1 a2 1).bind fun r9=>some (r9.1,r9.2)) else some ((⟨0,0,[],([]:List GEntry),([]:List GRaw)⟩:GTree),1))
theorem xp.ok (a0:GSchema)(a1:List UInt8)(a2:List UInt8)(r:GTree×Int)(h:xp a0 a1 a2=some r):ACalls qh 16 [.agg (encGSchema a0),.str a1,.ds true (qe encB a2) (qc a2) false] [] (fun r' _=>r'=.tup [.agg (cellsGTree r.1),.int .i64 r.2]):=by
 refine zf (rs:=[.cell 6 30,.tmp 7]) tok Tryz.func16 rfl Tryz.ntmps16 rfl Tryz.call16 (by simp) ?_;refine zk [(0,.agg (encGSchema a0)),(1,.str a1),(2,.ds true (qe encB a2) (qc a2) false)] ⟨rfl,rfl,rfl,trivial⟩ ?_;unfold xp at h
 refine rg tok [1,2,3,6] fun K hK=>?_
 simp only[go_sem,qb,qa,qd,reduceCtorEq,encGSchema];apply hK
 refine za fun Z1 hZ1=>?_
 refine rc [1,2,3,6,12] fun K hK=>?_
 obtain⟨r2,hr2,h⟩:=bind_some h;refine rnN 1 ?_;refine clN rfl rfl rfl (zx.ev a0 r2 hr2 _) ?_;refine rnN 1 ?_;refine nkN hK ?_;refine zo rfl (fun hc3=>?_) (fun hc3=>?_)
 · rw[if_neg hc3] at h;have t4:=eq_false hc3
   refine rg tok [6,7] fun K hK=>?_
   simp only[go_sem,qb,qf,qa,qd,t4];apply hK
   cases h;exact rtA
 rw[if_pos hc3] at h;have t5:=eq_true hc3;apply zd;apply hZ1
 refine rc [2,3,6,8,9] fun K hK=>?_
 obtain⟨r6,hr6,h⟩:=zO h;refine zi tok 2 ?_;simp only[go_sem,qb,qf,qa,qd,t5];refine clN rfl rfl rfl (zG.ev a0 a1 r6 hr6 _) ?_;refine zi tok 6 ?_;simp only[go_sem,qb,qf,qa,qd,encGMessage];refine nkN hK ?_
 refine za fun Z7 hZ7=>?_
 refine rgN [2,3,6,8,21] ?_;refine zm (b:=(!r6.2)) rfl (fun hc8=>?_) (fun hc8=>?_)
 · rw[if_pos hc8] at h;refine rgN [6,7] ?_;cases h;exact rtA
 rw[xS hc8] at h;apply zd;apply hZ7
 refine rc [6,7] fun K hK=>?_
 obtain⟨r9,hr9,h⟩:=bind_some h;refine rnN 3 ?_;refine clN rfl rfl rfl (zz.ev rounds a0 r6.1 a2 1 r9 hr9 _) ?_;refine zi tok 4 ?_;simp only[go_sem,qb,qf,qa,qd,cellsGTree];refine nkN hK ?_;cases h;exact rtA
theorem xp.ev (a0:GSchema)(a1:List UInt8)(a2:List UInt8)(r:GTree×Int)(h:xp a0 a1 a2=some r)(σ:Store):ACalls qh 16 [.agg (encGSchema a0),.str a1,.ds true (qe encB a2) (qc a2) false] σ (fun r' σ'=>r'=.tup [.agg (cellsGTree r.1),.int .i64 r.2]∧σ'=σ):=
 (xp.ok a0 a1 a2 r h).c σ
def z7.l20 (xf:GTree→Int→Option Int)(a1:Int)(x7:Int)(rec10:Int→Int→Option Int):List GTree→Int→Int→Option Int
 |[],x17,x16=>(rec10 (x7+1) x16)
 |y20::q20,x17,x16=>(xf y20 (IntKind.i64.wrap (a1-1))).bind fun r26=>((z7.l20 xf a1 x7 rec10 q20) (x17+1) (if x16<r26 then r26 else x16))
def z7.l10 (xf:GTree→Int→Option Int)(a1:Int):List GEntry→Int→Int→Option Int
 |[],x7,x6=>some (IntKind.i64.wrap (x6+1))
 |y10::q10,x7,x6=>(z7.l20 xf a1 x7 (z7.l10 xf a1 q10) y10.fTrees 0 x6)
def z7.body (xf:GTree→Int→Option Int)(a0:GTree)(a1:Int):Option Int:=
 (if ((!(decide (a0.fKind=3)))||(decide (a1=0)))=true then some 0 else (z7.l10 xf a1 a0.fEntries 0 0))
theorem z7.step (xf:GTree→Int→Option Int)(ih_value_deep:∀ (a0:GTree) (a1:Int) (r:Int),xf a0 a1=some r→ACalls qh 152 [.agg (cellsGTree a0),.int .i64 a1] [] (fun r' _=>r'=.int .i64 r))(a0:GTree)(a1:Int)(r:Int)(h:z7.body xf a0 a1=some r):ACalls qh 152 [.agg (cellsGTree a0),.int .i64 a1] [] (fun r' _=>r'=.int .i64 r):=by
 have ev_value_deep:=fun a0 a1 r h σ=>(ih_value_deep a0 a1 r h).c σ
 refine zf (rs:=[.tmp 4]) tok Tryz.func152 rfl Tryz.ntmps152 rfl Tryz.call152 (by simp) ?_;refine zk [(0,.agg (cellsGTree a0)),(1,.int .i64 a1)] ⟨rfl,rfl,trivial⟩ ?_;unfold z7.body at h
 refine rg tok [1,2] fun K hK=>?_
 simp only[go_sem,qb,qa,qd,reduceCtorEq,cellsGTree];apply hK
 refine za fun Z1 hZ1=>?_
 refine rc [1,2,16] fun K hK=>?_
 refine rnN 4 ?_;refine zh 3 (fun L τ=>L=[(1,.int .i64 a1),(2,.op 0 0 0),(16,.bool ((!(decide (a0.fKind=3)))||(decide (a1=0))))]∧τ=[.cells 0 (cellsGTree a0)]) ?_ ?_
 · refine yx 13 rfl (fun hg13=>?_) (fun hg13=>?_)
   · have t2:=eq_false hg13;refine rnN 3 ?_;refine zb ⟨rfl,_,_,⟨rfl,rfl⟩,.p t2⟩
   have t3:=eq_true hg13;refine rnN 3 ?_;refine zb ⟨rfl,_,_,⟨rfl,rfl⟩,.p t3⟩
 rintro _ _ ⟨rfl,rfl⟩;refine nkN hK ?_;refine zm (b:=((!(decide (a0.fKind=3)))||(decide (a1=0)))) rfl (fun hc4=>?_) (fun hc4=>?_)
 · rw[if_pos hc4] at h;refine rgN [4] ?_;cases h;exact rtA
 rw[xS hc4] at h;apply zd;apply hZ1;refine rgN [1,2,5] ?_
 refine za fun Z5 hZ5=>?_
 refine rgN [1,5,18,19,20] ?_;apply ze
 refine yZ 18 fun hb10=>?_
 replace hb10:qc a0.fEntries≤9223372036854775807:=hb10.1;refine zq (fun m L τ=>∃ (p10 q10:List GEntry) (x7:Int) (x6:Int),m=qc q10∧L=[(1,.int .i64 a1),(5,.int .i64 x6),(18,.ds true (qe encGEntry a0.fEntries) (qc a0.fEntries) false),(19,.int .i64 (qc a0.fEntries:Int)),(20,.int .i64 x7)]∧τ=[]∧a0.fEntries=p10++q10∧x7=(qc p10:Int)∧z7.l10 xf a1 q10 x7 x6=some r) _ ⟨[],a0.fEntries,0,0,rfl,rfl,rfl,rfl,rfl,h⟩ (.t [] false) ?_;rintro m L τ ⟨p10,q10,x7,x6,rfl,rfl,rfl,hE10,hi10,h⟩
 rcases q10 with _|⟨y10,q10⟩
 · have hz10:=yr hE10 hi10;simp only[z7.l10] at h
   refine rg tok [1,5,18,19,20,21] fun K hK=>?_
   simp only[go_sem,qb,qa,hz10];apply hK
   refine za fun Z11 hZ11=>?_
   refine zn rfl ?_;apply zv;apply hZ5;refine rgN [4] ?_;cases h;exact rtA
 obtain⟨hz10,hw10,hx10,hE'10,hi'10⟩:=zW hE10 hi10 hb10;simp only[z7.l10] at h
 refine rg tok [1,5,18,19,20,21] fun K hK=>?_
 simp only[go_sem,qb,qa,hz10];apply hK
 refine za fun Z12 hZ12=>?_
 refine zp rfl ?_;apply zd;apply hZ12
 refine za fun Z13 hZ13=>?_
 apply ze;have f14:=E27.idxS hx10;have f15:=E27.loadS rfl rfl hx10
 refine rg tok [1,5,7,18,19,20] fun K hK=>?_
 simp only[go_sem,qb,qf,qa,qd,cellsGEntry,z6,f14,f15];apply hK
 refine rgN [1,5,18,19,20,25,26,27] ?_;apply ze
 refine yZ 25 fun hb20=>?_
 replace hb20:qc y10.fTrees≤9223372036854775807:=hb20.1;refine zq (fun m L τ=>∃ (p20 q20:List GTree) (x17:Int) (x16:Int),m=qc q20∧L=[(1,.int .i64 a1),(5,.int .i64 x16),(18,.ds true (qe encGEntry a0.fEntries) (qc a0.fEntries) false),(19,.int .i64 (qc a0.fEntries:Int)),(20,.int .i64 x7),(25,.ds true (qe encGTree y10.fTrees) (qc y10.fTrees) false),(26,.int .i64 (qc y10.fTrees:Int)),(27,.int .i64 x17)]∧τ=[]∧y10.fTrees=p20++q20∧x17=(qc p20:Int)∧z7.l20 xf a1 x7 (z7.l10 xf a1 q10) q20 x17 x16=some r) _ ⟨[],y10.fTrees,0,x6,rfl,rfl,rfl,rfl,rfl,h⟩ (.t [] false) ?_;rintro m L τ ⟨p20,q20,x17,x16,rfl,rfl,rfl,hE20,hi20,h⟩
 rcases q20 with _|⟨y20,q20⟩
 · have hz20:=yr hE20 hi20;simp only[z7.l20] at h
   refine rg tok [1,5,18,19,20,25,26,27,28] fun K hK=>?_
   simp only[go_sem,qb,qa,hz20];apply hK
   refine za fun Z21 hZ21=>?_
   refine zn rfl ?_;apply zv;apply hZ13
   refine rgE tok [1,5,18,19,20] fun K hK=>?_
   simp only[go_sem,qb,qa,hw10];apply hK
   exact⟨_,_,_,qr q10.length,⟨p10++[y10],q10,x7+1,x16,rfl,rfl,rfl,hE'10,hi'10,h⟩,.s⟩
 obtain⟨hz20,hw20,hx20,hE'20,hi'20⟩:=zW hE20 hi20 hb20;simp only[z7.l20] at h
 refine rg tok [1,5,18,19,20,25,26,27,28] fun K hK=>?_
 simp only[go_sem,qb,qa,hz20];apply hK
 refine za fun Z22 hZ22=>?_
 refine zp rfl ?_;apply zd;apply hZ22
 refine za fun Z23 hZ23=>?_
 apply ze;have f24:=E90.idxS hx20;have f25:=E90.loadS rfl rfl hx20
 refine rg tok [1,5,9,18,19,20,25,26,27] fun K hK=>?_
 simp only[go_sem,qb,qf,qa,qd,cellsGTree,xh,f24,f25];apply hK
 refine rcE [1,5,18,19,20,25,26,27] fun K hK=>?_
 obtain⟨r26,hr26,h⟩:=bind_some h;refine rnN 4 ?_;refine clN rfl rfl rfl (ev_value_deep y20 (IntKind.i64.wrap (a1-1)) r26 hr26 _) ?_;refine zi tok 2 ?_;simp only[go_sem,qb,qa,vay,foldO,vca];refine nkN hK ?_;apply hZ23
 refine rgE tok [1,5,18,19,20,25,26,27] fun K hK=>?_
 simp only[go_sem,qb,qa,hw20];apply hK
 exact⟨_,_,_,qr q20.length,⟨p20++[y20],q20,x17+1,(if x16<r26 then r26 else x16),rfl,rfl,rfl,hE'20,hi'20,h⟩,(.t [] false)⟩
def z7 : Nat→GTree→Int→Option Int
 |0,_,_=>none
 |k+1,a0,a1=>z7.body (z7 k) a0 a1
theorem z7.all (k:Nat):(∀ (a0:GTree) (a1:Int) (r:Int),z7 k a0 a1=some r→ACalls qh 152 [.agg (cellsGTree a0),.int .i64 a1] [] (fun r' _=>r'=.int .i64 r)):=by
 induction k with
 |zero=>exact (fun a0 a1 r h=>by simp only[z7] at h; cases h)
 |succ k ih=>exact (fun a0 a1 r h=>z7.step _ ih a0 a1 r (by simpa only [z7] using h))
theorem z7.ev (k:Nat)(a0:GTree)(a1:Int)(r:Int)(h:z7 k a0 a1=some r)(σ:Store):ACalls qh 152 [.agg (cellsGTree a0),.int .i64 a1] σ (fun r' σ'=>r'=.int .i64 r∧σ'=σ):=
 ((z7.all k) a0 a1 r h).c σ
def wJ (a0:GTree):Option Int:=
 (z7 rounds a0 101).bind fun r1=>some r1
theorem wJ.ok (a0:GTree)(r:Int)(h:wJ a0=some r):ACalls qh 131 [.agg (cellsGTree a0)] [] (fun r' _=>r'=.int .i64 r):=by
 refine zf (rs:=[.tmp 2]) tok Tryz.func131 rfl Tryz.ntmps131 rfl Tryz.call131 (by simp) ?_;refine zk [(0,.agg (cellsGTree a0))] ⟨rfl,trivial⟩ ?_;unfold wJ at h
 refine rg tok [1] fun K hK=>?_
 simp only[go_sem,qb,qa,qd,reduceCtorEq,cellsGTree];apply hK
 refine rc [2] fun K hK=>?_
 obtain⟨r1,hr1,h⟩:=bind_some h;refine rnN 1 ?_;refine clN rfl rfl rfl (z7.ev rounds a0 101 r1 hr1 _) ?_;refine rnN 1 ?_;refine nkN hK ?_;cases h;exact rtA
theorem wJ.ev (a0:GTree)(r:Int)(h:wJ a0=some r)(σ:Store):ACalls qh 131 [.agg (cellsGTree a0)] σ (fun r' σ'=>r'=.int .i64 r∧σ'=σ):=
 (wJ.ok a0 r h).c σ
def yp (a0:GRaw):Bool:=
 (if ((decide (a0.fTag<1))||(decide (500<a0.fTag)))=true then false else (if a0.fWire=0 then decide (a0.fB=[]) else (if a0.fWire=1 then ((decide (a0.fN=0))&&(decide ((qc a0.fB:Int)≤4096))) else false)))
theorem yp.ok (a0:GRaw)(r:Bool)(h:yp a0=r):ACalls qh 51 [.agg (encGRaw a0)] [] (fun r' _=>r'=.bool r):=by
 refine zf (rs:=[.tmp 2]) tok Tryz.func51 rfl Tryz.ntmps51 rfl Tryz.call51 (by simp) ?_;refine zk [(0,.agg (encGRaw a0))] ⟨rfl,trivial⟩ ?_;unfold yp at h
 refine rg tok [1] fun K hK=>?_
 simp only[go_sem,qb,qa,qd,reduceCtorEq,encGRaw];apply hK
 refine za fun Z1 hZ1=>?_
 refine rc [1,10] fun K hK=>?_
 refine rnN 4 ?_;refine zh 4 (fun L τ=>L=[(1,.op 0 0 0),(10,.bool ((decide (a0.fTag<1))||(decide (500<a0.fTag))))]∧τ=[.cells 0 [.int .i64 a0.fTag,.int .i64 a0.fWire,.int .i64 a0.fN,.str a0.fB]]) ?_ ?_
 · refine yx 6 rfl (fun hg6=>?_) (fun hg6=>?_)
   · have t2:=eq_true hg6;refine rnN 4 ?_;refine zb ⟨rfl,_,_,⟨rfl,rfl⟩,.p t2⟩
   have t3:=eq_false hg6;refine rnN 4 ?_;refine zb ⟨rfl,_,_,⟨rfl,rfl⟩,.p t3⟩
 rintro _ _ ⟨rfl,rfl⟩;refine nkN hK ?_;refine zm (b:=((decide (a0.fTag<1))||(decide (500<a0.fTag)))) rfl (fun hc4=>?_) (fun hc4=>?_)
 · rw[if_pos hc4] at h;refine rgN [2] ?_;cases h;exact rtA
 rw[xS hc4] at h;apply zd;apply hZ1
 refine za fun Z5 hZ5=>?_
 refine rgN [1,12] ?_;apply ze;refine rgN [1,12,13] ?_;refine zo rfl (fun hc6=>?_) (fun hc6=>?_)
 · rw[if_pos hc6] at h;have t7:=eq_true hc6
   refine rg tok [2] fun K hK=>?_
   simp only[go_sem,qb,qa,qd,t7];apply hK
   cases h;exact rtA
 rw[if_neg hc6] at h;have t8:=eq_false hc6
 refine rg tok [1,18] fun K hK=>?_
 simp only[go_sem,qb,qa,t8];apply hK
 refine zo rfl (fun hc9=>?_) (fun hc9=>?_)
 · rw[if_pos hc9] at h;have t10:=eq_true hc9
   refine rc [2] fun K hK=>?_
   refine zi tok 4 ?_;simp only[go_sem,qb,qa,qd,t10];refine zh 5 (fun L τ=>L=[(28,.bool ((decide (a0.fN=0))&&(decide ((qc a0.fB:Int)≤4096))))]∧τ=[.cells 0 [.int .i64 a0.fTag,.int .i64 a0.fWire,.int .i64 a0.fN,.str a0.fB]]) ?_ ?_
   · refine yx 23 rfl (fun hg23=>?_) (fun hg23=>?_)
     · have t11:=eq_true hg23;refine rnN 5 ?_;refine zb ⟨rfl,_,_,⟨rfl,rfl⟩,.p t11⟩
     have t12:=eq_false hg23;refine rnN 5 ?_;refine zb ⟨rfl,_,_,⟨rfl,rfl⟩,.p t12⟩
   rintro _ _ ⟨rfl,rfl⟩;refine rnN 1 ?_;refine nkN hK ?_;cases h;exact rtA
 rw[if_neg hc9] at h;have t13:=eq_false hc9;apply zd;apply hZ5
 refine rg tok [2] fun K hK=>?_
 simp only[go_sem,qb,qa,t13];apply hK
 cases h;exact rtA
theorem yp.ev (a0:GRaw)(r:Bool)(h:yp a0=r)(σ:Store):ACalls qh 51 [.agg (encGRaw a0)] σ (fun r' σ'=>r'=.bool r∧σ'=σ):=
 (yp.ok a0 r h).c σ
def xd.l4 (a0:List GRaw):Nat→Int→Option Bool
 |0,_=>none
 |k4+1,x2=>(if x2<(qc a0:Int) then (Zt a0 x2).bind fun y9=>(Zt a0 (IntKind.i64.wrap (x2-1))).bind fun y12=>(if y9.fTag<y12.fTag then some false else ((xd.l4 a0 k4) (IntKind.i64.wrap (x2+1)))) else some true)
def xd (a0:List GRaw):Option Bool:=
 (xd.l4 a0 rounds 1)
theorem xd.ok (a0:List GRaw)(r:Bool)(h:xd a0=some r):ACalls qh 159 [.ds true (qe encGRaw a0) (qc a0) false] [] (fun r' _=>r'=.bool r):=by
 refine zf (rs:=[.tmp 2]) tok Tryz.func159 rfl Tryz.ntmps159 rfl Tryz.call159 (by simp) ?_;refine zk [(0,.ds true (qe encGRaw a0) (qc a0) false)] ⟨rfl,trivial⟩ ?_;unfold xd at h;refine rgN [0] ?_
 refine za fun Z1 hZ1=>?_
 refine rgN [0,3] ?_;apply ze;refine zq (fun m L τ=>∃ (k4:Nat) (x2:Int),m=0+k4∧L=[(0,.ds true (qe encGRaw a0) (qc a0) false),(3,.int .i64 x2)]∧τ=[]∧xd.l4 a0 k4 x2=some r) _ ⟨rounds,1,rfl,rfl,rfl,h⟩ .s ?_;rintro m L τ ⟨k4,x2,rfl,rfl,rfl,h⟩
 rcases k4 with _|k4
 · cases h
 simp only[xd.l4] at h
 refine za fun Z5 hZ5=>?_
 refine rgN [0,3,7] ?_;refine zo rfl (fun hc6=>?_) (fun hc6=>?_)
 · rw[if_pos hc6] at h;have t7:=eq_true hc6;apply zd;apply hZ5
   refine za fun Z8 hZ8=>?_
   apply ze;obtain⟨y9,hy9,h⟩:=bind_some h;have f10:=E28.idxS hy9;have f11:=E28.fldS0 (f:=3) rfl rfl hy9;obtain⟨y12,hy12,h⟩:=bind_some h;have f13:=E28.idxS hy12;have f14:=E28.fldS0 (f:=3) rfl rfl hy12
   refine rd [0,3,21] fun K hK=>?_
   refine DW.start (T:=tab) [.any,.any,.any,.any,.at [],.any,.any,.any,.any,.any,.at [],.any] [] ?_;refine DW.runN tok 8 ?_;simp only[go_sem,qb,qa,reduceCtorEq,encGRaw,t7,f10,f11];refine DW.runN tok 4 ?_;simp only[go_sem,qb,qa,reduceCtorEq,encGRaw,f13,f14];refine DW.fin tok (by decide +kernel) rfl ?_;simp only[zj,upd,qa,reduceIte,yq,y0];apply hK
   refine zo rfl (fun hc15=>?_) (fun hc15=>?_)
   · rw[if_pos hc15] at h;have t16:=eq_true hc15
     refine rg tok [2] fun K hK=>?_
     simp only[go_sem,qb,qa,reduceCtorEq,t16];apply hK
     cases h;exact rtA
   rw[if_neg hc15] at h;have t17:=eq_false hc15;apply zd;apply hZ8
   refine rgE tok [0,3] fun K hK=>?_
   simp only[go_sem,qb,qa,reduceCtorEq,t17];apply hK
   exact⟨_,_,_,qr (0+k4),⟨k4,IntKind.i64.wrap (x2+1),rfl,rfl,rfl,h⟩,.s⟩
 rw[if_neg hc6] at h;have t18:=eq_false hc6;apply zv;apply hZ1
 refine rg tok [2] fun K hK=>?_
 simp only[go_sem,qb,qa,reduceCtorEq,t18];apply hK
 cases h;exact rtA
theorem xd.ev (a0:List GRaw)(r:Bool)(h:xd a0=some r)(σ:Store):ACalls qh 159 [.ds true (qe encGRaw a0) (qc a0) false] σ (fun r' σ'=>r'=.bool r∧σ'=σ):=
 (xd.ok a0 r h).c σ
def yJ.l16 (x2:Int)(rec4:Int→Option Bool)(y4:GRaw):List GEntry→Int→Option Bool
 |[],x14=>(rec4 (x2+1))
 |y16::q16,x14=>(if y16.fTag=y4.fTag then some false else ((yJ.l16 x2 rec4 y4 q16) (x14+1)))
def yJ.l4 (a0:GTree):List GRaw→Int→Option Bool
 |[],x2=>(xd a0.fRest).bind fun r6=>some r6
 |y4::q4,x2=>bnd (yp y4) fun r12=>(if (!r12)=true then some false else (yJ.l16 x2 (yJ.l4 a0 q4) y4 a0.fEntries 0))
def yJ (a0:GTree):Option Bool:=
 (yJ.l4 a0 a0.fRest 0)
theorem yJ.ok (a0:GTree)(r:Bool)(h:yJ a0=some r):ACalls qh 154 [.agg (cellsGTree a0)] [] (fun r' _=>r'=.bool r):=by
 refine zf (rs:=[.tmp 2]) tok Tryz.func154 rfl Tryz.ntmps154 rfl Tryz.call154 (by simp) ?_;refine zk [(0,.agg (cellsGTree a0))] ⟨rfl,trivial⟩ ?_;unfold yJ at h
 refine rg tok [1] fun K hK=>?_
 simp only[go_sem,qb,qa,qd,reduceCtorEq,cellsGTree];apply hK
 refine za fun Z1 hZ1=>?_
 refine rgN [1,8,9,10] ?_;apply ze
 refine yZ 8 fun hb4=>?_
 replace hb4:qc a0.fRest≤9223372036854775807:=hb4.1;refine zq (fun m L τ=>∃ (p4 q4:List GRaw) (x2:Int),m=qc q4∧L=[(1,.op 0 0 0),(8,.ds true (qe encGRaw a0.fRest) (qc a0.fRest) false),(9,.int .i64 (qc a0.fRest:Int)),(10,.int .i64 x2)]∧τ=[.cells 0 (cellsGTree a0)]∧a0.fRest=p4++q4∧x2=(qc p4:Int)∧yJ.l4 a0 q4 x2=some r) _ ⟨[],a0.fRest,0,rfl,rfl,rfl,rfl,rfl,h⟩ .s ?_;rintro m L τ ⟨p4,q4,x2,rfl,rfl,rfl,hE4,hi4,h⟩
 rcases q4 with _|⟨y4,q4⟩
 · have hz4:=yr hE4 hi4;simp only[yJ.l4] at h
   refine rg tok [1,8,9,10,11] fun K hK=>?_
   simp only[go_sem,qb,qa,hz4];apply hK
   refine za fun Z5 hZ5=>?_
   refine zn rfl ?_;apply zv;apply hZ1
   refine rc [2] fun K hK=>?_
   obtain⟨r6,hr6,h⟩:=bind_some h;refine rnN 2 ?_;refine clN rfl rfl rfl (xd.ev a0.fRest r6 hr6 _) ?_;refine rnN 1 ?_;refine nkN hK ?_;cases h;exact rtA
 obtain⟨hz4,hw4,hx4,hE'4,hi'4⟩:=zW hE4 hi4 hb4;simp only[yJ.l4] at h
 refine rg tok [1,8,9,10,11] fun K hK=>?_
 simp only[go_sem,qb,qa,hz4];apply hK
 refine za fun Z7 hZ7=>?_
 refine zp rfl ?_;apply zd;apply hZ7
 refine za fun Z8 hZ8=>?_
 apply ze;have f9:=E28.idxS hx4;have f10:=E28.loadS rfl rfl hx4
 refine rg tok [1,4,8,9,10] fun K hK=>?_
 simp only[go_sem,qb,qf,qa,qd,encGRaw,f9,f10];apply hK
 refine za fun Z11 hZ11=>?_
 refine rc [1,4,8,9,10,16] fun K hK=>?_
 obtain⟨r12,hr12,h⟩:=zO h;refine rnN 1 ?_;refine clN rfl rfl rfl (yp.ev y4 r12 hr12 _) ?_;refine rnN 1 ?_;refine nkN hK ?_;refine zm (b:=(!r12)) rfl (fun hc13=>?_) (fun hc13=>?_)
 · rw[if_pos hc13] at h;refine rgN [2] ?_;cases h;exact rtA
 rw[xS hc13] at h;apply zd;apply hZ11;refine rgN [1,4,8,9,10,18,19,20] ?_;apply ze
 refine yZ 18 fun hb16=>?_
 replace hb16:qc a0.fEntries≤9223372036854775807:=hb16.1;refine zq (fun m L τ=>∃ (p16 q16:List GEntry) (x14:Int),m=qc q16∧L=[(1,.op 0 0 0),(4,.op 1 0 0),(8,.ds true (qe encGRaw a0.fRest) (qc a0.fRest) false),(9,.int .i64 (qc a0.fRest:Int)),(10,.int .i64 x2),(18,.ds true (qe encGEntry a0.fEntries) (qc a0.fEntries) false),(19,.int .i64 (qc a0.fEntries:Int)),(20,.int .i64 x14)]∧τ=[.cells 0 (cellsGTree a0),.cells 0 [.int .i64 y4.fTag,.int .i64 y4.fWire,.int .i64 y4.fN,.str y4.fB]]∧a0.fEntries=p16++q16∧x14=(qc p16:Int)∧yJ.l16 x2 (yJ.l4 a0 q4) y4 q16 x14=some r) _ ⟨[],a0.fEntries,0,rfl,rfl,rfl,rfl,rfl,h⟩ .s ?_;rintro m L τ ⟨p16,q16,x14,rfl,rfl,rfl,hE16,hi16,h⟩
 rcases q16 with _|⟨y16,q16⟩
 · have hz16:=yr hE16 hi16;simp only[yJ.l16] at h
   refine rg tok [1,4,8,9,10,18,19,20,21] fun K hK=>?_
   simp only[go_sem,qb,qa,hz16];apply hK
   refine za fun Z17 hZ17=>?_
   refine zn rfl ?_;apply zv;apply hZ8
   refine rgE tok [1,8,9,10] fun K hK=>?_
   simp only[go_sem,qb,qa,hw4];apply hK
   exact⟨_,_,_,qr q4.length,⟨p4++[y4],q4,x2+1,rfl,rfl,rfl,hE'4,hi'4,h⟩,(.t [0] false)⟩
 obtain⟨hz16,hw16,hx16,hE'16,hi'16⟩:=zW hE16 hi16 hb16;simp only[yJ.l16] at h
 refine rg tok [1,4,8,9,10,18,19,20,21] fun K hK=>?_
 simp only[go_sem,qb,qa,hz16];apply hK
 refine za fun Z18 hZ18=>?_
 refine zp rfl ?_;apply zd;apply hZ18
 refine za fun Z19 hZ19=>?_
 apply ze;have f20:=E27.idxS hx16;have f21:=E27.loadS rfl rfl hx16
 refine rg tok [1,4,6,8,9,10,18,19,20] fun K hK=>?_
 simp only[go_sem,qb,qf,qa,qd,cellsGEntry,z6,f20,f21];apply hK
 refine rgN [1,4,8,9,10,18,19,20,28] ?_;refine zo rfl (fun hc22=>?_) (fun hc22=>?_)
 · rw[if_pos hc22] at h;have t23:=eq_true hc22
   refine rg tok [2] fun K hK=>?_
   simp only[go_sem,qb,qa,t23];apply hK
   cases h;exact rtA
 rw[if_neg hc22] at h;have t24:=eq_false hc22;apply zd;apply hZ19
 refine rgE tok [1,4,8,9,10,18,19,20] fun K hK=>?_
 simp only[go_sem,qb,qa,hw16,t24];apply hK
 exact⟨_,_,_,qr q16.length,⟨p16++[y16],q16,x14+1,rfl,rfl,rfl,hE'16,hi'16,h⟩,(.t [0,1] false)⟩
theorem yJ.ev (a0:GTree)(r:Bool)(h:yJ a0=some r)(σ:Store):ACalls qh 154 [.agg (cellsGTree a0)] σ (fun r' σ'=>r'=.bool r∧σ'=σ):=
 (yJ.ok a0 r h).c σ
def zy.j25 (x16:Int)(rec18:Int→Option Bool)(x24:Bool):Option Bool:=
 (if x24=true then some false else (rec18 (x16+1)))
def zy.l18 (ye:GTree→Option Bool)(x3:Int)(rec6:Int→Int→Option Bool)(y6:GEntry):List GTree→Int→Option Bool
 |[],x16=>(rec6 (x3+1) y6.fTag)
 |y18::q18,x16=>(Zt y6.fTrees 0).bind fun y27=>(if y18.fKind=y27.fKind then (ye y18).bind fun r32=>(zy.j25 x16 (zy.l18 ye x3 rec6 y6 q18) (!r32)) else (zy.j25 x16 (zy.l18 ye x3 rec6 y6 q18) true))
def zy.l6 (ye:GTree→Option Bool):List GEntry→Int→Int→Option Bool
 |[],x3,x2=>some true
 |y6::q6,x3,x2=>(if ((((decide (y6.fTag≤x2))||(decide (500<y6.fTag)))||(decide ((qc y6.fTrees:Int)<1)))||(decide (64<(qc y6.fTrees:Int))))=true then some false else (zy.l18 ye x3 (zy.l6 ye q6) y6 y6.fTrees 0))
def zy.body (xI:GTree→Option Bool)(ye:GTree→Option Bool)(a0:GTree):Option Bool:=
 (zy.l6 ye a0.fEntries 0 0)
theorem zy.step (xI:GTree→Option Bool)(ye:GTree→Option Bool)(Yf:∀ (a0:GTree) (r:Bool),xI a0=some r→ACalls qh 153 [.agg (cellsGTree a0)] [] (fun r' _=>r'=.bool r))(YK:∀ (a0:GTree) (r:Bool),ye a0=some r→ACalls qh 132 [.agg (cellsGTree a0)] [] (fun r' _=>r'=.bool r))(a0:GTree)(r:Bool)(h:zy.body xI ye a0=some r):ACalls qh 153 [.agg (cellsGTree a0)] [] (fun r' _=>r'=.bool r):=by
 have ev_value_entries:=fun a0 r h σ=>(Yf a0 r h).c σ
 have ev_value_right:=fun a0 r h σ=>(YK a0 r h).c σ
 refine zf (rs:=[.tmp 2]) tok Tryz.func153 rfl Tryz.ntmps153 rfl Tryz.call153 (by simp) ?_;refine zk [(0,.agg (cellsGTree a0))] ⟨rfl,trivial⟩ ?_;unfold zy.body at h
 refine rg tok [1] fun K hK=>?_
 simp only[go_sem,qb,qa,qd,reduceCtorEq,cellsGTree];apply hK
 refine rgN [1,3] ?_
 refine za fun Z1 hZ1=>?_
 refine rgN [3,9,10,11] ?_;apply ze
 refine yZ 9 fun hb6=>?_
 replace hb6:qc a0.fEntries≤9223372036854775807:=hb6.1;refine zq (fun m L τ=>∃ (p6 q6:List GEntry) (x3:Int) (x2:Int),m=qc q6∧L=[(3,.int .i64 x2),(9,.ds true (qe encGEntry a0.fEntries) (qc a0.fEntries) false),(10,.int .i64 (qc a0.fEntries:Int)),(11,.int .i64 x3)]∧τ=[]∧a0.fEntries=p6++q6∧x3=(qc p6:Int)∧zy.l6 ye q6 x3 x2=some r) _ ⟨[],a0.fEntries,0,0,rfl,rfl,rfl,rfl,rfl,h⟩ (.t [] false) ?_;rintro m L τ ⟨p6,q6,x3,x2,rfl,rfl,rfl,hE6,hi6,h⟩
 rcases q6 with _|⟨y6,q6⟩
 · have hz6:=yr hE6 hi6;simp only[zy.l6] at h
   refine rg tok [3,9,10,11,12] fun K hK=>?_
   simp only[go_sem,qb,qa,hz6];apply hK
   refine za fun Z7 hZ7=>?_
   refine zn rfl ?_;apply zv;apply hZ1;refine rgN [2] ?_;cases h;exact rtA
 obtain⟨hz6,hw6,hx6,hE'6,hi'6⟩:=zW hE6 hi6 hb6;simp only[zy.l6] at h
 refine rg tok [3,9,10,11,12] fun K hK=>?_
 simp only[go_sem,qb,qa,hz6];apply hK
 refine za fun Z8 hZ8=>?_
 refine zp rfl ?_;apply zd;apply hZ8
 refine za fun Z9 hZ9=>?_
 apply ze;have f10:=E27.idxS hx6;have f11:=E27.loadS rfl rfl hx6
 refine rg tok [3,5,9,10,11] fun K hK=>?_
 simp only[go_sem,qb,qf,qa,qd,cellsGEntry,z6,f10,f11];apply hK
 refine za fun Z12 hZ12=>?_
 refine rc [5,9,10,11,35] fun K hK=>?_
 refine rnN 5 ?_;refine zh 4 (fun L τ=>L=[(5,.op 0 0 0),(9,.ds true (qe encGEntry a0.fEntries) (qc a0.fEntries) false),(10,.int .i64 (qc a0.fEntries:Int)),(11,.int .i64 x3),(23,.bool ((decide (y6.fTag≤x2))||(decide (500<y6.fTag))))]∧τ=[.cells 0 (cellsGEntry y6)]) ?_ ?_
 · refine yx 19 rfl (fun hg19=>?_) (fun hg19=>?_)
   · have t13:=eq_true hg19;refine rnN 4 ?_;refine zb ⟨rfl,_,_,⟨rfl,rfl⟩,.p t13⟩
   have t14:=eq_false hg19;refine rnN 4 ?_;refine zb ⟨rfl,_,_,⟨rfl,rfl⟩,.p t14⟩
 rintro _ _ ⟨rfl,rfl⟩;refine rnN 1 ?_;refine zh 5 (fun L τ=>L=[(5,.op 0 0 0),(9,.ds true (qe encGEntry a0.fEntries) (qc a0.fEntries) false),(10,.int .i64 (qc a0.fEntries:Int)),(11,.int .i64 x3),(29,.bool (((decide (y6.fTag≤x2))||(decide (500<y6.fTag)))||(decide ((qc y6.fTrees:Int)<1))))]∧τ=[.cells 0 (cellsGEntry y6)]) ?_ ?_
 · refine zN (b:=((decide (y6.fTag≤x2))||(decide (500<y6.fTag)))) 24 rfl (fun hg24=>?_) (fun hg24=>?_)
   · refine rnN 5 ?_;refine zb ⟨rfl,_,_,⟨rfl,rfl⟩,.b hg24⟩
   refine rnN 5 ?_;refine zb ⟨rfl,_,_,⟨rfl,rfl⟩,.b hg24⟩
 rintro _ _ ⟨rfl,rfl⟩;refine rnN 1 ?_;refine zh 5 (fun L τ=>L=[(5,.op 0 0 0),(9,.ds true (qe encGEntry a0.fEntries) (qc a0.fEntries) false),(10,.int .i64 (qc a0.fEntries:Int)),(11,.int .i64 x3),(35,.bool ((((decide (y6.fTag≤x2))||(decide (500<y6.fTag)))||(decide ((qc y6.fTrees:Int)<1)))||(decide (64<(qc y6.fTrees:Int)))))]∧τ=[.cells 0 (cellsGEntry y6)]) ?_ ?_
 · refine zN (b:=(((decide (y6.fTag≤x2))||(decide (500<y6.fTag)))||(decide ((qc y6.fTrees:Int)<1)))) 30 rfl (fun hg30=>?_) (fun hg30=>?_)
   · refine rnN 5 ?_;refine zb ⟨rfl,_,_,⟨rfl,rfl⟩,.b hg30⟩
   refine rnN 5 ?_;refine zb ⟨rfl,_,_,⟨rfl,rfl⟩,.b hg30⟩
 rintro _ _ ⟨rfl,rfl⟩;refine nkN hK ?_;refine zm (b:=((((decide (y6.fTag≤x2))||(decide (500<y6.fTag)))||(decide ((qc y6.fTrees:Int)<1)))||(decide (64<(qc y6.fTrees:Int))))) rfl (fun hc15=>?_) (fun hc15=>?_)
 · rw[if_pos hc15] at h;refine rgN [2] ?_;cases h;exact rtA
 rw[xS hc15] at h;apply zd;apply hZ12;refine rgN [3,5,9,10,11] ?_;refine rgN [3,5,9,10,11,39,40,41] ?_;apply ze
 refine yZ 39 fun hb18=>?_
 replace hb18:qc y6.fTrees≤9223372036854775807:=hb18.1;refine zq (fun m L τ=>∃ (p18 q18:List GTree) (x16:Int),m=qc q18∧L=[(3,.int .i64 y6.fTag),(5,.op 0 0 0),(9,.ds true (qe encGEntry a0.fEntries) (qc a0.fEntries) false),(10,.int .i64 (qc a0.fEntries:Int)),(11,.int .i64 x3),(39,.ds true (qe encGTree y6.fTrees) (qc y6.fTrees) false),(40,.int .i64 (qc y6.fTrees:Int)),(41,.int .i64 x16)]∧τ=[.cells 0 (cellsGEntry y6)]∧y6.fTrees=p18++q18∧x16=(qc p18:Int)∧zy.l18 ye x3 (zy.l6 ye q6) y6 q18 x16=some r) _ ⟨[],y6.fTrees,0,rfl,rfl,rfl,rfl,rfl,h⟩ .s ?_;rintro m L τ ⟨p18,q18,x16,rfl,rfl,rfl,hE18,hi18,h⟩
 rcases q18 with _|⟨y18,q18⟩
 · have hz18:=yr hE18 hi18;simp only[zy.l18] at h
   refine rg tok [3,5,9,10,11,39,40,41,42] fun K hK=>?_
   simp only[go_sem,qb,qa,hz18];apply hK
   refine za fun Z19 hZ19=>?_
   refine zn rfl ?_;apply zv;apply hZ9
   refine rgE tok [3,9,10,11] fun K hK=>?_
   simp only[go_sem,qb,qa,hw6];apply hK
   exact⟨_,_,_,qr q6.length,⟨p6++[y6],q6,x3+1,y6.fTag,rfl,rfl,rfl,hE'6,hi'6,h⟩,(.t [] false)⟩
 obtain⟨hz18,hw18,hx18,hE'18,hi'18⟩:=zW hE18 hi18 hb18;simp only[zy.l18] at h
 refine rg tok [3,5,9,10,11,39,40,41,42] fun K hK=>?_
 simp only[go_sem,qb,qa,hz18];apply hK
 refine za fun Z20 hZ20=>?_
 refine zp rfl ?_;apply zd;apply hZ20
 refine za fun Z21 hZ21=>?_
 apply ze;have f22:=E90.idxS hx18;have f23:=E90.loadS rfl rfl hx18
 refine rg tok [3,5,7,9,10,11,39,40,41] fun K hK=>?_
 simp only[go_sem,qb,qf,qa,qd,cellsGTree,xh,f22,f23];apply hK
 refine xL (fun L τ=>∃ (x24:Bool),L=[(3,.int .i64 y6.fTag),(5,.op 0 0 0),(9,.ds true (qe encGEntry a0.fEntries) (qc a0.fEntries) false),(10,.int .i64 (qc a0.fEntries:Int)),(11,.int .i64 x3),(39,.ds true (qe encGTree y6.fTrees) (qc y6.fTrees) false),(40,.int .i64 (qc y6.fTrees:Int)),(41,.int .i64 x16),(57,.bool x24)]∧τ=[.cells 0 (cellsGEntry y6)]∧zy.j25 x16 (zy.l18 ye x3 (zy.l6 ye q6) y6 q18) x24=some r) ?_ ?_
 · refine rdE [3,5,9,10,11,39,40,41,57] fun K hK=>?_
   refine DW.start (T:=tab) [.any,.at [],.any,.at [],.any,.any,.at [],.any,.any,.at [],.eff,.any,.any] [] ?_;obtain⟨y27,hy27,h⟩:=bind_some h;have f28:=E90.idxS hy27;have f29:=E90.fldS0 (f:=3) rfl rfl hy27;refine DW.runN tok 8 ?_;simp only[go_sem,qb,qa,qd,cellsGTree,xh,f28,f29];refine DW.runN tok 1 ?_;simp only[go_sem,qb,qa]
   refine DW.if 53 rfl (fun hg53=>?_) (fun hg53=>?_)
   · rw[if_neg hg53] at h;have t30:=eq_false hg53;refine DW.runN tok 4 ?_;simp only[go_sem,qb,qa,t30];refine DW.fin tok (by decide +kernel) rfl ?_;simp only[zj,upd,qa,reduceIte,yq,y0];apply hK
     exact⟨_,_,⟨true,rfl,rfl,h⟩,(.t [0] false)⟩
   rw[if_pos hg53] at h;have t31:=eq_true hg53;obtain⟨r32,hr32,h⟩:=bind_some h;refine DW.runN tok 1 ?_;simp only[go_sem,qb,qf,qa,qd,t31];refine DW.call rfl rfl rfl (ev_value_right y18 r32 hr32 _) ?_;refine DW.runN tok 2 ?_;simp only[go_sem,qb,qa];refine DW.fin tok (by decide +kernel) rfl ?_;simp only[zj,upd,qa,reduceIte,yq,y0];apply hK
   exact⟨_,_,⟨!r32,rfl,rfl,h⟩,(.t [0] false)⟩
 rintro _ _ ⟨x24,rfl,rfl,h⟩;unfold zy.j25 at h;refine zm (b:=x24) rfl (fun hc26=>?_) (fun hc26=>?_)
 · rw[if_pos hc26] at h;refine rgN [2] ?_;cases h;exact rtA
 rw[xS hc26] at h;apply zd;apply hZ21
 refine rgE tok [3,5,9,10,11,39,40,41] fun K hK=>?_
 simp only[go_sem,qb,qa,hw18];apply hK
 exact⟨_,_,_,qr q18.length,⟨p18++[y18],q18,x16+1,rfl,rfl,rfl,hE'18,hi'18,h⟩,.s⟩
end
section
set_option maxRecDepth 4000
set_option maxHeartbeats 1000000
open AM
def xe.body (xI:GTree→Option Bool)(ye:GTree→Option Bool)(a0:GTree):Option Bool:=
 (if a0.fKind=1 then some (((decide (a0.fS=[]))&&(decide ((qc a0.fEntries:Int)=0)))&&(decide ((qc a0.fRest:Int)=0))) else (if a0.fKind=2 then some (((decide (a0.fN=0))&&(decide ((qc a0.fEntries:Int)=0)))&&(decide ((qc a0.fRest:Int)=0))) else (if a0.fKind=3 then (if ((decide (a0.fN=0))&&(decide (a0.fS=[])))=true then (xI a0).bind fun r16=>some r16 else some false).bind fun c16=>(if c16=true then (yJ a0).bind fun r18=>some r18 else some false).bind fun c18=>some c18 else some false)))
theorem xe.step (xI:GTree→Option Bool)(ye:GTree→Option Bool)(Yf:∀ (a0:GTree) (r:Bool),xI a0=some r→ACalls qh 153 [.agg (cellsGTree a0)] [] (fun r' _=>r'=.bool r))(YK:∀ (a0:GTree) (r:Bool),ye a0=some r→ACalls qh 132 [.agg (cellsGTree a0)] [] (fun r' _=>r'=.bool r))(a0:GTree)(r:Bool)(h:xe.body xI ye a0=some r):ACalls qh 132 [.agg (cellsGTree a0)] [] (fun r' _=>r'=.bool r):=by
 have ev_value_entries:=fun a0 r h σ=>(Yf a0 r h).c σ
 have ev_value_right:=fun a0 r h σ=>(YK a0 r h).c σ
 refine zf (rs:=[.tmp 2]) tok Tryz.func132 rfl Tryz.ntmps132 rfl Tryz.call132 (by simp) ?_;refine zk [(0,.agg (cellsGTree a0))] ⟨rfl,trivial⟩ ?_;unfold xe.body at h
 refine rg tok [1] fun K hK=>?_
 simp only[go_sem,qb,qa,qd,reduceCtorEq,cellsGTree];apply hK
 refine za fun Z1 hZ1=>?_
 refine rgN [1,4] ?_;apply ze;refine rgN [1,4,5] ?_;refine zo rfl (fun hc2=>?_) (fun hc2=>?_)
 · rw[if_pos hc2] at h;have t3:=eq_true hc2
   refine rc [2] fun K hK=>?_
   refine zi tok 4 ?_;simp only[go_sem,qb,qa,qd,t3];refine zh 5 (fun L τ=>L=[(1,.op 0 0 0),(15,.bool ((decide (a0.fS=[]))&&(decide ((qc a0.fEntries:Int)=0))))]∧τ=[.cells 0 (cellsGTree a0)]) ?_ ?_
   · refine yx 10 rfl (fun hg10=>?_) (fun hg10=>?_)
     · have t4:=eq_true hg10;refine rnN 5 ?_;refine zb ⟨rfl,_,_,⟨rfl,rfl⟩,.p t4⟩
     have t5:=eq_false hg10;refine rnN 5 ?_;refine zb ⟨rfl,_,_,⟨rfl,rfl⟩,.p t5⟩
   rintro _ _ ⟨rfl,rfl⟩;refine rnN 1 ?_;refine zh 5 (fun L τ=>L=[(21,.bool (((decide (a0.fS=[]))&&(decide ((qc a0.fEntries:Int)=0)))&&(decide ((qc a0.fRest:Int)=0))))]∧τ=[.cells 0 (cellsGTree a0)]) ?_ ?_
   · refine zN (b:=((decide (a0.fS=[]))&&(decide ((qc a0.fEntries:Int)=0)))) 16 rfl (fun hg16=>?_) (fun hg16=>?_)
     · refine rnN 5 ?_;refine zb ⟨rfl,_,_,⟨rfl,rfl⟩,.b hg16⟩
     refine rnN 5 ?_;refine zb ⟨rfl,_,_,⟨rfl,rfl⟩,.b hg16⟩
   rintro _ _ ⟨rfl,rfl⟩;refine rnN 1 ?_;refine nkN hK ?_;cases h;exact rtA
 rw[if_neg hc2] at h;have t6:=eq_false hc2
 refine rg tok [1,4,22] fun K hK=>?_
 simp only[go_sem,qb,qa,t6];apply hK
 refine zo rfl (fun hc7=>?_) (fun hc7=>?_)
 · rw[if_pos hc7] at h;have t8:=eq_true hc7
   refine rc [2] fun K hK=>?_
   refine zi tok 4 ?_;simp only[go_sem,qb,qa,qd,t8];refine zh 5 (fun L τ=>L=[(1,.op 0 0 0),(32,.bool ((decide (a0.fN=0))&&(decide ((qc a0.fEntries:Int)=0))))]∧τ=[.cells 0 (cellsGTree a0)]) ?_ ?_
   · refine yx 27 rfl (fun hg27=>?_) (fun hg27=>?_)
     · have t9:=eq_true hg27;refine rnN 5 ?_;refine zb ⟨rfl,_,_,⟨rfl,rfl⟩,.p t9⟩
     have t10:=eq_false hg27;refine rnN 5 ?_;refine zb ⟨rfl,_,_,⟨rfl,rfl⟩,.p t10⟩
   rintro _ _ ⟨rfl,rfl⟩;refine rnN 1 ?_;refine zh 5 (fun L τ=>L=[(38,.bool (((decide (a0.fN=0))&&(decide ((qc a0.fEntries:Int)=0)))&&(decide ((qc a0.fRest:Int)=0))))]∧τ=[.cells 0 (cellsGTree a0)]) ?_ ?_
   · refine zN (b:=((decide (a0.fN=0))&&(decide ((qc a0.fEntries:Int)=0)))) 33 rfl (fun hg33=>?_) (fun hg33=>?_)
     · refine rnN 5 ?_;refine zb ⟨rfl,_,_,⟨rfl,rfl⟩,.b hg33⟩
     refine rnN 5 ?_;refine zb ⟨rfl,_,_,⟨rfl,rfl⟩,.b hg33⟩
   rintro _ _ ⟨rfl,rfl⟩;refine rnN 1 ?_;refine nkN hK ?_;cases h;exact rtA
 rw[if_neg hc7] at h;have t11:=eq_false hc7
 refine rg tok [1,39] fun K hK=>?_
 simp only[go_sem,qb,qa,t11];apply hK
 refine zo rfl (fun hc12=>?_) (fun hc12=>?_)
 · rw[if_pos hc12] at h;have t13:=eq_true hc12
   refine rc [2] fun K hK=>?_
   refine zi tok 4 ?_;simp only[go_sem,qb,qa,qd,t13];refine zh 4 (fun L τ=>L=[(1,.op 0 0 0),(48,.bool ((decide (a0.fN=0))&&(decide (a0.fS=[]))))]∧τ=[.cells 0 (cellsGTree a0)]) ?_ ?_
   · refine yx 44 rfl (fun hg44=>?_) (fun hg44=>?_)
     · have t14:=eq_true hg44;refine rnN 4 ?_;refine zb ⟨rfl,_,_,⟨rfl,rfl⟩,.p t14⟩
     have t15:=eq_false hg44;refine rnN 4 ?_;refine zb ⟨rfl,_,_,⟨rfl,rfl⟩,.p t15⟩
   rintro _ _ ⟨rfl,rfl⟩;refine rnN 1 ?_;obtain⟨c16,hc16,h⟩:=bind_some h;refine zh 3 (fun L τ=>L=[(1,.op 0 0 0),(52,.bool c16)]∧τ=[.cells 0 (cellsGTree a0)]) ?_ ?_
   · refine zN (b:=((decide (a0.fN=0))&&(decide (a0.fS=[])))) 49 rfl (fun hg49=>?_) (fun hg49=>?_)
     · rw[if_pos hg49] at hc16;obtain⟨r17,hr17,hc16⟩:=bind_some hc16;refine rnN 1 ?_;refine clN rfl rfl rfl (ev_value_entries a0 r17 hr17 _) ?_;refine rnN 1 ?_;cases hc16;refine zb ⟨rfl,_,_,⟨rfl,rfl⟩,.b hg49⟩
     rw[xS hg49] at hc16;refine rnN 3 ?_;cases hc16;refine zb ⟨rfl,_,_,⟨rfl,rfl⟩,.b hg49⟩
   rintro _ _ ⟨rfl,rfl⟩;refine rnN 1 ?_;obtain⟨c18,hc18,h⟩:=bind_some h;refine zh 3 (fun L τ=>L=[(56,.bool c18)]∧τ=[.cells 0 (cellsGTree a0)]) ?_ ?_
   · refine zN (b:=c16) 53 rfl (fun hg53=>?_) (fun hg53=>?_)
     · rw[if_pos hg53] at hc18;obtain⟨r19,hr19,hc18⟩:=bind_some hc18;refine rnN 1 ?_;refine clN rfl rfl rfl (yJ.ev a0 r19 hr19 _) ?_;refine rnN 1 ?_;cases hc18;refine zb ⟨rfl,_,_,⟨rfl,rfl⟩,.b hg53⟩
     rw[xS hg53] at hc18;refine rnN 3 ?_;cases hc18;refine zb ⟨rfl,_,_,⟨rfl,rfl⟩,.b hg53⟩
   rintro _ _ ⟨rfl,rfl⟩;refine rnN 1 ?_;refine nkN hK ?_;cases h;exact rtA
 rw[if_neg hc12] at h;have t20:=eq_false hc12;apply zd;apply hZ1
 refine rg tok [2] fun K hK=>?_
 simp only[go_sem,qb,qa,t20];apply hK
 cases h;exact rtA
mutual
def zy : Nat→GTree→Option Bool
 |0,_=>none
 |k+1,a0=>zy.body (zy k) (xe k) a0
def xe : Nat→GTree→Option Bool
 |0,_=>none
 |k+1,a0=>xe.body (zy k) (xe k) a0
end
theorem zy.all (k:Nat):(∀ (a0:GTree) (r:Bool),zy k a0=some r→ACalls qh 153 [.agg (cellsGTree a0)] [] (fun r' _=>r'=.bool r))∧(∀ (a0:GTree) (r:Bool),xe k a0=some r→ACalls qh 132 [.agg (cellsGTree a0)] [] (fun r' _=>r'=.bool r)):=by
 induction k with
 |zero=>exact⟨(fun a0 r h=>by simp only[zy] at h; cases h),(fun a0 r h=>by simp only[xe] at h; cases h)⟩
 |succ k ih=>exact⟨(fun a0 r h=>zy.step _ _ ih.1 ih.2 a0 r (by simpa only [zy] using h)),(fun a0 r h=>xe.step _ _ ih.1 ih.2 a0 r (by simpa only [xe] using h))⟩
theorem xe.ev (k:Nat)(a0:GTree)(r:Bool)(h:xe k a0=some r)(σ:Store):ACalls qh 132 [.agg (cellsGTree a0)] σ (fun r' σ'=>r'=.bool r∧σ'=σ):=
 ((zy.all k).2 a0 r h).c σ
def wK (a0:GTree):Option Bool:=
 (wJ a0).bind fun r1=>(if r1≤10 then (xe rounds a0).bind fun r2=>some r2 else some false).bind fun c2=>some c2
theorem wK.ok (a0:GTree)(r:Bool)(h:wK a0=some r):ACalls qh 96 [.agg (cellsGTree a0)] [] (fun r' _=>r'=.bool r):=by
 refine zf (rs:=[.tmp 2]) tok Tryz.func96 rfl Tryz.ntmps96 rfl Tryz.call96 (by simp) ?_;refine zk [(0,.agg (cellsGTree a0))] ⟨rfl,trivial⟩ ?_;unfold wK at h
 refine rg tok [1] fun K hK=>?_
 simp only[go_sem,qb,qa,qd,reduceCtorEq,cellsGTree];apply hK
 refine rc [2] fun K hK=>?_
 obtain⟨r1,hr1,h⟩:=bind_some h;refine rnN 1 ?_;refine clN rfl rfl rfl (wJ.ev a0 r1 hr1 _) ?_;refine rnN 2 ?_;obtain⟨c2,hc2,h⟩:=bind_some h;refine zh 3 (fun L τ=>L=[(9,.bool c2)]∧τ=[.cells 0 (cellsGTree a0)]) ?_ ?_
 · refine yx 6 rfl (fun hg6=>?_) (fun hg6=>?_)
   · have t3:=eq_true hg6;rw[if_pos hg6] at hc2;obtain⟨r4,hr4,hc2⟩:=bind_some hc2;refine rnN 1 ?_;refine clN rfl rfl rfl (xe.ev rounds a0 r4 hr4 _) ?_;refine rnN 1 ?_;cases hc2;refine zb ⟨rfl,_,_,⟨rfl,rfl⟩,.p t3⟩
   have t5:=eq_false hg6;rw[if_neg hg6] at hc2;refine rnN 3 ?_;cases hc2;refine zb ⟨rfl,_,_,⟨rfl,rfl⟩,.p t5⟩
 rintro _ _ ⟨rfl,rfl⟩;refine rnN 1 ?_;refine nkN hK ?_;cases h;exact rtA
theorem wK.ev (a0:GTree)(r:Bool)(h:wK a0=some r)(σ:Store):ACalls qh 96 [.agg (cellsGTree a0)] σ (fun r' σ'=>r'=.bool r∧σ'=σ):=
 (wK.ok a0 r h).c σ
def Ye (a0:Int):GValueValue:=
 (GValueValue.num a0)
theorem Ye.ok (a0:Int)(r:GValueValue)(h:Ye a0=r):ACalls qh 133 [.int .i64 a0] [] (fun r' _=>r'=.agg (encGValueValue r)):=by
 refine zf (rs:=[.cell 2 110]) tok Tryz.func133 rfl Tryz.ntmps133 rfl Tryz.call133 (by simp) ?_;refine zk [(0,.int .i64 a0)] ⟨rfl,trivial⟩ ?_;unfold Ye at h;refine rgN [0,2] ?_;refine rgN [2] ?_;cases h;exact rtA
theorem Ye.ev (a0:Int)(r:GValueValue)(h:Ye a0=r)(σ:Store):ACalls qh 133 [.int .i64 a0] σ (fun r' σ'=>r'=.agg (encGValueValue r)∧σ'=σ):=
 (Ye.ok a0 r h).c σ
def Yd (a0:List UInt8):GValueValue:=
 (GValueValue.str a0)
theorem Yd.ok (a0:List UInt8)(r:GValueValue)(h:Yd a0=r):ACalls qh 134 [.str a0] [] (fun r' _=>r'=.agg (encGValueValue r)):=by
 refine zf (rs:=[.cell 2 110]) tok Tryz.func134 rfl Tryz.ntmps134 rfl Tryz.call134 (by simp) ?_;refine zk [(0,.str a0)] ⟨rfl,trivial⟩ ?_;unfold Yd at h;refine rgN [0,2] ?_;refine rgN [2] ?_;cases h;exact rtA
theorem Yd.ev (a0:List UInt8)(r:GValueValue)(h:Yd a0=r)(σ:Store):ACalls qh 134 [.str a0] σ (fun r' σ'=>r'=.agg (encGValueValue r)∧σ'=σ):=
 (Yd.ok a0 r h).c σ
def yV (a0:List GRaw):Option (List GRaw):=(Yk (qc a0) 40).bind fun _=>some a0
theorem yV.ok (a0 r:List GRaw)(h:yV a0=some r):ACalls qh 135 [.ds true (qe encGRaw a0) (qc a0) false] [] (fun r' _=>r'=.ds true (qe encGRaw r) (qc r) false):=by
 obtain⟨_u,hu,h⟩:=bind_some h;have gu:=yi hu;cases h
 have f1:=fun nl tt σ=>xO E28.len a0 nl tt σ
 have f2:=zr E28.len a0;have f3:=Zs encGRaw a0
 have fin:∀ σ id ver tt,Store.at σ id ver=some (qe encGRaw a0)→tell σ [] true 12 (.os true 4 id ver 0 (qc a0) tt)=.ds true (qe encGRaw a0) (qc a0) false:=by
  intro σ id ver tt hs
  simp only[Zi,wE,hs,qI,qs];rw[if_pos (by rw[f2]; exact qu _),← f2,ui,zZ]
 refine zf (rs:=[.tmp 2]) tok Tryz.func135 rfl Tryz.ntmps135 rfl Tryz.call135 (by simp) ?_;refine zk [(0,.ds true (qe encGRaw a0) (qc a0) false)] ⟨rfl,trivial⟩ ?_;refine rgN [0] ?_
 refine za fun Z1 hZ1=>?_
 refine rc [0,4] fun K hK=>?_
 refine rnN 1 ?_
 refine vaO tok rfl rfl rfl rfl rfl rfl fun b hnil=>?_
 have hb:b=true→a0=[]:=fun hb=>by
  have:=hnil hb;simp only[yl,go_sem,reduceCtorEq] at this;exact u4 this
 clear hnil
 refine nkN hK ?_;cases b
 · refine zn rfl ?_;apply zd;apply hZ1
   refine rg tok [2] fun K hK=>?_
   by_cases h0:qc a0=0
   · obtain rfl:=u4 h0;simp only[go_sem,qb,qa,qd,reduceCtorEq,zD,zY,qS,uq,zX,zI,yl,yh,un,ql,uG,ub];apply hK
     apply yH;simp only[ZQ,y5,xj,xX,exists_eq_left',go_sem]
     first|rfl|(simp only[go_sem,qb,qf,qa,qd,qv,qO,reduceIte,reduceCtorEq,Zi,wE,qx]<;>rfl)
   have h1:=eq_false h0;simp only[go_sem,qb,qa,qd,reduceCtorEq,zD,zY,qS,uq,zX,zI,yl,f1,f3,h1,gu,yK,qx,qw,uG];apply hK
   apply yH;simp only[ZQ,y5,xj,xX,exists_eq_left',go_sem];exact fin _ _ _ _ (by simp only[Store.at_hd,Store.at_tl,if_true])
 obtain rfl:=hb rfl;refine zp rfl ?_;refine rgN [2] ?_;apply yH;simp only[ZQ,y5,xj,xX,exists_eq_left',go_sem]
 first|rfl|(simp only[go_sem,qb,qf,qa,qd,qv,qO,reduceIte,reduceCtorEq,YJ,qx,qU,qX,uf]<;>rfl)
theorem yV.own (a0 r:List GRaw)(h:yV a0=some r):ACalls qh 135 [.ds true (qe encGRaw a0) (qc a0) false] [] (fun r' σ'=>r'=.os true 4 0 0 0 (qc r) false∧σ'=[.cells 0 (qe encGRaw r)]):=by
 obtain⟨_u,hu,h⟩:=bind_some h;have gu:=yi hu;cases h
 have f1:=fun nl tt σ=>xO E28.len a0 nl tt σ
 have f2:=zr E28.len a0;have f3:=Zs encGRaw a0;refine vcq (rs:=[.tmp 2]) tok Tryz.func135 rfl Tryz.ntmps135 rfl Tryz.call135 (by simp) ?_;refine zk [(0,.ds true (qe encGRaw a0) (qc a0) false)] ⟨rfl,trivial⟩ ?_;refine rgN [0] ?_
 refine za fun Z1 hZ1=>?_
 refine rc [0,4] fun K hK=>?_
 refine rnN 1 ?_
 refine vaO tok rfl rfl rfl rfl rfl rfl fun b hnil=>?_
 have hb:b=true→a0=[]:=fun hb=>by
  have:=hnil hb;simp only[yl,go_sem,reduceCtorEq] at this;exact u4 this
 clear hnil
 refine nkN hK ?_;cases b
 · refine zn rfl ?_;apply zd;apply hZ1
   refine rg tok [2] fun K hK=>?_
   by_cases h0:qc a0=0
   · obtain rfl:=u4 h0;simp only[go_sem,qb,qa,qd,reduceCtorEq,zD,zY,qS,uq,zX,zI,yl,yh,un,ql,uG,ub];apply hK
     apply yH;simp only[ZQ,y5,xj,xX,exists_eq_left',go_sem];refine .inl ⟨0,true,by simp,?_,?_⟩
     · first|rfl|(simp only[go_sem,qb,qf,qa,qd,qv,qO,reduceIte,reduceCtorEq,Zi,wA,if_true]<;>rfl)
     first|rfl|(simp only[go_sem,qb,qf,qa,qd,qv,qO,reduceIte,reduceCtorEq,YQ,vbJ,Yt,YS,YR,qx]<;>rfl)
   have h1:=eq_false h0;simp only[go_sem,qb,qa,qd,reduceCtorEq,zD,zY,qS,uq,zX,zI,yl,f1,f3,h1,gu,yK,qx,qw,uG];apply hK
   apply yH;simp only[ZQ,y5,xj,xX,exists_eq_left',go_sem,qd];refine .inl ⟨1,false,by simp,?_,?_⟩
   · first|rfl|(simp only[go_sem,qb,qf,qa,qd,qv,qO,reduceIte,reduceCtorEq,Zi,wA,if_true]<;>rfl)
   first|rfl|(simp only[go_sem,YQ,Yt,YS,YR,zZ]<;>rfl)
 obtain rfl:=hb rfl;refine zp rfl ?_;refine rgN [2] ?_;apply yH;simp only[ZQ,y5,xj,xX,exists_eq_left',go_sem];refine .inr ?_
 first|rfl|(simp only[go_sem,qb,qf,qa,qd,qv,qO,reduceIte,reduceCtorEq,YJ,qx,qU,ud,qE,q7]<;>rfl)
theorem yV.ev (a0 r:List GRaw)(h:yV a0=some r)(σ:Store):ACalls qh 135 [.ds true (qe encGRaw a0) (qc a0) false] σ (fun r' σ'=>r'=.ds true (qe encGRaw r) (qc r) false∧σ'=σ):=
 (yV.ok a0 r h).pureAt (by simp only[AV.canon,canonL,canon_all,qP,qE,Bool.true_or]) (by simp only[AV.canon,canon_all,qP,qE,Bool.true_or]) σ
def zL.l35 (yz:GTree→Option GValueValue)(l14:List GValueEntry)(x16:Int)(rec20:List GValueEntry→Int→Option GValueValue)(y25:GEntry):List GTree→Int→List GValueValue→Option GValueValue
 |[],x31,l29=>(Yk (qc l14+1) 32).bind fun _u37=>(rec20 (l14++[(⟨y25.fTag,l29⟩:GValueEntry)]) (IntKind.i64.wrap (x16+1)))
 |y35::q35,x31,l29=>(yz y35).bind fun r43=>(Yk (qc l29+1) 16).bind fun _u45=>((zL.l35 yz l14 x16 rec20 y25 q35) (x31+1) (l29++[r43]))
def zL.l20 (yz:GTree→Option GValueValue)(a0:GTree)(r12:List GRaw):Nat→List GValueEntry→Int→Option GValueValue
 |0,_,_=>none
 |k20+1,l14,x16=>(if x16<(qc a0.fEntries:Int) then (Zt a0.fEntries x16).bind fun y25=>(zL.l35 yz l14 x16 (zL.l20 yz a0 r12 k20) y25 y25.fTrees 0 ([]:List GValueValue)) else some (GValueValue.node l14 r12))
def zL.l62 (yz:GTree→Option GValueValue)(a0:GTree)(r12:List GRaw)(y52:GEntry):List GTree→Int→List GValueValue→Option GValueValue
 |[],x58,l56=>(zL.l20 yz a0 r12 rounds [(⟨y52.fTag,l56⟩:GValueEntry)] (IntKind.i64.wrap (0+1)))
 |y62::q62,x58,l56=>(yz y62).bind fun r68=>(Yk (qc l56+1) 16).bind fun _u70=>((zL.l62 yz a0 r12 y52 q62) (x58+1) (l56++[r68]))
def zL.body (yz:GTree→Option GValueValue)(a0:GTree):Option GValueValue:=
 (if a0.fKind=1 then bnd (Ye a0.fN) fun r4=>some r4 else (if a0.fKind=2 then bnd (Yd a0.fS) fun r9=>some r9 else (yV a0.fRest).bind fun r12=>(if 0<(qc a0.fEntries:Int) then (Zt a0.fEntries 0).bind fun y52=>(zL.l62 yz a0 r12 y52 y52.fTrees 0 ([]:List GValueValue)) else some (GValueValue.node ([]:List GValueEntry) r12))))
theorem zL.step (yz:GTree→Option GValueValue)(ih_value_made:∀ (a0:GTree) (r:GValueValue),yz a0=some r→ACalls qh 97 [.agg (cellsGTree a0)] [] (fun r' _=>r'=.agg (encGValueValue r)))(a0:GTree)(r:GValueValue)(h:zL.body yz a0=some r):ACalls qh 97 [.agg (cellsGTree a0)] [] (fun r' _=>r'=.agg (encGValueValue r)):=by
 have ev_value_made:=fun a0 r h σ=>(ih_value_made a0 r h).c σ
 refine zf (rs:=[.cell 2 110]) tok Tryz.func97 rfl Tryz.ntmps97 rfl Tryz.call97 (by simp) ?_;refine zk [(0,.agg (cellsGTree a0))] ⟨rfl,trivial⟩ ?_;unfold zL.body at h
 refine rg tok [1,2] fun K hK=>?_
 simp only[go_sem,qb,qa,qd,reduceCtorEq,cellsGTree];apply hK
 refine za fun Z1 hZ1=>?_
 refine rgN [1,2,10] ?_;apply ze;refine rgN [1,2,10,11] ?_;refine zo rfl (fun hc2=>?_) (fun hc2=>?_)
 · rw[if_pos hc2] at h;have t3:=eq_true hc2
   refine rc [2] fun K hK=>?_
   obtain⟨r4,hr4,h⟩:=zO h;refine zi tok 2 ?_;simp only[go_sem,qb,qa,qd,t3];refine clN rfl rfl rfl (Ye.ev a0.fN r4 hr4 _) ?_;have f5:=ZT r4;unfold AV.one at f5;refine zi tok 1 ?_;simp only[go_sem,qf,qa,encGValueValue,f5];refine nkN hK ?_;cases h;exact rtA
 rw[if_neg hc2] at h;have t6:=eq_false hc2
 refine rg tok [1,2,16] fun K hK=>?_
 simp only[go_sem,qb,qa,t6];apply hK
 refine zo rfl (fun hc7=>?_) (fun hc7=>?_)
 · rw[if_pos hc7] at h;have t8:=eq_true hc7
   refine rc [2] fun K hK=>?_
   obtain⟨r9,hr9,h⟩:=zO h;refine zi tok 2 ?_;simp only[go_sem,qb,qa,qd,t8];refine clN rfl rfl rfl (Yd.ev a0.fS r9 hr9 _) ?_;have f10:=ZT r9;unfold AV.one at f10;refine zi tok 1 ?_;simp only[go_sem,qf,qa,encGValueValue,f10];refine nkN hK ?_;cases h;exact rtA
 rw[if_neg hc7] at h;have t11:=eq_false hc7;apply zd;apply hZ1
 refine rc [1,2,3] fun K hK=>?_
 obtain⟨r12,hr12,h⟩:=bind_some h;refine zi tok 2 ?_;simp only[go_sem,qb,qa,qd,t11];refine clN rfl rfl rfl (yV.ev a0.fRest r12 hr12 _) ?_;refine rnN 3 ?_;refine nkN hK ?_
 refine za fun Z13 hZ13=>?_
 refine rgN [2,3,27,28,29] ?_;apply ze;refine awp_loopS1 (fun m L τ=>∃ (k20:Nat) (l14:List GValueEntry) (x16:Int) (v15:Nat),m=0+k20∧L=[(2,.op 0 0 0),(3,.op 1 0 0),(27,.ds true (qe encGEntry a0.fEntries) (qc a0.fEntries) false),(28,.int .i64 (qc a0.fEntries:Int)),(29,.int .i64 x16)]∧τ=[.cells 0 [.nilI],.cells 0 [.os true 2 2 v15 0 (qc l14) false,.ds true (qe encGRaw r12) (qc r12) false],.cells v15 (qe encGValueEntry l14)]∧zL.l20 yz a0 r12 k20 l14 x16=some r) (rounds+1) ?_ ?_
 · refine rgN [2,3,27,28,29,30] ?_
   refine za fun Z48 hZ48=>?_
   refine zo rfl (fun hc49=>?_) (fun hc49=>?_)
   · rw[if_pos hc49] at h;have t50:=eq_true hc49;apply zd;apply hZ48
     refine za fun Z51 hZ51=>?_
     apply ze;obtain⟨y52,hy52,h⟩:=bind_some h;have f53:=E27.idxS hy52;have f54:=E27.loadS rfl rfl hy52
     refine rg tok [2,3,5,27,28,29] fun K hK=>?_
     simp only[go_sem,qb,qf,qa,qd,cellsGEntry,z6,t50,f53,f54];apply hK
     refine rgN [2,3,5,6,27,28,29] ?_;refine Zo 4 1 1 rfl (by simp) rfl (L:=[(2,.op 1 0 0),(3,.op 2 0 0),(5,.op 3 0 0),(6,.op 4 0 0),(27,.ds true (qe encGEntry a0.fEntries) (qc a0.fEntries) false),(28,.int .i64 (qc a0.fEntries:Int)),(29,.int .i64 0)]) (τ:=[.cells 0 (cellsGTree a0),.cells 0 [.nilI],.cells 0 [.ds true [] 0 true,.ds true (qe encGRaw r12) (qc r12) false],.cells 0 (cellsGEntry y52),.cells 0 [.int .i64 y52.fTag,.os true 1 5 0 0 (qc ([]:List GValueValue)) false],.cells 0 (qe encGValueValue ([]:List GValueValue))]) .s ?_
     refine za fun Z55 hZ55=>?_
     refine rgN [2,3,6,27,28,29,37,38,39] ?_;apply ze
     refine yZ 37 fun hb62=>?_
     replace hb62:qc y52.fTrees≤9223372036854775807:=hb62.1;refine zq (fun m L τ=>∃ (p62 q62:List GTree) (x58:Int) (l56:List GValueValue) (v57:Nat),m=qc q62∧L=[(2,.op 0 0 0),(3,.op 1 0 0),(6,.op 2 0 0),(27,.ds true (qe encGEntry a0.fEntries) (qc a0.fEntries) false),(28,.int .i64 (qc a0.fEntries:Int)),(29,.int .i64 0),(37,.ds true (qe encGTree y52.fTrees) (qc y52.fTrees) false),(38,.int .i64 (qc y52.fTrees:Int)),(39,.int .i64 x58)]∧τ=[.cells 0 [.nilI],.cells 0 [.ds true [] 0 true,.ds true (qe encGRaw r12) (qc r12) false],.cells 0 [.int .i64 y52.fTag,.os true 1 3 v57 0 (qc l56) false],.cells v57 (qe encGValueValue l56)]∧y52.fTrees=p62++q62∧x58=(qc p62:Int)∧zL.l62 yz a0 r12 y52 q62 x58 l56=some r) _ ⟨[],y52.fTrees,0,([]:List GValueValue),0,rfl,rfl,rfl,rfl,rfl,h⟩ (.t [1,2,4,5] false) ?_;rintro m L τ ⟨p62,q62,x58,l56,v57,rfl,rfl,rfl,hE62,hi62,h⟩
     rcases q62 with _|⟨y62,q62⟩
     · have hz62:=yr hE62 hi62;simp only[zL.l62] at h
       refine rg tok [2,3,6,27,28,29,37,38,39,40] fun K hK=>?_
       simp only[go_sem,qb,qa,hz62];apply hK
       refine za fun Z63 hZ63=>?_
       refine zn rfl ?_;apply zv;apply hZ55
       refine rdE [2,3,27,28,29] fun K hK=>?_
       refine DW.start (T:=tab) [.any,.any,.any,.any,.own 1 [],.at [],.eff,.eff,.any,.any,.eff] [(1,[])] ?_;refine DW.runN tok 8 ?_;simp only[go_sem,qb,qf,qa,qd,qv,reduceCtorEq,zD,zY,qZ,qS,true_and,q9,zX,zI,yl,yK,ub,qV,AV.one,qP,qw,qj,ql,qs,qD];refine DW.runN tok 3 ?_;simp only[go_sem,qb,qf,qa,qd,qj,ql,qs];refine DW.fin tok (by decide +kernel) rfl ?_;simp only[zj,upd,qa,reduceIte,yq,y0];apply hK
       apply hZ51
       refine rgE tok [2,3,27,28,29] fun K hK=>?_
       simp only[go_sem,qb,qa];apply hK
       exact⟨_,_,_,(Nat.lt_succ_of_le (Nat.le_of_eq (qs rounds))),⟨rounds,[(⟨y52.fTag,l56⟩:GValueEntry)],IntKind.i64.wrap (0+1),0,rfl,rfl,rfl,h⟩,(.t [0,1,5] false)⟩
     obtain⟨hz62,hw62,hx62,hE'62,hi'62⟩:=zW hE62 hi62 hb62;simp only[zL.l62] at h
     refine rg tok [2,3,6,27,28,29,37,38,39,40] fun K hK=>?_
     simp only[go_sem,qb,qa,hz62];apply hK
     refine za fun Z64 hZ64=>?_
     refine zp rfl ?_;apply zd;apply hZ64
     refine za fun Z65 hZ65=>?_
     apply ze;have f66:=E90.idxS hx62;have f67:=E90.loadS rfl rfl hx62
     refine rg tok [2,3,6,8,27,28,29,37,38,39] fun K hK=>?_
     simp only[go_sem,qb,qf,qa,qd,cellsGTree,xh,f66,f67];apply hK
     obtain⟨r68,hr68,h⟩:=bind_some h;have f69:=ZT r68;unfold AV.one at f69;obtain⟨_u70,hu70,h⟩:=bind_some h;have gu70:=yi hu70;have f71:=(zr E156.len l56)
     refine rdE [2,3,6,27,28,29,37,38,39] fun K hK=>?_
     refine DW.start (T:=tab) [.any,.own 2 [],.at [],.eff,.eff,.eff,.any,.eff] [(2,[])] ?_;refine DW.runN tok 3 ?_;simp only[go_sem,qb,qf,qa,qd,encGValueValue,qj,ql,qs];refine DW.call rfl rfl rfl (ev_value_made y62 r68 hr68 _) ?_;refine DW.runN tok 4 ?_;simp only[go_sem,qb,qf,qa,qd,qv,zD,zY,qZ,qS,true_and,q9,zX,zI,yl,encGValueValue,f69,gu70,f71,yK,ub,qV,AV.one,qP,qw,qj,ql,qs,qD];refine DW.fin tok (by decide +kernel) rfl ?_;simp only[zj,upd,qa,reduceIte,yq,y0];apply hK
     apply hZ65
     refine rgE tok [2,3,6,27,28,29,37,38,39] fun K hK=>?_
     simp only[go_sem,qb,qa,hw62];apply hK
     exact⟨_,_,_,qr q62.length,⟨p62++[y62],q62,x58+1,l56++[r68],v57+1,rfl,rfl,rfl,hE'62,hi'62,h⟩,(.t [0,1,2,3] false)⟩
   rw[if_neg hc49] at h;have t72:=eq_false hc49;apply zv;apply hZ13
   refine rg tok [2] fun K hK=>?_
   simp only[go_sem,qb,qf,qa,t72];apply hK
   cases h;exact rtA
 clear h
 rintro m L τ ⟨k20,l14,x16,v15,rfl,rfl,rfl,h⟩
 rcases k20 with _|k20
 · cases h
 simp only[zL.l20] at h;refine rgN [2,3,27,28,29,30] ?_
 refine za fun Z21 hZ21=>?_
 refine zo rfl (fun hc22=>?_) (fun hc22=>?_)
 · rw[if_pos hc22] at h;have t23:=eq_true hc22;apply zd;apply hZ21
   refine za fun Z24 hZ24=>?_
   apply ze;obtain⟨y25,hy25,h⟩:=bind_some h;have f26:=E27.idxS hy25;have f27:=E27.loadS rfl rfl hy25
   refine rg tok [2,3,5,27,28,29] fun K hK=>?_
   simp only[go_sem,qb,qf,qa,qd,cellsGEntry,z6,t23,f26,f27];apply hK
   refine rgN [2,3,5,6,27,28,29] ?_;refine Zo 4 1 1 rfl (by simp) rfl (L:=[(2,.op 0 0 0),(3,.op 1 0 0),(5,.op 3 0 0),(6,.op 4 0 0),(27,.ds true (qe encGEntry a0.fEntries) (qc a0.fEntries) false),(28,.int .i64 (qc a0.fEntries:Int)),(29,.int .i64 x16)]) (τ:=[.cells 0 [.nilI],.cells 0 [.os true 2 2 v15 0 (qc l14) false,.ds true (qe encGRaw r12) (qc r12) false],.cells v15 (qe encGValueEntry l14),.cells 0 (cellsGEntry y25),.cells 0 [.int .i64 y25.fTag,.os true 1 5 0 0 (qc ([]:List GValueValue)) false],.cells 0 (qe encGValueValue ([]:List GValueValue))]) .s ?_
   refine za fun Z28 hZ28=>?_
   refine rgN [2,3,6,27,28,29,37,38,39] ?_;apply ze
   refine yZ 37 fun hb35=>?_
   replace hb35:qc y25.fTrees≤9223372036854775807:=hb35.1;refine zq (fun m L τ=>∃ (p35 q35:List GTree) (x31:Int) (l29:List GValueValue) (v30:Nat),m=qc q35∧L=[(2,.op 0 0 0),(3,.op 1 0 0),(6,.op 3 0 0),(27,.ds true (qe encGEntry a0.fEntries) (qc a0.fEntries) false),(28,.int .i64 (qc a0.fEntries:Int)),(29,.int .i64 x16),(37,.ds true (qe encGTree y25.fTrees) (qc y25.fTrees) false),(38,.int .i64 (qc y25.fTrees:Int)),(39,.int .i64 x31)]∧τ=[.cells 0 [.nilI],.cells 0 [.os true 2 2 v15 0 (qc l14) false,.ds true (qe encGRaw r12) (qc r12) false],.cells v15 (qe encGValueEntry l14),.cells 0 [.int .i64 y25.fTag,.os true 1 4 v30 0 (qc l29) false],.cells v30 (qe encGValueValue l29)]∧y25.fTrees=p35++q35∧x31=(qc p35:Int)∧zL.l35 yz l14 x16 (zL.l20 yz a0 r12 k20) y25 q35 x31 l29=some r) _ ⟨[],y25.fTrees,0,([]:List GValueValue),0,rfl,rfl,rfl,rfl,rfl,h⟩ (.t [0,1,2,4,5] false) ?_;rintro m L τ ⟨p35,q35,x31,l29,v30,rfl,rfl,rfl,hE35,hi35,h⟩
   rcases q35 with _|⟨y35,q35⟩
   · have hz35:=yr hE35 hi35;simp only[zL.l35] at h
     refine rg tok [2,3,6,27,28,29,37,38,39,40] fun K hK=>?_
     simp only[go_sem,qb,qa,hz35];apply hK
     refine za fun Z36 hZ36=>?_
     refine zn rfl ?_;apply zv;apply hZ28;obtain⟨_u37,hu37,h⟩:=bind_some h;have gu37:=yi hu37;have f38:=(zr E190.len l14)
     refine rdE [2,3,27,28,29] fun K hK=>?_
     refine DW.start (T:=tab) [.any,.any,.any,.any,.own 1 [],.at [],.eff,.eff,.any,.any,.eff] [(1,[])] ?_;refine DW.runN tok 8 ?_;simp only[go_sem,qb,qf,qa,qd,qv,zD,zY,qZ,qS,true_and,q9,zX,zI,yl,gu37,f38,yK,ub,qV,AV.one,qP,qw,qj,ql,qs,qD];refine DW.runN tok 3 ?_;simp only[go_sem,qb,qf,qa,qd,qj,ql,qs];refine DW.fin tok (by decide +kernel) rfl ?_;simp only[zj,upd,qa,reduceIte,yq,y0];apply hK
     apply hZ24
     refine rgE tok [2,3,27,28,29] fun K hK=>?_
     simp only[go_sem,qb,qa];apply hK
     exact⟨_,_,_,qr (0+k20),⟨k20,l14++[(⟨y25.fTag,l29⟩:GValueEntry)],IntKind.i64.wrap (x16+1),v15+1,rfl,rfl,rfl,h⟩,(.t [0,1,2] false)⟩
   obtain⟨hz35,hw35,hx35,hE'35,hi'35⟩:=zW hE35 hi35 hb35;simp only[zL.l35] at h
   refine rg tok [2,3,6,27,28,29,37,38,39,40] fun K hK=>?_
   simp only[go_sem,qb,qa,hz35];apply hK
   refine za fun Z39 hZ39=>?_
   refine zp rfl ?_;apply zd;apply hZ39
   refine za fun Z40 hZ40=>?_
   apply ze;have f41:=E90.idxS hx35;have f42:=E90.loadS rfl rfl hx35
   refine rg tok [2,3,6,8,27,28,29,37,38,39] fun K hK=>?_
   simp only[go_sem,qb,qf,qa,qd,cellsGTree,xh,f41,f42];apply hK
   obtain⟨r43,hr43,h⟩:=bind_some h;have f44:=ZT r43;unfold AV.one at f44;obtain⟨_u45,hu45,h⟩:=bind_some h;have gu45:=yi hu45;have f46:=(zr E156.len l29)
   refine rdE [2,3,6,27,28,29,37,38,39] fun K hK=>?_
   refine DW.start (T:=tab) [.any,.own 2 [],.at [],.eff,.eff,.eff,.any,.eff] [(2,[])] ?_;refine DW.runN tok 3 ?_;simp only[go_sem,qb,qf,qa,qd,encGValueValue,qj,ql,qs];refine DW.call rfl rfl rfl (ev_value_made y35 r43 hr43 _) ?_;refine DW.runN tok 4 ?_;simp only[go_sem,qb,qf,qa,qd,qv,zD,zY,qZ,qS,true_and,q9,zX,zI,yl,encGValueValue,f44,gu45,f46,yK,ub,qV,AV.one,qP,qw,qj,ql,qs,qD];refine DW.fin tok (by decide +kernel) rfl ?_;simp only[zj,upd,qa,reduceIte,yq,y0];apply hK
   apply hZ40
   refine rgE tok [2,3,6,27,28,29,37,38,39] fun K hK=>?_
   simp only[go_sem,qb,qa,hw35];apply hK
   exact⟨_,_,_,qr q35.length,⟨p35++[y35],q35,x31+1,l29++[r43],v30+1,rfl,rfl,rfl,hE'35,hi'35,h⟩,(.t [0,1,2,3,4] false)⟩
 rw[if_neg hc22] at h;have t47:=eq_false hc22;apply zv;apply hZ13
 refine rg tok [2] fun K hK=>?_
 simp only[go_sem,qb,qf,qa,t47];apply hK
 cases h;exact rtA
def zL : Nat→GTree→Option GValueValue
 |0,_=>none
 |k+1,a0=>zL.body (zL k) a0
theorem zL.all (k:Nat):(∀ (a0:GTree) (r:GValueValue),zL k a0=some r→ACalls qh 97 [.agg (cellsGTree a0)] [] (fun r' _=>r'=.agg (encGValueValue r))):=by
 induction k with
 |zero=>exact (fun a0 r h=>by simp only[zL] at h; cases h)
 |succ k ih=>exact (fun a0 r h=>zL.step _ ih a0 r (by simpa only [zL] using h))
theorem zL.ev (k:Nat)(a0:GTree)(r:GValueValue)(h:zL k a0=some r)(σ:Store):ACalls qh 97 [.agg (cellsGTree a0)] σ (fun r' σ'=>r'=.agg (encGValueValue r)∧σ'=σ):=
 ((zL.all k) a0 r h).c σ
def Yb (a0:GTree):Option (GValueValue×Bool):=
 (wK a0).bind fun r2=>(if (!r2)=true then some (GValueValue.nil,false) else (zL rounds a0).bind fun r4=>some (r4,true))
theorem Yb.ok (a0:GTree)(r:GValueValue×Bool)(h:Yb a0=some r):ACalls qh 57 [.agg (cellsGTree a0)] [] (fun r' _=>r'=.tup [.agg (encGValueValue r.1),.bool r.2]):=by
 refine zf (rs:=[.cell 2 110,.tmp 3]) tok Tryz.func57 rfl Tryz.ntmps57 rfl Tryz.call57 (by simp) ?_;refine zk [(0,.agg (cellsGTree a0))] ⟨rfl,trivial⟩ ?_;unfold Yb at h
 refine rg tok [1,2] fun K hK=>?_
 simp only[go_sem,qb,qa,qd,reduceCtorEq,cellsGTree];apply hK
 refine za fun Z1 hZ1=>?_
 refine rc [1,2,6] fun K hK=>?_
 obtain⟨r2,hr2,h⟩:=bind_some h;refine rnN 1 ?_;refine clN rfl rfl rfl (wK.ev a0 r2 hr2 _) ?_;refine rnN 1 ?_;refine nkN hK ?_;refine zm (b:=(!r2)) rfl (fun hc3=>?_) (fun hc3=>?_)
 · rw[if_pos hc3] at h;refine rgN [2,3] ?_;cases h;exact rtA
 rw[xS hc3] at h;apply zd;apply hZ1
 refine rc [2,3] fun K hK=>?_
 obtain⟨r4,hr4,h⟩:=bind_some h;refine rnN 1 ?_;refine clN rfl rfl rfl (zL.ev rounds a0 r4 hr4 _) ?_;have f5:=ZT r4;unfold AV.one at f5;refine zi tok 2 ?_;simp only[go_sem,qb,qf,qa,encGValueValue,f5];refine nkN hK ?_;cases h;exact rtA
theorem Yb.ev (a0:GTree)(r:GValueValue×Bool)(h:Yb a0=some r)(σ:Store):ACalls qh 57 [.agg (cellsGTree a0)] σ (fun r' σ'=>r'=.tup [.agg (encGValueValue r.1),.bool r.2]∧σ'=σ):=
 (Yb.ok a0 r h).c σ
def yI (a0:GValueValue):Option GValueNode:=
 (match a0 with|.nil=>none|.num n2=>none|.str s2=>none|.node e2 r2=>some (⟨e2,r2⟩:GValueNode))
theorem yI.ok (a0:GValueValue)(r:GValueNode)(h:yI a0=some r):ACalls qh 59 [.agg (encGValueValue a0)] [] (fun r' _=>r'=.dp (encGValueNode r) 0):=by
 refine zf (rs:=[.tmp 2]) tok Tryz.func59 rfl Tryz.ntmps59 rfl Tryz.call59 (by simp) ?_;refine zk [(0,.agg (encGValueValue a0))] ⟨rfl,trivial⟩ ?_;unfold yI at h;have f1:=ZT a0;unfold AV.one at f1
 refine rg tok [1] fun K hK=>?_
 simp only[go_sem,qb,qa,reduceCtorEq,encGValueValue,f1];apply hK
 rcases a0 with _|n2|s2|⟨e2,r2⟩
 · dsimp only at h
   try simp only[vbv]
   cases h
 · dsimp only at h
   try simp only[vbu]
   cases h
 · dsimp only at h
   try simp only[vbt]
   cases h
 dsimp only at h
 try simp only[XN]
 refine rg tok [2] fun K hK=>?_
 simp only[go_sem,qb,qa,wd,wj,TypeDesc.isIface];apply hK
 cases h;exact rtA
theorem yI.ev (a0:GValueValue)(r:GValueNode)(h:yI a0=some r)(σ:Store):ACalls qh 59 [.agg (encGValueValue a0)] σ (fun r' σ'=>r'=.dp (encGValueNode r) 0∧σ'=σ):=
 (yI.ok a0 r h).c σ
def wQ (a0:GValueNode):Option (List GRaw):=
 (yV a0.frest).bind fun r1=>some r1
theorem wQ.own (a0:GValueNode)(r:List GRaw)(h:wQ a0=some r):ACalls qh 98 [.dp (encGValueNode a0) 0] [] (fun r' σ'=>r'=.os true 4 0 0 0 (qc r) false∧σ'=[.cells 0 (qe encGRaw r)]):=by
 refine ACalls.own0 (by simp only[push_cast]) ?_;refine ZX (rs:=[.tmp 2]) tok Tryz.func98 rfl Tryz.ntmps98 rfl Tryz.call98 (by simp) ?_;refine zk [(0,.dp (encGValueNode a0) 0)] ⟨rfl,trivial⟩ ?_;unfold wQ at h;refine rgN [0] ?_
 refine rc [2] fun K hK=>?_
 obtain⟨r1,hr1,h⟩:=bind_some h;refine zi tok 4 ?_;simp only[go_sem,qb,qa,qd,reduceCtorEq,encGValueNode,vax];refine clN rfl rfl rfl (@id (ACalls qh 135 [.ds true (qe encGRaw a0.frest) (qc a0.frest) false] [] (fun r' σ'=>r'=.os true 4 0 0 0 (qc r1) false∧σ'=[.cells 0 (qe encGRaw r1)])) ((yV.own a0.frest r1 hr1).ownAt0 (by simp only[push_cast]) (by simp only[push_cast]) _)) ?_;refine rnN 1 ?_;refine nkN hK ?_;apply yH;cases h;simp only[ZQ,y5,xj,xX,exists_eq_left',go_sem];refine⟨0,0,by simp,?_,?_⟩
 · first|rfl|(simp only[go_sem,qb,qf,qa,qd,qv,qO,reduceIte,reduceCtorEq,push_cast,if_true,qI,qs,qJ,qx,qK,qU,ud,q7,uf,qX,qE,zZ,encGRaw]<;>rfl)
 first|rfl|(simp only[go_sem,push_cast,qx,zZ]<;>rfl)
def yd.l8 : List GValueEntry→Int→List Int→Option (List Int)
 |[],x4,l2=>some l2
 |y8::q8,x4,l2=>(Yk (qc l2+1) 8).bind fun _u14=>((yd.l8 q8) (x4+1) (l2++[y8.ftag]))
def yd (a0:GValueNode):Option (List Int):=
 (yd.l8 a0.fentries 0 ([]:List Int))
theorem yd.own (a0:GValueNode)(r:List Int)(h:yd a0=some r):ACalls qh 99 [.dp (encGValueNode a0) 0] [] (fun r' σ'=>r'=.os true 1 0 0 0 (qc r) false∧σ'=[.cells 0 (qe encI r)]):=by
 refine ACalls.own0 (by simp only[push_cast]) ?_;refine ZX (rs:=[.tmp 2]) tok Tryz.func99 rfl Tryz.ntmps99 rfl Tryz.call99 (by simp) ?_;refine zk [(0,.dp (encGValueNode a0) 0)] ⟨rfl,trivial⟩ ?_;unfold yd at h;refine rgN [0] ?_;refine rgN [0,3] ?_;refine wV 3 1 rfl ?_;refine zR (L:=[(0,.dp (encGValueNode a0) 0),(3,.os true 1 0 0 0 (qc ([]:List Int)) false)]) (τ:=[.cells 0 (qe encI ([]:List Int))]) .s ?_
 refine za fun Z1 hZ1=>?_
 refine rg tok [3,9,10,11] fun K hK=>?_
 simp only[go_sem,qb,qa,qd,reduceCtorEq,encGValueNode,vax];apply hK
 apply ze
 refine yZ 9 fun hb8=>?_
 replace hb8:qc a0.fentries≤9223372036854775807:=hb8.1;refine zq (fun m L τ=>∃ (p8 q8:List GValueEntry) (x4:Int) (l2:List Int) (v3:Nat),m=qc q8∧L=[(3,.os true 1 0 v3 0 (qc l2) false),(9,.ds true (qe encGValueEntry a0.fentries) (qc a0.fentries) false),(10,.int .i64 (qc a0.fentries:Int)),(11,.int .i64 x4)]∧τ=[.cells v3 (qe encI l2)]∧a0.fentries=p8++q8∧x4=(qc p8:Int)∧yd.l8 q8 x4 l2=some r) _ ⟨[],a0.fentries,0,([]:List Int),0,rfl,rfl,rfl,rfl,rfl,h⟩ .s ?_;rintro m L τ ⟨p8,q8,x4,l2,v3,rfl,rfl,rfl,hE8,hi8,h⟩
 rcases q8 with _|⟨y8,q8⟩
 · have hz8:=yr hE8 hi8;simp only[yd.l8] at h
   refine rg tok [3,9,10,11,12] fun K hK=>?_
   simp only[go_sem,qb,qa,hz8];apply hK
   refine za fun Z9 hZ9=>?_
   refine zn rfl ?_;apply zv;apply hZ1;refine rgN [2] ?_;apply yH;cases h;simp only[ZQ,y5,xj,xX,exists_eq_left',go_sem];refine⟨0,v3,by simp,?_,?_⟩
   · first|rfl|(simp only[go_sem,qb,qf,qa,qd,qv,qO,reduceIte,reduceCtorEq,push_cast,if_true,qI,qs,qJ,qx,qK,qU,ud,q7,uf,qX,qE,zZ]<;>rfl)
   first|rfl|(simp only[go_sem,push_cast,qx,zZ]<;>rfl)
 obtain⟨hz8,hw8,hx8,hE'8,hi'8⟩:=zW hE8 hi8 hb8;simp only[yd.l8] at h
 refine rg tok [3,9,10,11,12] fun K hK=>?_
 simp only[go_sem,qb,qa,hz8];apply hK
 refine za fun Z10 hZ10=>?_
 refine zp rfl ?_;apply zd;apply hZ10
 refine za fun Z11 hZ11=>?_
 apply ze;have f12:=E190.idxS hx8;have f13:=E190.loadS rfl rfl hx8
 refine rg tok [3,5,9,10,11] fun K hK=>?_
 simp only[go_sem,qb,qf,qa,qd,cellsGValueEntry,wa,f12,f13];apply hK
 obtain⟨_u14,hu14,h⟩:=bind_some h;have gu14:=yi hu14;have f15:=(zr E45.len l2)
 refine rgE tok [3,9,10,11] fun K hK=>?_
 simp only[go_sem,qb,qf,qa,qd,qv,zD,zY,qZ,qS,true_and,q9,zX,zI,yl,gu14,f15,yK,ub,qV,AV.one,qP,qw,qj,ql,qs,qD];apply hK
 apply hZ11
 refine rgE tok [3,9,10,11] fun K hK=>?_
 simp only[go_sem,qb,qa,hw8];apply hK
 exact⟨_,_,_,qr q8.length,⟨p8++[y8],q8,x4+1,l2++[y8.ftag],v3+1,rfl,rfl,rfl,hE'8,hi'8,h⟩,(.t [0] false)⟩
end
section
set_option maxRecDepth 4000
set_option maxHeartbeats 1000000
open AM
theorem yd.ok (a0:GValueNode)(r:List Int)(h:yd a0=some r):ACalls qh 99 [.dp (encGValueNode a0) 0] [] (fun r' _=>r'=.ds true (qe encI r) (qc r) false):=
 (yd.own a0 r h).ownData (zr E45.len r) (by simp only[push_cast])
theorem yd.ev (a0:GValueNode)(r:List Int)(h:yd a0=some r)(σ:Store):ACalls qh 99 [.dp (encGValueNode a0) 0] σ (fun r' σ'=>r'=.ds true (qe encI r) (qc r) false∧σ'=σ):=
 (yd.ok a0 r h).c σ
def wB (a0:List GValueValue):Option (List GValueValue):=(Yk (qc a0) 16).bind fun _=>some a0
theorem wB.own (a0 r:List GValueValue)(h:wB a0=some r):ACalls qh 136 [.ds true (qe encGValueValue a0) (qc a0) false] [] (fun r' σ'=>r'=.os true 1 0 0 0 (qc r) false∧σ'=[.cells 0 (qe encGValueValue r)]):=by
 obtain⟨_u,hu,h⟩:=bind_some h;have gu:=yi hu;cases h
 have f1:=fun nl tt σ=>xO E156.len a0 nl tt σ
 have f2:=zr E156.len a0;have f3:=Zs encGValueValue a0;refine vcq (rs:=[.tmp 2]) tok Tryz.func136 rfl Tryz.ntmps136 rfl Tryz.call136 (by simp) ?_;refine zk [(0,.ds true (qe encGValueValue a0) (qc a0) false)] ⟨rfl,trivial⟩ ?_;refine rgN [0] ?_
 refine za fun Z1 hZ1=>?_
 refine rc [0,4] fun K hK=>?_
 refine rnN 1 ?_
 refine vaO tok rfl rfl rfl rfl rfl rfl fun b hnil=>?_
 have hb:b=true→a0=[]:=fun hb=>by
  have:=hnil hb;simp only[yl,go_sem,reduceCtorEq] at this;exact u4 this
 clear hnil
 refine nkN hK ?_;cases b
 · refine zn rfl ?_;apply zd;apply hZ1
   refine rg tok [2] fun K hK=>?_
   by_cases h0:qc a0=0
   · obtain rfl:=u4 h0;simp only[go_sem,qb,qa,reduceCtorEq,zD,zY,qS,uq,zX,zI,yl,yh,un,ql,uG,ub];apply hK
     apply yH;simp only[ZQ,y5,xj,xX,exists_eq_left',go_sem];refine .inl ⟨0,true,by simp,?_,?_⟩
     · first|rfl|(simp only[go_sem,qb,qf,qa,qd,qv,qO,reduceIte,reduceCtorEq,Zi,wA,if_true]<;>rfl)
     first|rfl|(simp only[go_sem,qb,qf,qa,qd,qv,qO,reduceIte,reduceCtorEq,YQ,vbJ,Yt,YS,YR,qx]<;>rfl)
   have h1:=eq_false h0;simp only[go_sem,qb,qa,reduceCtorEq,zD,zY,qS,uq,zX,zI,yl,f1,f3,h1,gu,yK,qx,qw,uG];apply hK
   apply yH;simp only[ZQ,y5,xj,xX,exists_eq_left',go_sem,qd];refine .inl ⟨1,false,by simp,?_,?_⟩
   · first|rfl|(simp only[go_sem,qb,qf,qa,qd,qv,qO,reduceIte,reduceCtorEq,Zi,wA,if_true]<;>rfl)
   first|rfl|(simp only[go_sem,YQ,Yt,YS,YR,zZ]<;>rfl)
 obtain rfl:=hb rfl;refine zp rfl ?_;refine rgN [2] ?_;apply yH;simp only[ZQ,y5,xj,xX,exists_eq_left',go_sem];refine .inr ?_
 first|rfl|(simp only[go_sem,qb,qf,qa,qd,qv,qO,reduceIte,reduceCtorEq,YJ,qx,qU,ud,qE,q7]<;>rfl)
def yA.l4 (a1:Int):List GValueEntry→Int→Option (List GValueValue)
 |[],x2=>some ([]:List GValueValue)
 |y4::q4,x2=>(if y4.ftag=a1 then (wB y4.fl).bind fun r12=>some r12 else ((yA.l4 a1 q4) (x2+1)))
def yA (a0:GValueNode)(a1:Int):Option (List GValueValue):=
 (yA.l4 a1 a0.fentries 0)
theorem yA.ok (a0:GValueNode)(a1:Int)(r:List GValueValue)(h:yA a0 a1=some r):ACalls qh 100 [.dp (encGValueNode a0) 0,.int .i64 a1] [] (fun r' _=>r'=.ds true (qe encGValueValue r) (qc r) false):=by
 refine zf (rs:=[.tmp 4]) tok Tryz.func100 rfl Tryz.ntmps100 rfl Tryz.call100 (by simp) ?_;refine zk [(0,.dp (encGValueNode a0) 0),(1,.int .i64 a1)] ⟨rfl,rfl,trivial⟩ ?_;unfold yA at h;refine rgN [0,1] ?_
 refine za fun Z1 hZ1=>?_
 refine rg tok [1,10,11,12] fun K hK=>?_
 simp only[go_sem,qb,qa,qd,reduceCtorEq,encGValueNode,vax];apply hK
 apply ze
 refine yZ 10 fun hb4=>?_
 replace hb4:qc a0.fentries≤9223372036854775807:=hb4.1;refine zq (fun m L τ=>∃ (p4 q4:List GValueEntry) (x2:Int),m=qc q4∧L=[(1,.int .i64 a1),(10,.ds true (qe encGValueEntry a0.fentries) (qc a0.fentries) false),(11,.int .i64 (qc a0.fentries:Int)),(12,.int .i64 x2)]∧τ=[]∧a0.fentries=p4++q4∧x2=(qc p4:Int)∧yA.l4 a1 q4 x2=some r) _ ⟨[],a0.fentries,0,rfl,rfl,rfl,rfl,rfl,h⟩ .s ?_;rintro m L τ ⟨p4,q4,x2,rfl,rfl,rfl,hE4,hi4,h⟩
 rcases q4 with _|⟨y4,q4⟩
 · have hz4:=yr hE4 hi4;simp only[yA.l4] at h
   refine rg tok [1,10,11,12,13] fun K hK=>?_
   simp only[go_sem,qb,qa,hz4];apply hK
   refine za fun Z5 hZ5=>?_
   refine zn rfl ?_;apply zv;apply hZ1;refine rgN [4] ?_;cases h;exact rtA
 obtain⟨hz4,hw4,hx4,hE'4,hi'4⟩:=zW hE4 hi4 hb4;simp only[yA.l4] at h
 refine rg tok [1,10,11,12,13] fun K hK=>?_
 simp only[go_sem,qb,qa,hz4];apply hK
 refine za fun Z6 hZ6=>?_
 refine zp rfl ?_;apply zd;apply hZ6
 refine za fun Z7 hZ7=>?_
 apply ze;have f8:=E190.idxS hx4;have f9:=E190.loadS rfl rfl hx4
 refine rg tok [1,6,10,11,12] fun K hK=>?_
 simp only[go_sem,qb,qf,qa,qd,cellsGValueEntry,wa,f8,f9];apply hK
 refine rgN [1,6,10,11,12,19] ?_;refine zo rfl (fun hc10=>?_) (fun hc10=>?_)
 · rw[if_pos hc10] at h;have t11:=eq_true hc10
   refine rc [4] fun K hK=>?_
   obtain⟨r12,hr12,h⟩:=bind_some h;refine zi tok 2 ?_;simp only[go_sem,qb,qa,qd,t11];refine clN rfl rfl rfl (@id (ACalls qh 136 [.ds true (qe encGValueValue y4.fl) (qc y4.fl) false] [.cells 0 (cellsGValueEntry y4)] (fun r' σ'=>r'=.os true 1 1 0 0 (qc r12) false∧σ'=[.cells 0 (cellsGValueEntry y4),.cells 0 (qe encGValueValue r12)])) ((wB.own y4.fl r12 hr12).ownAt0 (by simp only[push_cast]) (by simp only[push_cast]) _)) ?_;refine rnN 1 ?_;refine nkN hK ?_;cases h;exact rtA
 rw[if_neg hc10] at h;have t13:=eq_false hc10;apply zd;apply hZ7
 refine rgE tok [1,10,11,12] fun K hK=>?_
 simp only[go_sem,qb,qa,hw4,t13];apply hK
 exact⟨_,_,_,qr q4.length,⟨p4++[y4],q4,x2+1,rfl,rfl,rfl,hE'4,hi'4,h⟩,(.t [] false)⟩
theorem yA.ev (a0:GValueNode)(a1:Int)(r:List GValueValue)(h:yA a0 a1=some r)(σ:Store):ACalls qh 100 [.dp (encGValueNode a0) 0,.int .i64 a1] σ (fun r' σ'=>r'=.ds true (qe encGValueValue r) (qc r) false∧σ'=σ):=
 (yA.ok a0 a1 r h).c σ
def xN (a0:GValueValue):Int×Bool:=
 (match a0 with|.nil=>(0,false)|.num n2=>(n2,true)|.str s2=>(0,false)|.node e2 r2=>(0,false))
theorem xN.ok (a0:GValueValue)(r:Int×Bool)(h:xN a0=r):ACalls qh 155 [.agg (encGValueValue a0)] [] (fun r' _=>r'=.tup [.int .i64 r.1,.bool r.2]):=by
 refine zf (rs:=[.tmp 2,.tmp 3]) tok Tryz.func155 rfl Tryz.ntmps155 rfl Tryz.call155 (by simp) ?_;refine zk [(0,.agg (encGValueValue a0))] ⟨rfl,trivial⟩ ?_;unfold xN at h;have f1:=ZT a0;unfold AV.one at f1
 refine rg tok [1] fun K hK=>?_
 simp only[go_sem,qb,qa,reduceCtorEq,encGValueValue,f1];apply hK
 rcases a0 with _|n2|s2|⟨e2,r2⟩
 · dsimp only at h
   try simp only[vbv]
   refine rg tok [4,5] fun K hK=>?_
   simp only[go_sem,qb,qa,qd,wd,wj,TypeDesc.isIface];apply hK
   refine rgN [2,3] ?_;cases h;exact rtA
 · dsimp only at h
   try simp only[vbu]
   refine rg tok [4,5] fun K hK=>?_
   simp only[go_sem,qb,qa,qd,wd,wj,TypeDesc.isIface];apply hK
   refine rgN [2,3] ?_;cases h;exact rtA
 · dsimp only at h
   try simp only[vbt]
   refine rg tok [4,5] fun K hK=>?_
   simp only[go_sem,qb,qa,qd,wd,wj,TypeDesc.isIface];apply hK
   refine rgN [2,3] ?_;cases h;exact rtA
 dsimp only at h
 try simp only[XN]
 refine rg tok [4,5] fun K hK=>?_
 simp only[go_sem,qb,qa,qd,wd,wj,TypeDesc.isIface];apply hK
 refine rgN [2,3] ?_;cases h;exact rtA
theorem xN.ev (a0:GValueValue)(r:Int×Bool)(h:xN a0=r)(σ:Store):ACalls qh 155 [.agg (encGValueValue a0)] σ (fun r' σ'=>r'=.tup [.int .i64 r.1,.bool r.2]∧σ'=σ):=
 (xN.ok a0 r h).c σ
def xM (a0:GValueValue):List UInt8×Bool:=
 (match a0 with|.nil=>([],false)|.num n2=>([],false)|.str s2=>(s2,true)|.node e2 r2=>([],false))
theorem xM.ok (a0:GValueValue)(r:List UInt8×Bool)(h:xM a0=r):ACalls qh 156 [.agg (encGValueValue a0)] [] (fun r' _=>r'=.tup [.str r.1,.bool r.2]):=by
 refine zf (rs:=[.tmp 2,.tmp 3]) tok Tryz.func156 rfl Tryz.ntmps156 rfl Tryz.call156 (by simp) ?_;refine zk [(0,.agg (encGValueValue a0))] ⟨rfl,trivial⟩ ?_;unfold xM at h;have f1:=ZT a0;unfold AV.one at f1
 refine rg tok [1] fun K hK=>?_
 simp only[go_sem,qb,qa,reduceCtorEq,encGValueValue,f1];apply hK
 rcases a0 with _|n2|s2|⟨e2,r2⟩
 · dsimp only at h
   try simp only[vbv]
   refine rg tok [4,5] fun K hK=>?_
   simp only[go_sem,qb,qa,qd,wd,wj,TypeDesc.isIface];apply hK
   refine rgN [2,3] ?_;cases h;exact rtA
 · dsimp only at h
   try simp only[vbu]
   refine rg tok [4,5] fun K hK=>?_
   simp only[go_sem,qb,qa,qd,wd,wj,TypeDesc.isIface];apply hK
   refine rgN [2,3] ?_;cases h;exact rtA
 · dsimp only at h
   try simp only[vbt]
   refine rg tok [4,5] fun K hK=>?_
   simp only[go_sem,qb,qa,qd,wd,wj,TypeDesc.isIface];apply hK
   refine rgN [2,3] ?_;cases h;exact rtA
 dsimp only at h
 try simp only[XN]
 refine rg tok [4,5] fun K hK=>?_
 simp only[go_sem,qb,qa,qd,wd,wj,TypeDesc.isIface];apply hK
 refine rgN [2,3] ?_;cases h;exact rtA
theorem xM.ev (a0:GValueValue)(r:List UInt8×Bool)(h:xM a0=r)(σ:Store):ACalls qh 156 [.agg (encGValueValue a0)] σ (fun r' σ'=>r'=.tup [.str r.1,.bool r.2]∧σ'=σ):=
 (xM.ok a0 r h).c σ
def wn (a0:GValueValue):Option GValueValue:=
 bnd (xN a0) fun r3=>(if r3.2=true then some (GValueValue.num r3.1) else bnd (xM a0) fun r6=>(if r6.2=true then some (GValueValue.str r6.1) else (yI a0).bind fun r8=>some (GValueValue.node r8.fentries r8.frest)))
theorem wn.ok (a0:GValueValue)(r:GValueValue)(h:wn a0=some r):ACalls qh 137 [.agg (encGValueValue a0)] [] (fun r' _=>r'=anyV r):=by
 refine zf (rs:=[.tmp 2]) tok Tryz.func137 rfl Tryz.ntmps137 rfl Tryz.call137 (by simp) ?_;refine zk [(0,.agg (encGValueValue a0))] ⟨rfl,trivial⟩ ?_;unfold wn at h;have f1:=ZT a0;unfold AV.one at f1
 refine rg tok [1] fun K hK=>?_
 simp only[go_sem,qb,qa,reduceCtorEq,encGValueValue,f1];apply hK
 refine za fun Z2 hZ2=>?_
 refine rc [1,3,4] fun K hK=>?_
 obtain⟨r3,hr3,h⟩:=zO h;refine rnN 1 ?_;refine clN rfl rfl rfl (xN.ev a0 r3 hr3 _) ?_;refine rnN 5 ?_;refine nkN hK ?_;refine rgN [1,3,12] ?_;refine zm (b:=r3.2) rfl (fun hc4=>?_) (fun hc4=>?_)
 · rw[if_pos hc4] at h;refine rgN [2] ?_;cases h;exact rtA
 rw[xS hc4] at h;apply zd;apply hZ2
 refine za fun Z5 hZ5=>?_
 refine rc [1,5,6] fun K hK=>?_
 obtain⟨r6,hr6,h⟩:=zO h;refine rnN 1 ?_;refine clN rfl rfl rfl (xM.ev a0 r6 hr6 _) ?_;refine rnN 5 ?_;refine nkN hK ?_;refine rgN [1,5,20] ?_;refine zm (b:=r6.2) rfl (fun hc7=>?_) (fun hc7=>?_)
 · rw[if_pos hc7] at h;refine rgN [2] ?_;cases h;exact rtA
 rw[xS hc7] at h;apply zd;apply hZ5
 refine rc [2] fun K hK=>?_
 obtain⟨r8,hr8,h⟩:=bind_some h;refine rnN 1 ?_;refine clN rfl rfl rfl (yI.ev a0 r8 hr8 _) ?_;refine rnN 2 ?_;refine nkN hK ?_;cases h;exact rtA
theorem wn.ev (a0:GValueValue)(r:GValueValue)(h:wn a0=some r)(σ:Store):ACalls qh 137 [.agg (encGValueValue a0)] σ (fun r' σ'=>r'=anyV r∧σ'=σ):=
 (wn.ok a0 r h).c σ
def xv.l9 : Nat→List UInt8→Int→Option (List UInt8)
 |0,_,_=>none
 |k9+1,l3,x5=>(if 128≤x5 then (Yk (qc l3+1) 1).bind fun _u14=>((xv.l9 k9) (l3++[q5 (qB (IntKind.u8.wrap ((ur (qy 8 (IntKind.u8.wrap x5) ||| qy 8 128):Nat):Int)))]) (Int.fdiv x5 (2^(min (qB 7) 64)))) else (Yk (qc l3+1) 1).bind fun _u18=>some (l3++[q5 (qB (IntKind.u8.wrap x5))]))
def xv (a0:List UInt8)(a1:Int):Option (List UInt8):=
 (if 128≤a1 then (Yk (qc a0+1) 1).bind fun _u24=>(xv.l9 rounds (a0++[q5 (qB (IntKind.u8.wrap ((ur (qy 8 (IntKind.u8.wrap a1) ||| qy 8 128):Nat):Int)))]) (Int.fdiv a1 (2^(min (qB 7) 64)))) else (Yk (qc a0+1) 1).bind fun _u28=>some (a0++[q5 (qB (IntKind.u8.wrap a1))]))
theorem xv.own (a0:List UInt8)(a1:Int)(r:List UInt8)(h:xv a0 a1=some r):ACalls qh 89 [.ds true (qe encB a0) (qc a0) false,.int .u64 a1] [] (fun r' σ'=>r'=.os true 1 0 0 0 (qc r) false∧σ'=[.cells 0 (qe encB r)]):=by
 refine ACalls.own0 (by simp only[push_cast]) ?_;refine ZX (rs:=[.tmp 4]) tok Tryz.func89 rfl Tryz.ntmps89 rfl Tryz.call89 (by simp) ?_;refine zk [(0,.ds true (qe encB a0) (qc a0) false),(1,.int .u64 a1)] ⟨rfl,rfl,trivial⟩ ?_;unfold xv at h;refine rgN [0,1] ?_;have f1:=E34.sl_tight a0 .i64 .i64
 refine rg tok [0,1] fun K hK=>?_
 simp only[go_sem,qb,qa,reduceCtorEq,f1];apply hK
 refine za fun Z2 hZ2=>?_
 apply ze;refine awp_loopS1 (fun m L τ=>∃ (k9:Nat) (l3:List UInt8) (x5:Int) (v4:Nat),m=0+k9∧L=[(0,.os true 1 0 v4 0 (qc l3) false),(1,.int .u64 x5)]∧τ=[.cells v4 (qe encB l3)]∧xv.l9 k9 l3 x5=some r) (rounds+1) ?_ ?_
 · refine za fun Z20 hZ20=>?_
   refine rgN [0,1,12] ?_;refine zo rfl (fun hc21=>?_) (fun hc21=>?_)
   · rw[if_pos hc21] at h;have t22:=eq_true hc21;apply zd;apply hZ20;apply ze;have f23:=yQ (T:=tab) (src:=140) (dst:=5) rfl rfl rfl;obtain⟨_u24,hu24,h⟩:=bind_some h;have gu24:=yi hu24;have f25:=app_tight E34.len a0 (m:=1) (by decide)
     refine rg tok [0,1] fun K hK=>?_
     simp only[go_sem,qb,qf,qa,qv,reduceCtorEq,zD,zY,qZ,qS,true_and,q9,zX,yl,t22,f23,gu24,f25,yK,ub,qV,AV.one,qP,qw,qj,ql,qs,qD];apply hK
     refine zR (L:=[(0,.os true 1 1 0 0 (qc (a0++[q5 (qB (IntKind.u8.wrap ((ur (qy 8 (IntKind.u8.wrap a1) ||| qy 8 128):Nat):Int)))])) false),(1,.int .u64 a1)]) (τ:=[.cells 0 [.int .u8 (IntKind.u8.wrap ((ur (qy 8 (IntKind.u8.wrap a1) ||| qy 8 128):Nat):Int))],.cells 0 (qe encB (a0++[q5 (qB (IntKind.u8.wrap ((ur (qy 8 (IntKind.u8.wrap a1) ||| qy 8 128):Nat):Int)))]))]) (.same (by first|exact⟨rfl,rfl,trivial⟩|rfl|(simp only[go_sem,reduceCtorEq,Fits,qi,qj,ql,qs,and_self]<;>rfl)) (by first|exact⟨rfl,rfl,trivial⟩|rfl|(simp only[go_sem,encB,qQ,qN,un,qz,vaK]<;>rfl))) ?_
     refine rgE tok [0,1] fun K hK=>?_
     simp only[go_sem,qb,qa,reduceCtorEq,Yz,Int.reduceLT];apply hK
     exact⟨_,_,_,(Nat.lt_succ_of_le (Nat.le_of_eq (qs rounds))),⟨rounds,a0++[q5 (qB (IntKind.u8.wrap ((ur (qy 8 (IntKind.u8.wrap a1) ||| qy 8 128):Nat):Int)))],Int.fdiv a1 (2^(min (qB 7) 64)),0,rfl,rfl,rfl,h⟩,(.t [1] false)⟩
   rw[if_neg hc21] at h;have t26:=eq_false hc21;apply zv;apply hZ2;have f27:=yQ (T:=tab) (src:=140) (dst:=5) rfl rfl rfl;obtain⟨_u28,hu28,h⟩:=bind_some h;have gu28:=yi hu28;have f29:=app_tight E34.len a0 (m:=1) (by decide)
   refine rg tok [4] fun K hK=>?_
   simp only[go_sem,qb,qf,qa,qv,reduceCtorEq,zD,zY,qZ,qS,true_and,q9,zX,yl,t26,f27,gu28,f29,yK,ub,qV,AV.one,qP,qw,qj,ql,qs,qD];apply hK
   refine zR (L:=[(4,.os true 1 1 0 0 (qc (a0++[q5 (qB (IntKind.u8.wrap a1))])) false)]) (τ:=[.cells 0 [.int .u8 (IntKind.u8.wrap a1)],.cells 0 (qe encB (a0++[q5 (qB (IntKind.u8.wrap a1))]))]) (.same (by first|exact⟨rfl,trivial⟩|rfl|(simp only[go_sem,Fits,qi,qj,ql,qs,and_self]<;>rfl)) (by first|exact⟨rfl,trivial⟩|rfl|(simp only[go_sem,encB,qQ,qN,un,qz,vaK]<;>rfl))) ?_;apply yH;cases h;simp only[ZQ,y5,xj,xX,exists_eq_left',go_sem,qd];refine⟨1,0,by simp,?_,?_⟩
   · first|rfl|(simp only[go_sem,qb,qf,qa,qd,qv,qO,reduceIte,reduceCtorEq,push_cast,if_true,qI,qs,qJ,qx,qK,qU,ud,q7,uf,qX,qE,zZ]<;>rfl)
   first|rfl|(simp only[go_sem,push_cast,qx,zZ]<;>rfl)
 clear h
 rintro m L τ ⟨k9,l3,x5,v4,rfl,rfl,rfl,h⟩
 rcases k9 with _|k9
 · cases h
 simp only[xv.l9] at h
 refine za fun Z10 hZ10=>?_
 refine rgN [0,1,12] ?_;refine zo rfl (fun hc11=>?_) (fun hc11=>?_)
 · rw[if_pos hc11] at h;have t12:=eq_true hc11;apply zd;apply hZ10;apply ze;have f13:=yQ (T:=tab) (src:=140) (dst:=5) rfl rfl rfl;obtain⟨_u14,hu14,h⟩:=bind_some h;have gu14:=yi hu14;have f15:=(zr E34.len l3)
   refine rg tok [0,1] fun K hK=>?_
   simp only[go_sem,qb,qf,qa,qv,reduceCtorEq,zD,zY,qZ,qS,true_and,q9,zX,zI,yl,t12,f13,gu14,f15,yK,ub,qV,AV.one,qP,qw,qj,ql,qs,qD];apply hK
   refine zR (L:=[(0,.os true 1 0 (v4+1) 0 (qc (l3++[q5 (qB (IntKind.u8.wrap ((ur (qy 8 (IntKind.u8.wrap x5) ||| qy 8 128):Nat):Int)))])) false),(1,.int .u64 x5)]) (τ:=[.cells (v4+1) (qe encB (l3++[q5 (qB (IntKind.u8.wrap ((ur (qy 8 (IntKind.u8.wrap x5) ||| qy 8 128):Nat):Int)))])),.cells 0 [.int .u8 (IntKind.u8.wrap ((ur (qy 8 (IntKind.u8.wrap x5) ||| qy 8 128):Nat):Int))]]) (.same (by first|exact⟨rfl,rfl,trivial⟩|rfl|(simp only[go_sem,reduceCtorEq,Fits,qi,qj,ql,qs,and_self]<;>rfl)) (by first|exact⟨rfl,rfl,trivial⟩|rfl|(simp only[go_sem,encB,qQ,qN,un,qz,vaK]<;>rfl))) ?_
   refine rgE tok [0,1] fun K hK=>?_
   simp only[go_sem,qb,qa,reduceCtorEq,Yz,Int.reduceLT];apply hK
   exact⟨_,_,_,qr (0+k9),⟨k9,l3++[q5 (qB (IntKind.u8.wrap ((ur (qy 8 (IntKind.u8.wrap x5) ||| qy 8 128):Nat):Int)))],Int.fdiv x5 (2^(min (qB 7) 64)),v4+1,rfl,rfl,rfl,h⟩,(.t [0] false)⟩
 rw[if_neg hc11] at h;have t16:=eq_false hc11;apply zv;apply hZ2;have f17:=yQ (T:=tab) (src:=140) (dst:=5) rfl rfl rfl;obtain⟨_u18,hu18,h⟩:=bind_some h;have gu18:=yi hu18;have f19:=(zr E34.len l3)
 refine rg tok [4] fun K hK=>?_
 simp only[go_sem,qb,qf,qa,qv,reduceCtorEq,zD,zY,qZ,qS,true_and,q9,zX,zI,yl,t16,f17,gu18,f19,yK,ub,qV,AV.one,qP,qw,qj,ql,qs,qD];apply hK
 refine zR (L:=[(4,.os true 1 0 (v4+1) 0 (qc (l3++[q5 (qB (IntKind.u8.wrap x5))])) false)]) (τ:=[.cells (v4+1) (qe encB (l3++[q5 (qB (IntKind.u8.wrap x5))])),.cells 0 [.int .u8 (IntKind.u8.wrap x5)]]) (.same (by first|exact⟨rfl,trivial⟩|rfl|(simp only[go_sem,Fits,qi,qj,ql,qs,and_self]<;>rfl)) (by first|exact⟨rfl,trivial⟩|rfl|(simp only[go_sem,encB,qQ,qN,un,qz,vaK]<;>rfl))) ?_;apply yH;cases h;simp only[ZQ,y5,xj,xX,exists_eq_left',go_sem,qd];refine⟨0,v4+1,by simp,?_,?_⟩
 · first|rfl|(simp only[go_sem,qb,qf,qa,qd,qv,qO,reduceIte,reduceCtorEq,push_cast,if_true,qI,qs,qJ,qx,qK,qU,ud,q7,uf,qX,qE,zZ]<;>rfl)
 first|rfl|(simp only[go_sem,push_cast,qx,zZ]<;>rfl)
theorem xv.ok (a0:List UInt8)(a1:Int)(r:List UInt8)(h:xv a0 a1=some r):ACalls qh 89 [.ds true (qe encB a0) (qc a0) false,.int .u64 a1] [] (fun r' _=>r'=.ds true (qe encB r) (qc r) false):=
 (xv.own a0 a1 r h).ownData (zr E34.len r) (by simp only[push_cast])
theorem xv.ev (a0:List UInt8)(a1:Int)(r:List UInt8)(h:xv a0 a1=some r)(σ:Store):ACalls qh 89 [.ds true (qe encB a0) (qc a0) false,.int .u64 a1] σ (fun r' σ'=>r'=.ds true (qe encB r) (qc r) false∧σ'=σ):=
 (xv.ok a0 a1 r h).c σ
def ZZ (a0:Int):Int:=
 IntKind.u64.wrap ((ur (qy 64 (IntKind.u64.wrap ((IntKind.u64.wrap a0)*2^(min (qB 1) 64))) ^^^ qy 64 (IntKind.u64.wrap (Int.fdiv a0 (2^(min (qB 63) 64))))):Nat):Int)
theorem ZZ.ok (a0:Int)(r:Int)(h:ZZ a0=r):ACalls qh 90 [.int .i64 a0] [] (fun r' _=>r'=.int .u64 r):=by
 refine zf (rs:=[.tmp 2]) tok Tryz.func90 rfl Tryz.ntmps90 rfl Tryz.call90 (by simp) ?_;refine zk [(0,.int .i64 a0)] ⟨rfl,trivial⟩ ?_;unfold ZZ at h;refine rgN [0] ?_;have f1:=yQ (T:=tab) (src:=3) (dst:=140) rfl rfl rfl;have f2:=yQ (T:=tab) (src:=3) (dst:=140) rfl rfl rfl
 refine rg tok [2] fun K hK=>?_
 simp only[go_sem,qb,qa,reduceCtorEq,f1,Yz,Int.reduceLT];apply hK
 cases h;exact rtA
theorem ZZ.ev (a0:Int)(r:Int)(h:ZZ a0=r)(σ:Store):ACalls qh 90 [.int .i64 a0] σ (fun r' σ'=>r'=.int .u64 r∧σ'=σ):=
 (ZZ.ok a0 r h).c σ
def ZY (a0:List UInt8)(a1:GRaw):Option (List UInt8×Bool):=
 bnd (yp a1) fun r2=>(if (!r2)=true then some (a0,false) else (xv a0 (IntKind.u64.wrap (IntKind.i64.wrap ((IntKind.i64.wrap (2*a1.fTag))+a1.fWire)))).bind fun r5=>(if a1.fWire=0 then bnd (ZZ a1.fN) fun r9=>(xv r5 r9).bind fun r10=>some (r10,true) else (xv r5 (IntKind.u64.wrap (qc a1.fB:Int))).bind fun r13=>(Yk (qc r13+qc a1.fB) 1).bind fun _u14=>some (r13++a1.fB,true)))
theorem ZY.ok (a0:List UInt8)(a1:GRaw)(r:List UInt8×Bool)(h:ZY a0 a1=some r):ACalls qh 52 [.ds true (qe encB a0) (qc a0) false,.agg (encGRaw a1)] [] (fun r' _=>r'=.tup [.ds true (qe encB r.1) (qc r.1) false,.bool r.2]):=by
 refine zf (rs:=[.tmp 4,.tmp 5]) tok Tryz.func52 rfl Tryz.ntmps52 rfl Tryz.call52 (by simp) ?_;refine zk [(0,.ds true (qe encB a0) (qc a0) false),(1,.agg (encGRaw a1))] ⟨rfl,rfl,trivial⟩ ?_;unfold ZY at h
 refine rg tok [0,3] fun K hK=>?_
 simp only[go_sem,qb,qa,qd,reduceCtorEq,encGRaw];apply hK
 refine za fun Z1 hZ1=>?_
 refine rc [0,3,9] fun K hK=>?_
 obtain⟨r2,hr2,h⟩:=zO h;refine rnN 1 ?_;refine clN rfl rfl rfl (yp.ev a1 r2 hr2 _) ?_;refine rnN 1 ?_;refine nkN hK ?_;refine zm (b:=(!r2)) rfl (fun hc3=>?_) (fun hc3=>?_)
 · rw[if_pos hc3] at h;refine rgN [4,5] ?_;cases h;exact rtA
 rw[xS hc3] at h;apply zd;apply hZ1
 refine rc [3,6] fun K hK=>?_
 have f4:=yQ (T:=tab) (src:=3) (dst:=140) rfl rfl rfl;obtain⟨r5,hr5,h⟩:=bind_some h;refine zi tok 8 ?_;simp only[go_sem,qb,qa,qd,reduceCtorEq,f4];refine clN rfl rfl rfl (xv.ev a0 (IntKind.u64.wrap (IntKind.i64.wrap ((IntKind.i64.wrap (2*a1.fTag))+a1.fWire))) r5 hr5 _) ?_;refine rnN 1 ?_;refine nkN hK ?_
 refine za fun Z6 hZ6=>?_
 refine rgN [3,6,22] ?_;refine zo rfl (fun hc7=>?_) (fun hc7=>?_)
 · rw[if_pos hc7] at h;have t8:=eq_true hc7
   refine rc [4,5] fun K hK=>?_
   obtain⟨r9,hr9,h⟩:=zO h;refine zi tok 3 ?_;simp only[go_sem,qb,qa,qd,t8];refine clN rfl rfl rfl (ZZ.ev a1.fN r9 hr9 _) ?_;obtain⟨r10,hr10,h⟩:=bind_some h;refine clN rfl rfl rfl (xv.ev r5 r9 r10 hr10 _) ?_;refine rnN 2 ?_;refine nkN hK ?_;cases h;exact rtA
 rw[if_neg hc7] at h;have t11:=eq_false hc7;apply zd;apply hZ6;have f12:=yQ (T:=tab) (src:=3) (dst:=140) rfl rfl rfl;obtain⟨r13,hr13,h⟩:=bind_some h;obtain⟨_u14,hu14,h⟩:=bind_some h;have gu14:=yi hu14;have f15:=(zr E34.len r13)
 refine rd [4,5] fun K hK=>?_
 refine DW.start (T:=tab) [.any,.any,.at [],.at [],.at [],.eff,.any,.own 1 [],.eff,.any,.any] [(1,[])] ?_;refine DW.runN tok 5 ?_;simp only[go_sem,qb,qa,qd,t11,f12,qj,ql,qs];refine DW.callS rfl rfl rfl (@id (ACalls qh 89 [.ds true (qe encB r5) (qc r5) false,.int .u64 (IntKind.u64.wrap (qc a1.fB:Int))] [.cells 0 [.int .i64 a1.fTag,.int .i64 a1.fWire,.int .i64 a1.fN,.str a1.fB]] (fun r' σ'=>r'=.os true 1 1 0 0 (qc r13) false∧σ'=[.cells 0 [.int .i64 a1.fTag,.int .i64 a1.fWire,.int .i64 a1.fN,.str a1.fB],.cells 0 (qe encB r13)])) ((xv.own r5 (IntKind.u64.wrap (qc a1.fB:Int)) r13 hr13).ownAt0 (by simp only[push_cast]) (by simp only[push_cast]) _)) (vco (by simp only[go_sem,qf])) ?_;refine DW.runN tok 5 ?_;simp only[go_sem,qb,qf,qa,qd,zX,zI,yl,true_and,gu14,f15,srcCells_s,Xq,Zs,qj,ql,qs];refine DW.fin tok (by decide +kernel) rfl ?_;simp only[zj,upd,qa,reduceIte,yq,y0];apply hK
 refine zR (L:=[(4,.os true 1 1 (0+1) 0 (qc (r13++a1.fB)) false),(5,.bool true)]) (τ:=[.cells 0 [.int .i64 a1.fTag,.int .i64 a1.fWire,.int .i64 a1.fN,.str a1.fB],.cells (0+1) (qe encB (r13++a1.fB))]) .s ?_;cases h;exact rtA
theorem ZY.ev (a0:List UInt8)(a1:GRaw)(r:List UInt8×Bool)(h:ZY a0 a1=some r)(σ:Store):ACalls qh 52 [.ds true (qe encB a0) (qc a0) false,.agg (encGRaw a1)] σ (fun r' σ'=>r'=.tup [.ds true (qe encB r.1) (qc r.1) false,.bool r.2]∧σ'=σ):=
 (ZY.ok a0 a1 r h).c σ
def yg.l11 : List GRaw→Int→List UInt8→Option (List UInt8×Int)
 |[],x8,x7=>some (x7,0)
 |y11::q11,x8,x7=>(ZY x7 y11).bind fun r17=>(if 4096<(qc r17.1:Int) then some (([]:List UInt8),4) else ((yg.l11 q11) (x8+1) r17.1))
def yg.l4 (a0:List GRaw):List GRaw→Int→Option (List UInt8×Int)
 |[],x2=>(yg.l11 a0 0 ([]:List UInt8))
 |y4::q4,x2=>bnd (yp y4) fun r25=>(if (!r25)=true then some (([]:List UInt8),1) else ((yg.l4 a0 q4) (x2+1)))
def yg (a0:List GRaw):Option (List UInt8×Int):=
 (yg.l4 a0 a0 0)
theorem yg.ok (a0:List GRaw)(r:List UInt8×Int)(h:yg a0=some r):ACalls qh 26 [.ds true (qe encGRaw a0) (qc a0) false] [] (fun r' _=>r'=.tup [.ds true (qe encB r.1) (qc r.1) false,.int .i64 r.2]):=by
 refine zf (rs:=[.tmp 2,.tmp 3]) tok Tryz.func26 rfl Tryz.ntmps26 rfl Tryz.call26 (by simp) ?_;refine zk [(0,.ds true (qe encGRaw a0) (qc a0) false)] ⟨rfl,trivial⟩ ?_;unfold yg at h;refine rgN [0] ?_
 refine za fun Z1 hZ1=>?_
 refine rgN [0,9,10,11] ?_;apply ze
 refine yZ 0 fun hb4=>?_
 replace hb4:qc a0≤9223372036854775807:=hb4.1;refine zq (fun m L τ=>∃ (p4 q4:List GRaw) (x2:Int),m=qc q4∧L=[(0,.ds true (qe encGRaw a0) (qc a0) false),(9,.ds true (qe encGRaw a0) (qc a0) false),(10,.int .i64 (qc a0:Int)),(11,.int .i64 x2)]∧τ=[]∧a0=p4++q4∧x2=(qc p4:Int)∧yg.l4 a0 q4 x2=some r) _ ⟨[],a0,0,rfl,rfl,rfl,rfl,rfl,h⟩ .s ?_;rintro m L τ ⟨p4,q4,x2,rfl,rfl,rfl,hE4,hi4,h⟩
 rcases q4 with _|⟨y4,q4⟩
 · have hz4:=yr hE4 hi4;simp only[yg.l4] at h
   refine rg tok [0,9,10,11,12] fun K hK=>?_
   simp only[go_sem,qb,qa,reduceCtorEq,hz4];apply hK
   refine za fun Z5 hZ5=>?_
   refine zn rfl ?_;apply zv;apply hZ1;refine rgN [0,6] ?_
   refine za fun Z6 hZ6=>?_
   refine rgN [6,19,20,21] ?_;apply ze
   refine yZ 19 fun hb11=>?_
   replace hb11:qc a0≤9223372036854775807:=hb11.1;refine zq (fun m L τ=>∃ (p11 q11:List GRaw) (x8:Int) (x7:List UInt8),m=qc q11∧L=[(6,.ds true (qe encB x7) (qc x7) false),(19,.ds true (qe encGRaw a0) (qc a0) false),(20,.int .i64 (qc a0:Int)),(21,.int .i64 x8)]∧τ=[]∧a0=p11++q11∧x8=(qc p11:Int)∧yg.l11 q11 x8 x7=some r) _ ⟨[],a0,0,([]:List UInt8),rfl,rfl,rfl,rfl,rfl,h⟩ (.t [] true) ?_;rintro m L τ ⟨p11,q11,x8,x7,rfl,rfl,rfl,hE11,hi11,h⟩
   rcases q11 with _|⟨y11,q11⟩
   · have hz11:=yr hE11 hi11;simp only[yg.l11] at h
     refine rg tok [6,19,20,21,22] fun K hK=>?_
     simp only[go_sem,qb,qa,hz11];apply hK
     refine za fun Z12 hZ12=>?_
     refine zn rfl ?_;apply zv;apply hZ6;refine rgN [2,3] ?_;cases h;exact rtA
   obtain⟨hz11,hw11,hx11,hE'11,hi'11⟩:=zW hE11 hi11 hb11;simp only[yg.l11] at h
   refine rg tok [6,19,20,21,22] fun K hK=>?_
   simp only[go_sem,qb,qa,hz11];apply hK
   refine za fun Z13 hZ13=>?_
   refine zp rfl ?_;apply zd;apply hZ13
   refine za fun Z14 hZ14=>?_
   apply ze;have f15:=E28.idxS hx11;have f16:=E28.loadS rfl rfl hx11
   refine rg tok [6,8,19,20,21] fun K hK=>?_
   simp only[go_sem,qb,qf,qa,qd,encGRaw,f15,f16];apply hK
   refine rc [6,19,20,21] fun K hK=>?_
   obtain⟨r17,hr17,h⟩:=bind_some h;refine rnN 2 ?_;refine clN rfl rfl rfl (ZY.ev x7 y11 r17 hr17 _) ?_;refine rnN 4 ?_;refine nkN hK ?_;refine rgN [6,19,20,21,33] ?_;refine zo rfl (fun hc18=>?_) (fun hc18=>?_)
   · rw[if_pos hc18] at h;have t19:=eq_true hc18
     refine rg tok [2,3] fun K hK=>?_
     simp only[go_sem,qb,qa,t19];apply hK
     cases h;exact rtA
   rw[if_neg hc18] at h;have t20:=eq_false hc18;apply zd;apply hZ14
   refine rgE tok [6,19,20,21] fun K hK=>?_
   simp only[go_sem,qb,qa,hw11,t20];apply hK
   exact⟨_,_,_,qr q11.length,⟨p11++[y11],q11,x8+1,r17.1,rfl,rfl,rfl,hE'11,hi'11,h⟩,(.t [] false)⟩
 obtain⟨hz4,hw4,hx4,hE'4,hi'4⟩:=zW hE4 hi4 hb4;simp only[yg.l4] at h
 refine rg tok [0,9,10,11,12] fun K hK=>?_
 simp only[go_sem,qb,qa,reduceCtorEq,hz4];apply hK
 refine za fun Z21 hZ21=>?_
 refine zp rfl ?_;apply zd;apply hZ21
 refine za fun Z22 hZ22=>?_
 apply ze;have f23:=E28.idxS hx4;have f24:=E28.loadS rfl rfl hx4
 refine rg tok [0,5,9,10,11] fun K hK=>?_
 simp only[go_sem,qb,qf,qa,qd,reduceCtorEq,encGRaw,f23,f24];apply hK
 refine rc [0,9,10,11,17] fun K hK=>?_
 obtain⟨r25,hr25,h⟩:=zO h;refine rnN 1 ?_;refine clN rfl rfl rfl (yp.ev y4 r25 hr25 _) ?_;refine rnN 1 ?_;refine nkN hK ?_;refine zm (b:=(!r25)) rfl (fun hc26=>?_) (fun hc26=>?_)
 · rw[if_pos hc26] at h;refine rgN [2,3] ?_;cases h;exact rtA
 rw[xS hc26] at h;apply zd;apply hZ22
 refine rgE tok [0,9,10,11] fun K hK=>?_
 simp only[go_sem,qb,qa,reduceCtorEq,hw4];apply hK
 exact⟨_,_,_,qr q4.length,⟨p4++[y4],q4,x2+1,rfl,rfl,rfl,hE'4,hi'4,h⟩,(.t [] false)⟩
theorem yg.ev (a0:List GRaw)(r:List UInt8×Int)(h:yg a0=some r)(σ:Store):ACalls qh 26 [.ds true (qe encGRaw a0) (qc a0) false] σ (fun r' σ'=>r'=.tup [.ds true (qe encB r.1) (qc r.1) false,.int .i64 r.2]∧σ'=σ):=
 (yg.ok a0 r h).c σ
def xo.body (yX:GValueNode→Option (List UInt8×Int))(yk:Int→GValueValue→Option (GRaw×Int))(xb:GValueNode→Option (List GRaw×Int))(a0:GValueNode):Option (List UInt8×Int):=
 (xb a0).bind fun r1=>(if r1.2=0 then (yg r1.1).bind fun r6=>some (r6.1,r6.2) else some (([]:List UInt8),r1.2))
theorem xo.step (yX:GValueNode→Option (List UInt8×Int))(yk:Int→GValueValue→Option (GRaw×Int))(xb:GValueNode→Option (List GRaw×Int))(Zl:∀ (a0:GValueNode) (r:List UInt8×Int),yX a0=some r→ACalls qh 138 [.dp (encGValueNode a0) 0] [] (fun r' _=>r'=.tup [.ds true (qe encB r.1) (qc r.1) false,.int .i64 r.2]))(ZN:∀ (a0:Int) (a1:GValueValue) (r:GRaw×Int),yk a0 a1=some r→ACalls qh 101 [.int .i64 a0,.agg (encGValueValue a1)] [] (fun r' _=>r'=.tup [.agg (encGRaw r.1),.int .i64 r.2]))(Zz:∀ (a0:GValueNode) (r:List GRaw×Int),xb a0=some r→ACalls qh 58 [.dp (encGValueNode a0) 0] [] (fun r' _=>r'=.tup [.ds true (qe encGRaw r.1) (qc r.1) false,.int .i64 r.2]))(a0:GValueNode)(r:List UInt8×Int)(h:xo.body yX yk xb a0=some r):ACalls qh 138 [.dp (encGValueNode a0) 0] [] (fun r' _=>r'=.tup [.ds true (qe encB r.1) (qc r.1) false,.int .i64 r.2]):=by
 have ev_encode_bytes:=fun a0 r h σ=>(Zl a0 r h).c σ
 have ev_encode_raw:=fun a0 a1 r h σ=>(ZN a0 a1 r h).c σ
 have ev_encode_raws:=fun a0 r h σ=>(Zz a0 r h).c σ
 refine zf (rs:=[.tmp 2,.tmp 3]) tok Tryz.func138 rfl Tryz.ntmps138 rfl Tryz.call138 (by simp) ?_;refine zk [(0,.dp (encGValueNode a0) 0)] ⟨rfl,trivial⟩ ?_;unfold xo.body at h;refine rgN [0] ?_
 refine rc [4,5] fun K hK=>?_
 obtain⟨r1,hr1,h⟩:=bind_some h;refine rnN 1 ?_;refine clN rfl rfl rfl (ev_encode_raws a0 r1 hr1 _) ?_;refine rnN 5 ?_;refine nkN hK ?_
 refine za fun Z2 hZ2=>?_
 refine rgN [4,5,12] ?_;refine zo rfl (fun hc3=>?_) (fun hc3=>?_)
 · rw[if_neg hc3] at h;have t4:=eq_false hc3
   refine rg tok [2,3] fun K hK=>?_
   simp only[go_sem,qb,qa,t4];apply hK
   cases h;exact rtA
 rw[if_pos hc3] at h;have t5:=eq_true hc3;apply zd;apply hZ2
 refine rc [2,3] fun K hK=>?_
 obtain⟨r6,hr6,h⟩:=bind_some h;refine zi tok 1 ?_;simp only[go_sem,qb,qa,t5];refine clN rfl rfl rfl (yg.ev r1.1 r6 hr6 _) ?_;refine rnN 4 ?_;refine nkN hK ?_;cases h;exact rtA
def yN.j3 (m1_2:GRaw):Option (GRaw×Int):=
 (if 4096<(qc m1_2.fB:Int) then some ((⟨0,0,0,[]⟩:GRaw),4) else some (m1_2,0))
def yN.body (yX:GValueNode→Option (List UInt8×Int))(yk:Int→GValueValue→Option (GRaw×Int))(xb:GValueNode→Option (List GRaw×Int))(a0:Int)(a1:GValueValue):Option (GRaw×Int):=
 (wn a1).bind fun r8=>(match r8 with|.nil=>(yN.j3 (⟨a0,1,0,[]⟩:GRaw))|.num n9=>some ((⟨a0,0,n9,[]⟩:GRaw),0)|.str s9=>(yN.j3 (⟨a0,1,0,s9⟩:GRaw))|.node e9 r9=>(yX (⟨e9,r9⟩:GValueNode)).bind fun r10=>(if r10.2=0 then (yN.j3 (⟨a0,1,0,r10.1⟩:GRaw)) else some ((⟨0,0,0,[]⟩:GRaw),r10.2)))
theorem yN.step (yX:GValueNode→Option (List UInt8×Int))(yk:Int→GValueValue→Option (GRaw×Int))(xb:GValueNode→Option (List GRaw×Int))(Zl:∀ (a0:GValueNode) (r:List UInt8×Int),yX a0=some r→ACalls qh 138 [.dp (encGValueNode a0) 0] [] (fun r' _=>r'=.tup [.ds true (qe encB r.1) (qc r.1) false,.int .i64 r.2]))(ZN:∀ (a0:Int) (a1:GValueValue) (r:GRaw×Int),yk a0 a1=some r→ACalls qh 101 [.int .i64 a0,.agg (encGValueValue a1)] [] (fun r' _=>r'=.tup [.agg (encGRaw r.1),.int .i64 r.2]))(Zz:∀ (a0:GValueNode) (r:List GRaw×Int),xb a0=some r→ACalls qh 58 [.dp (encGValueNode a0) 0] [] (fun r' _=>r'=.tup [.ds true (qe encGRaw r.1) (qc r.1) false,.int .i64 r.2]))(a0:Int)(a1:GValueValue)(r:GRaw×Int)(h:yN.body yX yk xb a0 a1=some r):ACalls qh 101 [.int .i64 a0,.agg (encGValueValue a1)] [] (fun r' _=>r'=.tup [.agg (encGRaw r.1),.int .i64 r.2]):=by
 have ev_encode_bytes:=fun a0 r h σ=>(Zl a0 r h).c σ
 have ev_encode_raw:=fun a0 a1 r h σ=>(ZN a0 a1 r h).c σ
 have ev_encode_raws:=fun a0 r h σ=>(Zz a0 r h).c σ
 refine zf (rs:=[.cell 4 62,.tmp 5]) tok Tryz.func101 rfl Tryz.ntmps101 rfl Tryz.call101 (by simp) ?_;refine zk [(0,.int .i64 a0),(1,.agg (encGValueValue a1))] ⟨rfl,rfl,trivial⟩ ?_;unfold yN.body at h;have f1:=ZT a1;unfold AV.one at f1
 refine rg tok [0,3,4] fun K hK=>?_
 simp only[go_sem,qb,qa,reduceCtorEq,encGValueValue,f1];apply hK
 refine rgN [0,3,4,6] ?_;refine xL (fun L τ=>∃ (m1_2:GRaw),L=[(4,.op 0 0 0),(6,.op 1 0 0)]∧τ=[.cells 0 [.int .i64 0,.int .i64 0,.int .i64 0,.str []],.cells 0 [.int .i64 m1_2.fTag,.int .i64 m1_2.fWire,.int .i64 m1_2.fN,.str m1_2.fB]]∧yN.j3 m1_2=some r) ?_ ?_
 · refine rc [0,4,6,15] fun K hK=>?_
   obtain⟨r8,hr8,h⟩:=bind_some h;refine rnN 1 ?_;refine clN rfl rfl rfl (wn.ev a1 r8 hr8 _) ?_;refine nkN hK ?_;apply ze
   rcases r8 with _|n9|s9|⟨e9,r9⟩
   · dsimp only at h
     try simp only[anyV_nil]
     refine rg tok [0,4,6,15,17,18] fun K hK=>?_
     simp only[go_sem,qb,qa,qd,reduceCtorEq,wd,wj,TypeDesc.isIface];apply hK
     refine zn rfl ?_
     refine rg tok [4,6,15,23,24] fun K hK=>?_
     simp only[go_sem,qb,qa,qd,reduceCtorEq,wd,wj,TypeDesc.isIface];apply hK
     refine zn rfl ?_
     refine rg tok [4,6,28,29] fun K hK=>?_
     simp only[go_sem,qb,qa,qd,wd,wj,TypeDesc.isIface];apply hK
     refine zn rfl ?_;apply zd;exact⟨_,_,⟨(⟨a0,1,0,[]⟩:GRaw),rfl,rfl,h⟩,(.t [1,2] false)⟩
   · dsimp only at h
     try simp only[anyV_num]
     refine rg tok [0,4,6,15,17,18] fun K hK=>?_
     simp only[go_sem,qb,qa,qd,reduceCtorEq,wd,wj,TypeDesc.isIface];apply hK
     refine zp rfl ?_;refine rgN [0,4,7] ?_;refine rgN [4,5] ?_;cases h;exact rtA
   · dsimp only at h
     try simp only[anyV_str]
     refine rg tok [0,4,6,15,17,18] fun K hK=>?_
     simp only[go_sem,qb,qa,qd,reduceCtorEq,wd,wj,TypeDesc.isIface];apply hK
     refine zn rfl ?_
     refine rg tok [4,6,15,23,24] fun K hK=>?_
     simp only[go_sem,qb,qa,qd,reduceCtorEq,wd,wj,TypeDesc.isIface];apply hK
     refine zp rfl ?_;refine rgN [4,6,8] ?_
     refine rgE tok [4,6] fun K hK=>?_
     simp only[go_sem,qb,qf,qa,qd];apply hK
     exact⟨_,_,⟨(⟨a0,1,0,s9⟩:GRaw),rfl,rfl,h⟩,(.t [1,2] false)⟩
   dsimp only at h
   try simp only[anyV_node]
   refine rg tok [0,4,6,15,17,18] fun K hK=>?_
   simp only[go_sem,qb,qa,qd,reduceCtorEq,wd,wj,TypeDesc.isIface];apply hK
   refine zn rfl ?_
   refine rg tok [4,6,15,23,24] fun K hK=>?_
   simp only[go_sem,qb,qa,qd,reduceCtorEq,wd,wj,TypeDesc.isIface];apply hK
   refine zn rfl ?_
   refine rg tok [4,6,28,29] fun K hK=>?_
   simp only[go_sem,qb,qa,qd,wd,wj,TypeDesc.isIface];apply hK
   refine zp rfl ?_;refine rgN [4,6,9] ?_
   refine rc [4,6,10,11] fun K hK=>?_
   obtain⟨r10,hr10,h⟩:=bind_some h;refine rnN 1 ?_;refine clN rfl rfl rfl (ev_encode_bytes (⟨e9,r9⟩:GValueNode) r10 hr10 _) ?_;refine rnN 5 ?_;refine nkN hK ?_
   refine za fun Z11 hZ11=>?_
   refine rgN [4,6,10,11,36] ?_;refine zo rfl (fun hc12=>?_) (fun hc12=>?_)
   · rw[if_neg hc12] at h;have t13:=eq_false hc12
     refine rg tok [4,5] fun K hK=>?_
     simp only[go_sem,qb,qf,qa,qd,t13];apply hK
     cases h;exact rtA
   rw[if_pos hc12] at h;have t14:=eq_true hc12;apply zd;apply hZ11;have f15:=XX (T:=tab) (src:=34) (dst:=9) rfl rfl rfl rfl rfl rfl r10.1
   refine rgE tok [4,6] fun K hK=>?_
   simp only[go_sem,qb,qf,qa,qd,t14,f15];apply hK
   exact⟨_,_,⟨(⟨a0,1,0,r10.1⟩:GRaw),rfl,rfl,h⟩,(.t [1,2] false)⟩
 rintro _ _ ⟨m1_2,rfl,rfl,h⟩;unfold yN.j3 at h
 refine za fun Z4 hZ4=>?_
 refine rgN [4,6,45] ?_;refine zo rfl (fun hc5=>?_) (fun hc5=>?_)
 · rw[if_pos hc5] at h;have t6:=eq_true hc5
   refine rg tok [4,5] fun K hK=>?_
   simp only[go_sem,qb,qf,qa,qd,t6];apply hK
   cases h;exact rtA
 rw[if_neg hc5] at h;have t7:=eq_false hc5;apply zd;apply hZ4
 refine rg tok [4,5] fun K hK=>?_
 simp only[go_sem,qb,qf,qa,qd,t7];apply hK
 cases h;exact rtA
end
section
set_option maxRecDepth 4000
set_option maxHeartbeats 1000000
open AM
def zQ.l24 (yk:Int→GValueValue→Option (GRaw×Int))(x6:Int)(rec10:Int→List GRaw→Option (List GRaw×Int))(y10:Int):List GValueValue→Int→List GRaw→Option (List GRaw×Int)
 |[],x20,l18=>(rec10 (x6+1) l18)
 |y24::q24,x20,l18=>(yk y10 y24).bind fun r31=>(if r31.2=0 then (Yk (qc l18+1) 40).bind fun _u36=>((zQ.l24 yk x6 rec10 y10 q24) (x20+1) (l18++[r31.1])) else some (([]:List GRaw),r31.2))
def zQ.l10 (yk:Int→GValueValue→Option (GRaw×Int))(a0:GValueNode):List Int→Int→List GRaw→Option (List GRaw×Int)
 |[],x6,l4=>(zM l4).bind fun r12=>some (r12,0)
 |y10::q10,x6,l4=>(yA a0 y10).bind fun r17=>(zQ.l24 yk x6 (zQ.l10 yk a0 q10) y10 r17 0 l4)
def zQ.body (yX:GValueNode→Option (List UInt8×Int))(yk:Int→GValueValue→Option (GRaw×Int))(xb:GValueNode→Option (List GRaw×Int))(a0:GValueNode):Option (List GRaw×Int):=
 (wQ a0).bind fun r1=>(yd a0).bind fun r3=>(zQ.l10 yk a0 r3 0 r1)
theorem zQ.step (yX:GValueNode→Option (List UInt8×Int))(yk:Int→GValueValue→Option (GRaw×Int))(xb:GValueNode→Option (List GRaw×Int))(Zl:∀ (a0:GValueNode) (r:List UInt8×Int),yX a0=some r→ACalls qh 138 [.dp (encGValueNode a0) 0] [] (fun r' _=>r'=.tup [.ds true (qe encB r.1) (qc r.1) false,.int .i64 r.2]))(ZN:∀ (a0:Int) (a1:GValueValue) (r:GRaw×Int),yk a0 a1=some r→ACalls qh 101 [.int .i64 a0,.agg (encGValueValue a1)] [] (fun r' _=>r'=.tup [.agg (encGRaw r.1),.int .i64 r.2]))(Zz:∀ (a0:GValueNode) (r:List GRaw×Int),xb a0=some r→ACalls qh 58 [.dp (encGValueNode a0) 0] [] (fun r' _=>r'=.tup [.ds true (qe encGRaw r.1) (qc r.1) false,.int .i64 r.2]))(a0:GValueNode)(r:List GRaw×Int)(h:zQ.body yX yk xb a0=some r):ACalls qh 58 [.dp (encGValueNode a0) 0] [] (fun r' _=>r'=.tup [.ds true (qe encGRaw r.1) (qc r.1) false,.int .i64 r.2]):=by
 have ev_encode_bytes:=fun a0 r h σ=>(Zl a0 r h).c σ
 have ev_encode_raw:=fun a0 a1 r h σ=>(ZN a0 a1 r h).c σ
 have ev_encode_raws:=fun a0 r h σ=>(Zz a0 r h).c σ
 refine zf (rs:=[.tmp 2,.tmp 3]) tok Tryz.func58 rfl Tryz.ntmps58 rfl Tryz.call58 (by simp) ?_;refine zk [(0,.dp (encGValueNode a0) 0)] ⟨rfl,trivial⟩ ?_;unfold zQ.body at h;refine rgN [0] ?_
 refine rc [0,4] fun K hK=>?_
 obtain⟨r1,hr1,h⟩:=bind_some h;refine rnN 1 ?_;refine clN rfl rfl rfl (@id (ACalls qh 98 [.dp (encGValueNode a0) 0] [] (fun r' σ'=>r'=.os true 4 0 0 0 (qc r1) false∧σ'=[.cells 0 (qe encGRaw r1)])) ((wQ.own a0 r1 hr1).ownAt0 (by simp only[push_cast]) (by simp only[push_cast]) _)) ?_;refine rnN 1 ?_;refine nkN hK ?_
 refine za fun Z2 hZ2=>?_
 refine rc [0,4,14,15,16] fun K hK=>?_
 obtain⟨r3,hr3,h⟩:=bind_some h;refine rnN 1 ?_;refine clN rfl rfl rfl (yd.ev a0 r3 hr3 _) ?_;refine rnN 2 ?_;refine nkN hK ?_;apply ze
 refine yZ 14 fun hb10=>?_
 replace hb10:qc r3≤9223372036854775807:=hb10.1;refine zq (fun m L τ=>∃ (p10 q10:List Int) (x6:Int) (l4:List GRaw) (v5:Nat),m=qc q10∧L=[(0,.dp (encGValueNode a0) 0),(4,.os true 4 0 v5 0 (qc l4) false),(14,.ds true (qe encI r3) (qc r3) false),(15,.int .i64 (qc r3:Int)),(16,.int .i64 x6)]∧τ=[.cells v5 (qe encGRaw l4)]∧r3=p10++q10∧x6=(qc p10:Int)∧zQ.l10 yk a0 q10 x6 l4=some r) _ ⟨[],r3,0,r1,0,rfl,rfl,rfl,rfl,rfl,h⟩ .s ?_;rintro m L τ ⟨p10,q10,x6,l4,v5,rfl,rfl,rfl,hE10,hi10,h⟩
 rcases q10 with _|⟨y10,q10⟩
 · have hz10:=yr hE10 hi10;simp only[zQ.l10] at h
   refine rg tok [0,4,14,15,16,17] fun K hK=>?_
   simp only[go_sem,qb,qa,reduceCtorEq,hz10];apply hK
   refine za fun Z11 hZ11=>?_
   refine zn rfl ?_;apply zv;apply hZ2
   refine rc [2,3] fun K hK=>?_
   obtain⟨r12,hr12,h⟩:=bind_some h;refine rnN 1 ?_;refine YY (L:=[(43,.ds true (qe encGRaw l4) (qc l4) false)]) (τ:=[]) (.t [] false) ?_;refine clN rfl rfl rfl (zM.ev l4 r12 hr12 _) ?_;refine rnN 2 ?_;refine nkN hK ?_;cases h;exact rtA
 obtain⟨hz10,hw10,hx10,hE'10,hi'10⟩:=zW hE10 hi10 hb10;simp only[zQ.l10] at h
 refine rg tok [0,4,14,15,16,17] fun K hK=>?_
 simp only[go_sem,qb,qa,reduceCtorEq,hz10];apply hK
 refine za fun Z13 hZ13=>?_
 refine zp rfl ?_;apply zd;apply hZ13
 refine za fun Z14 hZ14=>?_
 apply ze;have f15:=E45.idxS hx10;have f16:=E45.fldS0 (f:=3) rfl rfl hx10
 refine rg tok [0,4,6,14,15,16] fun K hK=>?_
 simp only[go_sem,qb,qa,reduceCtorEq,encI,f15,f16];apply hK
 refine rc [0,4,6,14,15,16,22,23,24] fun K hK=>?_
 obtain⟨r17,hr17,h⟩:=bind_some h;refine rnN 2 ?_;refine clN rfl rfl rfl (yA.ev a0 y10 r17 hr17 _) ?_;refine rnN 2 ?_;refine nkN hK ?_;apply ze
 refine yZ 22 fun hb24=>?_
 replace hb24:qc r17≤9223372036854775807:=hb24.1;refine zq (fun m L τ=>∃ (p24 q24:List GValueValue) (x20:Int) (l18:List GRaw) (v19:Nat),m=qc q24∧L=[(0,.dp (encGValueNode a0) 0),(4,.os true 4 0 v19 0 (qc l18) false),(6,.int .i64 y10),(14,.ds true (qe encI r3) (qc r3) false),(15,.int .i64 (qc r3:Int)),(16,.int .i64 x6),(22,.ds true (qe encGValueValue r17) (qc r17) false),(23,.int .i64 (qc r17:Int)),(24,.int .i64 x20)]∧τ=[.cells v19 (qe encGRaw l18)]∧r17=p24++q24∧x20=(qc p24:Int)∧zQ.l24 yk x6 (zQ.l10 yk a0 q10) y10 q24 x20 l18=some r) _ ⟨[],r17,0,l4,v5,rfl,rfl,rfl,rfl,rfl,h⟩ .s ?_;rintro m L τ ⟨p24,q24,x20,l18,v19,rfl,rfl,rfl,hE24,hi24,h⟩
 rcases q24 with _|⟨y24,q24⟩
 · have hz24:=yr hE24 hi24;simp only[zQ.l24] at h
   refine rg tok [0,4,6,14,15,16,22,23,24,25] fun K hK=>?_
   simp only[go_sem,qb,qa,reduceCtorEq,hz24];apply hK
   refine za fun Z25 hZ25=>?_
   refine zn rfl ?_;apply zv;apply hZ14
   refine rgE tok [0,4,14,15,16] fun K hK=>?_
   simp only[go_sem,qb,qa,reduceCtorEq,hw10];apply hK
   exact⟨_,_,_,qr q10.length,⟨p10++[y10],q10,x6+1,l18,v19,rfl,rfl,rfl,hE'10,hi'10,h⟩,.s⟩
 obtain⟨hz24,hw24,hx24,hE'24,hi'24⟩:=zW hE24 hi24 hb24;simp only[zQ.l24] at h
 refine rg tok [0,4,6,14,15,16,22,23,24,25] fun K hK=>?_
 simp only[go_sem,qb,qa,reduceCtorEq,hz24];apply hK
 refine za fun Z26 hZ26=>?_
 refine zp rfl ?_;apply zd;apply hZ26
 refine za fun Z27 hZ27=>?_
 apply ze;have f28:=E156.idxS hx24;have f29:=E156.loadS rfl rfl hx24;have f30:=ZT y24;unfold AV.one at f30
 refine rg tok [0,4,6,8,14,15,16,22,23,24] fun K hK=>?_
 simp only[go_sem,qb,qf,qa,reduceCtorEq,encGValueValue,f28,f29,f30];apply hK
 refine rc [0,4,6,9,10,14,15,16,22,23,24] fun K hK=>?_
 obtain⟨r31,hr31,h⟩:=bind_some h;refine rnN 2 ?_;refine clN rfl rfl rfl (ev_encode_raw y10 y24 r31 hr31 _) ?_;refine zi tok 6 ?_;simp only[go_sem,qb,qf,qa,qd,reduceCtorEq,encGRaw];refine nkN hK ?_
 refine za fun Z32 hZ32=>?_
 refine rgN [0,4,6,9,10,14,15,16,22,23,24,35] ?_;refine zo rfl (fun hc33=>?_) (fun hc33=>?_)
 · rw[if_neg hc33] at h;have t34:=eq_false hc33
   refine rg tok [2,3] fun K hK=>?_
   simp only[go_sem,qb,qa,reduceCtorEq,t34];apply hK
   cases h;exact rtA
 rw[if_pos hc33] at h;have t35:=eq_true hc33;apply zd;apply hZ32;obtain⟨_u36,hu36,h⟩:=bind_some h;have gu36:=yi hu36;have f37:=(zr E28.len l18)
 refine rgE tok [0,4,6,14,15,16,22,23,24] fun K hK=>?_
 simp only[go_sem,qb,qf,qa,qd,qv,reduceCtorEq,zD,zY,qZ,qS,true_and,q9,zX,zI,yl,t35,gu36,f37,yK,ub,qV,AV.one,qP,qw,qj,ql,qs,qD];apply hK
 apply hZ27
 refine rgE tok [0,4,6,14,15,16,22,23,24] fun K hK=>?_
 simp only[go_sem,qb,qa,reduceCtorEq,hw24];apply hK
 exact⟨_,_,_,qr q24.length,⟨p24++[y24],q24,x20+1,l18++[r31.1],v19+1,rfl,rfl,rfl,hE'24,hi'24,h⟩,(.t [0] false)⟩
mutual
def xo : Nat→GValueNode→Option (List UInt8×Int)
 |0,_=>none
 |k+1,a0=>xo.body (xo k) (yN k) (zQ k) a0
def yN : Nat→Int→GValueValue→Option (GRaw×Int)
 |0,_,_=>none
 |k+1,a0,a1=>yN.body (xo k) (yN k) (zQ k) a0 a1
def zQ : Nat→GValueNode→Option (List GRaw×Int)
 |0,_=>none
 |k+1,a0=>zQ.body (xo k) (yN k) (zQ k) a0
end
theorem xo.all (k:Nat):(∀ (a0:GValueNode) (r:List UInt8×Int),xo k a0=some r→ACalls qh 138 [.dp (encGValueNode a0) 0] [] (fun r' _=>r'=.tup [.ds true (qe encB r.1) (qc r.1) false,.int .i64 r.2]))∧(∀ (a0:Int) (a1:GValueValue) (r:GRaw×Int),yN k a0 a1=some r→ACalls qh 101 [.int .i64 a0,.agg (encGValueValue a1)] [] (fun r' _=>r'=.tup [.agg (encGRaw r.1),.int .i64 r.2]))∧(∀ (a0:GValueNode) (r:List GRaw×Int),zQ k a0=some r→ACalls qh 58 [.dp (encGValueNode a0) 0] [] (fun r' _=>r'=.tup [.ds true (qe encGRaw r.1) (qc r.1) false,.int .i64 r.2])):=by
 induction k with
 |zero=>exact⟨(fun a0 r h=>by simp only[xo] at h; cases h),(fun a0 a1 r h=>by simp only[yN] at h; cases h),(fun a0 r h=>by simp only[zQ] at h; cases h)⟩
 |succ k ih=>exact⟨(fun a0 r h=>xo.step _ _ _ ih.1 ih.2.1 ih.2.2 a0 r (by simpa only [xo] using h)),(fun a0 a1 r h=>yN.step _ _ _ ih.1 ih.2.1 ih.2.2 a0 a1 r (by simpa only [yN] using h)),(fun a0 r h=>zQ.step _ _ _ ih.1 ih.2.1 ih.2.2 a0 r (by simpa only [zQ] using h))⟩
theorem zQ.ev (k:Nat)(a0:GValueNode)(r:List GRaw×Int)(h:zQ k a0=some r)(σ:Store):ACalls qh 58 [.dp (encGValueNode a0) 0] σ (fun r' σ'=>r'=.tup [.ds true (qe encGRaw r.1) (qc r.1) false,.int .i64 r.2]∧σ'=σ):=
 ((xo.all k).2.2 a0 r h).c σ
def wO (a0:GTree):Option (List GRaw×Int):=
 (Yb a0).bind fun r1=>(if ((!r1.2)||(!(decide (a0.fKind=3))))=true then some (([]:List GRaw),1) else (yI r1.1).bind fun r5=>(zQ rounds r5).bind fun r6=>some (r6.1,r6.2))
theorem wO.ok (a0:GTree)(r:List GRaw×Int)(h:wO a0=some r):ACalls qh 37 [.agg (cellsGTree a0)] [] (fun r' _=>r'=.tup [.ds true (qe encGRaw r.1) (qc r.1) false,.int .i64 r.2]):=by
 refine zf (rs:=[.tmp 2,.tmp 3]) tok Tryz.func37 rfl Tryz.ntmps37 rfl Tryz.call37 (by simp) ?_;refine zk [(0,.agg (cellsGTree a0))] ⟨rfl,trivial⟩ ?_;unfold wO at h
 refine rg tok [1] fun K hK=>?_
 simp only[go_sem,qb,qa,qd,reduceCtorEq,cellsGTree];apply hK
 refine rc [1,4,5] fun K hK=>?_
 obtain⟨r1,hr1,h⟩:=bind_some h;refine rnN 1 ?_;refine clN rfl rfl rfl (Yb.ev a0 r1 hr1 _) ?_;have f2:=ZT r1.1;unfold AV.one at f2;refine zi tok 6 ?_;simp only[go_sem,qb,qf,qa,qd,encGValueValue,f2];refine nkN hK ?_
 refine za fun Z3 hZ3=>?_
 refine rc [4,17] fun K hK=>?_
 refine rnN 3 ?_;refine zh 4 (fun L τ=>L=[(4,.op 1 0 0),(17,.bool ((!r1.2)||(!(decide (a0.fKind=3)))))]∧τ=[.cells 0 (cellsGTree a0),.cells 0 [ifcV r1.1]]) ?_ ?_
 · refine zN (b:=(!r1.2)) 13 rfl (fun hg13=>?_) (fun hg13=>?_)
   · refine rnN 4 ?_;refine zb ⟨rfl,_,_,⟨rfl,rfl⟩,.b hg13⟩
   refine rnN 4 ?_;refine zb ⟨rfl,_,_,⟨rfl,rfl⟩,.b hg13⟩
 rintro _ _ ⟨rfl,rfl⟩;refine nkN hK ?_;refine zm (b:=((!r1.2)||(!(decide (a0.fKind=3))))) rfl (fun hc4=>?_) (fun hc4=>?_)
 · rw[if_pos hc4] at h;refine rgN [2,3] ?_;cases h;exact rtA
 rw[xS hc4] at h;apply zd;apply hZ3
 refine rc [2,3] fun K hK=>?_
 obtain⟨r5,hr5,h⟩:=bind_some h;refine rnN 1 ?_;refine clN rfl rfl rfl (yI.ev r1.1 r5 hr5 _) ?_;obtain⟨r6,hr6,h⟩:=bind_some h;refine clN rfl rfl rfl (zQ.ev rounds r5 r6 hr6 _) ?_;refine rnN 4 ?_;refine nkN hK ?_;cases h;exact rtA
theorem wO.ev (a0:GTree)(r:List GRaw×Int)(h:wO a0=some r)(σ:Store):ACalls qh 37 [.agg (cellsGTree a0)] σ (fun r' σ'=>r'=.tup [.ds true (qe encGRaw r.1) (qc r.1) false,.int .i64 r.2]∧σ'=σ):=
 (wO.ok a0 r h).c σ
def xV (a0:GTree):Option (List UInt8×Int):=
 (wO a0).bind fun r1=>(if r1.2=0 then (yg r1.1).bind fun r6=>some (r6.1,r6.2) else some (([]:List UInt8),r1.2))
theorem xV.ok (a0:GTree)(r:List UInt8×Int)(h:xV a0=some r):ACalls qh 14 [.agg (cellsGTree a0)] [] (fun r' _=>r'=.tup [.ds true (qe encB r.1) (qc r.1) false,.int .i64 r.2]):=by
 refine zf (rs:=[.tmp 2,.tmp 3]) tok Tryz.func14 rfl Tryz.ntmps14 rfl Tryz.call14 (by simp) ?_;refine zk [(0,.agg (cellsGTree a0))] ⟨rfl,trivial⟩ ?_;unfold xV at h
 refine rg tok [1] fun K hK=>?_
 simp only[go_sem,qb,qa,qd,reduceCtorEq,cellsGTree];apply hK
 refine rc [4,5] fun K hK=>?_
 obtain⟨r1,hr1,h⟩:=bind_some h;refine rnN 1 ?_;refine clN rfl rfl rfl (wO.ev a0 r1 hr1 _) ?_;refine rnN 5 ?_;refine nkN hK ?_
 refine za fun Z2 hZ2=>?_
 refine rgN [4,5,12] ?_;refine zo rfl (fun hc3=>?_) (fun hc3=>?_)
 · rw[if_neg hc3] at h;have t4:=eq_false hc3
   refine rg tok [2,3] fun K hK=>?_
   simp only[go_sem,qb,qa,t4];apply hK
   cases h;exact rtA
 rw[if_pos hc3] at h;have t5:=eq_true hc3;apply zd;apply hZ2
 refine rc [2,3] fun K hK=>?_
 obtain⟨r6,hr6,h⟩:=bind_some h;refine zi tok 1 ?_;simp only[go_sem,qb,qa,t5];refine clN rfl rfl rfl (yg.ev r1.1 r6 hr6 _) ?_;refine rnN 4 ?_;refine nkN hK ?_;cases h;exact rtA
theorem xV.ev (a0:GTree)(r:List UInt8×Int)(h:xV a0=some r)(σ:Store):ACalls qh 14 [.agg (cellsGTree a0)] σ (fun r' σ'=>r'=.tup [.ds true (qe encB r.1) (qc r.1) false,.int .i64 r.2]∧σ'=σ):=
 (xV.ok a0 r h).c σ
def wz (a0:List Int):Option (List Int):=
 (Yk (qc a0) 8).bind fun _u2=>some a0
theorem wz.own (a0:List Int)(r:List Int)(h:wz a0=some r):ACalls qh 42 [.ds true (qe encI a0) (qc a0) false] [] (fun r' σ'=>r'=.os true 1 0 0 0 (qc r) false∧σ'=[.cells 0 (qe encI r)]):=by
 refine ACalls.own0 (by simp only[push_cast]) ?_;refine ZX (rs:=[.tmp 2]) tok Tryz.func42 rfl Tryz.ntmps42 rfl Tryz.call42 (by simp) ?_;refine zk [(0,.ds true (qe encI a0) (qc a0) false)] ⟨rfl,trivial⟩ ?_;unfold wz at h;refine rgN [0] ?_
 have f1:=fun nl tt σ=>xO E45.len a0 nl tt σ
 obtain⟨_u2,hu2,h⟩:=bind_some h;have gu2:=yi hu2
 refine rg tok [2] fun K hK=>?_
 simp only[go_sem,qb,qa,reduceCtorEq,zX,zI,yl,true_and,f1,gu2,Zs,qw,ql,qs];apply hK
 refine zR (L:=[(2,.os true 1 0 0 0 (qc a0) false)]) (τ:=[.cells 0 (qe encI a0)]) .s ?_;apply yH;cases h;simp only[ZQ,y5,xj,xX,exists_eq_left',go_sem];refine⟨0,0,by simp,?_,?_⟩
 · first|rfl|(simp only[go_sem,qb,qf,qa,qd,qv,qO,reduceIte,reduceCtorEq,push_cast,if_true,qI,qs,qJ,qx,qK,qU,ud,q7,uf,qX,qE,zZ]<;>rfl)
 first|rfl|(simp only[go_sem,push_cast,qx,zZ]<;>rfl)
theorem wz.ok (a0:List Int)(r:List Int)(h:wz a0=some r):ACalls qh 42 [.ds true (qe encI a0) (qc a0) false] [] (fun r' _=>r'=.ds true (qe encI r) (qc r) false):=
 (wz.own a0 r h).ownData (zr E45.len r) (by simp only[push_cast])
theorem wz.ev (a0:List Int)(r:List Int)(h:wz a0=some r)(σ:Store):ACalls qh 42 [.ds true (qe encI a0) (qc a0) false] σ (fun r' σ'=>r'=.ds true (qe encI r) (qc r) false∧σ'=σ):=
 (wz.ok a0 r h).c σ
def ym.l19 (a0:GSchema)(l4:List GMessage):List GEnumeration→Int→List GEnumeration→Option GSchema
 |[],x15,l13=>some (⟨a0.fName,l4,l13,a0.fMethods⟩:GSchema)
 |y19::q19,x15,l13=>(Yk (qc y19.fValues) 24).bind fun _u28=>(Yk (qc l13+1) 40).bind fun _u29=>((ym.l19 a0 l4 q19) (x15+1) (l13++[(⟨y19.fName,y19.fValues⟩:GEnumeration)]))
def ym.l10 (a0:GSchema):List GMessage→Int→List GMessage→Option GSchema
 |[],x6,l4=>(ym.l19 a0 l4 a0.fEnums 0 ([]:List GEnumeration))
 |y10::q10,x6,l4=>(Yk (qc y10.fFields) 56).bind fun _u36=>(wz y10.fReserved).bind fun r37=>(Yk (qc l4+1) 64).bind fun _u38=>((ym.l10 a0 q10) (x6+1) (l4++[(⟨y10.fName,y10.fFields,r37⟩:GMessage)]))
def ym (a0:GSchema):Option GSchema:=
 (Yk (qc a0.fMethods) 48).bind fun _u2=>(ym.l10 a0 a0.fMessages 0 ([]:List GMessage))
theorem ym.ok (a0:GSchema)(r:GSchema)(h:ym a0=some r):ACalls qh 17 [.agg (encGSchema a0)] [] (fun r' _=>r'=.agg (encGSchema r)):=by
 refine zf (rs:=[.cell 2 26]) tok Tryz.func17 rfl Tryz.ntmps17 rfl Tryz.call17 (by simp) ?_;refine zk [(0,.agg (encGSchema a0))] ⟨rfl,trivial⟩ ?_;unfold ym at h
 refine rg tok [1,2] fun K hK=>?_
 simp only[go_sem,qb,qa,qd,reduceCtorEq,encGSchema];apply hK
 have f1:=fun nl tt σ=>xO E24.len a0.fMethods nl tt σ
 obtain⟨_u2,hu2,h⟩:=bind_some h;have gu2:=yi hu2
 refine rd [1,2,3] fun K hK=>?_
 refine DW.start (T:=tab) [.any,.own 2 [],.any,.at [],.eff,.any,.flt,.eff] [(2,[])] ?_;refine DW.runN tok 8 ?_;simp only[go_sem,qb,qf,qa,qd,zX,zI,yl,true_and,encGSchema,f1,gu2,Zs,ub,qV,AV.one,qP,qw,qj,ql,qs,qD];refine DW.fin tok (by decide +kernel) rfl ?_;simp only[zj,upd,qa,reduceIte,yq,y0];apply hK
 refine Zo 3 1 3 rfl (by simp) rfl (L:=[(1,.op 0 0 0),(2,.op 1 0 0),(3,.op 3 0 0)]) (τ:=[.cells 0 (encGSchema a0),.cells 0 [.str [],.ds true [] 0 true,.ds true [] 0 true,.ds true [] 0 true],.cells 0 (qe encGMethod a0.fMethods),.cells 0 [.str a0.fName,.os true 3 4 0 0 (qc ([]:List GMessage)) false,.ds true [] 0 true,.os true 3 2 0 0 (qc a0.fMethods) false],.cells 0 (qe encGMessage ([]:List GMessage))]) .s ?_;refine Zo 3 2 2 rfl (by simp) rfl (L:=[(1,.op 0 0 0),(2,.op 1 0 0),(3,.op 3 0 0)]) (τ:=[.cells 0 (encGSchema a0),.cells 0 [.str [],.ds true [] 0 true,.ds true [] 0 true,.ds true [] 0 true],.cells 0 (qe encGMethod a0.fMethods),.cells 0 [.str a0.fName,.os true 3 4 0 0 (qc ([]:List GMessage)) false,.os true 2 5 0 0 (qc ([]:List GEnumeration)) false,.os true 3 2 0 0 (qc a0.fMethods) false],.cells 0 (qe encGMessage ([]:List GMessage)),.cells 0 (qe encGEnumeration ([]:List GEnumeration))]) .s ?_;refine zR (L:=[(1,.op 0 0 0),(2,.op 1 0 0),(3,.op 3 0 0)]) (τ:=[.cells 0 (encGSchema a0),.cells 0 [.str [],.ds true [] 0 true,.ds true [] 0 true,.ds true [] 0 true],.cells 0 (qe encGMethod a0.fMethods),.cells 0 [.str a0.fName,.os true 3 4 0 0 (qc ([]:List GMessage)) false,.os true 2 5 0 0 (qc ([]:List GEnumeration)) false,.os true 3 2 0 0 (qc a0.fMethods) false],.cells 0 (qe encGMessage ([]:List GMessage)),.cells 0 (qe encGEnumeration ([]:List GEnumeration))]) .s ?_
 refine za fun Z3 hZ3=>?_
 refine rgN [1,2,3,4] ?_;apply ze
 refine xu 0 rfl fun hb10=>?_
 replace hb10:qc a0.fMessages≤9223372036854775807:=hb10.2.1.1;refine zq (fun m L τ=>∃ (p10 q10:List GMessage) (x6:Int) (l4:List GMessage) (v5:Nat),m=qc q10∧L=[(1,.op 0 0 0),(2,.op 1 0 0),(3,.op 3 0 0),(4,.int .i64 x6)]∧τ=[.cells 0 (encGSchema a0),.cells 0 [.str [],.ds true [] 0 true,.ds true [] 0 true,.ds true [] 0 true],.cells 0 (qe encGMethod a0.fMethods),.cells 0 [.str a0.fName,.os true 3 4 v5 0 (qc l4) false,.os true 2 5 0 0 (qc ([]:List GEnumeration)) false,.os true 3 2 0 0 (qc a0.fMethods) false],.cells v5 (qe encGMessage l4),.cells 0 (qe encGEnumeration ([]:List GEnumeration))]∧a0.fMessages=p10++q10∧x6=(qc p10:Int)∧ym.l10 a0 q10 x6 l4=some r) _ ⟨[],a0.fMessages,0,([]:List GMessage),0,rfl,rfl,rfl,rfl,rfl,h⟩ .s ?_;rintro m L τ ⟨p10,q10,x6,l4,v5,rfl,rfl,rfl,hE10,hi10,h⟩
 rcases q10 with _|⟨y10,q10⟩
 · have hz10:=yr hE10 hi10;simp only[ym.l10] at h
   refine za fun Z11 hZ11=>?_
   refine rg tok [1,2,3,4,17] fun K hK=>?_
   simp only[go_sem,qb,qa,qd,hz10];apply hK
   refine zn rfl ?_;apply zv;apply hZ3
   refine za fun Z12 hZ12=>?_
   refine rgN [1,2,3,6] ?_;apply ze
   refine xu 0 rfl fun hb19=>?_
   replace hb19:qc a0.fEnums≤9223372036854775807:=hb19.2.2.1.1;refine zq (fun m L τ=>∃ (p19 q19:List GEnumeration) (x15:Int) (l13:List GEnumeration) (v14:Nat),m=qc q19∧L=[(1,.op 0 0 0),(2,.op 1 0 0),(3,.op 3 0 0),(6,.int .i64 x15)]∧τ=[.cells 0 (encGSchema a0),.cells 0 [.str [],.ds true [] 0 true,.ds true [] 0 true,.ds true [] 0 true],.cells 0 (qe encGMethod a0.fMethods),.cells 0 [.str a0.fName,.os true 3 4 v5 0 (qc l4) false,.os true 2 5 v14 0 (qc l13) false,.os true 3 2 0 0 (qc a0.fMethods) false],.cells v5 (qe encGMessage l4),.cells v14 (qe encGEnumeration l13)]∧a0.fEnums=p19++q19∧x15=(qc p19:Int)∧ym.l19 a0 l4 q19 x15 l13=some r) _ ⟨[],a0.fEnums,0,([]:List GEnumeration),0,rfl,rfl,rfl,rfl,rfl,h⟩ .s ?_;rintro m L τ ⟨p19,q19,x15,l13,v14,rfl,rfl,rfl,hE19,hi19,h⟩
   rcases q19 with _|⟨y19,q19⟩
   · have hz19:=yr hE19 hi19;simp only[ym.l19] at h
     refine za fun Z20 hZ20=>?_
     refine rg tok [1,2,3,6,43] fun K hK=>?_
     simp only[go_sem,qb,qa,qd,hz19];apply hK
     refine zn rfl ?_;apply zv;apply hZ12;refine rgN [2] ?_;cases h;exact rtA
   obtain⟨hz19,hw19,hx19,hE'19,hi'19⟩:=zW hE19 hi19 hb19;simp only[ym.l19] at h
   refine za fun Z21 hZ21=>?_
   refine rg tok [1,2,3,6,43] fun K hK=>?_
   simp only[go_sem,qb,qa,qd,hz19];apply hK
   refine zp rfl ?_;apply zd;apply hZ21
   refine za fun Z22 hZ22=>?_
   apply ze;have f23:=E23.idxS hx19;have f24:=E23.fldS0 (f:=9) rfl rfl hx19;have f25:=E23.idxS hx19;have f26:=E23.fldS (f:=82) rfl rfl hx19 (o:=1) (by decide)
   have f27:=fun nl tt σ=>xO E82.len y19.fValues nl tt σ
   obtain⟨_u28,hu28,h⟩:=bind_some h;have gu28:=yi hu28;obtain⟨_u29,hu29,h⟩:=bind_some h;have gu29:=yi hu29;have f30:=(zr E23.len l13)
   refine rdE [1,2,3,6] fun K hK=>?_
   refine DW.start (T:=tab) [.any,.own 2 [],.any,.own 1 [],.any,.any,.any,.own 1 [],.any,.at [],.any,.any,.any,.at [],.eff,.any,.eff,.eff,.any,.eff] [(2,[]),(1,[])] ?_;refine DW.runN tok 8 ?_;simp only[go_sem,qb,qa,qd,encGEnumeration,encGSchema,f23,f24,qj,ql,qs];refine DW.runN tok 8 ?_;simp only[go_sem,qb,qf,qa,qd,zX,zI,yl,true_and,encGEnumeration,f23,f26,f27,gu28,Zs,ub,qV,AV.one,qP,qw,qj,ql,qs,qD];refine DW.runN tok 4 ?_;simp only[go_sem,qb,qf,qa,qd,qv,zD,zY,qZ,qS,true_and,q9,zX,zI,yl,gu29,f30,ub,qV,AV.one,qP,qw,qj,ql,qs,qD,yK];refine DW.fin tok (by decide +kernel) rfl ?_;simp only[zj,upd,qa,reduceIte,yq,y0];apply hK
   apply hZ22
   refine rgE tok [1,2,3,6] fun K hK=>?_
   simp only[go_sem,qb,qa,hw19];apply hK
   exact⟨_,_,_,qr q19.length,⟨p19++[y19],q19,x15+1,l13++[(⟨y19.fName,y19.fValues⟩:GEnumeration)],v14+1,rfl,rfl,rfl,hE'19,hi'19,h⟩,(.t [0,1,2,3,4,5] false)⟩
 obtain⟨hz10,hw10,hx10,hE'10,hi'10⟩:=zW hE10 hi10 hb10;simp only[ym.l10] at h
 refine za fun Z31 hZ31=>?_
 refine rg tok [1,2,3,4,17] fun K hK=>?_
 simp only[go_sem,qb,qa,qd,hz10];apply hK
 refine zp rfl ?_;apply zd;apply hZ31
 refine za fun Z32 hZ32=>?_
 apply ze;have f33:=E22.idxS hx10;have f34:=E22.loadS rfl rfl hx10
 refine rg tok [1,2,3,4,5] fun K hK=>?_
 simp only[go_sem,qb,qf,qa,qd,encGMessage,f33,f34];apply hK
 have f35:=fun nl tt σ=>xO E47.len y10.fFields nl tt σ
 obtain⟨_u36,hu36,h⟩:=bind_some h;have gu36:=yi hu36;obtain⟨r37,hr37,h⟩:=bind_some h;obtain⟨_u38,hu38,h⟩:=bind_some h;have gu38:=yi hu38;have f39:=(zr E22.len l4)
 refine rdE [1,2,3,4] fun K hK=>?_
 refine DW.start (T:=tab) [.any,.own 3 [],.any,.own 2 [],.any,.at [],.eff,.any,.own 1 [],.eff,.any,.eff,.eff,.any,.eff] [(3,[]),(2,[]),(1,[])] ?_;refine DW.runN tok 8 ?_;simp only[go_sem,qb,qf,qa,qd,zX,zI,yl,true_and,encGSchema,f35,gu36,Zs,un,qw,qj,ql,qs,qD];refine DW.runN tok 1 ?_;simp only[go_sem,qb,qa,qd,qj,ql,qs];refine DW.call rfl rfl rfl (wz.ev y10.fReserved r37 hr37 _) ?_;refine DW.runN tok 5 ?_;simp only[go_sem,qb,qf,qa,qd,qv,zD,zY,qZ,qS,true_and,q9,zX,zI,yl,gu38,f39,ub,qV,AV.one,qP,qw,qj,ql,qs,qD,yK];refine DW.fin tok (by decide +kernel) rfl ?_;simp only[zj,upd,qa,reduceIte,yq,y0];apply hK
 apply hZ32
 refine rgE tok [1,2,3,4] fun K hK=>?_
 simp only[go_sem,qb,qa,hw10];apply hK
 exact⟨_,_,_,qr q10.length,⟨p10++[y10],q10,x6+1,l4++[(⟨y10.fName,y10.fFields,r37⟩:GMessage)],v5+1,rfl,rfl,rfl,hE'10,hi'10,h⟩,(.t [0,1,2,3,4,5] false)⟩
theorem ym.ev (a0:GSchema)(r:GSchema)(h:ym a0=some r)(σ:Store):ACalls qh 17 [.agg (encGSchema a0)] σ (fun r' σ'=>r'=.agg (encGSchema r)∧σ'=σ):=
 (ym.ok a0 r h).c σ
def xz (a0:Int):Bool:=
 ((((((decide (97≤a0))&&(decide (a0≤122)))||((decide (65≤a0))&&(decide (a0≤90))))||(decide (a0=95)))||((((decide (192≤a0))&&(decide (a0≤591)))&&(!(decide (a0=215))))&&(!(decide (a0=247)))))||(((decide (913≤a0))&&(decide (a0≤969)))&&(!(decide (a0=930)))))
theorem xz.ok (a0:Int)(r:Bool)(h:xz a0=r):ACalls qh 79 [.int .i32 a0] [] (fun r' _=>r'=.bool r):=by
 refine zf (rs:=[.tmp 2]) tok Tryz.func79 rfl Tryz.ntmps79 rfl Tryz.call79 (by simp) ?_;refine zk [(0,.int .i32 a0)] ⟨rfl,trivial⟩ ?_;unfold xz at h;refine rgN [0] ?_
 refine rc [2] fun K hK=>?_
 refine rnN 3 ?_;refine zh 3 (fun L τ=>L=[(0,.int .i32 a0),(8,.bool ((decide (97≤a0))&&(decide (a0≤122))))]∧τ=[]) ?_ ?_
 · refine yx 5 rfl (fun hg5=>?_) (fun hg5=>?_)
   · have t1:=eq_true hg5;refine rnN 3 ?_;refine zb ⟨rfl,_,_,⟨rfl,rfl⟩,.p t1⟩
   have t2:=eq_false hg5;refine rnN 3 ?_;refine zb ⟨rfl,_,_,⟨rfl,rfl⟩,.p t2⟩
 rintro _ _ ⟨rfl,rfl⟩;refine rnN 1 ?_;refine zh 7 (fun L τ=>L=[(0,.int .i32 a0),(16,.bool (((decide (97≤a0))&&(decide (a0≤122)))||((decide (65≤a0))&&(decide (a0≤90)))))]∧τ=[]) ?_ ?_
 · refine zN (b:=((decide (97≤a0))&&(decide (a0≤122)))) 9 rfl (fun hg9=>?_) (fun hg9=>?_)
   · refine rnN 7 ?_;refine zb ⟨rfl,_,_,⟨rfl,rfl⟩,.b hg9⟩
   refine rnN 3 ?_;refine zh 3 (fun L τ=>L=[(0,.int .i32 a0),(9,.bool false),(15,.bool ((decide (65≤a0))&&(decide (a0≤90))))]∧τ=[]) ?_ ?_
   · refine yx 12 rfl (fun hg12=>?_) (fun hg12=>?_)
     · have t3:=eq_true hg12;refine rnN 3 ?_;refine zb ⟨rfl,_,_,⟨rfl,rfl⟩,.p t3⟩
     have t4:=eq_false hg12;refine rnN 3 ?_;refine zb ⟨rfl,_,_,⟨rfl,rfl⟩,.p t4⟩
   rintro _ _ ⟨rfl,rfl⟩;refine rnN 1 ?_;refine zb ⟨rfl,_,_,⟨rfl,rfl⟩,.b hg9⟩
 rintro _ _ ⟨rfl,rfl⟩;refine rnN 1 ?_;refine zh 3 (fun L τ=>L=[(0,.int .i32 a0),(20,.bool ((((decide (97≤a0))&&(decide (a0≤122)))||((decide (65≤a0))&&(decide (a0≤90))))||(decide (a0=95))))]∧τ=[]) ?_ ?_
 · refine zN (b:=(((decide (97≤a0))&&(decide (a0≤122)))||((decide (65≤a0))&&(decide (a0≤90))))) 17 rfl (fun hg17=>?_) (fun hg17=>?_)
   · refine rnN 3 ?_;refine zb ⟨rfl,_,_,⟨rfl,rfl⟩,.b hg17⟩
   refine rnN 3 ?_;refine zb ⟨rfl,_,_,⟨rfl,rfl⟩,.b hg17⟩
 rintro _ _ ⟨rfl,rfl⟩;refine rnN 1 ?_;refine zh 15 (fun L τ=>L=[(0,.int .i32 a0),(36,.bool (((((decide (97≤a0))&&(decide (a0≤122)))||((decide (65≤a0))&&(decide (a0≤90))))||(decide (a0=95)))||((((decide (192≤a0))&&(decide (a0≤591)))&&(!(decide (a0=215))))&&(!(decide (a0=247))))))]∧τ=[]) ?_ ?_
 · refine zN (b:=((((decide (97≤a0))&&(decide (a0≤122)))||((decide (65≤a0))&&(decide (a0≤90))))||(decide (a0=95)))) 21 rfl (fun hg21=>?_) (fun hg21=>?_)
   · refine rnN 10 ?_;refine rnN 5 ?_;refine zb ⟨rfl,_,_,⟨rfl,rfl⟩,.b hg21⟩
   refine rnN 3 ?_;refine zh 3 (fun L τ=>L=[(0,.int .i32 a0),(21,.bool false),(27,.bool ((decide (192≤a0))&&(decide (a0≤591))))]∧τ=[]) ?_ ?_
   · refine yx 24 rfl (fun hg24=>?_) (fun hg24=>?_)
     · have t5:=eq_true hg24;refine rnN 3 ?_;refine zb ⟨rfl,_,_,⟨rfl,rfl⟩,.p t5⟩
     have t6:=eq_false hg24;refine rnN 3 ?_;refine zb ⟨rfl,_,_,⟨rfl,rfl⟩,.p t6⟩
   rintro _ _ ⟨rfl,rfl⟩;refine rnN 1 ?_;refine zh 3 (fun L τ=>L=[(0,.int .i32 a0),(21,.bool false),(31,.bool (((decide (192≤a0))&&(decide (a0≤591)))&&(!(decide (a0=215)))))]∧τ=[]) ?_ ?_
   · refine zN (b:=((decide (192≤a0))&&(decide (a0≤591)))) 28 rfl (fun hg28=>?_) (fun hg28=>?_)
     · refine rnN 3 ?_;refine zb ⟨rfl,_,_,⟨rfl,rfl⟩,.b hg28⟩
     refine rnN 3 ?_;refine zb ⟨rfl,_,_,⟨rfl,rfl⟩,.b hg28⟩
   rintro _ _ ⟨rfl,rfl⟩;refine rnN 1 ?_;refine zh 3 (fun L τ=>L=[(0,.int .i32 a0),(21,.bool false),(35,.bool ((((decide (192≤a0))&&(decide (a0≤591)))&&(!(decide (a0=215))))&&(!(decide (a0=247)))))]∧τ=[]) ?_ ?_
   · refine zN (b:=(((decide (192≤a0))&&(decide (a0≤591)))&&(!(decide (a0=215))))) 32 rfl (fun hg32=>?_) (fun hg32=>?_)
     · refine rnN 3 ?_;refine zb ⟨rfl,_,_,⟨rfl,rfl⟩,.b hg32⟩
     refine rnN 3 ?_;refine zb ⟨rfl,_,_,⟨rfl,rfl⟩,.b hg32⟩
   rintro _ _ ⟨rfl,rfl⟩;refine rnN 1 ?_;refine zb ⟨rfl,_,_,⟨rfl,rfl⟩,.b hg21⟩
 rintro _ _ ⟨rfl,rfl⟩;refine rnN 1 ?_;refine zh 11 (fun L τ=>L=[(48,.bool ((((((decide (97≤a0))&&(decide (a0≤122)))||((decide (65≤a0))&&(decide (a0≤90))))||(decide (a0=95)))||((((decide (192≤a0))&&(decide (a0≤591)))&&(!(decide (a0=215))))&&(!(decide (a0=247)))))||(((decide (913≤a0))&&(decide (a0≤969)))&&(!(decide (a0=930))))))]∧τ=[]) ?_ ?_
 · refine zN (b:=(((((decide (97≤a0))&&(decide (a0≤122)))||((decide (65≤a0))&&(decide (a0≤90))))||(decide (a0=95)))||((((decide (192≤a0))&&(decide (a0≤591)))&&(!(decide (a0=215))))&&(!(decide (a0=247)))))) 37 rfl (fun hg37=>?_) (fun hg37=>?_)
   · refine rnN 10 ?_;refine rnN 1 ?_;refine zb ⟨rfl,_,_,⟨rfl,rfl⟩,.b hg37⟩
   refine rnN 3 ?_;refine zh 3 (fun L τ=>L=[(0,.int .i32 a0),(37,.bool false),(43,.bool ((decide (913≤a0))&&(decide (a0≤969))))]∧τ=[]) ?_ ?_
   · refine yx 40 rfl (fun hg40=>?_) (fun hg40=>?_)
     · have t7:=eq_true hg40;refine rnN 3 ?_;refine zb ⟨rfl,_,_,⟨rfl,rfl⟩,.p t7⟩
     have t8:=eq_false hg40;refine rnN 3 ?_;refine zb ⟨rfl,_,_,⟨rfl,rfl⟩,.p t8⟩
   rintro _ _ ⟨rfl,rfl⟩;refine rnN 1 ?_;refine zh 3 (fun L τ=>L=[(37,.bool false),(47,.bool (((decide (913≤a0))&&(decide (a0≤969)))&&(!(decide (a0=930)))))]∧τ=[]) ?_ ?_
   · refine zN (b:=((decide (913≤a0))&&(decide (a0≤969)))) 44 rfl (fun hg44=>?_) (fun hg44=>?_)
     · refine rnN 3 ?_;refine zb ⟨rfl,_,_,⟨rfl,rfl⟩,.b hg44⟩
     refine rnN 3 ?_;refine zb ⟨rfl,_,_,⟨rfl,rfl⟩,.b hg44⟩
   rintro _ _ ⟨rfl,rfl⟩;refine rnN 1 ?_;refine zb ⟨rfl,_,_,⟨rfl,rfl⟩,.b hg37⟩
 rintro _ _ ⟨rfl,rfl⟩;refine rnN 1 ?_;refine nkN hK ?_;cases h;exact rtA
theorem xz.ev (a0:Int)(r:Bool)(h:xz a0=r)(σ:Store):ACalls qh 79 [.int .i32 a0] σ (fun r' σ'=>r'=.bool r∧σ'=σ):=
 (xz.ok a0 r h).c σ
def xn.j3 (x2:Bool):Bool:=
 (if x2=true then true else false)
def xn (a0:List UInt8):Bool:=
 (if a0=[115,99,104,101,109,97] then (xn.j3 (decide (a0=[115,99,104,101,109,97]))) else (if a0=[109,101,115,115,97,103,101] then (xn.j3 (decide (a0=[109,101,115,115,97,103,101]))) else (if a0=[101,110,117,109] then (xn.j3 (decide (a0=[101,110,117,109]))) else (if a0=[99,97,108,108] then (xn.j3 (decide (a0=[99,97,108,108]))) else (if a0=[114,101,116,117,114,110,115] then (xn.j3 (decide (a0=[114,101,116,117,114,110,115]))) else (if a0=[114,101,115,101,114,118,101,100] then (xn.j3 (decide (a0=[114,101,115,101,114,118,101,100]))) else (if a0=[111,112,116,105,111,110,97,108] then (xn.j3 (decide (a0=[111,112,116,105,111,110,97,108]))) else (if a0=[114,101,112,101,97,116,101,100] then (xn.j3 (decide (a0=[114,101,112,101,97,116,101,100]))) else (if a0=[105,110,116,51,50] then (xn.j3 (decide (a0=[105,110,116,51,50]))) else (if a0=[105,110,116,54,52] then (xn.j3 (decide (a0=[105,110,116,54,52]))) else (if a0=[98,111,111,108] then (xn.j3 (decide (a0=[98,111,111,108]))) else (if a0=[116,101,120,116] then (xn.j3 (decide (a0=[116,101,120,116]))) else (xn.j3 (decide (a0=[98,121,116,101,115])))))))))))))))
theorem xn.ok (a0:List UInt8)(r:Bool)(h:xn a0=r):ACalls qh 80 [.str a0] [] (fun r' _=>r'=.bool r):=by
 refine zf (rs:=[.tmp 2]) tok Tryz.func80 rfl Tryz.ntmps80 rfl Tryz.call80 (by simp) ?_;refine zk [(0,.str a0)] ⟨rfl,trivial⟩ ?_;unfold xn at h;refine rgN [0] ?_
 refine za fun Z1 hZ1=>?_
 refine rgN [3] ?_;apply ze;refine xL (fun L τ=>∃ (x2:Bool),L=[(4,.bool x2)]∧τ=[]∧xn.j3 x2=r) ?_ ?_
 · refine rgN [3,4] ?_;refine zo rfl (fun hc5=>?_) (fun hc5=>?_)
   · rw[if_pos hc5] at h;have t6:=eq_true hc5;apply zd;exact⟨_,_,⟨decide (a0=[115,99,104,101,109,97]),rfl,rfl,h⟩,.s⟩
   rw[if_neg hc5] at h;have t7:=eq_false hc5
   refine rg tok [3,4] fun K hK=>?_
   simp only[go_sem,qb,qa,t7];apply hK
   refine zo rfl (fun hc8=>?_) (fun hc8=>?_)
   · rw[if_pos hc8] at h;have t9:=eq_true hc8;apply zd;exact⟨_,_,⟨decide (a0=[109,101,115,115,97,103,101]),rfl,rfl,h⟩,.s⟩
   rw[if_neg hc8] at h;have t10:=eq_false hc8
   refine rg tok [3,4] fun K hK=>?_
   simp only[go_sem,qb,qa,t10];apply hK
   refine zo rfl (fun hc11=>?_) (fun hc11=>?_)
   · rw[if_pos hc11] at h;have t12:=eq_true hc11;apply zd;exact⟨_,_,⟨decide (a0=[101,110,117,109]),rfl,rfl,h⟩,.s⟩
   rw[if_neg hc11] at h;have t13:=eq_false hc11
   refine rg tok [3,4] fun K hK=>?_
   simp only[go_sem,qb,qa,t13];apply hK
   refine zo rfl (fun hc14=>?_) (fun hc14=>?_)
   · rw[if_pos hc14] at h;have t15:=eq_true hc14;apply zd;exact⟨_,_,⟨decide (a0=[99,97,108,108]),rfl,rfl,h⟩,.s⟩
   rw[if_neg hc14] at h;have t16:=eq_false hc14
   refine rg tok [3,4] fun K hK=>?_
   simp only[go_sem,qb,qa,t16];apply hK
   refine zo rfl (fun hc17=>?_) (fun hc17=>?_)
   · rw[if_pos hc17] at h;have t18:=eq_true hc17;apply zd;exact⟨_,_,⟨decide (a0=[114,101,116,117,114,110,115]),rfl,rfl,h⟩,.s⟩
   rw[if_neg hc17] at h;have t19:=eq_false hc17
   refine rg tok [3,4] fun K hK=>?_
   simp only[go_sem,qb,qa,t19];apply hK
   refine zo rfl (fun hc20=>?_) (fun hc20=>?_)
   · rw[if_pos hc20] at h;have t21:=eq_true hc20;apply zd;exact⟨_,_,⟨decide (a0=[114,101,115,101,114,118,101,100]),rfl,rfl,h⟩,.s⟩
   rw[if_neg hc20] at h;have t22:=eq_false hc20
   refine rg tok [3,4] fun K hK=>?_
   simp only[go_sem,qb,qa,t22];apply hK
   refine zo rfl (fun hc23=>?_) (fun hc23=>?_)
   · rw[if_pos hc23] at h;have t24:=eq_true hc23;apply zd;exact⟨_,_,⟨decide (a0=[111,112,116,105,111,110,97,108]),rfl,rfl,h⟩,.s⟩
   rw[if_neg hc23] at h;have t25:=eq_false hc23
   refine rg tok [3,4] fun K hK=>?_
   simp only[go_sem,qb,qa,t25];apply hK
   refine zo rfl (fun hc26=>?_) (fun hc26=>?_)
   · rw[if_pos hc26] at h;have t27:=eq_true hc26;apply zd;exact⟨_,_,⟨decide (a0=[114,101,112,101,97,116,101,100]),rfl,rfl,h⟩,.s⟩
   rw[if_neg hc26] at h;have t28:=eq_false hc26
   refine rg tok [3,4] fun K hK=>?_
   simp only[go_sem,qb,qa,t28];apply hK
   refine zo rfl (fun hc29=>?_) (fun hc29=>?_)
   · rw[if_pos hc29] at h;have t30:=eq_true hc29;apply zd;exact⟨_,_,⟨decide (a0=[105,110,116,51,50]),rfl,rfl,h⟩,.s⟩
   rw[if_neg hc29] at h;have t31:=eq_false hc29
   refine rg tok [3,4] fun K hK=>?_
   simp only[go_sem,qb,qa,t31];apply hK
   refine zo rfl (fun hc32=>?_) (fun hc32=>?_)
   · rw[if_pos hc32] at h;have t33:=eq_true hc32;apply zd;exact⟨_,_,⟨decide (a0=[105,110,116,54,52]),rfl,rfl,h⟩,.s⟩
   rw[if_neg hc32] at h;have t34:=eq_false hc32
   refine rg tok [3,4] fun K hK=>?_
   simp only[go_sem,qb,qa,t34];apply hK
   refine zo rfl (fun hc35=>?_) (fun hc35=>?_)
   · rw[if_pos hc35] at h;have t36:=eq_true hc35;apply zd;exact⟨_,_,⟨decide (a0=[98,111,111,108]),rfl,rfl,h⟩,.s⟩
   rw[if_neg hc35] at h;have t37:=eq_false hc35
   refine rg tok [3,4] fun K hK=>?_
   simp only[go_sem,qb,qa,t37];apply hK
   refine zo rfl (fun hc38=>?_) (fun hc38=>?_)
   · rw[if_pos hc38] at h;have t39:=eq_true hc38;apply zd;exact⟨_,_,⟨decide (a0=[116,101,120,116]),rfl,rfl,h⟩,.s⟩
   rw[if_neg hc38] at h;have t40:=eq_false hc38
   refine rgE tok [4] fun K hK=>?_
   simp only[go_sem,qb,qa,t40];apply hK
   exact⟨_,_,⟨decide (a0=[98,121,116,101,115]),rfl,rfl,h⟩,.s⟩
 rintro _ _ ⟨x2,rfl,rfl,h⟩;unfold xn.j3 at h;refine zm (b:=x2) rfl (fun hc4=>?_) (fun hc4=>?_)
 · rw[if_pos hc4] at h;refine rgN [2] ?_;cases h;exact rtA
 rw[xS hc4] at h;apply zd;apply hZ1;refine rgN [2] ?_;cases h;exact rtA
end
section
set_option maxRecDepth 4000
set_option maxHeartbeats 1000000
open AM
theorem xn.ev (a0:List UInt8)(r:Bool)(h:xn a0=r)(σ:Store):ACalls qh 80 [.str a0] σ (fun r' σ'=>r'=.bool r∧σ'=σ):=
 (xn.ok a0 r h).c σ
def wm (a0:Int):Bool:=
 ((decide (48≤a0))&&(decide (a0≤57)))
theorem wm.ok (a0:Int)(r:Bool)(h:wm a0=r):ACalls qh 81 [.int .i32 a0] [] (fun r' _=>r'=.bool r):=by
 refine zf (rs:=[.tmp 2]) tok Tryz.func81 rfl Tryz.ntmps81 rfl Tryz.call81 (by simp) ?_;refine zk [(0,.int .i32 a0)] ⟨rfl,trivial⟩ ?_;unfold wm at h;refine rgN [0] ?_
 refine rc [2] fun K hK=>?_
 refine rnN 3 ?_;refine zh 3 (fun L τ=>L=[(8,.bool ((decide (48≤a0))&&(decide (a0≤57))))]∧τ=[]) ?_ ?_
 · refine yx 5 rfl (fun hg5=>?_) (fun hg5=>?_)
   · have t1:=eq_true hg5;refine rnN 3 ?_;refine zb ⟨rfl,_,_,⟨rfl,rfl⟩,.p t1⟩
   have t2:=eq_false hg5;refine rnN 3 ?_;refine zb ⟨rfl,_,_,⟨rfl,rfl⟩,.p t2⟩
 rintro _ _ ⟨rfl,rfl⟩;refine rnN 1 ?_;refine nkN hK ?_;cases h;exact rtA
theorem wm.ev (a0:Int)(r:Bool)(h:wm a0=r)(σ:Store):ACalls qh 81 [.int .i32 a0] σ (fun r' σ'=>r'=.bool r∧σ'=σ):=
 (wm.ok a0 r h).c σ
def xg.l14 (r1:List Int×Bool):Nat→Int→Option Bool
 |0,_=>none
 |k14+1,x12=>(if x12<(qc r1.1:Int) then (Zt r1.1 x12).bind fun y19=>bnd (xz y19) fun r22=>bnd (if (!r22)=true then bnd (wm y19) fun r25 => !r25 else false) fun c23=>(if c23=true then some false else ((xg.l14 r1 k14) (IntKind.i64.wrap (x12+1)))) else some true)
def xg (a0:List UInt8):Option Bool:=
 (xQ a0).bind fun r1=>(if (((!r1.2)||(decide ((qc r1.1:Int)<1)))||(decide (20<(qc r1.1:Int))))=true then some true else (Zt r1.1 0).bind fun y3=>bnd (xz y3) fun r6=>some (!r6)).bind fun c3=>bnd (if c3=true then true else bnd (xn a0) fun r8=>r8) fun c8=>(if c8=true then some false else (xg.l14 r1 rounds 1))
theorem xg.ok (a0:List UInt8)(r:Bool)(h:xg a0=some r):ACalls qh 45 [.str a0] [] (fun r' _=>r'=.bool r):=by
 refine zf (rs:=[.tmp 2]) tok Tryz.func45 rfl Tryz.ntmps45 rfl Tryz.call45 (by simp) ?_;refine zk [(0,.str a0)] ⟨rfl,trivial⟩ ?_;unfold xg at h;refine rgN [0] ?_
 refine rc [0,3,4] fun K hK=>?_
 obtain⟨r1,hr1,h⟩:=bind_some h;refine rnN 1 ?_;refine clN rfl rfl rfl (xQ.ev a0 r1 hr1 _) ?_;refine rnN 5 ?_;refine nkN hK ?_
 refine za fun Z2 hZ2=>?_
 refine rc [3,33] fun K hK=>?_
 refine rnN 3 ?_;refine zh 4 (fun L τ=>L=[(0,.str a0),(3,.ds true (qe (vch .i32) r1.1) (qc r1.1) false),(17,.bool ((!r1.2)||(decide ((qc r1.1:Int)<1))))]∧τ=[]) ?_ ?_
 · refine zN (b:=(!r1.2)) 13 rfl (fun hg13=>?_) (fun hg13=>?_)
   · refine rnN 4 ?_;refine zb ⟨rfl,_,_,⟨rfl,rfl⟩,.b hg13⟩
   refine rnN 4 ?_;refine zb ⟨rfl,_,_,⟨rfl,rfl⟩,.b hg13⟩
 rintro _ _ ⟨rfl,rfl⟩;refine rnN 1 ?_;refine zh 4 (fun L τ=>L=[(0,.str a0),(3,.ds true (qe (vch .i32) r1.1) (qc r1.1) false),(22,.bool (((!r1.2)||(decide ((qc r1.1:Int)<1)))||(decide (20<(qc r1.1:Int)))))]∧τ=[]) ?_ ?_
 · refine zN (b:=((!r1.2)||(decide ((qc r1.1:Int)<1)))) 18 rfl (fun hg18=>?_) (fun hg18=>?_)
   · refine rnN 4 ?_;refine zb ⟨rfl,_,_,⟨rfl,rfl⟩,.b hg18⟩
   refine rnN 4 ?_;refine zb ⟨rfl,_,_,⟨rfl,rfl⟩,.b hg18⟩
 rintro _ _ ⟨rfl,rfl⟩;refine rnN 1 ?_;obtain⟨c3,hc3,h⟩:=bind_some h;refine zh 6 (fun L τ=>L=[(0,.str a0),(3,.ds true (qe (vch .i32) r1.1) (qc r1.1) false),(29,.bool c3)]∧τ=[]) ?_ ?_
 · refine zN (b:=(((!r1.2)||(decide ((qc r1.1:Int)<1)))||(decide (20<(qc r1.1:Int))))) 23 rfl (fun hg23=>?_) (fun hg23=>?_)
   · rw[if_pos hg23] at hc3;refine rnN 6 ?_;cases hc3;refine zb ⟨rfl,_,_,⟨rfl,rfl⟩,.b hg23⟩
   rw[xS hg23] at hc3;obtain⟨y4,hy4,hc3⟩:=bind_some hc3;have f5:=E130.idxS hy4;have f6:=E130.fldS0 (f:=21) rfl rfl hy4;obtain⟨r7,hr7,hc3⟩:=zO hc3;refine zi tok 3 ?_;simp only[go_sem,qb,qa,reduceCtorEq,vch,f5,f6];refine clN rfl rfl rfl (xz.ev y4 r7 hr7 _) ?_;refine rnN 2 ?_;cases hc3;refine zb ⟨rfl,_,_,⟨rfl,rfl⟩,.b hg23⟩
 rintro _ _ ⟨rfl,rfl⟩;refine rnN 1 ?_;obtain⟨c8,hc8,h⟩:=zO h;refine zh 3 (fun L τ=>L=[(3,.ds true (qe (vch .i32) r1.1) (qc r1.1) false),(33,.bool c8)]∧τ=[]) ?_ ?_
 · refine zN (b:=c3) 30 rfl (fun hg30=>?_) (fun hg30=>?_)
   · rw[if_pos hg30] at hc8;refine rnN 3 ?_;subst hc8;refine zb ⟨rfl,_,_,⟨rfl,rfl⟩,.b hg30⟩
   rw[xS hg30] at hc8;obtain⟨r9,hr9,hc8⟩:=zO hc8;refine rnN 1 ?_;refine clN rfl rfl rfl (xn.ev a0 r9 hr9 _) ?_;refine rnN 1 ?_;subst hc8;refine zb ⟨rfl,_,_,⟨rfl,rfl⟩,.b hg30⟩
 rintro _ _ ⟨rfl,rfl⟩;refine nkN hK ?_;refine zm (b:=c8) rfl (fun hc10=>?_) (fun hc10=>?_)
 · rw[if_pos hc10] at h;refine rgN [2] ?_;cases h;exact rtA
 rw[xS hc10] at h;apply zd;apply hZ2
 refine za fun Z11 hZ11=>?_
 refine rgN [3,5] ?_;apply ze;refine zq (fun m L τ=>∃ (k14:Nat) (x12:Int),m=0+k14∧L=[(3,.ds true (qe (vch .i32) r1.1) (qc r1.1) false),(5,.int .i64 x12)]∧τ=[]∧xg.l14 r1 k14 x12=some r) _ ⟨rounds,1,rfl,rfl,rfl,h⟩ .s ?_;rintro m L τ ⟨k14,x12,rfl,rfl,rfl,h⟩
 rcases k14 with _|k14
 · cases h
 simp only[xg.l14] at h
 refine za fun Z15 hZ15=>?_
 refine rgN [3,5,37] ?_;refine zo rfl (fun hc16=>?_) (fun hc16=>?_)
 · rw[if_pos hc16] at h;have t17:=eq_true hc16;apply zd;apply hZ15
   refine za fun Z18 hZ18=>?_
   apply ze
   refine rc [3,5,53] fun K hK=>?_
   obtain⟨y19,hy19,h⟩:=bind_some h;have f20:=E130.idxS hy19;have f21:=E130.fldS0 (f:=21) rfl rfl hy19;obtain⟨r22,hr22,h⟩:=zO h;refine zi tok 4 ?_;simp only[go_sem,qb,qa,vch,t17,f20,f21];refine clN rfl rfl rfl (xz.ev y19 r22 hr22 _) ?_;refine rnN 2 ?_;obtain⟨c23,hc23,h⟩:=zO h;refine zh 7 (fun L τ=>L=[(3,.ds true (qe (vch .i32) r1.1) (qc r1.1) false),(5,.int .i64 x12),(53,.bool c23)]∧τ=[]) ?_ ?_
   · refine zN (b:=(!r22)) 46 rfl (fun hg46=>?_) (fun hg46=>?_)
     · rw[if_pos hg46] at hc23;have f24:=E130.idxS hy19;have f25:=E130.fldS0 (f:=21) rfl rfl hy19;obtain⟨r26,hr26,hc23⟩:=zO hc23;refine zi tok 4 ?_;simp only[go_sem,qb,qa,vch,f24,f25];refine clN rfl rfl rfl (wm.ev y19 r26 hr26 _) ?_;refine rnN 2 ?_;subst hc23;refine zb ⟨rfl,_,_,⟨rfl,rfl⟩,.b hg46⟩
     rw[xS hg46] at hc23;refine rnN 7 ?_;subst hc23;refine zb ⟨rfl,_,_,⟨rfl,rfl⟩,.b hg46⟩
   rintro _ _ ⟨rfl,rfl⟩;refine nkN hK ?_;refine zm (b:=c23) rfl (fun hc27=>?_) (fun hc27=>?_)
   · rw[if_pos hc27] at h;refine rgN [2] ?_;cases h;exact rtA
   rw[xS hc27] at h;apply zd;apply hZ18
   refine rgE tok [3,5] fun K hK=>?_
   simp only[go_sem,qb,qa];apply hK
   exact⟨_,_,_,qr (0+k14),⟨k14,IntKind.i64.wrap (x12+1),rfl,rfl,rfl,h⟩,.s⟩
 rw[if_neg hc16] at h;have t28:=eq_false hc16;apply zv;apply hZ11
 refine rg tok [2] fun K hK=>?_
 simp only[go_sem,qb,qa,t28];apply hK
 cases h;exact rtA
theorem xg.ev (a0:List UInt8)(r:Bool)(h:xg a0=some r)(σ:Store):ACalls qh 45 [.str a0] σ (fun r' σ'=>r'=.bool r∧σ'=σ):=
 (xg.ok a0 r h).c σ
def yv.l4 (a0:List UInt8):List (List UInt8)→Int→Option Bool
 |[],x2=>(xg a0).bind fun r6=>some r6
 |y4::q4,x2=>(if y4=a0 then some false else ((yv.l4 a0 q4) (x2+1)))
def yv (a0:List UInt8)(a1:List (List UInt8)):Option Bool:=
 (yv.l4 a0 a1 0)
theorem yv.ok (a0:List UInt8)(a1:List (List UInt8))(r:Bool)(h:yv a0 a1=some r):ACalls qh 47 [.str a0,.ds true (qe encS a1) (qc a1) false] [] (fun r' _=>r'=.bool r):=by
 refine zf (rs:=[.tmp 4]) tok Tryz.func47 rfl Tryz.ntmps47 rfl Tryz.call47 (by simp) ?_;refine zk [(0,.str a0),(1,.ds true (qe encS a1) (qc a1) false)] ⟨rfl,rfl,trivial⟩ ?_;unfold yv at h;refine rgN [0,1] ?_
 refine za fun Z1 hZ1=>?_
 refine rgN [0,1,5] ?_;apply ze
 refine yZ 1 fun hb4=>?_
 replace hb4:qc a1≤9223372036854775807:=hb4.1;refine zq (fun m L τ=>∃ (p4 q4:List (List UInt8)) (x2:Int),m=qc q4∧L=[(0,.str a0),(1,.ds true (qe encS a1) (qc a1) false),(5,.int .i64 x2)]∧τ=[]∧a1=p4++q4∧x2=(qc p4:Int)∧yv.l4 a0 q4 x2=some r) _ ⟨[],a1,0,rfl,rfl,rfl,rfl,rfl,h⟩ .s ?_;rintro m L τ ⟨p4,q4,x2,rfl,rfl,rfl,hE4,hi4,h⟩
 rcases q4 with _|⟨y4,q4⟩
 · have hz4:=yr hE4 hi4;simp only[yv.l4] at h
   refine za fun Z5 hZ5=>?_
   refine rg tok [0,1,5,9] fun K hK=>?_
   simp only[go_sem,qb,qa,reduceCtorEq,hz4];apply hK
   refine zn rfl ?_;apply zv;apply hZ1
   refine rc [4] fun K hK=>?_
   obtain⟨r6,hr6,h⟩:=bind_some h;refine rnN 1 ?_;refine clN rfl rfl rfl (xg.ev a0 r6 hr6 _) ?_;refine rnN 1 ?_;refine nkN hK ?_;cases h;exact rtA
 obtain⟨hz4,hw4,hx4,hE'4,hi'4⟩:=zW hE4 hi4 hb4;simp only[yv.l4] at h
 refine za fun Z7 hZ7=>?_
 refine rg tok [0,1,5,9] fun K hK=>?_
 simp only[go_sem,qb,qa,reduceCtorEq,hz4];apply hK
 refine zp rfl ?_;apply zd;apply hZ7
 refine za fun Z8 hZ8=>?_
 apply ze;have f9:=E98.idxS hx4;have f10:=E98.fldS0 (f:=9) rfl rfl hx4
 refine rg tok [0,1,5,17] fun K hK=>?_
 simp only[go_sem,qb,qa,reduceCtorEq,encS,f9,f10];apply hK
 refine zo rfl (fun hc11=>?_) (fun hc11=>?_)
 · rw[if_pos hc11] at h;have t12:=eq_true hc11
   refine rg tok [4] fun K hK=>?_
   simp only[go_sem,qb,qa,reduceCtorEq,t12];apply hK
   cases h;exact rtA
 rw[if_neg hc11] at h;have t13:=eq_false hc11;apply zd;apply hZ8
 refine rgE tok [0,1,5] fun K hK=>?_
 simp only[go_sem,qb,qa,reduceCtorEq,hw4,t13];apply hK
 exact⟨_,_,_,qr q4.length,⟨p4++[y4],q4,x2+1,rfl,rfl,rfl,hE'4,hi'4,h⟩,.s⟩
def yw.l4 (a1:Int):List Int→Int→Bool
 |[],x2=>false
 |y4::q4,x2=>(if y4=a1 then true else ((yw.l4 a1 q4) (x2+1)))
def yw (a0:GMessage)(a1:Int):Bool:=
 (yw.l4 a1 a0.fReserved 0)
theorem yw.ok (a0:GMessage)(a1:Int)(r:Bool)(h:yw a0 a1=r):ACalls qh 121 [.agg (encGMessage a0),.int .i64 a1] [] (fun r' _=>r'=.bool r):=by
 refine zf (rs:=[.tmp 4]) tok Tryz.func121 rfl Tryz.ntmps121 rfl Tryz.call121 (by simp) ?_;refine zk [(0,.agg (encGMessage a0)),(1,.int .i64 a1)] ⟨rfl,rfl,trivial⟩ ?_;unfold yw at h
 refine rg tok [1,2] fun K hK=>?_
 simp only[go_sem,qb,qa,qd,reduceCtorEq,encGMessage];apply hK
 refine za fun Z1 hZ1=>?_
 refine rgN [1,2,5] ?_;apply ze
 refine xu 0 rfl fun hb4=>?_
 replace hb4:qc a0.fReserved≤9223372036854775807:=hb4.2.2.1.1;refine zq (fun m L τ=>∃ (p4 q4:List Int) (x2:Int),m=qc q4∧L=[(1,.int .i64 a1),(2,.op 0 0 0),(5,.int .i64 x2)]∧τ=[.cells 0 (encGMessage a0)]∧a0.fReserved=p4++q4∧x2=(qc p4:Int)∧yw.l4 a1 q4 x2=r) _ ⟨[],a0.fReserved,0,rfl,rfl,rfl,rfl,rfl,h⟩ .s ?_;rintro m L τ ⟨p4,q4,x2,rfl,rfl,rfl,hE4,hi4,h⟩
 rcases q4 with _|⟨y4,q4⟩
 · have hz4:=yr hE4 hi4;simp only[yw.l4] at h
   refine za fun Z5 hZ5=>?_
   refine rg tok [1,2,5,10] fun K hK=>?_
   simp only[go_sem,qb,qa,qd,hz4];apply hK
   refine zn rfl ?_;apply zv;apply hZ1;refine rgN [4] ?_;cases h;exact rtA
 obtain⟨hz4,hw4,hx4,hE'4,hi'4⟩:=zW hE4 hi4 hb4;simp only[yw.l4] at h
 refine za fun Z6 hZ6=>?_
 refine rg tok [1,2,5,10] fun K hK=>?_
 simp only[go_sem,qb,qa,qd,hz4];apply hK
 refine zp rfl ?_;apply zd;apply hZ6
 refine za fun Z7 hZ7=>?_
 apply ze;have f8:=E45.idxS hx4;have f9:=E45.fldS0 (f:=3) rfl rfl hx4
 refine rg tok [1,2,5,19] fun K hK=>?_
 simp only[go_sem,qb,qa,qd,encI,f8,f9];apply hK
 refine zo rfl (fun hc10=>?_) (fun hc10=>?_)
 · rw[if_pos hc10] at h;have t11:=eq_true hc10
   refine rg tok [4] fun K hK=>?_
   simp only[go_sem,qb,qa,t11];apply hK
   cases h;exact rtA
 rw[if_neg hc10] at h;have t12:=eq_false hc10;apply zd;apply hZ7
 refine rgE tok [1,2,5] fun K hK=>?_
 simp only[go_sem,qb,qa,hw4,t12];apply hK
 exact⟨_,_,_,qr q4.length,⟨p4++[y4],q4,x2+1,rfl,rfl,rfl,hE'4,hi'4,h⟩,.s⟩
theorem yw.ev (a0:GMessage)(a1:Int)(r:Bool)(h:yw a0 a1=r)(σ:Store):ACalls qh 121 [.agg (encGMessage a0),.int .i64 a1] σ (fun r' σ'=>r'=.bool r∧σ'=σ):=
 (yw.ok a0 a1 r h).c σ
def xP.l4 (a1:List UInt8):List GEnumeration→Int→GEnumeration×Bool
 |[],x2=>((⟨[],([]:List GNamed)⟩:GEnumeration),false)
 |y4::q4,x2=>(if y4.fName=a1 then (y4,true) else ((xP.l4 a1 q4) (x2+1)))
def xP (a0:GSchema)(a1:List UInt8):GEnumeration×Bool:=
 (xP.l4 a1 a0.fEnums 0)
theorem xP.ok (a0:GSchema)(a1:List UInt8)(r:GEnumeration×Bool)(h:xP a0 a1=r):ACalls qh 147 [.agg (encGSchema a0),.str a1] [] (fun r' _=>r'=.tup [.agg (encGEnumeration r.1),.bool r.2]):=by
 refine zf (rs:=[.cell 4 84,.tmp 5]) tok Tryz.func147 rfl Tryz.ntmps147 rfl Tryz.call147 (by simp) ?_;refine zk [(0,.agg (encGSchema a0)),(1,.str a1)] ⟨rfl,rfl,trivial⟩ ?_;unfold xP at h
 refine rg tok [1,2,4] fun K hK=>?_
 simp only[go_sem,qb,qa,qd,reduceCtorEq,encGSchema];apply hK
 refine za fun Z1 hZ1=>?_
 refine rgN [1,2,4,6] ?_;apply ze
 refine xu 0 rfl fun hb4=>?_
 replace hb4:qc a0.fEnums≤9223372036854775807:=hb4.2.2.1.1;refine zq (fun m L τ=>∃ (p4 q4:List GEnumeration) (x2:Int),m=qc q4∧L=[(1,.str a1),(2,.op 0 0 0),(4,.op 1 0 0),(6,.int .i64 x2)]∧τ=[.cells 0 (encGSchema a0),.cells 0 [.str [],.ds true [] 0 true]]∧a0.fEnums=p4++q4∧x2=(qc p4:Int)∧xP.l4 a1 q4 x2=r) _ ⟨[],a0.fEnums,0,rfl,rfl,rfl,rfl,rfl,h⟩ .s ?_;rintro m L τ ⟨p4,q4,x2,rfl,rfl,rfl,hE4,hi4,h⟩
 rcases q4 with _|⟨y4,q4⟩
 · have hz4:=yr hE4 hi4;simp only[xP.l4] at h
   refine za fun Z5 hZ5=>?_
   refine rg tok [1,2,4,6,11] fun K hK=>?_
   simp only[go_sem,qb,qa,qd,hz4];apply hK
   refine zn rfl ?_;apply zv;apply hZ1;refine rgN [4,5] ?_;cases h;exact rtA
 obtain⟨hz4,hw4,hx4,hE'4,hi'4⟩:=zW hE4 hi4 hb4;simp only[xP.l4] at h
 refine za fun Z6 hZ6=>?_
 refine rg tok [1,2,4,6,11] fun K hK=>?_
 simp only[go_sem,qb,qa,qd,hz4];apply hK
 refine zp rfl ?_;apply zd;apply hZ6
 refine za fun Z7 hZ7=>?_
 apply ze;have f8:=E23.idxS hx4;have f9:=E23.fldS0 (f:=9) rfl rfl hx4
 refine rg tok [1,2,4,6,21] fun K hK=>?_
 simp only[go_sem,qb,qa,qd,encGEnumeration,f8,f9];apply hK
 refine zo rfl (fun hc10=>?_) (fun hc10=>?_)
 · rw[if_pos hc10] at h;have t11:=eq_true hc10;have f12:=E23.idxS hx4;have f13:=E23.loadS rfl rfl hx4
   refine rg tok [4,5] fun K hK=>?_
   simp only[go_sem,qb,qf,qa,qd,encGEnumeration,t11,f12,f13];apply hK
   cases h;exact rtA
 rw[if_neg hc10] at h;have t14:=eq_false hc10;apply zd;apply hZ7
 refine rgE tok [1,2,4,6] fun K hK=>?_
 simp only[go_sem,qb,qa,hw4,t14];apply hK
 exact⟨_,_,_,qr q4.length,⟨p4++[y4],q4,x2+1,rfl,rfl,rfl,hE'4,hi'4,h⟩,.s⟩
theorem xP.ev (a0:GSchema)(a1:List UInt8)(r:GEnumeration×Bool)(h:xP a0 a1=r)(σ:Store):ACalls qh 147 [.agg (encGSchema a0),.str a1] σ (fun r' σ'=>r'=.tup [.agg (encGEnumeration r.1),.bool r.2]∧σ'=σ):=
 (xP.ok a0 a1 r h).c σ
def y1.j3 (a0:GSchema)(a1:GType)(x2:Bool):Bool:=
 (if x2=true then decide (a1.fName=[]) else (if a1.fKind=6 then bnd (xP a0 a1.fName) fun r7=>r7.2 else (if a1.fKind=7 then bnd (yb a0 a1.fName) fun r11=>r11.2 else false)))
def y1 (a0:GSchema)(a1:GType):Bool:=
 (if a1.fKind=1 then (y1.j3 a0 a1 (decide (a1.fKind=1))) else (if a1.fKind=2 then (y1.j3 a0 a1 (decide (a1.fKind=2))) else (if a1.fKind=3 then (y1.j3 a0 a1 (decide (a1.fKind=3))) else (if a1.fKind=4 then (y1.j3 a0 a1 (decide (a1.fKind=4))) else (y1.j3 a0 a1 (decide (a1.fKind=5)))))))
theorem y1.ok (a0:GSchema)(a1:GType)(r:Bool)(h:y1 a0 a1=r):ACalls qh 122 [.agg (encGSchema a0),.agg (encGType a1)] [] (fun r' _=>r'=.bool r):=by
 refine zf (rs:=[.tmp 4]) tok Tryz.func122 rfl Tryz.ntmps122 rfl Tryz.call122 (by simp) ?_;refine zk [(0,.agg (encGSchema a0)),(1,.agg (encGType a1))] ⟨rfl,rfl,trivial⟩ ?_;unfold y1 at h
 refine rg tok [2,3] fun K hK=>?_
 simp only[go_sem,qb,qa,qd,reduceCtorEq,encGSchema,encGType];apply hK
 refine za fun Z1 hZ1=>?_
 refine rgN [2,3,10] ?_;apply ze;refine xL (fun L τ=>∃ (x2:Bool),L=[(2,.op 0 0 0),(3,.op 1 0 0),(10,.int .i64 a1.fKind),(11,.bool x2)]∧τ=[.cells 0 (encGSchema a0),.cells 0 [.int .i64 a1.fKind,.str a1.fName]]∧y1.j3 a0 a1 x2=r) ?_ ?_
 · refine rgN [2,3,10,11] ?_;refine zo rfl (fun hc13=>?_) (fun hc13=>?_)
   · rw[if_pos hc13] at h;have t14:=eq_true hc13;apply zd;exact⟨_,_,⟨decide (a1.fKind=1),rfl,rfl,h⟩,.s⟩
   rw[if_neg hc13] at h;have t15:=eq_false hc13
   refine rg tok [2,3,10,11] fun K hK=>?_
   simp only[go_sem,qb,qa,t15];apply hK
   refine zo rfl (fun hc16=>?_) (fun hc16=>?_)
   · rw[if_pos hc16] at h;have t17:=eq_true hc16;apply zd;exact⟨_,_,⟨decide (a1.fKind=2),rfl,rfl,h⟩,.s⟩
   rw[if_neg hc16] at h;have t18:=eq_false hc16
   refine rg tok [2,3,10,11] fun K hK=>?_
   simp only[go_sem,qb,qa,t18];apply hK
   refine zo rfl (fun hc19=>?_) (fun hc19=>?_)
   · rw[if_pos hc19] at h;have t20:=eq_true hc19;apply zd;exact⟨_,_,⟨decide (a1.fKind=3),rfl,rfl,h⟩,.s⟩
   rw[if_neg hc19] at h;have t21:=eq_false hc19
   refine rg tok [2,3,10,11] fun K hK=>?_
   simp only[go_sem,qb,qa,t21];apply hK
   refine zo rfl (fun hc22=>?_) (fun hc22=>?_)
   · rw[if_pos hc22] at h;have t23:=eq_true hc22;apply zd;exact⟨_,_,⟨decide (a1.fKind=4),rfl,rfl,h⟩,.s⟩
   rw[if_neg hc22] at h;have t24:=eq_false hc22
   refine rgE tok [2,3,10,11] fun K hK=>?_
   simp only[go_sem,qb,qa,t24];apply hK
   exact⟨_,_,⟨decide (a1.fKind=5),rfl,rfl,h⟩,.s⟩
 rintro _ _ ⟨x2,rfl,rfl,h⟩;unfold y1.j3 at h;refine zm (b:=x2) rfl (fun hc4=>?_) (fun hc4=>?_)
 · rw[if_pos hc4] at h;refine rgN [4] ?_;cases h;exact rtA
 rw[xS hc4] at h;refine rgN [2,3,10,20] ?_;refine zo rfl (fun hc5=>?_) (fun hc5=>?_)
 · rw[if_pos hc5] at h;have t6:=eq_true hc5
   refine rc [6] fun K hK=>?_
   obtain⟨r7,hr7,h⟩:=zO h;refine zi tok 3 ?_;simp only[go_sem,qb,qf,qa,qd,t6];refine clN rfl rfl rfl (xP.ev a0 a1.fName r7 hr7 _) ?_;refine zi tok 6 ?_;simp only[go_sem,qb,qf,qa,qd,encGEnumeration];refine nkN hK ?_;refine rgN [4] ?_;cases h;exact rtA
 rw[if_neg hc5] at h;have t8:=eq_false hc5
 refine rg tok [2,3,30] fun K hK=>?_
 simp only[go_sem,qb,qa,t8];apply hK
 refine zo rfl (fun hc9=>?_) (fun hc9=>?_)
 · rw[if_pos hc9] at h;have t10:=eq_true hc9
   refine rc [8] fun K hK=>?_
   obtain⟨r11,hr11,h⟩:=zO h;refine zi tok 3 ?_;simp only[go_sem,qb,qf,qa,qd,t10];refine clN rfl rfl rfl (yb.ev a0 a1.fName r11 hr11 _) ?_;refine zi tok 6 ?_;simp only[go_sem,qb,qf,qa,qd,encGMessage];refine nkN hK ?_;refine rgN [4] ?_;cases h;exact rtA
 rw[if_neg hc9] at h;have t12:=eq_false hc9;apply zd;apply hZ1
 refine rg tok [4] fun K hK=>?_
 simp only[go_sem,qb,qa,t12];apply hK
 cases h;exact rtA
theorem y1.ev (a0:GSchema)(a1:GType)(r:Bool)(h:y1 a0 a1=r)(σ:Store):ACalls qh 122 [.agg (encGSchema a0),.agg (encGType a1)] σ (fun r' σ'=>r'=.bool r∧σ'=σ):=
 (y1.ok a0 a1 r h).c σ
def zE.l17 (a0:GSchema)(a1:GMessage):List GField→Int→List (List UInt8)→Option Int
 |[],x13,l11=>some 0
 |y17::q17,x13,l11=>(yv y17.fName l11).bind fun r24=>(if (!r24)=true then some 6 else (Yk (qc l11+1) 16).bind fun _u26=>(grd ((0:Int)≤0∧0≤x13∧x13≤(qc a1.fFields:Int))).bind fun _u29=>bnd (yL (⟨[],Xa a1.fFields 0 x13,([]:List Int)⟩:GMessage) y17.fTag) fun r31=>bnd (if ((r31.2||(decide (y17.fTag<1)))||(decide (500<y17.fTag)))=true then true else bnd (yw a1 y17.fTag) fun r32=>r32) fun c32=>(if c32=true then some 7 else bnd (if ((decide (y17.fLabel<1))||(decide (3<y17.fLabel)))=true then true else bnd (y1 a0 y17.fType) fun r37 => !r37) fun c37=>(if c37=true then some 8 else ((zE.l17 a0 a1 q17) (x13+1) (l11++[y17.fName])))))
def zE.j43 (x6:Int)(rec8:Int→Option Int)(x42:Bool):Option Int:=
 (if x42=true then some 7 else (rec8 (x6+1)))
def zE.l8 (a0:GSchema)(a1:GMessage):List Int→Int→Option Int
 |[],x6=>(zE.l17 a0 a1 a1.fFields 0 ([]:List (List UInt8)))
 |y8::q8,x6=>(if y8<1 then (zE.j43 x6 (zE.l8 a0 a1 q8) true) else (if 500<y8 then (zE.j43 x6 (zE.l8 a0 a1 q8) true) else (grd ((0:Int)≤0∧0≤x6∧x6≤(qc a1.fReserved:Int))).bind fun _u53=>bnd (yw (⟨[],([]:List GField),Xa a1.fReserved 0 x6⟩:GMessage) y8) fun r57=>(zE.j43 x6 (zE.l8 a0 a1 q8) r57)))
def zE (a0:GSchema)(a1:GMessage):Option Int:=
 (if ((decide (16<(qc a1.fFields:Int)))||(decide (32<(qc a1.fReserved:Int))))=true then some 4 else (zE.l8 a0 a1 a1.fReserved 0))
theorem zE.ok (a0:GSchema)(a1:GMessage)(r:Int)(h:zE a0 a1=some r):ACalls qh 82 [.agg (encGSchema a0),.agg (encGMessage a1)] [] (fun r' _=>r'=.int .i64 r):=by
 refine zf (rs:=[.tmp 4]) tok Tryz.func82 rfl Tryz.ntmps82 rfl Tryz.call82 (by simp) ?_;refine zk [(0,.agg (encGSchema a0)),(1,.agg (encGMessage a1))] ⟨rfl,rfl,trivial⟩ ?_;unfold zE at h
 refine rg tok [2,3] fun K hK=>?_
 simp only[go_sem,qb,qa,qd,reduceCtorEq,encGMessage,encGSchema];apply hK
 refine za fun Z1 hZ1=>?_
 refine rc [2,3,20] fun K hK=>?_
 refine rnN 5 ?_;refine zh 5 (fun L τ=>L=[(2,.op 0 0 0),(3,.op 1 0 0),(20,.bool ((decide (16<(qc a1.fFields:Int)))||(decide (32<(qc a1.fReserved:Int)))))]∧τ=[.cells 0 (encGSchema a0),.cells 0 (encGMessage a1)]) ?_ ?_
 · refine yx 15 rfl (fun hg15=>?_) (fun hg15=>?_)
   · have t2:=eq_true hg15;refine rnN 5 ?_;refine zb ⟨rfl,_,_,⟨rfl,rfl⟩,.p t2⟩
   have t3:=eq_false hg15;refine rnN 5 ?_;refine zb ⟨rfl,_,_,⟨rfl,rfl⟩,.p t3⟩
 rintro _ _ ⟨rfl,rfl⟩;refine nkN hK ?_;refine zm (b:=((decide (16<(qc a1.fFields:Int)))||(decide (32<(qc a1.fReserved:Int))))) rfl (fun hc4=>?_) (fun hc4=>?_)
 · rw[if_pos hc4] at h;refine rgN [4] ?_;cases h;exact rtA
 rw[xS hc4] at h;apply zd;apply hZ1
 refine za fun Z5 hZ5=>?_
 refine rgN [2,3,5] ?_;apply ze
 refine xu 1 rfl fun hb8=>?_
 replace hb8:qc a1.fReserved≤9223372036854775807:=hb8.2.2.1.1;refine zq (fun m L τ=>∃ (p8 q8:List Int) (x6:Int),m=qc q8∧L=[(2,.op 0 0 0),(3,.op 1 0 0),(5,.int .i64 x6)]∧τ=[.cells 0 (encGSchema a0),.cells 0 (encGMessage a1)]∧a1.fReserved=p8++q8∧x6=(qc p8:Int)∧zE.l8 a0 a1 q8 x6=some r) _ ⟨[],a1.fReserved,0,rfl,rfl,rfl,rfl,rfl,h⟩ .s ?_;rintro m L τ ⟨p8,q8,x6,rfl,rfl,rfl,hE8,hi8,h⟩
 rcases q8 with _|⟨y8,q8⟩
 · have hz8:=yr hE8 hi8;simp only[zE.l8] at h
   refine za fun Z9 hZ9=>?_
   refine rg tok [2,3,5,25] fun K hK=>?_
   simp only[go_sem,qb,qa,qd,hz8];apply hK
   refine zn rfl ?_;apply zv;apply hZ5;refine rgN [2,3,6] ?_;refine wV 6 1 rfl ?_;refine zR (L:=[(2,.op 0 0 0),(3,.op 1 0 0),(6,.os true 1 2 0 0 (qc ([]:List (List UInt8))) false)]) (τ:=[.cells 0 (encGSchema a0),.cells 0 (encGMessage a1),.cells 0 (qe encS ([]:List (List UInt8)))]) .s ?_
   refine za fun Z10 hZ10=>?_
   refine rgN [2,3,6,7] ?_;apply ze
   refine xu 1 rfl fun hb17=>?_
   replace hb17:qc a1.fFields≤9223372036854775807:=hb17.2.1.1;refine zq (fun m L τ=>∃ (p17 q17:List GField) (x13:Int) (l11:List (List UInt8)) (v12:Nat),m=qc q17∧L=[(2,.op 0 0 0),(3,.op 1 0 0),(6,.os true 1 2 v12 0 (qc l11) false),(7,.int .i64 x13)]∧τ=[.cells 0 (encGSchema a0),.cells 0 (encGMessage a1),.cells v12 (qe encS l11)]∧a1.fFields=p17++q17∧x13=(qc p17:Int)∧zE.l17 a0 a1 q17 x13 l11=some r) _ ⟨[],a1.fFields,0,([]:List (List UInt8)),0,rfl,rfl,rfl,rfl,rfl,h⟩ .s ?_;rintro m L τ ⟨p17,q17,x13,l11,v12,rfl,rfl,rfl,hE17,hi17,h⟩
   rcases q17 with _|⟨y17,q17⟩
   · have hz17:=yr hE17 hi17;simp only[zE.l17] at h
     refine za fun Z18 hZ18=>?_
     refine rg tok [2,3,6,7,59] fun K hK=>?_
     simp only[go_sem,qb,qa,qd,hz17];apply hK
     refine zn rfl ?_;apply zv;apply hZ10;refine rgN [4] ?_;cases h;exact rtA
   obtain⟨hz17,hw17,hx17,hE'17,hi'17⟩:=zW hE17 hi17 hb17;simp only[zE.l17] at h
   refine za fun Z19 hZ19=>?_
   refine rg tok [2,3,6,7,59] fun K hK=>?_
   simp only[go_sem,qb,qa,qd,hz17];apply hK
   refine zp rfl ?_;apply zd;apply hZ19
   refine za fun Z20 hZ20=>?_
   apply ze;have f21:=E47.idxS hx17;have f22:=E47.loadS rfl rfl hx17
   refine rg tok [2,3,6,7,8] fun K hK=>?_
   simp only[go_sem,qb,qf,qa,qd,encGField,f21,f22];apply hK
   refine za fun Z23 hZ23=>?_
   refine rc [2,3,6,7,8,71] fun K hK=>?_
   obtain⟨r24,hr24,h⟩:=bind_some h;refine rnN 3 ?_;refine clN rfl rfl rfl (yv.ok y17.fName l11 r24 hr24).ld ?_;refine rnN 1 ?_;refine nkN hK ?_;refine zm (b:=(!r24)) rfl (fun hc25=>?_) (fun hc25=>?_)
   · rw[if_pos hc25] at h;refine rgN [4] ?_;cases h;exact rtA
   rw[xS hc25] at h;apply zd;apply hZ23;obtain⟨_u26,hu26,h⟩:=bind_some h;have gu26:=yi hu26;have f27:=(zr E98.len l11)
   refine rg tok [2,3,6,7,8] fun K hK=>?_
   simp only[go_sem,qb,qf,qa,qd,qv,zD,zY,qZ,qS,true_and,q9,zX,zI,yl,gu26,f27,yK,ub,qV,AV.one,qP,qw,qj,ql,qs,qD];apply hK
   refine zR (L:=[(2,.op 0 0 0),(3,.op 1 0 0),(6,.os true 1 2 (v12+1) 0 (qc (l11++[y17.fName])) false),(7,.int .i64 x13),(8,.op 3 0 0)]) (τ:=[.cells 0 (encGSchema a0),.cells 0 (encGMessage a1),.cells (v12+1) (qe encS (l11++[y17.fName])),.cells 0 (encGField y17),.cells 0 [.str y17.fName]]) .s ?_
   refine za fun Z28 hZ28=>?_
   obtain⟨_u29,hu29,h⟩:=bind_some h;have gu29:=wi hu29;have f30:=E47.sl_hi gu29;obtain⟨r31,hr31,h⟩:=zO h
   refine rd [2,3,6,7,8,10] fun K hK=>?_
   refine DW.start (T:=tab) [.any,.at [],.any,.any,.any,.any,.at [],.eff,.any,.any,.any,.flt,.eff,.any] [] ?_;refine DW.runN tok 7 ?_;simp only[go_sem,qb,qf,qa,qd,f30];refine DW.call rfl rfl rfl (ACalls.loose (yL.ev (⟨[],Xa a1.fFields 0 x13,([]:List Int)⟩:GMessage) y17.fTag r31 hr31 _)) ?_;refine DW.runN tok 6 ?_;simp only[go_sem,qb,qf,qa,qd,encGField];refine DW.fin tok (by decide +kernel) rfl ?_;simp only[zj,upd,qa,reduceIte,yq,y0];apply hK
   refine rc [2,3,6,7,8,104] fun K hK=>?_
   refine rnN 2 ?_;refine zh 4 (fun L τ=>L=[(2,.op 0 0 0),(3,.op 1 0 0),(6,.os true 1 2 (v12+1) 0 (qc (l11++[y17.fName])) false),(7,.int .i64 x13),(8,.op 3 0 0),(93,.bool (r31.2||(decide (y17.fTag<1))))]∧τ=[.cells 0 (encGSchema a0),.cells 0 (encGMessage a1),.cells (v12+1) (qe encS (l11++[y17.fName])),.cells 0 (encGField y17),.cells 0 [.str y17.fName],.cells 0 (encGField r31.1)]) ?_ ?_
   · refine zN (b:=r31.2) 89 rfl (fun hg89=>?_) (fun hg89=>?_)
     · refine rnN 4 ?_;refine zb ⟨rfl,_,_,⟨rfl,rfl⟩,.b hg89⟩
     refine rnN 4 ?_;refine zb ⟨rfl,_,_,⟨rfl,rfl⟩,.b hg89⟩
   rintro _ _ ⟨rfl,rfl⟩;refine rnN 1 ?_;refine zh 4 (fun L τ=>L=[(2,.op 0 0 0),(3,.op 1 0 0),(6,.os true 1 2 (v12+1) 0 (qc (l11++[y17.fName])) false),(7,.int .i64 x13),(8,.op 3 0 0),(98,.bool ((r31.2||(decide (y17.fTag<1)))||(decide (500<y17.fTag))))]∧τ=[.cells 0 (encGSchema a0),.cells 0 (encGMessage a1),.cells (v12+1) (qe encS (l11++[y17.fName])),.cells 0 (encGField y17),.cells 0 [.str y17.fName],.cells 0 (encGField r31.1)]) ?_ ?_
   · refine zN (b:=(r31.2||(decide (y17.fTag<1)))) 94 rfl (fun hg94=>?_) (fun hg94=>?_)
     · refine rnN 4 ?_;refine zb ⟨rfl,_,_,⟨rfl,rfl⟩,.b hg94⟩
     refine rnN 4 ?_;refine zb ⟨rfl,_,_,⟨rfl,rfl⟩,.b hg94⟩
   rintro _ _ ⟨rfl,rfl⟩;refine rnN 1 ?_;obtain⟨c32,hc32,h⟩:=zO h;refine zh 5 (fun L τ=>L=[(2,.op 0 0 0),(3,.op 1 0 0),(6,.os true 1 2 (v12+1) 0 (qc (l11++[y17.fName])) false),(7,.int .i64 x13),(8,.op 3 0 0),(104,.bool c32)]∧τ=[.cells 0 (encGSchema a0),.cells 0 (encGMessage a1),.cells (v12+1) (qe encS (l11++[y17.fName])),.cells 0 (encGField y17),.cells 0 [.str y17.fName],.cells 0 (encGField r31.1)]) ?_ ?_
   · refine zN (b:=((r31.2||(decide (y17.fTag<1)))||(decide (500<y17.fTag)))) 99 rfl (fun hg99=>?_) (fun hg99=>?_)
     · rw[if_pos hg99] at hc32;refine rnN 5 ?_;subst hc32;refine zb ⟨rfl,_,_,⟨rfl,rfl⟩,.b hg99⟩
     rw[xS hg99] at hc32;obtain⟨r33,hr33,hc32⟩:=zO hc32;refine rnN 3 ?_;refine clN rfl rfl rfl (yw.ev a1 y17.fTag r33 hr33 _) ?_;refine rnN 1 ?_;subst hc32;refine zb ⟨rfl,_,_,⟨rfl,rfl⟩,.b hg99⟩
   rintro _ _ ⟨rfl,rfl⟩;refine nkN hK ?_;refine zm (b:=c32) rfl (fun hc34=>?_) (fun hc34=>?_)
   · rw[if_pos hc34] at h;refine rgN [4] ?_;cases h;exact rtA
   rw[xS hc34] at h;apply zd;apply hZ28
   refine rc [2,3,6,7,119] fun K hK=>?_
   refine rnN 4 ?_;refine zh 4 (fun L τ=>L=[(2,.op 0 0 0),(3,.op 1 0 0),(6,.os true 1 2 (v12+1) 0 (qc (l11++[y17.fName])) false),(7,.int .i64 x13),(8,.op 3 0 0),(112,.bool ((decide (y17.fLabel<1))||(decide (3<y17.fLabel))))]∧τ=[.cells 0 (encGSchema a0),.cells 0 (encGMessage a1),.cells (v12+1) (qe encS (l11++[y17.fName])),.cells 0 (encGField y17),.cells 0 [.str y17.fName],.cells 0 (encGField r31.1)]) ?_ ?_
   · refine yx 108 rfl (fun hg108=>?_) (fun hg108=>?_)
     · have t35:=eq_true hg108;refine rnN 4 ?_;refine zb ⟨rfl,_,_,⟨rfl,rfl⟩,.p t35⟩
     have t36:=eq_false hg108;refine rnN 4 ?_;refine zb ⟨rfl,_,_,⟨rfl,rfl⟩,.p t36⟩
   rintro _ _ ⟨rfl,rfl⟩;refine rnN 1 ?_;obtain⟨c37,hc37,h⟩:=zO h;refine zh 6 (fun L τ=>L=[(2,.op 0 0 0),(3,.op 1 0 0),(6,.os true 1 2 (v12+1) 0 (qc (l11++[y17.fName])) false),(7,.int .i64 x13),(119,.bool c37)]∧τ=[.cells 0 (encGSchema a0),.cells 0 (encGMessage a1),.cells (v12+1) (qe encS (l11++[y17.fName])),.cells 0 (encGField y17),.cells 0 [.str y17.fName],.cells 0 (encGField r31.1)]) ?_ ?_
   · refine zN (b:=((decide (y17.fLabel<1))||(decide (3<y17.fLabel)))) 113 rfl (fun hg113=>?_) (fun hg113=>?_)
     · rw[if_pos hg113] at hc37;refine rnN 6 ?_;subst hc37;refine zb ⟨rfl,_,_,⟨rfl,rfl⟩,.b hg113⟩
     rw[xS hg113] at hc37;obtain⟨r38,hr38,hc37⟩:=zO hc37;refine rnN 3 ?_;refine clN rfl rfl rfl (y1.ev a0 y17.fType r38 hr38 _) ?_;refine rnN 2 ?_;subst hc37;refine zb ⟨rfl,_,_,⟨rfl,rfl⟩,.b hg113⟩
   rintro _ _ ⟨rfl,rfl⟩;refine nkN hK ?_;refine zm (b:=c37) rfl (fun hc39=>?_) (fun hc39=>?_)
   · rw[if_pos hc39] at h;refine rgN [4] ?_;cases h;exact rtA
   rw[xS hc39] at h;apply zd;apply hZ20
   refine rgE tok [2,3,6,7] fun K hK=>?_
   simp only[go_sem,qb,qa,hw17];apply hK
   exact⟨_,_,_,qr q17.length,⟨p17++[y17],q17,x13+1,l11++[y17.fName],v12+1,rfl,rfl,rfl,hE'17,hi'17,h⟩,(.t [0,1,2] false)⟩
 obtain⟨hz8,hw8,hx8,hE'8,hi'8⟩:=zW hE8 hi8 hb8;simp only[zE.l8] at h
 refine za fun Z40 hZ40=>?_
 refine rg tok [2,3,5,25] fun K hK=>?_
 simp only[go_sem,qb,qa,qd,hz8];apply hK
 refine zp rfl ?_;apply zd;apply hZ40
 refine za fun Z41 hZ41=>?_
 apply ze;refine xL (fun L τ=>∃ (x42:Bool),L=[(2,.op 0 0 0),(3,.op 1 0 0),(5,.int .i64 x6),(54,.bool x42)]∧τ=[.cells 0 (encGSchema a0),.cells 0 (encGMessage a1)]∧zE.j43 x6 (zE.l8 a0 a1 q8) x42=some r) ?_ ?_
 · refine rdE [2,3,5,54] fun K hK=>?_
   refine DW.start (T:=tab) [.any,.at [],.any,.any,.at [],.any,.any,.any,.at [],.any,.any,.at [],.any,.any,.any,.any,.at [],.any,.any,.any,.any,.at [],.any,.any,.at [],.eff,.any] [] ?_;have f45:=E45.idxS hx8;have f46:=E45.fldS0 (f:=3) rfl rfl hx8;refine DW.runN tok 7 ?_;simp only[go_sem,qb,qa,qd,encI,f45,f46]
   refine DW.if 34 rfl (fun hg34=>?_) (fun hg34=>?_)
   · rw[if_pos hg34] at h;have t47:=eq_true hg34;refine DW.runN tok 8 ?_;simp only[go_sem,qb,qa,t47];refine DW.runN tok 8 ?_;simp only[go_sem,qb,qa];refine DW.runN tok 4 ?_;simp only[go_sem,qb,qa];refine DW.fin tok (by decide +kernel) rfl ?_;simp only[zj,upd,qa,reduceIte,yq,y0];apply hK
     exact⟨_,_,⟨true,rfl,rfl,h⟩,.s⟩
   rw[if_neg hg34] at h;have t48:=eq_false hg34;have f49:=E45.idxS hx8;have f50:=E45.fldS0 (f:=3) rfl rfl hx8;refine DW.runN tok 8 ?_;simp only[go_sem,qb,qa,qd,encI,t48,f49,f50]
   refine DW.if 42 rfl (fun hg42=>?_) (fun hg42=>?_)
   · rw[if_pos hg42] at h;have t51:=eq_true hg42;refine DW.runN tok 8 ?_;simp only[go_sem,qb,qa,t51];refine DW.runN tok 4 ?_;simp only[go_sem,qb,qa];refine DW.fin tok (by decide +kernel) rfl ?_;simp only[zj,upd,qa,reduceIte,yq,y0];apply hK
     exact⟨_,_,⟨true,rfl,rfl,h⟩,.s⟩
   rw[if_neg hg42] at h;have t52:=eq_false hg42;obtain⟨_u53,hu53,h⟩:=bind_some h;have gu53:=wi hu53;have f54:=E45.sl_hi gu53;have f55:=E45.idxS hx8;have f56:=E45.fldS0 (f:=3) rfl rfl hx8;obtain⟨r57,hr57,h⟩:=zO h;refine DW.runN tok 8 ?_;simp only[go_sem,qb,qf,qa,qd,t52,f54];refine DW.runN tok 2 ?_;simp only[go_sem,qb,qa,encI,f55,f56];refine DW.call rfl rfl rfl (ACalls.loose (yw.ev (⟨[],([]:List GField),Xa a1.fReserved 0 x6⟩:GMessage) y8 r57 hr57 _)) ?_;refine DW.runN tok 1 ?_;simp only[go_sem,qb,qa];refine DW.fin tok (by decide +kernel) rfl ?_;simp only[zj,upd,qa,reduceIte,yq,y0];apply hK
   exact⟨_,_,⟨r57,rfl,rfl,h⟩,.s⟩
 rintro _ _ ⟨x42,rfl,rfl,h⟩;unfold zE.j43 at h;refine zm (b:=x42) rfl (fun hc44=>?_) (fun hc44=>?_)
 · rw[if_pos hc44] at h;refine rgN [4] ?_;cases h;exact rtA
 rw[xS hc44] at h;apply zd;apply hZ41
 refine rgE tok [2,3,5] fun K hK=>?_
 simp only[go_sem,qb,qa,hw8];apply hK
 exact⟨_,_,_,qr q8.length,⟨p8++[y8],q8,x6+1,rfl,rfl,rfl,hE'8,hi'8,h⟩,.s⟩
theorem zE.ev (a0:GSchema)(a1:GMessage)(r:Int)(h:zE a0 a1=some r)(σ:Store):ACalls qh 82 [.agg (encGSchema a0),.agg (encGMessage a1)] σ (fun r' σ'=>r'=.int .i64 r∧σ'=σ):=
 (zE.ok a0 a1 r h).c σ
def ya.l38 (a0:GEnumeration)(x17:Int)(l15:List (List UInt8))(rec21:Int→List (List UInt8)→Option Int)(y21:GNamed):Nat→Int→Option Int
 |0,_=>none
 |k38+1,x36=>(if x36<x17 then (Zt a0.fValues x36).bind fun y43=>(if y43.fN=y21.fN then some 11 else ((ya.l38 a0 x17 l15 rec21 y21 k38) (IntKind.i64.wrap (x36+1)))) else (rec21 (x17+1) (l15++[y21.fName])))
def ya.l21 (a0:GEnumeration):List GNamed→Int→List (List UInt8)→Option Int
 |[],x17,l15=>some 0
 |y21::q21,x17,l15=>(yv y21.fName l15).bind fun r28=>(if (!r28)=true then some 6 else (Yk (qc l15+1) 16).bind fun _u30=>(if ((decide (y21.fN<0))||(decide (2147483647<y21.fN)))=true then some 11 else (ya.l38 a0 x17 l15 (ya.l21 a0 q21) y21 rounds 0)))
def ya.l10 (a0:GEnumeration):List GNamed→Int→Bool→Option Int
 |[],x7,x6=>(if (!x6)=true then some 12 else (ya.l21 a0 a0.fValues 0 ([]:List (List UInt8))))
 |y10::q10,x7,x6=>((ya.l10 a0 q10) (x7+1) (x6||(decide (y10.fN=0))))
def ya (a0:GEnumeration):Option Int:=
 (if 16<(qc a0.fValues:Int) then some 4 else (ya.l10 a0 a0.fValues 0 false))
theorem ya.ok (a0:GEnumeration)(r:Int)(h:ya a0=some r):ACalls qh 83 [.agg (encGEnumeration a0)] [] (fun r' _=>r'=.int .i64 r):=by
 refine zf (rs:=[.tmp 2]) tok Tryz.func83 rfl Tryz.ntmps83 rfl Tryz.call83 (by simp) ?_;refine zk [(0,.agg (encGEnumeration a0))] ⟨rfl,trivial⟩ ?_;unfold ya at h
 refine rg tok [1] fun K hK=>?_
 simp only[go_sem,qb,qa,qd,reduceCtorEq,encGEnumeration];apply hK
 refine za fun Z1 hZ1=>?_
 refine rgN [1,12] ?_;refine zo rfl (fun hc2=>?_) (fun hc2=>?_)
 · rw[if_pos hc2] at h;have t3:=eq_true hc2
   refine rg tok [2] fun K hK=>?_
   simp only[go_sem,qb,qa,t3];apply hK
   cases h;exact rtA
 rw[if_neg hc2] at h;have t4:=eq_false hc2;apply zd;apply hZ1
 refine rg tok [1,3] fun K hK=>?_
 simp only[go_sem,qb,qa,t4];apply hK
 refine za fun Z5 hZ5=>?_
 refine rgN [1,3,4] ?_;apply ze
 refine xu 0 rfl fun hb10=>?_
 replace hb10:qc a0.fValues≤9223372036854775807:=hb10.2.1.1;refine zq (fun m L τ=>∃ (p10 q10:List GNamed) (x7:Int) (x6:Bool),m=qc q10∧L=[(1,.op 0 0 0),(3,.bool x6),(4,.int .i64 x7)]∧τ=[.cells 0 (encGEnumeration a0)]∧a0.fValues=p10++q10∧x7=(qc p10:Int)∧ya.l10 a0 q10 x7 x6=some r) _ ⟨[],a0.fValues,0,false,rfl,rfl,rfl,rfl,rfl,h⟩ .s ?_;rintro m L τ ⟨p10,q10,x7,x6,rfl,rfl,rfl,hE10,hi10,h⟩
 rcases q10 with _|⟨y10,q10⟩
 · have hz10:=yr hE10 hi10;simp only[ya.l10] at h
   refine za fun Z11 hZ11=>?_
   refine rg tok [1,3,4,17] fun K hK=>?_
   simp only[go_sem,qb,qa,qd,hz10];apply hK
   refine zn rfl ?_;apply zv;apply hZ5
   refine za fun Z12 hZ12=>?_
   refine rgN [1,31] ?_;refine zm (b:=(!x6)) rfl (fun hc13=>?_) (fun hc13=>?_)
   · rw[if_pos hc13] at h;refine rgN [2] ?_;cases h;exact rtA
   rw[xS hc13] at h;apply zd;apply hZ12;refine rgN [1,5] ?_;refine wV 5 1 rfl ?_;refine zR (L:=[(1,.op 0 0 0),(5,.os true 1 1 0 0 (qc ([]:List (List UInt8))) false)]) (τ:=[.cells 0 (encGEnumeration a0),.cells 0 (qe encS ([]:List (List UInt8)))]) .s ?_
   refine za fun Z14 hZ14=>?_
   refine rgN [1,5,6] ?_;apply ze
   refine xu 0 rfl fun hb21=>?_
   replace hb21:qc a0.fValues≤9223372036854775807:=hb21.2.1.1;refine zq (fun m L τ=>∃ (p21 q21:List GNamed) (x17:Int) (l15:List (List UInt8)) (v16:Nat),m=qc q21∧L=[(1,.op 0 0 0),(5,.os true 1 1 v16 0 (qc l15) false),(6,.int .i64 x17)]∧τ=[.cells 0 (encGEnumeration a0),.cells v16 (qe encS l15)]∧a0.fValues=p21++q21∧x17=(qc p21:Int)∧ya.l21 a0 q21 x17 l15=some r) _ ⟨[],a0.fValues,0,([]:List (List UInt8)),0,rfl,rfl,rfl,rfl,rfl,h⟩ .s ?_;rintro m L τ ⟨p21,q21,x17,l15,v16,rfl,rfl,rfl,hE21,hi21,h⟩
   rcases q21 with _|⟨y21,q21⟩
   · have hz21:=yr hE21 hi21;simp only[ya.l21] at h
     refine za fun Z22 hZ22=>?_
     refine rg tok [1,5,6,36] fun K hK=>?_
     simp only[go_sem,qb,qa,qd,hz21];apply hK
     refine zn rfl ?_;apply zv;apply hZ14;refine rgN [2] ?_;cases h;exact rtA
   obtain⟨hz21,hw21,hx21,hE'21,hi'21⟩:=zW hE21 hi21 hb21;simp only[ya.l21] at h
   refine za fun Z23 hZ23=>?_
   refine rg tok [1,5,6,36] fun K hK=>?_
   simp only[go_sem,qb,qa,qd,hz21];apply hK
   refine zp rfl ?_;apply zd;apply hZ23
   refine za fun Z24 hZ24=>?_
   apply ze;have f25:=E82.idxS hx21;have f26:=E82.loadS rfl rfl hx21
   refine rg tok [1,5,6,7] fun K hK=>?_
   simp only[go_sem,qb,qf,qa,qd,encGNamed,f25,f26];apply hK
   refine za fun Z27 hZ27=>?_
   refine rc [1,5,6,7,48] fun K hK=>?_
   obtain⟨r28,hr28,h⟩:=bind_some h;refine rnN 3 ?_;refine clN rfl rfl rfl (yv.ok y21.fName l15 r28 hr28).ld ?_;refine rnN 1 ?_;refine nkN hK ?_;refine zm (b:=(!r28)) rfl (fun hc29=>?_) (fun hc29=>?_)
   · rw[if_pos hc29] at h;refine rgN [2] ?_;cases h;exact rtA
   rw[xS hc29] at h;apply zd;apply hZ27;obtain⟨_u30,hu30,h⟩:=bind_some h;have gu30:=yi hu30;have f31:=(zr E98.len l15)
   refine rg tok [1,5,6,7] fun K hK=>?_
   simp only[go_sem,qb,qf,qa,qd,qv,zD,zY,qZ,qS,true_and,q9,zX,zI,yl,gu30,f31,yK,ub,qV,AV.one,qP,qw,qj,ql,qs,qD];apply hK
   refine zR (L:=[(1,.op 0 0 0),(5,.os true 1 1 (v16+1) 0 (qc (l15++[y21.fName])) false),(6,.int .i64 x17),(7,.op 2 0 0)]) (τ:=[.cells 0 (encGEnumeration a0),.cells (v16+1) (qe encS (l15++[y21.fName])),.cells 0 [.str y21.fName,.int .i64 y21.fN],.cells 0 [.str y21.fName]]) .s ?_
   refine za fun Z32 hZ32=>?_
   refine rc [1,5,6,7,61] fun K hK=>?_
   refine rnN 4 ?_;refine zh 4 (fun L τ=>L=[(1,.op 0 0 0),(5,.os true 1 1 (v16+1) 0 (qc (l15++[y21.fName])) false),(6,.int .i64 x17),(7,.op 2 0 0),(61,.bool ((decide (y21.fN<0))||(decide (2147483647<y21.fN))))]∧τ=[.cells 0 (encGEnumeration a0),.cells (v16+1) (qe encS (l15++[y21.fName])),.cells 0 [.str y21.fName,.int .i64 y21.fN],.cells 0 [.str y21.fName]]) ?_ ?_
   · refine yx 57 rfl (fun hg57=>?_) (fun hg57=>?_)
     · have t33:=eq_true hg57;refine rnN 4 ?_;refine zb ⟨rfl,_,_,⟨rfl,rfl⟩,.p t33⟩
     have t34:=eq_false hg57;refine rnN 4 ?_;refine zb ⟨rfl,_,_,⟨rfl,rfl⟩,.p t34⟩
   rintro _ _ ⟨rfl,rfl⟩;refine nkN hK ?_;refine zm (b:=((decide (y21.fN<0))||(decide (2147483647<y21.fN)))) rfl (fun hc35=>?_) (fun hc35=>?_)
   · rw[if_pos hc35] at h;refine rgN [2] ?_;cases h;exact rtA
   rw[xS hc35] at h;apply zd;apply hZ32;refine rgN [1,5,6,7,8] ?_;apply ze;refine zq (fun m L τ=>∃ (k38:Nat) (x36:Int),m=0+k38∧L=[(1,.op 0 0 0),(5,.os true 1 1 (v16+1) 0 (qc (l15++[y21.fName])) false),(6,.int .i64 x17),(7,.op 2 0 0),(8,.int .i64 x36)]∧τ=[.cells 0 (encGEnumeration a0),.cells (v16+1) (qe encS (l15++[y21.fName])),.cells 0 [.str y21.fName,.int .i64 y21.fN]]∧ya.l38 a0 x17 l15 (ya.l21 a0 q21) y21 k38 x36=some r) _ ⟨rounds,0,rfl,rfl,rfl,h⟩ (.t [0,1,2] false) ?_;rintro m L τ ⟨k38,x36,rfl,rfl,rfl,h⟩
   rcases k38 with _|k38
   · cases h
   simp only[ya.l38] at h
   refine za fun Z39 hZ39=>?_
   refine rgN [1,5,6,7,8,64] ?_;refine zo rfl (fun hc40=>?_) (fun hc40=>?_)
   · rw[if_pos hc40] at h;have t41:=eq_true hc40;apply zd;apply hZ39
     refine za fun Z42 hZ42=>?_
     apply ze;obtain⟨y43,hy43,h⟩:=bind_some h;have f44:=E82.idxS hy43;have f45:=E82.fldS (f:=3) rfl rfl hy43 (o:=1) (by decide)
     refine rd [1,5,6,7,8,75] fun K hK=>?_
     refine DW.start (T:=tab) [.any,.at [],.any,.any,.any,.at [],.any,.at [],.any] [] ?_;refine DW.runN tok 8 ?_;simp only[go_sem,qb,qa,qd,encGNamed,t41,f44,f45];refine DW.runN tok 1 ?_;simp only[go_sem,qb,qa];refine DW.fin tok (by decide +kernel) rfl ?_;simp only[zj,upd,qa,reduceIte,yq,y0];apply hK
     refine zo rfl (fun hc46=>?_) (fun hc46=>?_)
     · rw[if_pos hc46] at h;have t47:=eq_true hc46
       refine rg tok [2] fun K hK=>?_
       simp only[go_sem,qb,qa,t47];apply hK
       cases h;exact rtA
     rw[if_neg hc46] at h;have t48:=eq_false hc46;apply zd;apply hZ42
     refine rgE tok [1,5,6,7,8] fun K hK=>?_
     simp only[go_sem,qb,qa,t48];apply hK
     exact⟨_,_,_,qr (0+k38),⟨k38,IntKind.i64.wrap (x36+1),rfl,rfl,rfl,h⟩,.s⟩
   rw[if_neg hc40] at h;have t49:=eq_false hc40;apply zv;apply hZ24
   refine rgE tok [1,5,6] fun K hK=>?_
   simp only[go_sem,qb,qa,hw21,t49];apply hK
   exact⟨_,_,_,qr q21.length,⟨p21++[y21],q21,x17+1,l15++[y21.fName],v16+1,rfl,rfl,rfl,hE'21,hi'21,h⟩,(.t [0,1] false)⟩
 obtain⟨hz10,hw10,hx10,hE'10,hi'10⟩:=zW hE10 hi10 hb10;simp only[ya.l10] at h
 refine za fun Z50 hZ50=>?_
 refine rg tok [1,3,4,17] fun K hK=>?_
 simp only[go_sem,qb,qa,qd,hz10];apply hK
 refine zp rfl ?_;apply zd;apply hZ50
 refine za fun Z51 hZ51=>?_
 apply ze
 refine rcE [1,3,4] fun K hK=>?_
 refine rnN 2 ?_;refine zh 8 (fun L τ=>L=[(1,.op 0 0 0),(3,.bool x6),(4,.int .i64 x7),(29,.bool (x6||(decide (y10.fN=0))))]∧τ=[.cells 0 (encGEnumeration a0)]) ?_ ?_
 · refine zN (b:=x6) 21 rfl (fun hg21=>?_) (fun hg21=>?_)
   · refine rnN 8 ?_;refine zb ⟨rfl,_,_,⟨rfl,rfl⟩,.b hg21⟩
   have f52:=E82.idxS hx10;have f53:=E82.fldS (f:=3) rfl rfl hx10 (o:=1) (by decide);refine zi tok 8 ?_;simp only[go_sem,qb,qa,qd,encGNamed,f52,f53];refine zb ⟨rfl,_,_,⟨rfl,rfl⟩,.b hg21⟩
 rintro _ _ ⟨rfl,rfl⟩;refine rnN 1 ?_;refine nkN hK ?_;apply hZ51
 refine rgE tok [1,3,4] fun K hK=>?_
 simp only[go_sem,qb,qa,hw10];apply hK
 exact⟨_,_,_,qr q10.length,⟨p10++[y10],q10,x7+1,(x6||(decide (y10.fN=0))),rfl,rfl,rfl,hE'10,hi'10,h⟩,.s⟩
end
end Go.Proofs.YtaddlmlpeghonaaGreatDoor
