/- Parts of the proof, cut down to what it needs. -/
import Derived.Test.YtaddlmlpeghonaaGreatDoorHDc
set_option linter.constructorNameAsVariable false
set_option linter.unusedSimpArgs false
set_option linter.unusedVariables false
namespace Go.Proofs.YtaddlmlpeghonaaGreatDoor
open _root_.List renaming length → qc, flatMap → qe, length_append → qi, length_cons → qj, length_nil → ql, mem_cons_of_mem → qm, mem_cons_self → qn, append_assoc → qs, getD_eq_getElem?_getD → qu, map_nil → qw, nil_append → qx, append_nil → qz, mem_cons → qB, drop_zero → qC, map_append → qD, map_cons → qE, length_singleton → qG, cons_append → qH, length_eq_zero_iff → qJ, getElem?_append_left → qL, replicate → qN, flatMap_cons → qO, flatMap_append → qS, range_zero → qT, getElem?_set_ne → qW, all_cons → qY, getElem?_eq_getElem → q1, mem_append_right → q2, range_succ → q3, length_map → q7, getElem?_eq_some_iff → q9, all_nil → uc, mem_map → ud, all_eq_true → uf, mem_append → ug, take_length → ui, set_cons_zero → uk, take_of_length_le → ul, getElem?_append_right → um, flatMap_nil → un, mem_append_left → uo, mem_singleton → ut, take_append_drop → uu, set_cons_succ → uv, pairwise_cons → uw, getElem?_set_self → uz, nodup_cons → uA, getElem?_eq_none → uB, length_set → uD, filter_cons → uG, range → uI, getElem?_cons_zero → uK, getElem?_cons_succ → uL, length_take → uM, drop_eq_getElem_cons → uO, length_drop → uQ, getD_cons_zero → uX, getD_cons_succ → uY, reverse_cons → u3, set → u4, eq_nil_of_length_eq_zero → u6, drop_drop → ve
open _root_.Option renaming bind_some → qg, map_some → uF, getD_some → uR
open _root_.Nat renaming reduceEqDiff → qa, reduceLT → qb, reduceAdd → qd, reduceLeDiff → qf, lt_succ_self → qp, zero_add → qq, reduceMul → qt, le_refl → qv, reduceSub → qK, mul_le_mul_right → q5, reduceMod → ub, lt_of_lt_of_le → uj, zero_le → uq, le_trans → ux, zero_mul → uH, sub_self → uN, sub_zero → uP, succ_mul → uU, add_zero → uV, add_mul → uZ, lt_or_ge → u5, add_assoc → u7
open _root_.Bool renaming and_eq_true → qo, not_false → qy, or_eq_true → qI, or_true → qP, not_true → qQ, and_self → qR, and_true → qV, and_false → qX, or_false → qZ, false_eq_true → ue, false_ne_true → uy, true_and → uC, false_or → uJ, not_eq_true' → uS
open _root_.Int renaming toNat → qF, toNat_natCast → qU, reduceEq → uW, le_refl → u9
open _root_.BitVec renaming ofInt → qA, toNat → ur
open _root_.Array renaming length_toList → uh, getD_eq_getD_getElem? → uE, getElem?_eq_getElem → uT, getElem?_setIfInBounds_ne → u0, getElem?_modify → vg
open _root_.UInt8 renaming ofNat → ua
open Result renaming andThen_ok → qk
open Sem renaming run_bind → qr, run_pure → qM
open _root_.Go.Proofs.Tryz renaming prog → qh
section
set_option maxRecDepth 4000
set_option maxHeartbeats 1000000
open AM
def zK.l25 (x2:Int)(x3:Int)(rec6:Int→Int→Option Bool)(y12:GMessage):List GField→Int→Option Bool
 |[],x23=>(rec6 (IntKind.i64.wrap (x2+(qc y12.fName:Int))) (IntKind.i64.wrap (x3+1)))
 |y25::q25,x23=>(if ((decide (200<(qc y25.fName:Int)))||(decide (200<(qc y25.fType.fName:Int))))=true then some false else ((zK.l25 x2 x3 rec6 y12 q25) (x23+1)))
def zK.l60 (x41:Int)(rec43:Int→Option Bool):List GNamed→Int→Option Bool
 |[],x58=>(rec43 (IntKind.i64.wrap (x41+1)))
 |y60::q60,x58=>(if 200<(qc y60.fName:Int) then some false else ((zK.l60 x41 rec43 q60) (x58+1)))
def zK.l78 (a0:GSchema)(x2:Int):Nat→Int→Option Bool
 |0,_=>none
 |k78+1,x76=>(if ((decide (x76<(qc a0.fMethods:Int)))&&(decide (x76<20)))=true then (Zv a0.fMethods x76).bind fun y84=>(if (((decide (200<(qc y84.fName:Int)))||(decide (200<(qc y84.fIn:Int))))||(decide (200<(qc y84.fOut:Int))))=true then some false else ((zK.l78 a0 x2 k78) (IntKind.i64.wrap (x76+1)))) else some ((((decide (x2<3000))&&(decide ((qc a0.fMessages:Int)≤14)))&&(decide ((qc a0.fEnums:Int)≤10)))&&(decide ((qc a0.fMethods:Int)≤10))))
def zK.l43 (a0:GSchema)(x2:Int):Nat→Int→Option Bool
 |0,_=>none
 |k43+1,x41=>(if ((decide (x41<(qc a0.fEnums:Int)))&&(decide (x41<20)))=true then (Zv a0.fEnums x41).bind fun y50=>(if ((decide (200<(qc y50.fName:Int)))||(decide (24<(qc y50.fValues:Int))))=true then some false else (zK.l60 x41 (zK.l43 a0 x2 k43) y50.fValues 0)) else (zK.l78 a0 x2 rounds 0))
def zK.l6 (a0:GSchema):Nat→Int→Int→Option Bool
 |0,_,_=>none
 |k6+1,x2,x3=>(if ((decide (x3<(qc a0.fMessages:Int)))&&(decide (x3<20)))=true then (Zv a0.fMessages x3).bind fun y12=>(if ((decide (20<(qc y12.fFields:Int)))||(decide (40<(qc y12.fReserved:Int))))=true then some false else (zK.l25 x2 x3 (zK.l6 a0 k6) y12 y12.fFields 0)) else (zK.l43 a0 x2 rounds 0))
def zK (a0:GSchema):Option Bool:=
 (zK.l6 a0 rounds (qc a0.fName:Int) 0)
theorem zK.ok (a0:GSchema)(r:Bool)(h:zK a0=some r):ACalls qh 11 [.agg (encGSchema a0)] [] (fun r' _=>r'=.bool r):=by
 refine zf (rs:=[.tmp 2]) tok Tryz.func11 rfl Tryz.ntmps11 rfl Tryz.call11 (by simp) ?_;refine zk [(0,.agg (encGSchema a0))] ⟨rfl,trivial⟩ ?_;unfold zK at h
 refine rg tok [1] fun K hK=>?_
 simp only[go_sem,qb,qa,qd,reduceCtorEq,encGSchema];apply hK
 refine rgN [1,3] ?_
 refine za fun Z1 hZ1=>?_
 refine rgN [1,3,4] ?_;apply ze;refine zp (fun m L τ=>∃ (k6:Nat) (x2:Int) (x3:Int),m=0+k6∧L=[(1,.op 0 0 0),(3,.int .i64 x2),(4,.int .i64 x3)]∧τ=[.cells 0 (encGSchema a0)]∧zK.l6 a0 k6 x2 x3=some r) _ ⟨rounds,(qc a0.fName:Int),0,rfl,rfl,rfl,h⟩ .s ?_;rintro m L τ ⟨k6,x2,x3,rfl,rfl,rfl,h⟩
 rcases k6 with _|k6
 · cases h
 simp only[zK.l6] at h
 refine za fun Z7 hZ7=>?_
 refine rc [1,3,4,21] fun K hK=>?_
 refine rnN 6 ?_;refine zh 3 (fun L τ=>L=[(1,.op 0 0 0),(3,.int .i64 x2),(4,.int .i64 x3),(21,.bool ((decide (x3<(qc a0.fMessages:Int)))&&(decide (x3<20))))]∧τ=[.cells 0 (encGSchema a0)]) ?_ ?_
 · refine yw 18 rfl (fun hg18=>?_) (fun hg18=>?_)
   · have t8:=eq_true hg18;refine rnN 3 ?_;refine zb ⟨rfl,_,_,⟨rfl,rfl⟩,.p t8⟩
   have t9:=eq_false hg18;refine rnN 3 ?_;refine zb ⟨rfl,_,_,⟨rfl,rfl⟩,.p t9⟩
 rintro _ _ ⟨rfl,rfl⟩;refine nkN hK ?_;refine zm (b:=((decide (x3<(qc a0.fMessages:Int)))&&(decide (x3<20)))) rfl (fun hc10=>?_) (fun hc10=>?_)
 · rw[if_pos hc10] at h;apply zd;apply hZ7
   refine za fun Z11 hZ11=>?_
   apply ze;obtain⟨y12,hy12,h⟩:=bind_some h;have f13:=E22.idxS hy12;have f14:=E22.fldS0 (f:=9) rfl rfl hy12
   refine rg tok [1,3,4] fun K hK=>?_
   simp only[go_sem,qb,qa,qd,encGMessage,f13,f14];apply hK
   refine za fun Z15 hZ15=>?_
   refine rc [1,3,4,50] fun K hK=>?_
   have f16:=E22.idxS hy12;have f17:=E22.fldS (f:=47) rfl rfl hy12 (o:=1) (by decide);refine zi tok 9 ?_;simp only[go_sem,qb,qa,qd,encGMessage,f16,f17];refine zh 9 (fun L τ=>L=[(1,.op 0 0 0),(3,.int .i64 (IntKind.i64.wrap (x2+(qc y12.fName:Int)))),(4,.int .i64 x3),(50,.bool ((decide (20<(qc y12.fFields:Int)))||(decide (40<(qc y12.fReserved:Int)))))]∧τ=[.cells 0 (encGSchema a0)]) ?_ ?_
   · refine yw 41 rfl (fun hg41=>?_) (fun hg41=>?_)
     · have t18:=eq_true hg41;refine rnN 9 ?_;refine zb ⟨rfl,_,_,⟨rfl,rfl⟩,.p t18⟩
     have t19:=eq_false hg41;have f20:=E22.idxS hy12;have f21:=E22.fldS (f:=45) rfl rfl hy12 (o:=2) (by decide);refine zi tok 9 ?_;simp only[go_sem,qb,qa,qd,encGMessage,f20,f21];refine zb ⟨rfl,_,_,⟨rfl,rfl⟩,.p t19⟩
   rintro _ _ ⟨rfl,rfl⟩;refine nkN hK ?_;refine zm (b:=((decide (20<(qc y12.fFields:Int)))||(decide (40<(qc y12.fReserved:Int))))) rfl (fun hc22=>?_) (fun hc22=>?_)
   · rw[if_pos hc22] at h;refine rgN [2] ?_;cases h;exact rtA
   rw[xQ hc22] at h;apply zd;apply hZ15;refine rgN [1,3,4,5] ?_;apply ze
   refine xh 0 rfl fun hb25=>?_
   replace hb25:=XU hb25.2.1.2 hy12;replace hb25:qc y12.fFields≤9223372036854775807:=hb25.2.1.1;refine zp (fun m L τ=>∃ (p25 q25:List GField) (x23:Int),m=qc q25∧L=[(1,.op 0 0 0),(3,.int .i64 (IntKind.i64.wrap (x2+(qc y12.fName:Int)))),(4,.int .i64 x3),(5,.int .i64 x23)]∧τ=[.cells 0 (encGSchema a0)]∧y12.fFields=p25++q25∧x23=(qc p25:Int)∧zK.l25 x2 x3 (zK.l6 a0 k6) y12 q25 x23=some r) _ ⟨[],y12.fFields,0,rfl,rfl,rfl,rfl,rfl,h⟩ .s ?_;rintro m L τ ⟨p25,q25,x23,rfl,rfl,rfl,hE25,hi25,h⟩
   rcases q25 with _|⟨y25,q25⟩
   · have hz25:=yl hE25 hi25;simp only[zK.l25] at h
     refine za fun Z26 hZ26=>?_
     have f27:=E22.idxS hy12;have f28:=E22.fldS (f:=47) rfl rfl hy12 (o:=1) (by decide)
     refine rg tok [1,3,4,5,59] fun K hK=>?_
     simp only[go_sem,qb,qa,qd,encGMessage,hz25,f27,f28];apply hK
     refine zn rfl ?_;apply zr;apply hZ11
     refine rgE tok [1,3,4] fun K hK=>?_
     simp only[go_sem,qb,qa];apply hK
     exact⟨_,_,_,qp (0+k6),⟨k6,IntKind.i64.wrap (x2+(qc y12.fName:Int)),IntKind.i64.wrap (x3+1),rfl,rfl,rfl,h⟩,.s⟩
   obtain⟨hz25,hw25,hx25,hE'25,hi'25⟩:=zV hE25 hi25 hb25;simp only[zK.l25] at h
   refine za fun Z29 hZ29=>?_
   have f30:=E22.idxS hy12;have f31:=E22.fldS (f:=47) rfl rfl hy12 (o:=1) (by decide)
   refine rg tok [1,3,4,5,59] fun K hK=>?_
   simp only[go_sem,qb,qa,qd,encGMessage,hz25,f30,f31];apply hK
   refine zo rfl ?_;apply zd;apply hZ29
   refine za fun Z32 hZ32=>?_
   apply ze;have f33:=E22.idxS hy12;have f34:=E22.fldS (f:=47) rfl rfl hy12 (o:=1) (by decide);have f35:=E47.idxS hx25;have f36:=E47.loadS rfl rfl hx25
   refine rg tok [1,3,4,5,6] fun K hK=>?_
   simp only[go_sem,qb,qf,qa,qd,encGField,encGMessage,f33,f34,f35,f36];apply hK
   refine rc [1,3,4,5,81] fun K hK=>?_
   refine rnN 5 ?_;refine zh 6 (fun L τ=>L=[(1,.op 0 0 0),(3,.int .i64 (IntKind.i64.wrap (x2+(qc y12.fName:Int)))),(4,.int .i64 x3),(5,.int .i64 x23),(81,.bool ((decide (200<(qc y25.fName:Int)))||(decide (200<(qc y25.fType.fName:Int)))))]∧τ=[.cells 0 (encGSchema a0),.cells 0 (encGField y25)]) ?_ ?_
   · refine yw 75 rfl (fun hg75=>?_) (fun hg75=>?_)
     · have t37:=eq_true hg75;refine rnN 6 ?_;refine zb ⟨rfl,_,_,⟨rfl,rfl⟩,.p t37⟩
     have t38:=eq_false hg75;refine rnN 6 ?_;refine zb ⟨rfl,_,_,⟨rfl,rfl⟩,.p t38⟩
   rintro _ _ ⟨rfl,rfl⟩;refine nkN hK ?_;refine zm (b:=((decide (200<(qc y25.fName:Int)))||(decide (200<(qc y25.fType.fName:Int))))) rfl (fun hc39=>?_) (fun hc39=>?_)
   · rw[if_pos hc39] at h;refine rgN [2] ?_;cases h;exact rtA
   rw[xQ hc39] at h;apply zd;apply hZ32
   refine rgE tok [1,3,4,5] fun K hK=>?_
   simp only[go_sem,qb,qa,hw25];apply hK
   exact⟨_,_,_,qp q25.length,⟨p25++[y25],q25,x23+1,rfl,rfl,rfl,hE'25,hi'25,h⟩,(.t [0] false)⟩
 rw[xQ hc10] at h;apply zr;apply hZ1
 refine za fun Z40 hZ40=>?_
 refine rgN [1,3,7] ?_;apply ze;refine zp (fun m L τ=>∃ (k43:Nat) (x41:Int),m=0+k43∧L=[(1,.op 0 0 0),(3,.int .i64 x2),(7,.int .i64 x41)]∧τ=[.cells 0 (encGSchema a0)]∧zK.l43 a0 x2 k43 x41=some r) _ ⟨rounds,0,rfl,rfl,rfl,h⟩ .s ?_;rintro m L τ ⟨k43,x41,rfl,rfl,rfl,h⟩
 rcases k43 with _|k43
 · cases h
 simp only[zK.l43] at h
 refine za fun Z44 hZ44=>?_
 refine rc [1,3,7,90] fun K hK=>?_
 refine rnN 6 ?_;refine zh 3 (fun L τ=>L=[(1,.op 0 0 0),(3,.int .i64 x2),(7,.int .i64 x41),(90,.bool ((decide (x41<(qc a0.fEnums:Int)))&&(decide (x41<20))))]∧τ=[.cells 0 (encGSchema a0)]) ?_ ?_
 · refine yw 87 rfl (fun hg87=>?_) (fun hg87=>?_)
   · have t45:=eq_true hg87;refine rnN 3 ?_;refine zb ⟨rfl,_,_,⟨rfl,rfl⟩,.p t45⟩
   have t46:=eq_false hg87;refine rnN 3 ?_;refine zb ⟨rfl,_,_,⟨rfl,rfl⟩,.p t46⟩
 rintro _ _ ⟨rfl,rfl⟩;refine nkN hK ?_;refine zm (b:=((decide (x41<(qc a0.fEnums:Int)))&&(decide (x41<20)))) rfl (fun hc47=>?_) (fun hc47=>?_)
 · rw[if_pos hc47] at h;apply zd;apply hZ44
   refine za fun Z48 hZ48=>?_
   apply ze
   refine za fun Z49 hZ49=>?_
   refine rc [1,3,7,110] fun K hK=>?_
   obtain⟨y50,hy50,h⟩:=bind_some h;have f51:=E23.idxS hy50;have f52:=E23.fldS0 (f:=9) rfl rfl hy50;refine zi tok 9 ?_;simp only[go_sem,qb,qa,qd,encGEnumeration,f51,f52];refine zh 9 (fun L τ=>L=[(1,.op 0 0 0),(3,.int .i64 x2),(7,.int .i64 x41),(110,.bool ((decide (200<(qc y50.fName:Int)))||(decide (24<(qc y50.fValues:Int)))))]∧τ=[.cells 0 (encGSchema a0)]) ?_ ?_
   · refine yw 101 rfl (fun hg101=>?_) (fun hg101=>?_)
     · have t53:=eq_true hg101;refine rnN 9 ?_;refine zb ⟨rfl,_,_,⟨rfl,rfl⟩,.p t53⟩
     have t54:=eq_false hg101;have f55:=E23.idxS hy50;have f56:=E23.fldS (f:=82) rfl rfl hy50 (o:=1) (by decide);refine zi tok 9 ?_;simp only[go_sem,qb,qa,qd,encGEnumeration,f55,f56];refine zb ⟨rfl,_,_,⟨rfl,rfl⟩,.p t54⟩
   rintro _ _ ⟨rfl,rfl⟩;refine nkN hK ?_;refine zm (b:=((decide (200<(qc y50.fName:Int)))||(decide (24<(qc y50.fValues:Int))))) rfl (fun hc57=>?_) (fun hc57=>?_)
   · rw[if_pos hc57] at h;refine rgN [2] ?_;cases h;exact rtA
   rw[xQ hc57] at h;apply zd;apply hZ49;refine rgN [1,3,7,8] ?_;apply ze
   refine xh 0 rfl fun hb60=>?_
   replace hb60:=XU hb60.2.2.1.2 hy50;replace hb60:qc y50.fValues≤9223372036854775807:=hb60.2.1.1;refine zp (fun m L τ=>∃ (p60 q60:List GNamed) (x58:Int),m=qc q60∧L=[(1,.op 0 0 0),(3,.int .i64 x2),(7,.int .i64 x41),(8,.int .i64 x58)]∧τ=[.cells 0 (encGSchema a0)]∧y50.fValues=p60++q60∧x58=(qc p60:Int)∧zK.l60 x41 (zK.l43 a0 x2 k43) q60 x58=some r) _ ⟨[],y50.fValues,0,rfl,rfl,rfl,rfl,rfl,h⟩ .s ?_;rintro m L τ ⟨p60,q60,x58,rfl,rfl,rfl,hE60,hi60,h⟩
   rcases q60 with _|⟨y60,q60⟩
   · have hz60:=yl hE60 hi60;simp only[zK.l60] at h
     refine za fun Z61 hZ61=>?_
     have f62:=E23.idxS hy50;have f63:=E23.fldS (f:=82) rfl rfl hy50 (o:=1) (by decide)
     refine rg tok [1,3,7,8,119] fun K hK=>?_
     simp only[go_sem,qb,qa,qd,encGEnumeration,hz60,f62,f63];apply hK
     refine zn rfl ?_;apply zr;apply hZ48
     refine rgE tok [1,3,7] fun K hK=>?_
     simp only[go_sem,qb,qa];apply hK
     exact⟨_,_,_,qp (0+k43),⟨k43,IntKind.i64.wrap (x41+1),rfl,rfl,rfl,h⟩,.s⟩
   obtain⟨hz60,hw60,hx60,hE'60,hi'60⟩:=zV hE60 hi60 hb60;simp only[zK.l60] at h
   refine za fun Z64 hZ64=>?_
   have f65:=E23.idxS hy50;have f66:=E23.fldS (f:=82) rfl rfl hy50 (o:=1) (by decide)
   refine rg tok [1,3,7,8,119] fun K hK=>?_
   simp only[go_sem,qb,qa,qd,encGEnumeration,hz60,f65,f66];apply hK
   refine zo rfl ?_;apply zd;apply hZ64
   refine za fun Z67 hZ67=>?_
   apply ze;have f68:=E23.idxS hy50;have f69:=E23.fldS (f:=82) rfl rfl hy50 (o:=1) (by decide);have f70:=E82.idxS hx60;have f71:=E82.fldS0 (f:=9) rfl rfl hx60
   refine rg tok [1,3,7,8,133] fun K hK=>?_
   simp only[go_sem,qb,qa,qd,encGEnumeration,encGNamed,f68,f69,f70,f71];apply hK
   refine zq rfl (fun hc72=>?_) (fun hc72=>?_)
   · rw[if_pos hc72] at h;have t73:=eq_true hc72
     refine rg tok [2] fun K hK=>?_
     simp only[go_sem,qb,qa,t73];apply hK
     cases h;exact rtA
   rw[if_neg hc72] at h;have t74:=eq_false hc72;apply zd;apply hZ67
   refine rgE tok [1,3,7,8] fun K hK=>?_
   simp only[go_sem,qb,qa,hw60,t74];apply hK
   exact⟨_,_,_,qp q60.length,⟨p60++[y60],q60,x58+1,rfl,rfl,rfl,hE'60,hi'60,h⟩,.s⟩
 rw[xQ hc47] at h;apply zr;apply hZ40
 refine za fun Z75 hZ75=>?_
 refine rgN [1,3,9] ?_;apply ze;refine zp (fun m L τ=>∃ (k78:Nat) (x76:Int),m=0+k78∧L=[(1,.op 0 0 0),(3,.int .i64 x2),(9,.int .i64 x76)]∧τ=[.cells 0 (encGSchema a0)]∧zK.l78 a0 x2 k78 x76=some r) _ ⟨rounds,0,rfl,rfl,rfl,h⟩ .s ?_;rintro m L τ ⟨k78,x76,rfl,rfl,rfl,h⟩
 rcases k78 with _|k78
 · cases h
 simp only[zK.l78] at h
 refine za fun Z79 hZ79=>?_
 refine rc [1,3,9,142] fun K hK=>?_
 refine rnN 6 ?_;refine zh 3 (fun L τ=>L=[(1,.op 0 0 0),(3,.int .i64 x2),(9,.int .i64 x76),(142,.bool ((decide (x76<(qc a0.fMethods:Int)))&&(decide (x76<20))))]∧τ=[.cells 0 (encGSchema a0)]) ?_ ?_
 · refine yw 139 rfl (fun hg139=>?_) (fun hg139=>?_)
   · have t80:=eq_true hg139;refine rnN 3 ?_;refine zb ⟨rfl,_,_,⟨rfl,rfl⟩,.p t80⟩
   have t81:=eq_false hg139;refine rnN 3 ?_;refine zb ⟨rfl,_,_,⟨rfl,rfl⟩,.p t81⟩
 rintro _ _ ⟨rfl,rfl⟩;refine nkN hK ?_;refine zm (b:=((decide (x76<(qc a0.fMethods:Int)))&&(decide (x76<20)))) rfl (fun hc82=>?_) (fun hc82=>?_)
 · rw[if_pos hc82] at h;apply zd;apply hZ79
   refine za fun Z83 hZ83=>?_
   apply ze
   refine rc [1,3,9,172] fun K hK=>?_
   obtain⟨y84,hy84,h⟩:=bind_some h;have f85:=E24.idxS hy84;have f86:=E24.fldS0 (f:=9) rfl rfl hy84;refine zi tok 9 ?_;simp only[go_sem,qb,qa,qd,encGMethod,f85,f86];refine zh 9 (fun L τ=>L=[(1,.op 0 0 0),(3,.int .i64 x2),(9,.int .i64 x76),(162,.bool ((decide (200<(qc y84.fName:Int)))||(decide (200<(qc y84.fIn:Int)))))]∧τ=[.cells 0 (encGSchema a0)]) ?_ ?_
   · refine yw 153 rfl (fun hg153=>?_) (fun hg153=>?_)
     · have t87:=eq_true hg153;refine rnN 9 ?_;refine zb ⟨rfl,_,_,⟨rfl,rfl⟩,.p t87⟩
     have t88:=eq_false hg153;have f89:=E24.idxS hy84;have f90:=E24.fldS (f:=9) rfl rfl hy84 (o:=1) (by decide);refine zi tok 9 ?_;simp only[go_sem,qb,qa,qd,encGMethod,f89,f90];refine zb ⟨rfl,_,_,⟨rfl,rfl⟩,.p t88⟩
   rintro _ _ ⟨rfl,rfl⟩;refine rnN 1 ?_;refine zh 9 (fun L τ=>L=[(1,.op 0 0 0),(3,.int .i64 x2),(9,.int .i64 x76),(172,.bool (((decide (200<(qc y84.fName:Int)))||(decide (200<(qc y84.fIn:Int))))||(decide (200<(qc y84.fOut:Int)))))]∧τ=[.cells 0 (encGSchema a0)]) ?_ ?_
   · refine zH (b:=((decide (200<(qc y84.fName:Int)))||(decide (200<(qc y84.fIn:Int))))) 163 rfl (fun hg163=>?_) (fun hg163=>?_)
     · refine rnN 9 ?_;refine zb ⟨rfl,_,_,⟨rfl,rfl⟩,.b hg163⟩
     have f91:=E24.idxS hy84;have f92:=E24.fldS (f:=9) rfl rfl hy84 (o:=2) (by decide);refine zi tok 9 ?_;simp only[go_sem,qb,qa,qd,encGMethod,f91,f92];refine zb ⟨rfl,_,_,⟨rfl,rfl⟩,.b hg163⟩
   rintro _ _ ⟨rfl,rfl⟩;refine nkN hK ?_;refine zm (b:=(((decide (200<(qc y84.fName:Int)))||(decide (200<(qc y84.fIn:Int))))||(decide (200<(qc y84.fOut:Int))))) rfl (fun hc93=>?_) (fun hc93=>?_)
   · rw[if_pos hc93] at h;refine rgN [2] ?_;cases h;exact rtA
   rw[xQ hc93] at h;apply zd;apply hZ83
   refine rgE tok [1,3,9] fun K hK=>?_
   simp only[go_sem,qb,qa];apply hK
   exact⟨_,_,_,qp (0+k78),⟨k78,IntKind.i64.wrap (x76+1),rfl,rfl,rfl,h⟩,.s⟩
 rw[xQ hc82] at h;apply zr;apply hZ75
 refine rc [2] fun K hK=>?_
 refine rnN 3 ?_;refine zh 5 (fun L τ=>L=[(1,.op 0 0 0),(180,.bool ((decide (x2<3000))&&(decide ((qc a0.fMessages:Int)≤14))))]∧τ=[.cells 0 (encGSchema a0)]) ?_ ?_
 · refine yw 175 rfl (fun hg175=>?_) (fun hg175=>?_)
   · have t94:=eq_true hg175;refine rnN 5 ?_;refine zb ⟨rfl,_,_,⟨rfl,rfl⟩,.p t94⟩
   have t95:=eq_false hg175;refine rnN 5 ?_;refine zb ⟨rfl,_,_,⟨rfl,rfl⟩,.p t95⟩
 rintro _ _ ⟨rfl,rfl⟩;refine rnN 1 ?_;refine zh 5 (fun L τ=>L=[(1,.op 0 0 0),(186,.bool (((decide (x2<3000))&&(decide ((qc a0.fMessages:Int)≤14)))&&(decide ((qc a0.fEnums:Int)≤10))))]∧τ=[.cells 0 (encGSchema a0)]) ?_ ?_
 · refine zH (b:=((decide (x2<3000))&&(decide ((qc a0.fMessages:Int)≤14)))) 181 rfl (fun hg181=>?_) (fun hg181=>?_)
   · refine rnN 5 ?_;refine zb ⟨rfl,_,_,⟨rfl,rfl⟩,.b hg181⟩
   refine rnN 5 ?_;refine zb ⟨rfl,_,_,⟨rfl,rfl⟩,.b hg181⟩
 rintro _ _ ⟨rfl,rfl⟩;refine rnN 1 ?_;refine zh 5 (fun L τ=>L=[(192,.bool ((((decide (x2<3000))&&(decide ((qc a0.fMessages:Int)≤14)))&&(decide ((qc a0.fEnums:Int)≤10)))&&(decide ((qc a0.fMethods:Int)≤10))))]∧τ=[.cells 0 (encGSchema a0)]) ?_ ?_
 · refine zH (b:=(((decide (x2<3000))&&(decide ((qc a0.fMessages:Int)≤14)))&&(decide ((qc a0.fEnums:Int)≤10)))) 187 rfl (fun hg187=>?_) (fun hg187=>?_)
   · refine rnN 5 ?_;refine zb ⟨rfl,_,_,⟨rfl,rfl⟩,.b hg187⟩
   refine rnN 5 ?_;refine zb ⟨rfl,_,_,⟨rfl,rfl⟩,.b hg187⟩
 rintro _ _ ⟨rfl,rfl⟩;refine rnN 1 ?_;refine nkN hK ?_;cases h;exact rtA
theorem zK.ev (a0:GSchema)(r:Bool)(h:zK a0=some r)(σ:Store):ACalls qh 11 [.agg (encGSchema a0)] σ (fun r' σ'=>r'=.bool r∧σ'=σ):=
 (zK.ok a0 r h).c σ
def zE.l29 (yx:GTree→Int→Int→Option (Bool×Int))(a1:Int)(x12:Int)(rec15:Int→Int→Option (Bool×Int)):List GTree→Int→Int→Option (Bool×Int)
 |[],x26,m0_25=>(rec15 (x12+1) m0_25)
 |y29::q29,x26,m0_25=>(yx y29 (IntKind.i64.wrap (a1+1)) m0_25).bind fun r41=>(if (!r41.1)=true then some (false,r41.2) else ((zE.l29 yx a1 x12 rec15 q29) (x26+1) r41.2))
def zE.l15 (yx:GTree→Int→Int→Option (Bool×Int))(a1:Int):List GEntry→Int→Int→Option (Bool×Int)
 |[],x12,m0_11=>some (true,m0_11)
 |y15::q15,x12,m0_11=>(if 70<(qc y15.fTrees:Int) then some (false,m0_11) else (zE.l29 yx a1 x12 (zE.l15 yx a1 q15) y15.fTrees 0 m0_11))
def zE.l8 (yx:GTree→Int→Int→Option (Bool×Int))(a0:GTree)(a1:Int)(a2:Int):List GRaw→Int→Option (Bool×Int)
 |[],x6=>(zE.l15 yx a1 a0.fEntries 0 (IntKind.i64.wrap (a2+1)))
 |y8::q8,x6=>(if 5000<(qc y8.fB:Int) then some (false,IntKind.i64.wrap (a2+1)) else ((zE.l8 yx a0 a1 a2 q8) (x6+1)))
def zE.body (yx:GTree→Int→Int→Option (Bool×Int))(a0:GTree)(a1:Int)(a2:Int):Option (Bool×Int):=
 (if (((((decide (200<IntKind.i64.wrap (a2+1)))||(decide (13<a1)))||(decide (5000<(qc a0.fS:Int))))||(decide (40<(qc a0.fRest:Int))))||(decide (40<(qc a0.fEntries:Int))))=true then some (false,IntKind.i64.wrap (a2+1)) else (zE.l8 yx a0 a1 a2 a0.fRest 0))
theorem zE.step (yx:GTree→Int→Int→Option (Bool×Int))(ih_law00_small:∀ (a0:GTree) (a1:Int) (a2:Int) (r:Bool×Int),yx a0 a1 a2=some r→ACalls qh 36 [.agg (cellsGTree a0),.int .i64 a1,.op 0 0 0] [.cells 0 [.int .i64 a2]] (fun r' σ'=>r'=.bool r.1∧σ'=[.cells 0 [.int .i64 r.2]]))(a0:GTree)(a1:Int)(a2:Int)(r:Bool×Int)(h:zE.body yx a0 a1 a2=some r):ACalls qh 36 [.agg (cellsGTree a0),.int .i64 a1,.op 0 0 0] [.cells 0 [.int .i64 a2]] (fun r' σ'=>r'=.bool r.1∧σ'=[.cells 0 [.int .i64 r.2]]):=by
 refine vaI [0] (rs:=[.tmp 6]) tok Tryz.func36 rfl Tryz.ntmps36 rfl Tryz.call36 (by simp) rfl ?_;refine zk [(0,.agg (cellsGTree a0)),(1,.int .i64 a1),(2,.op 0 0 0)] ⟨rfl,rfl,rfl,trivial⟩ ?_;unfold zE.body at h
 refine rg tok [1,2,3] fun K hK=>?_
 simp only[go_sem,qb,qa,qd,reduceCtorEq,cellsGTree];apply hK
 refine rgN [1,2,3] ?_
 refine za fun Z1 hZ1=>?_
 refine rc [1,2,3,40] fun K hK=>?_
 refine rnN 5 ?_;refine zh 3 (fun L τ=>L=[(1,.int .i64 a1),(2,.op 0 0 0),(3,.op 1 0 0),(22,.bool ((decide (200<IntKind.i64.wrap (a2+1)))||(decide (13<a1))))]∧τ=[.cells 0 [.int .i64 (IntKind.i64.wrap (a2+1))],.cells 0 (cellsGTree a0)]) ?_ ?_
 · refine yw 19 rfl (fun hg19=>?_) (fun hg19=>?_)
   · have t2:=eq_true hg19;refine rnN 3 ?_;refine zb ⟨rfl,_,_,⟨rfl,rfl⟩,.p t2⟩
   have t3:=eq_false hg19;refine rnN 3 ?_;refine zb ⟨rfl,_,_,⟨rfl,rfl⟩,.p t3⟩
 rintro _ _ ⟨rfl,rfl⟩;refine rnN 1 ?_;refine zh 5 (fun L τ=>L=[(1,.int .i64 a1),(2,.op 0 0 0),(3,.op 1 0 0),(28,.bool (((decide (200<IntKind.i64.wrap (a2+1)))||(decide (13<a1)))||(decide (5000<(qc a0.fS:Int)))))]∧τ=[.cells 0 [.int .i64 (IntKind.i64.wrap (a2+1))],.cells 0 (cellsGTree a0)]) ?_ ?_
 · refine zH (b:=((decide (200<IntKind.i64.wrap (a2+1)))||(decide (13<a1)))) 23 rfl (fun hg23=>?_) (fun hg23=>?_)
   · refine rnN 5 ?_;refine zb ⟨rfl,_,_,⟨rfl,rfl⟩,.b hg23⟩
   refine rnN 5 ?_;refine zb ⟨rfl,_,_,⟨rfl,rfl⟩,.b hg23⟩
 rintro _ _ ⟨rfl,rfl⟩;refine rnN 1 ?_;refine zh 5 (fun L τ=>L=[(1,.int .i64 a1),(2,.op 0 0 0),(3,.op 1 0 0),(34,.bool ((((decide (200<IntKind.i64.wrap (a2+1)))||(decide (13<a1)))||(decide (5000<(qc a0.fS:Int))))||(decide (40<(qc a0.fRest:Int)))))]∧τ=[.cells 0 [.int .i64 (IntKind.i64.wrap (a2+1))],.cells 0 (cellsGTree a0)]) ?_ ?_
 · refine zH (b:=(((decide (200<IntKind.i64.wrap (a2+1)))||(decide (13<a1)))||(decide (5000<(qc a0.fS:Int))))) 29 rfl (fun hg29=>?_) (fun hg29=>?_)
   · refine rnN 5 ?_;refine zb ⟨rfl,_,_,⟨rfl,rfl⟩,.b hg29⟩
   refine rnN 5 ?_;refine zb ⟨rfl,_,_,⟨rfl,rfl⟩,.b hg29⟩
 rintro _ _ ⟨rfl,rfl⟩;refine rnN 1 ?_;refine zh 5 (fun L τ=>L=[(1,.int .i64 a1),(2,.op 0 0 0),(3,.op 1 0 0),(40,.bool (((((decide (200<IntKind.i64.wrap (a2+1)))||(decide (13<a1)))||(decide (5000<(qc a0.fS:Int))))||(decide (40<(qc a0.fRest:Int))))||(decide (40<(qc a0.fEntries:Int)))))]∧τ=[.cells 0 [.int .i64 (IntKind.i64.wrap (a2+1))],.cells 0 (cellsGTree a0)]) ?_ ?_
 · refine zH (b:=((((decide (200<IntKind.i64.wrap (a2+1)))||(decide (13<a1)))||(decide (5000<(qc a0.fS:Int))))||(decide (40<(qc a0.fRest:Int))))) 35 rfl (fun hg35=>?_) (fun hg35=>?_)
   · refine rnN 5 ?_;refine zb ⟨rfl,_,_,⟨rfl,rfl⟩,.b hg35⟩
   refine rnN 5 ?_;refine zb ⟨rfl,_,_,⟨rfl,rfl⟩,.b hg35⟩
 rintro _ _ ⟨rfl,rfl⟩;refine nkN hK ?_;refine zm (b:=(((((decide (200<IntKind.i64.wrap (a2+1)))||(decide (13<a1)))||(decide (5000<(qc a0.fS:Int))))||(decide (40<(qc a0.fRest:Int))))||(decide (40<(qc a0.fEntries:Int))))) rfl (fun hc4=>?_) (fun hc4=>?_)
 · rw[if_pos hc4] at h;refine rgN [6] ?_;apply yz;cases h;simp only[ZL,yT,xd,xZ,exists_eq_left',go_sem,qd];refine⟨by decide,by simp,?_,?_⟩
   · first|rfl|(simp only[go_sem,qb,qf,qa,qd,qt,qK,reduceIte,reduceCtorEq,push_cast,if_true,qC,qq,qE,qw,qD,qP,qZ,qV,qX,qQ,qy,zP]<;>rfl)
   first|rfl|(simp only[go_sem,qb,qf,qa,qd,qt,qK,reduceIte,reduceCtorEq,push_cast,if_true,qC,qq,qE,qw,qD,qP,qZ,qV,qX,qQ,qy,zP]<;>rfl)
 rw[xQ hc4] at h;apply zd;apply hZ1
 refine za fun Z5 hZ5=>?_
 refine rgN [1,2,3,7] ?_;apply ze
 refine xh 1 rfl fun hb8=>?_
 replace hb8:qc a0.fRest≤9223372036854775807:=hb8.2.2.2.2.1.1;refine zp (fun m L τ=>∃ (p8 q8:List GRaw) (x6:Int),m=qc q8∧L=[(1,.int .i64 a1),(2,.op 0 0 0),(3,.op 1 0 0),(7,.int .i64 x6)]∧τ=[.cells 0 [.int .i64 (IntKind.i64.wrap (a2+1))],.cells 0 (cellsGTree a0)]∧a0.fRest=p8++q8∧x6=(qc p8:Int)∧zE.l8 yx a0 a1 a2 q8 x6=some r) _ ⟨[],a0.fRest,0,rfl,rfl,rfl,rfl,rfl,h⟩ .s ?_;rintro m L τ ⟨p8,q8,x6,rfl,rfl,rfl,hE8,hi8,h⟩
 rcases q8 with _|⟨y8,q8⟩
 · have hz8:=yl hE8 hi8;simp only[zE.l8] at h
   refine za fun Z9 hZ9=>?_
   refine rg tok [1,2,3,7,45] fun K hK=>?_
   simp only[go_sem,qb,qa,qd,hz8];apply hK
   refine zn rfl ?_;apply zr;apply hZ5
   refine za fun Z10 hZ10=>?_
   refine rgN [1,2,3,8] ?_;apply ze
   refine xh 1 rfl fun hb15=>?_
   replace hb15:qc a0.fEntries≤9223372036854775807:=hb15.2.2.2.1.1;refine zp (fun m L τ=>∃ (p15 q15:List GEntry) (x12:Int) (m0_11:Int),m=qc q15∧L=[(1,.int .i64 a1),(2,.op 0 0 0),(3,.op 1 0 0),(8,.int .i64 x12)]∧τ=[.cells 0 [.int .i64 m0_11],.cells 0 (cellsGTree a0)]∧a0.fEntries=p15++q15∧x12=(qc p15:Int)∧zE.l15 yx a1 q15 x12 m0_11=some r) _ ⟨[],a0.fEntries,0,IntKind.i64.wrap (a2+1),rfl,rfl,rfl,rfl,rfl,h⟩ .s ?_;rintro m L τ ⟨p15,q15,x12,m0_11,rfl,rfl,rfl,hE15,hi15,h⟩
   rcases q15 with _|⟨y15,q15⟩
   · have hz15:=yl hE15 hi15;simp only[zE.l15] at h
     refine za fun Z16 hZ16=>?_
     refine rg tok [1,2,3,8,60] fun K hK=>?_
     simp only[go_sem,qb,qa,qd,hz15];apply hK
     refine zn rfl ?_;apply zr;apply hZ10;refine rgN [6] ?_;apply yz;cases h;simp only[ZL,yT,xd,xZ,exists_eq_left',go_sem,qd];refine⟨by decide,by simp,?_,?_⟩
     · first|rfl|(simp only[go_sem,qb,qf,qa,qd,qt,qK,reduceIte,reduceCtorEq,push_cast,if_true,qC,qq,qE,qw,qD,qP,qZ,qV,qX,qQ,qy,zP]<;>rfl)
     first|rfl|(simp only[go_sem,qb,qf,qa,qd,qt,qK,reduceIte,reduceCtorEq,push_cast,if_true,qC,qq,qE,qw,qD,qP,qZ,qV,qX,qQ,qy,zP]<;>rfl)
   obtain⟨hz15,hw15,hx15,hE'15,hi'15⟩:=zV hE15 hi15 hb15;simp only[zE.l15] at h
   refine za fun Z17 hZ17=>?_
   refine rg tok [1,2,3,8,60] fun K hK=>?_
   simp only[go_sem,qb,qa,qd,hz15];apply hK
   refine zo rfl ?_;apply zd;apply hZ17
   refine za fun Z18 hZ18=>?_
   apply ze
   refine za fun Z19 hZ19=>?_
   have f20:=E27.idxS hx15;have f21:=E27.fldS (f:=90) rfl rfl hx15 (o:=1) (by decide)
   refine rg tok [1,2,3,8,70] fun K hK=>?_
   simp only[go_sem,qb,qa,qd,cellsGEntry,zS,f20,f21];apply hK
   refine zq rfl (fun hc22=>?_) (fun hc22=>?_)
   · rw[if_pos hc22] at h;have t23:=eq_true hc22
     refine rg tok [6] fun K hK=>?_
     simp only[go_sem,qb,qa,t23];apply hK
     apply yz;cases h;simp only[ZL,yT,xd,xZ,exists_eq_left',go_sem,qd];refine⟨by decide,by simp,?_,?_⟩
     · first|rfl|(simp only[go_sem,qb,qf,qa,qd,qt,qK,reduceIte,reduceCtorEq,push_cast,if_true,qC,qq,qE,qw,qD,qP,qZ,qV,qX,qQ,qy,zP]<;>rfl)
     first|rfl|(simp only[go_sem,qb,qf,qa,qd,qt,qK,reduceIte,reduceCtorEq,push_cast,if_true,qC,qq,qE,qw,qD,qP,qZ,qV,qX,qQ,qy,zP]<;>rfl)
   rw[if_neg hc22] at h;have t24:=eq_false hc22;apply zd;apply hZ19
   refine rg tok [1,2,3,8,9] fun K hK=>?_
   simp only[go_sem,qb,qa,t24];apply hK
   apply ze
   refine xh 1 rfl fun hb29=>?_
   replace hb29:=XU hb29.2.2.2.1.2 hx15;rw[zS] at hb29;replace hb29:qc y15.fTrees≤9223372036854775807:=hb29.2.1.1;refine zp (fun m L τ=>∃ (p29 q29:List GTree) (x26:Int) (m0_25:Int),m=qc q29∧L=[(1,.int .i64 a1),(2,.op 0 0 0),(3,.op 1 0 0),(8,.int .i64 x12),(9,.int .i64 x26)]∧τ=[.cells 0 [.int .i64 m0_25],.cells 0 (cellsGTree a0)]∧y15.fTrees=p29++q29∧x26=(qc p29:Int)∧zE.l29 yx a1 x12 (zE.l15 yx a1 q15) q29 x26 m0_25=some r) _ ⟨[],y15.fTrees,0,m0_11,rfl,rfl,rfl,rfl,rfl,h⟩ .s ?_;rintro m L τ ⟨p29,q29,x26,m0_25,rfl,rfl,rfl,hE29,hi29,h⟩
   rcases q29 with _|⟨y29,q29⟩
   · have hz29:=yl hE29 hi29;simp only[zE.l29] at h
     refine za fun Z30 hZ30=>?_
     have f31:=E27.idxS hx15;have f32:=E27.fldS (f:=90) rfl rfl hx15 (o:=1) (by decide)
     refine rg tok [1,2,3,8,9,79] fun K hK=>?_
     simp only[go_sem,qb,qa,qd,cellsGEntry,zS,hz29,f31,f32];apply hK
     refine zn rfl ?_;apply zr;apply hZ18
     refine rgE tok [1,2,3,8] fun K hK=>?_
     simp only[go_sem,qb,qa,hw15];apply hK
     exact⟨_,_,_,qp q15.length,⟨p15++[y15],q15,x12+1,m0_25,rfl,rfl,rfl,hE'15,hi'15,h⟩,.s⟩
   obtain⟨hz29,hw29,hx29,hE'29,hi'29⟩:=zV hE29 hi29 hb29;simp only[zE.l29] at h
   refine za fun Z33 hZ33=>?_
   have f34:=E27.idxS hx15;have f35:=E27.fldS (f:=90) rfl rfl hx15 (o:=1) (by decide)
   refine rg tok [1,2,3,8,9,79] fun K hK=>?_
   simp only[go_sem,qb,qa,qd,cellsGEntry,zS,hz29,f34,f35];apply hK
   refine zo rfl ?_;apply zd;apply hZ33
   refine za fun Z36 hZ36=>?_
   apply ze
   refine rc [1,2,3,8,9,95] fun K hK=>?_
   have f37:=E27.idxS hx15;have f38:=E27.fldS (f:=90) rfl rfl hx15 (o:=1) (by decide);have f39:=E90.idxS hx29;have f40:=E90.loadS rfl rfl hx29;obtain⟨r41,hr41,h⟩:=bind_some h;refine zi tok 10 ?_;simp only[go_sem,qb,qa,qd,cellsGEntry,cellsGTree,zS,yU,f37,f38,f39,f40];refine rnN 2 ?_;refine clN rfl rfl rfl (@id (ACalls qh 36 [.agg (cellsGTree y29),.int .i64 (IntKind.i64.wrap (a1+1)),.op 0 0 0] [.cells 0 [.int .i64 m0_25],.cells 0 (cellsGTree a0)] (fun r' σ'=>r'=.bool r41.1∧σ'=[.cells 0 [.int .i64 r41.2],.cells 0 (cellsGTree a0)])) ((ih_law00_small y29 (IntKind.i64.wrap (a1+1)) m0_25 r41 hr41).i [0])) ?_;refine rnN 1 ?_;refine nkN hK ?_;refine zm (b:=(!r41.1)) rfl (fun hc42=>?_) (fun hc42=>?_)
   · rw[if_pos hc42] at h;refine rgN [6] ?_;apply yz;cases h;simp only[ZL,yT,xd,xZ,exists_eq_left',go_sem,qd];refine⟨by decide,by simp,?_,?_⟩
     · first|rfl|(simp only[go_sem,qb,qf,qa,qd,qt,qK,reduceIte,reduceCtorEq,push_cast,if_true,qC,qq,qE,qw,qD,qP,qZ,qV,qX,qQ,qy,zP]<;>rfl)
     first|rfl|(simp only[go_sem,qb,qf,qa,qd,qt,qK,reduceIte,reduceCtorEq,push_cast,if_true,qC,qq,qE,qw,qD,qP,qZ,qV,qX,qQ,qy,zP]<;>rfl)
   rw[xQ hc42] at h;apply zd;apply hZ36
   refine rgE tok [1,2,3,8,9] fun K hK=>?_
   simp only[go_sem,qb,qa,hw29];apply hK
   exact⟨_,_,_,qp q29.length,⟨p29++[y29],q29,x26+1,r41.2,rfl,rfl,rfl,hE'29,hi'29,h⟩,.s⟩
 obtain⟨hz8,hw8,hx8,hE'8,hi'8⟩:=zV hE8 hi8 hb8;simp only[zE.l8] at h
 refine za fun Z43 hZ43=>?_
 refine rg tok [1,2,3,7,45] fun K hK=>?_
 simp only[go_sem,qb,qa,qd,hz8];apply hK
 refine zo rfl ?_;apply zd;apply hZ43
 refine za fun Z44 hZ44=>?_
 apply ze;have f45:=E28.idxS hx8;have f46:=E28.fldS (f:=9) rfl rfl hx8 (o:=3) (by decide)
 refine rg tok [1,2,3,7,55] fun K hK=>?_
 simp only[go_sem,qb,qa,qd,encGRaw,f45,f46];apply hK
 refine zq rfl (fun hc47=>?_) (fun hc47=>?_)
 · rw[if_pos hc47] at h;have t48:=eq_true hc47
   refine rg tok [6] fun K hK=>?_
   simp only[go_sem,qb,qa,t48];apply hK
   apply yz;cases h;simp only[ZL,yT,xd,xZ,exists_eq_left',go_sem,qd];refine⟨by decide,by simp,?_,?_⟩
   · first|rfl|(simp only[go_sem,qb,qf,qa,qd,qt,qK,reduceIte,reduceCtorEq,push_cast,if_true,qC,qq,qE,qw,qD,qP,qZ,qV,qX,qQ,qy,zP]<;>rfl)
   first|rfl|(simp only[go_sem,qb,qf,qa,qd,qt,qK,reduceIte,reduceCtorEq,push_cast,if_true,qC,qq,qE,qw,qD,qP,qZ,qV,qX,qQ,qy,zP]<;>rfl)
 rw[if_neg hc47] at h;have t49:=eq_false hc47;apply zd;apply hZ44
 refine rgE tok [1,2,3,7] fun K hK=>?_
 simp only[go_sem,qb,qa,hw8,t49];apply hK
 exact⟨_,_,_,qp q8.length,⟨p8++[y8],q8,x6+1,rfl,rfl,rfl,hE'8,hi'8,h⟩,.s⟩
def zE : Nat→GTree→Int→Int→Option (Bool×Int)
 |0,_,_,_=>none
 |k+1,a0,a1,a2=>zE.body (zE k) a0 a1 a2
theorem zE.all (k:Nat):(∀ (a0:GTree) (a1:Int) (a2:Int) (r:Bool×Int),zE k a0 a1 a2=some r→ACalls qh 36 [.agg (cellsGTree a0),.int .i64 a1,.op 0 0 0] [.cells 0 [.int .i64 a2]] (fun r' σ'=>r'=.bool r.1∧σ'=[.cells 0 [.int .i64 r.2]])):=by
 induction k with
 |zero=>exact (fun a0 a1 a2 r h=>by simp only[zE] at h; cases h)
 |succ k ih=>exact (fun a0 a1 a2 r h=>zE.step _ ih a0 a1 a2 r (by simpa only [zE] using h))
theorem zE.ok (k:Nat)(a0:GTree)(a1:Int)(a2:Int)(r:Bool×Int)(h:zE k a0 a1 a2=some r):ACalls qh 36 [.agg (cellsGTree a0),.int .i64 a1,.op 0 0 0] [.cells 0 [.int .i64 a2]] (fun r' σ'=>r'=.bool r.1∧σ'=[.cells 0 [.int .i64 r.2]]):=(zE.all k) a0 a1 a2 r h
def wU (a0:GTree):Option Bool:=
 (zE rounds a0 0 0).bind fun r1=>some r1.1
theorem wU.ok (a0:GTree)(r:Bool)(h:wU a0=some r):ACalls qh 12 [.agg (cellsGTree a0)] [] (fun r' _=>r'=.bool r):=by
 refine zf (rs:=[.tmp 2]) tok Tryz.func12 rfl Tryz.ntmps12 rfl Tryz.call12 (by simp) ?_;refine zk [(0,.agg (cellsGTree a0))] ⟨rfl,trivial⟩ ?_;unfold wU at h
 refine rg tok [1] fun K hK=>?_
 simp only[go_sem,qb,qa,qd,reduceCtorEq,cellsGTree];apply hK
 refine rgN [1,3] ?_
 refine rc [2] fun K hK=>?_
 obtain⟨r1,hr1,h⟩:=bind_some h;refine rnN 1 ?_;refine clN rfl rfl rfl (@id (ACalls qh 36 [.agg (cellsGTree a0),.int .i64 0,.op 1 0 0] [.cells 0 (cellsGTree a0),.cells 0 [.int .i64 0]] (fun r' σ'=>r'=.bool r1.1∧σ'=[.cells 0 (cellsGTree a0),.cells 0 [.int .i64 r1.2]])) ((zE.ok rounds a0 0 0 r1 hr1).i [1])) ?_;refine rnN 1 ?_;refine nkN hK ?_;cases h;exact rtA
theorem wU.ev (a0:GTree)(r:Bool)(h:wU a0=some r)(σ:Store):ACalls qh 12 [.agg (cellsGTree a0)] σ (fun r' σ'=>r'=.bool r∧σ'=σ):=
 (wU.ok a0 r h).c σ
def yX.l9 (a0:List UInt8):Nat→Nat→Int→Option Int
 |0,_,_=>none
 |k9+1,p5,x6=>(if p5<qc a0 then ((yX.l9 a0 k9) (p5+(YQ a0 p5).2) (IntKind.i64.wrap (x6+1))) else some x6)
end
section
set_option maxRecDepth 4000
set_option maxHeartbeats 1000000
open AM
def yX (a0:List UInt8):Option Int:=
 (yH a0).bind fun r2=>(if (!r2)=true then some 0 else (yX.l9 a0 rounds 0 0))
theorem yX.ok (a0:List UInt8)(r:Int)(h:yX a0=some r):ACalls qh 102 [.str a0] [] (fun r' _=>r'=.int .i64 r):=by
 refine zf (rs:=[.tmp 2]) tok Tryz.func102 rfl Tryz.ntmps102 rfl Tryz.call102 (by simp) ?_;refine zk [(0,.str a0)] ⟨rfl,trivial⟩ ?_;unfold yX at h;refine rgN [0] ?_
 refine za fun Z1 hZ1=>?_
 refine rc [0,6] fun K hK=>?_
 obtain⟨r2,hr2,h⟩:=bind_some h;refine rnN 1 ?_;refine clN rfl rfl rfl (yH.ev a0 r2 hr2 _) ?_;refine rnN 1 ?_;refine nkN hK ?_;refine zm (b:=(!r2)) rfl (fun hc3=>?_) (fun hc3=>?_)
 · rw[if_pos hc3] at h;refine rgN [2] ?_;cases h;exact rtA
 rw[xQ hc3] at h;apply zd;apply hZ1;refine rgN [0,3] ?_
 refine za fun Z4 hZ4=>?_
 refine rgN [3,8] ?_;apply ze;refine zp (fun m L τ=>∃ (k9:Nat) (p5:Nat) (x6:Int),m=0+k9∧L=[(3,.int .i64 x6),(8,.it 0)]∧τ=[.iter a0 p5]∧yX.l9 a0 k9 p5 x6=some r) _ ⟨rounds,0,0,rfl,rfl,rfl,h⟩ .s ?_;rintro m L τ ⟨k9,p5,x6,rfl,rfl,rfl,h⟩
 rcases k9 with _|k9
 · cases h
 simp only[yX.l9] at h
 by_cases hn10:p5<qc a0
 · rw[if_pos hn10] at h;have t11:=eq_true hn10
   refine rg tok [3,8,10] fun K hK=>?_
   simp only[go_sem,qb,qa,qd,vay,if_true,if_false,t11];apply hK
   refine za fun Z12 hZ12=>?_
   refine zo rfl ?_;apply zd;apply hZ12;apply ze
   refine rgE tok [3,8] fun K hK=>?_
   simp only[go_sem,qb,qa];apply hK
   exact⟨_,_,_,qp (0+k9),⟨k9,p5+(YQ a0 p5).2,IntKind.i64.wrap (x6+1),rfl,rfl,rfl,h⟩,.s⟩
 rw[if_neg hn10] at h;have t13:=eq_false hn10
 refine rg tok [3,8,10] fun K hK=>?_
 simp only[go_sem,qb,qa,vay,if_true,if_false,t13];apply hK
 refine za fun Z14 hZ14=>?_
 refine zn rfl ?_;apply zr;apply hZ4;refine rgN [2] ?_;cases h;exact rtA
theorem yX.ev (a0:List UInt8)(r:Int)(h:yX a0=some r)(σ:Store):ACalls qh 102 [.str a0] σ (fun r' σ'=>r'=.int .i64 r∧σ'=σ):=
 (yX.ok a0 r h).c σ
def xx.j3 (x2:Bool):Bool:=
 (if x2=true then true else false)
def xx (a0:List UInt8):Bool:=
 (if a0=[115,99,104,101,109,97] then (xx.j3 (decide (a0=[115,99,104,101,109,97]))) else (if a0=[109,101,115,115,97,103,101] then (xx.j3 (decide (a0=[109,101,115,115,97,103,101]))) else (if a0=[101,110,117,109] then (xx.j3 (decide (a0=[101,110,117,109]))) else (if a0=[99,97,108,108] then (xx.j3 (decide (a0=[99,97,108,108]))) else (if a0=[114,101,116,117,114,110,115] then (xx.j3 (decide (a0=[114,101,116,117,114,110,115]))) else (if a0=[114,101,115,101,114,118,101,100] then (xx.j3 (decide (a0=[114,101,115,101,114,118,101,100]))) else (if a0=[111,112,116,105,111,110,97,108] then (xx.j3 (decide (a0=[111,112,116,105,111,110,97,108]))) else (if a0=[114,101,112,101,97,116,101,100] then (xx.j3 (decide (a0=[114,101,112,101,97,116,101,100]))) else (if a0=[105,110,116,51,50] then (xx.j3 (decide (a0=[105,110,116,51,50]))) else (if a0=[105,110,116,54,52] then (xx.j3 (decide (a0=[105,110,116,54,52]))) else (if a0=[98,111,111,108] then (xx.j3 (decide (a0=[98,111,111,108]))) else (if a0=[116,101,120,116] then (xx.j3 (decide (a0=[116,101,120,116]))) else (xx.j3 (decide (a0=[98,121,116,101,115])))))))))))))))
theorem xx.ok (a0:List UInt8)(r:Bool)(h:xx a0=r):ACalls qh 103 [.str a0] [] (fun r' _=>r'=.bool r):=by
 refine zf (rs:=[.tmp 2]) tok Tryz.func103 rfl Tryz.ntmps103 rfl Tryz.call103 (by simp) ?_;refine zk [(0,.str a0)] ⟨rfl,trivial⟩ ?_;unfold xx at h;refine rgN [0] ?_
 refine za fun Z1 hZ1=>?_
 refine rgN [3] ?_;apply ze;refine xG (fun L τ=>∃ (x2:Bool),L=[(4,.bool x2)]∧τ=[]∧xx.j3 x2=r) ?_ ?_
 · refine rgN [3,4] ?_;refine zq rfl (fun hc5=>?_) (fun hc5=>?_)
   · rw[if_pos hc5] at h;have t6:=eq_true hc5;apply zd;exact⟨_,_,⟨decide (a0=[115,99,104,101,109,97]),rfl,rfl,h⟩,.s⟩
   rw[if_neg hc5] at h;have t7:=eq_false hc5
   refine rg tok [3,4] fun K hK=>?_
   simp only[go_sem,qb,qa,t7];apply hK
   refine zq rfl (fun hc8=>?_) (fun hc8=>?_)
   · rw[if_pos hc8] at h;have t9:=eq_true hc8;apply zd;exact⟨_,_,⟨decide (a0=[109,101,115,115,97,103,101]),rfl,rfl,h⟩,.s⟩
   rw[if_neg hc8] at h;have t10:=eq_false hc8
   refine rg tok [3,4] fun K hK=>?_
   simp only[go_sem,qb,qa,t10];apply hK
   refine zq rfl (fun hc11=>?_) (fun hc11=>?_)
   · rw[if_pos hc11] at h;have t12:=eq_true hc11;apply zd;exact⟨_,_,⟨decide (a0=[101,110,117,109]),rfl,rfl,h⟩,.s⟩
   rw[if_neg hc11] at h;have t13:=eq_false hc11
   refine rg tok [3,4] fun K hK=>?_
   simp only[go_sem,qb,qa,t13];apply hK
   refine zq rfl (fun hc14=>?_) (fun hc14=>?_)
   · rw[if_pos hc14] at h;have t15:=eq_true hc14;apply zd;exact⟨_,_,⟨decide (a0=[99,97,108,108]),rfl,rfl,h⟩,.s⟩
   rw[if_neg hc14] at h;have t16:=eq_false hc14
   refine rg tok [3,4] fun K hK=>?_
   simp only[go_sem,qb,qa,t16];apply hK
   refine zq rfl (fun hc17=>?_) (fun hc17=>?_)
   · rw[if_pos hc17] at h;have t18:=eq_true hc17;apply zd;exact⟨_,_,⟨decide (a0=[114,101,116,117,114,110,115]),rfl,rfl,h⟩,.s⟩
   rw[if_neg hc17] at h;have t19:=eq_false hc17
   refine rg tok [3,4] fun K hK=>?_
   simp only[go_sem,qb,qa,t19];apply hK
   refine zq rfl (fun hc20=>?_) (fun hc20=>?_)
   · rw[if_pos hc20] at h;have t21:=eq_true hc20;apply zd;exact⟨_,_,⟨decide (a0=[114,101,115,101,114,118,101,100]),rfl,rfl,h⟩,.s⟩
   rw[if_neg hc20] at h;have t22:=eq_false hc20
   refine rg tok [3,4] fun K hK=>?_
   simp only[go_sem,qb,qa,t22];apply hK
   refine zq rfl (fun hc23=>?_) (fun hc23=>?_)
   · rw[if_pos hc23] at h;have t24:=eq_true hc23;apply zd;exact⟨_,_,⟨decide (a0=[111,112,116,105,111,110,97,108]),rfl,rfl,h⟩,.s⟩
   rw[if_neg hc23] at h;have t25:=eq_false hc23
   refine rg tok [3,4] fun K hK=>?_
   simp only[go_sem,qb,qa,t25];apply hK
   refine zq rfl (fun hc26=>?_) (fun hc26=>?_)
   · rw[if_pos hc26] at h;have t27:=eq_true hc26;apply zd;exact⟨_,_,⟨decide (a0=[114,101,112,101,97,116,101,100]),rfl,rfl,h⟩,.s⟩
   rw[if_neg hc26] at h;have t28:=eq_false hc26
   refine rg tok [3,4] fun K hK=>?_
   simp only[go_sem,qb,qa,t28];apply hK
   refine zq rfl (fun hc29=>?_) (fun hc29=>?_)
   · rw[if_pos hc29] at h;have t30:=eq_true hc29;apply zd;exact⟨_,_,⟨decide (a0=[105,110,116,51,50]),rfl,rfl,h⟩,.s⟩
   rw[if_neg hc29] at h;have t31:=eq_false hc29
   refine rg tok [3,4] fun K hK=>?_
   simp only[go_sem,qb,qa,t31];apply hK
   refine zq rfl (fun hc32=>?_) (fun hc32=>?_)
   · rw[if_pos hc32] at h;have t33:=eq_true hc32;apply zd;exact⟨_,_,⟨decide (a0=[105,110,116,54,52]),rfl,rfl,h⟩,.s⟩
   rw[if_neg hc32] at h;have t34:=eq_false hc32
   refine rg tok [3,4] fun K hK=>?_
   simp only[go_sem,qb,qa,t34];apply hK
   refine zq rfl (fun hc35=>?_) (fun hc35=>?_)
   · rw[if_pos hc35] at h;have t36:=eq_true hc35;apply zd;exact⟨_,_,⟨decide (a0=[98,111,111,108]),rfl,rfl,h⟩,.s⟩
   rw[if_neg hc35] at h;have t37:=eq_false hc35
   refine rg tok [3,4] fun K hK=>?_
   simp only[go_sem,qb,qa,t37];apply hK
   refine zq rfl (fun hc38=>?_) (fun hc38=>?_)
   · rw[if_pos hc38] at h;have t39:=eq_true hc38;apply zd;exact⟨_,_,⟨decide (a0=[116,101,120,116]),rfl,rfl,h⟩,.s⟩
   rw[if_neg hc38] at h;have t40:=eq_false hc38
   refine rgE tok [4] fun K hK=>?_
   simp only[go_sem,qb,qa,t40];apply hK
   exact⟨_,_,⟨decide (a0=[98,121,116,101,115]),rfl,rfl,h⟩,.s⟩
 rintro _ _ ⟨x2,rfl,rfl,h⟩;unfold xx.j3 at h;refine zm (b:=x2) rfl (fun hc4=>?_) (fun hc4=>?_)
 · rw[if_pos hc4] at h;refine rgN [2] ?_;cases h;exact rtA
 rw[xQ hc4] at h;apply zd;apply hZ1;refine rgN [2] ?_;cases h;exact rtA
theorem xx.ev (a0:List UInt8)(r:Bool)(h:xx a0=r)(σ:Store):ACalls qh 103 [.str a0] σ (fun r' σ'=>r'=.bool r∧σ'=σ):=
 (xx.ok a0 r h).c σ
def wI (a0:Int)(a1:Int)(a2:Int):Bool:=
 ((decide (a1≤a0))&&(decide (a0≤a2)))
theorem wI.ok (a0:Int)(a1:Int)(a2:Int)(r:Bool)(h:wI a0 a1 a2=r):ACalls qh 139 [.int .i32 a0,.int .i32 a1,.int .i32 a2] [] (fun r' _=>r'=.bool r):=by
 refine zf (rs:=[.tmp 6]) tok Tryz.func139 rfl Tryz.ntmps139 rfl Tryz.call139 (by simp) ?_;refine zk [(0,.int .i32 a0),(1,.int .i32 a1),(2,.int .i32 a2)] ⟨rfl,rfl,rfl,trivial⟩ ?_;unfold wI at h;refine rgN [0,1,2] ?_
 refine rc [6] fun K hK=>?_
 refine rnN 4 ?_;refine zh 4 (fun L τ=>L=[(14,.bool ((decide (a1≤a0))&&(decide (a0≤a2))))]∧τ=[]) ?_ ?_
 · refine yw 10 rfl (fun hg10=>?_) (fun hg10=>?_)
   · have t1:=eq_true hg10;refine rnN 4 ?_;refine zb ⟨rfl,_,_,⟨rfl,rfl⟩,.p t1⟩
   have t2:=eq_false hg10;refine rnN 4 ?_;refine zb ⟨rfl,_,_,⟨rfl,rfl⟩,.p t2⟩
 rintro _ _ ⟨rfl,rfl⟩;refine rnN 1 ?_;refine nkN hK ?_;cases h;exact rtA
theorem wI.ev (a0:Int)(a1:Int)(a2:Int)(r:Bool)(h:wI a0 a1 a2=r)(σ:Store):ACalls qh 139 [.int .i32 a0,.int .i32 a1,.int .i32 a2] σ (fun r' σ'=>r'=.bool r∧σ'=σ):=
 (wI.ok a0 a1 a2 r h).c σ
def xp.j6 (a0:Int)(x5:Bool):Bool:=
 (if x5=true then false else bnd (wI a0 97 122) fun r8=>bnd (if r8=true then true else bnd (wI a0 65 90) fun r9=>r9) fun c9=>bnd (if c9=true then true else bnd (wI a0 192 591) fun r11=>r11) fun c11=>bnd (if c11=true then true else bnd (wI a0 913 969) fun r13=>r13) fun c13=>c13)
def xp (a0:Int):Bool:=
 (if a0=95 then true else (if a0=215 then (xp.j6 a0 (decide (a0=215))) else (if a0=247 then (xp.j6 a0 (decide (a0=247))) else (xp.j6 a0 (decide (a0=930))))))
theorem xp.ok (a0:Int)(r:Bool)(h:xp a0=r):ACalls qh 104 [.int .i32 a0] [] (fun r' _=>r'=.bool r):=by
 refine zf (rs:=[.tmp 2]) tok Tryz.func104 rfl Tryz.ntmps104 rfl Tryz.call104 (by simp) ?_;refine zk [(0,.int .i32 a0)] ⟨rfl,trivial⟩ ?_;unfold xp at h;refine rgN [0] ?_
 refine za fun Z1 hZ1=>?_
 refine rgN [0,3] ?_;apply ze;refine rgN [0,3,4] ?_;refine zq rfl (fun hc2=>?_) (fun hc2=>?_)
 · rw[if_pos hc2] at h;have t3:=eq_true hc2
   refine rg tok [2] fun K hK=>?_
   simp only[go_sem,qb,qa,reduceCtorEq,t3];apply hK
   cases h;exact rtA
 rw[if_neg hc2] at h;have t4:=eq_false hc2;refine xG (fun L τ=>∃ (x5:Bool),L=[(0,.int .i32 a0),(6,.bool x5)]∧τ=[]∧xp.j6 a0 x5=r) ?_ ?_
 · refine rg tok [0,3,6] fun K hK=>?_
   simp only[go_sem,qb,qa,reduceCtorEq,t4];apply hK
   refine zq rfl (fun hc15=>?_) (fun hc15=>?_)
   · rw[if_pos hc15] at h;have t16:=eq_true hc15;apply zd;exact⟨_,_,⟨decide (a0=215),rfl,rfl,h⟩,.s⟩
   rw[if_neg hc15] at h;have t17:=eq_false hc15
   refine rg tok [0,3,6] fun K hK=>?_
   simp only[go_sem,qb,qa,reduceCtorEq,t17];apply hK
   refine zq rfl (fun hc18=>?_) (fun hc18=>?_)
   · rw[if_pos hc18] at h;have t19:=eq_true hc18;apply zd;exact⟨_,_,⟨decide (a0=247),rfl,rfl,h⟩,.s⟩
   rw[if_neg hc18] at h;have t20:=eq_false hc18
   refine rgE tok [0,6] fun K hK=>?_
   simp only[go_sem,qb,qa,reduceCtorEq,t20];apply hK
   exact⟨_,_,⟨decide (a0=930),rfl,rfl,h⟩,.s⟩
 rintro _ _ ⟨x5,rfl,rfl,h⟩;unfold xp.j6 at h;refine zm (b:=x5) rfl (fun hc7=>?_) (fun hc7=>?_)
 · rw[if_pos hc7] at h;refine rgN [2] ?_;cases h;exact rtA
 rw[xQ hc7] at h;apply zd;apply hZ1
 refine rc [2] fun K hK=>?_
 obtain⟨r8,hr8,h⟩:=zQ h;refine rnN 1 ?_;refine clN rfl rfl rfl (wI.ev a0 97 122 r8 hr8 _) ?_;refine rnN 1 ?_;obtain⟨c9,hc9,h⟩:=zQ h;refine zh 3 (fun L τ=>L=[(0,.int .i32 a0),(15,.bool c9)]∧τ=[]) ?_ ?_
 · refine zH (b:=r8) 12 rfl (fun hg12=>?_) (fun hg12=>?_)
   · rw[if_pos hg12] at hc9;refine rnN 3 ?_;subst hc9;refine zb ⟨rfl,_,_,⟨rfl,rfl⟩,.b hg12⟩
   rw[xQ hg12] at hc9;obtain⟨r10,hr10,hc9⟩:=zQ hc9;refine rnN 1 ?_;refine clN rfl rfl rfl (wI.ev a0 65 90 r10 hr10 _) ?_;refine rnN 1 ?_;subst hc9;refine zb ⟨rfl,_,_,⟨rfl,rfl⟩,.b hg12⟩
 rintro _ _ ⟨rfl,rfl⟩;refine rnN 1 ?_;obtain⟨c11,hc11,h⟩:=zQ h;refine zh 3 (fun L τ=>L=[(0,.int .i32 a0),(19,.bool c11)]∧τ=[]) ?_ ?_
 · refine zH (b:=c9) 16 rfl (fun hg16=>?_) (fun hg16=>?_)
   · rw[if_pos hg16] at hc11;refine rnN 3 ?_;subst hc11;refine zb ⟨rfl,_,_,⟨rfl,rfl⟩,.b hg16⟩
   rw[xQ hg16] at hc11;obtain⟨r12,hr12,hc11⟩:=zQ hc11;refine rnN 1 ?_;refine clN rfl rfl rfl (wI.ev a0 192 591 r12 hr12 _) ?_;refine rnN 1 ?_;subst hc11;refine zb ⟨rfl,_,_,⟨rfl,rfl⟩,.b hg16⟩
 rintro _ _ ⟨rfl,rfl⟩;refine rnN 1 ?_;obtain⟨c13,hc13,h⟩:=zQ h;refine zh 3 (fun L τ=>L=[(23,.bool c13)]∧τ=[]) ?_ ?_
 · refine zH (b:=c11) 20 rfl (fun hg20=>?_) (fun hg20=>?_)
   · rw[if_pos hg20] at hc13;refine rnN 3 ?_;subst hc13;refine zb ⟨rfl,_,_,⟨rfl,rfl⟩,.b hg20⟩
   rw[xQ hg20] at hc13;obtain⟨r14,hr14,hc13⟩:=zQ hc13;refine rnN 1 ?_;refine clN rfl rfl rfl (wI.ev a0 913 969 r14 hr14 _) ?_;refine rnN 1 ?_;subst hc13;refine zb ⟨rfl,_,_,⟨rfl,rfl⟩,.b hg20⟩
 rintro _ _ ⟨rfl,rfl⟩;refine rnN 1 ?_;refine nkN hK ?_;cases h;exact rtA
theorem xp.ev (a0:Int)(r:Bool)(h:xp a0=r)(σ:Store):ACalls qh 104 [.int .i32 a0] σ (fun r' σ'=>r'=.bool r∧σ'=σ):=
 (xp.ok a0 r h).c σ
def w9 (a0:Int):Bool:=
 bnd (wI a0 48 57) fun r1=>r1
theorem w9.ok (a0:Int)(r:Bool)(h:w9 a0=r):ACalls qh 105 [.int .i32 a0] [] (fun r' _=>r'=.bool r):=by
 refine zf (rs:=[.tmp 2]) tok Tryz.func105 rfl Tryz.ntmps105 rfl Tryz.call105 (by simp) ?_;refine zk [(0,.int .i32 a0)] ⟨rfl,trivial⟩ ?_;unfold w9 at h;refine rgN [0] ?_
 refine rc [2] fun K hK=>?_
 obtain⟨r1,hr1,h⟩:=zQ h;refine rnN 1 ?_;refine clN rfl rfl rfl (wI.ev a0 48 57 r1 hr1 _) ?_;refine rnN 1 ?_;refine nkN hK ?_;cases h;exact rtA
theorem w9.ev (a0:Int)(r:Bool)(h:w9 a0=r)(σ:Store):ACalls qh 105 [.int .i32 a0] σ (fun r' σ'=>r'=.bool r∧σ'=σ):=
 (w9.ok a0 r h).c σ
def yK.l11 (a0:List UInt8):Nat→Nat→Option Bool
 |0,_=>none
 |k11+1,p9=>(if p9<qc a0 then bnd (xp ((YQ a0 p9).1:Int)) fun r15=>bnd (if (!r15)=true then bnd (if ((p9:Nat):Int)=0 then true else bnd (w9 ((YQ a0 p9).1:Int)) fun r16 => !r16) fun c16=>c16 else false) fun c16=>(if c16=true then some false else ((yK.l11 a0 k11) (p9+(YQ a0 p9).2))) else some true)
def yK (a0:List UInt8):Option Bool:=
 (yX a0).bind fun r1=>bnd (if ((decide (r1<1))||(decide (20<r1)))=true then true else bnd (xx a0) fun r5=>r5) fun c5=>(if c5=true then some false else (yK.l11 a0 rounds 0))
theorem yK.ok (a0:List UInt8)(r:Bool)(h:yK a0=some r):ACalls qh 60 [.str a0] [] (fun r' _=>r'=.bool r):=by
 refine zf (rs:=[.tmp 2]) tok Tryz.func60 rfl Tryz.ntmps60 rfl Tryz.call60 (by simp) ?_;refine zk [(0,.str a0)] ⟨rfl,trivial⟩ ?_;unfold yK at h;refine rgN [0] ?_
 refine rc [0,3] fun K hK=>?_
 obtain⟨r1,hr1,h⟩:=bind_some h;refine rnN 1 ?_;refine clN rfl rfl rfl (yX.ev a0 r1 hr1 _) ?_;refine rnN 1 ?_;refine nkN hK ?_
 refine za fun Z2 hZ2=>?_
 refine rc [0,17] fun K hK=>?_
 refine rnN 3 ?_;refine zh 3 (fun L τ=>L=[(0,.str a0),(13,.bool ((decide (r1<1))||(decide (20<r1))))]∧τ=[]) ?_ ?_
 · refine yw 10 rfl (fun hg10=>?_) (fun hg10=>?_)
   · have t3:=eq_true hg10;refine rnN 3 ?_;refine zb ⟨rfl,_,_,⟨rfl,rfl⟩,.p t3⟩
   have t4:=eq_false hg10;refine rnN 3 ?_;refine zb ⟨rfl,_,_,⟨rfl,rfl⟩,.p t4⟩
 rintro _ _ ⟨rfl,rfl⟩;refine rnN 1 ?_;obtain⟨c5,hc5,h⟩:=zQ h;refine zh 3 (fun L τ=>L=[(0,.str a0),(17,.bool c5)]∧τ=[]) ?_ ?_
 · refine zH (b:=((decide (r1<1))||(decide (20<r1)))) 14 rfl (fun hg14=>?_) (fun hg14=>?_)
   · rw[if_pos hg14] at hc5;refine rnN 3 ?_;subst hc5;refine zb ⟨rfl,_,_,⟨rfl,rfl⟩,.b hg14⟩
   rw[xQ hg14] at hc5;obtain⟨r6,hr6,hc5⟩:=zQ hc5;refine rnN 1 ?_;refine clN rfl rfl rfl (xx.ev a0 r6 hr6 _) ?_;refine rnN 1 ?_;subst hc5;refine zb ⟨rfl,_,_,⟨rfl,rfl⟩,.b hg14⟩
 rintro _ _ ⟨rfl,rfl⟩;refine nkN hK ?_;refine zm (b:=c5) rfl (fun hc7=>?_) (fun hc7=>?_)
 · rw[if_pos hc7] at h;refine rgN [2] ?_;cases h;exact rtA
 rw[xQ hc7] at h;apply zd;apply hZ2
 refine za fun Z8 hZ8=>?_
 refine rgN [19] ?_;apply ze;refine zp (fun m L τ=>∃ (k11:Nat) (p9:Nat),m=0+k11∧L=[(19,.it 0)]∧τ=[.iter a0 p9]∧yK.l11 a0 k11 p9=some r) _ ⟨rounds,0,rfl,rfl,rfl,h⟩ .s ?_;rintro m L τ ⟨k11,p9,rfl,rfl,rfl,h⟩
 rcases k11 with _|k11
 · cases h
 simp only[yK.l11] at h
 by_cases hn12:p9<qc a0
 · rw[if_pos hn12] at h;have t13:=eq_true hn12
   refine rg tok [19,20,21] fun K hK=>?_
   simp only[go_sem,qb,qa,qd,vay,if_true,if_false,t13];apply hK
   refine za fun Z14 hZ14=>?_
   refine zo rfl ?_;apply zd;apply hZ14;apply ze;refine rgN [4,5,19] ?_
   refine rc [19,35] fun K hK=>?_
   obtain⟨r15,hr15,h⟩:=zQ h;refine rnN 1 ?_;refine clN rfl rfl rfl (xp.ev ((YQ a0 p9).1:Int) r15 hr15 _) ?_;refine rnN 2 ?_;obtain⟨c16,hc16,h⟩:=zQ h;refine zh 8 (fun L τ=>L=[(19,.it 0),(35,.bool c16)]∧τ=[.iter a0 (p9+(YQ a0 p9).2)]) ?_ ?_
   · refine zH (b:=(!r15)) 27 rfl (fun hg27=>?_) (fun hg27=>?_)
     · rw[if_pos hg27] at hc16;refine rnN 3 ?_;obtain⟨c17,hc17,hc16⟩:=zQ hc16;refine zh 4 (fun L τ=>L=[(19,.it 0),(27,.bool true),(34,.bool c17)]∧τ=[.iter a0 (p9+(YQ a0 p9).2)]) ?_ ?_
       · refine yw 30 rfl (fun hg30=>?_) (fun hg30=>?_)
         · have t18:=eq_true hg30;rw[if_pos hg30] at hc17;refine rnN 4 ?_;subst hc17;refine zb ⟨rfl,_,_,⟨rfl,rfl⟩,.p t18⟩
         have t19:=eq_false hg30;rw[if_neg hg30] at hc17;obtain⟨r20,hr20,hc17⟩:=zQ hc17;refine rnN 1 ?_;refine clN rfl rfl rfl (w9.ev ((YQ a0 p9).1:Int) r20 hr20 _) ?_;refine rnN 2 ?_;subst hc17;refine zb ⟨rfl,_,_,⟨rfl,rfl⟩,.p t19⟩
       rintro _ _ ⟨rfl,rfl⟩;refine rnN 1 ?_;subst hc16;refine zb ⟨rfl,_,_,⟨rfl,rfl⟩,.b hg27⟩
     rw[xQ hg27] at hc16;refine rnN 8 ?_;subst hc16;refine zb ⟨rfl,_,_,⟨rfl,rfl⟩,.b hg27⟩
   rintro _ _ ⟨rfl,rfl⟩;refine nkN hK ?_;refine zm (b:=c16) rfl (fun hc21=>?_) (fun hc21=>?_)
   · rw[if_pos hc21] at h;refine rgN [2] ?_;cases h;exact rtA
   rw[xQ hc21] at h;apply zd;exact⟨_,_,_,qp (0+k11),⟨k11,p9+(YQ a0 p9).2,rfl,rfl,rfl,h⟩,.s⟩
 rw[if_neg hn12] at h;have t22:=eq_false hn12
 refine rg tok [19,20,21] fun K hK=>?_
 simp only[go_sem,qb,qa,vay,if_true,if_false,t22];apply hK
 refine za fun Z23 hZ23=>?_
 refine zn rfl ?_;apply zr;apply hZ8;refine rgN [2] ?_;cases h;exact rtA
theorem yK.ev (a0:List UInt8)(r:Bool)(h:yK a0=some r)(σ:Store):ACalls qh 60 [.str a0] σ (fun r' σ'=>r'=.bool r∧σ'=σ):=
 (yK.ok a0 r h).c σ
def yp (a0:List (List UInt8×Bool))(a1:List UInt8):Option (Bool×List (List UInt8×Bool)):=
 (yK a1).bind fun r2=>(if ((!r2)||((vaX a0 a1).getD false))=true then some (false,a0) else some (true,va6 a0 a1 true))
theorem yp.ok (a0:List (List UInt8×Bool))(a1:List UInt8)(r:Bool×List (List UInt8×Bool))(h:yp a0 a1=some r):ACalls qh 63 [.mp 0,.str a1] [.map (wM AV.str AV.bool a0)] (fun r' σ'=>r'=.bool r.1∧σ'=[.map (wM AV.str AV.bool r.2)]):=by
 refine vaI [0] (rs:=[.tmp 4]) tok Tryz.func63 rfl Tryz.ntmps63 rfl Tryz.call63 (by simp) rfl ?_;refine zk [(0,.mp 0),(1,.str a1)] ⟨rfl,rfl,trivial⟩ ?_;unfold yp at h;refine rgN [0,1] ?_
 refine za fun Z1 hZ1=>?_
 refine rc [0,1,12] fun K hK=>?_
 obtain⟨r2,hr2,h⟩:=bind_some h;refine rnN 1 ?_;refine clN rfl rfl rfl (yK.ev a1 r2 hr2 _) ?_;refine rnN 2 ?_;refine zh 4 (fun L τ=>L=[(0,.mp 0),(1,.str a1),(12,.bool ((!r2)||((vaX a0 a1).getD false)))]∧τ=[.map (wM AV.str AV.bool a0)]) ?_ ?_
 · refine zH (b:=(!r2)) 8 rfl (fun hg8=>?_) (fun hg8=>?_)
   · refine zi tok 4 ?_;simp only[go_sem,qb,qa,reduceCtorEq,if_false,if_true];refine zb ⟨rfl,_,_,⟨rfl,rfl⟩,.b hg8⟩
   have f3:=fun (x:Store)=>vbt (T:=tab) (t:=117) (ek:=AV.str) (ev:=AV.bool) (z:=false) (KeyE.str rfl rfl rfl rfl) rfl rfl rfl rfl a0 a1 false (.map (wM AV.str AV.bool a0)::x) 0 rfl
   refine zi tok 4 ?_;simp only[go_sem,qb,qa,reduceCtorEq,X7,ue,if_false,if_true,f3];refine zb ⟨rfl,_,_,⟨rfl,rfl⟩,.b hg8⟩
 rintro _ _ ⟨rfl,rfl⟩;refine nkN hK ?_;refine zm (b:=((!r2)||((vaX a0 a1).getD false))) rfl (fun hc4=>?_) (fun hc4=>?_)
 · rw[if_pos hc4] at h;refine rgN [4] ?_;apply yz;cases h;simp only[ZL,yT,xd,xZ,exists_eq_left',go_sem];refine⟨by decide,by simp,?_,?_⟩
   · first|rfl|(simp only[go_sem,qb,qf,qa,qd,qt,qK,reduceIte,reduceCtorEq,push_cast,if_true,qC,qq,qE,qw,qD,qP,qZ,qV,qX,qQ,qy,zP]<;>rfl)
   first|rfl|(simp only[go_sem,push_cast,qw]<;>rfl)
 rw[xQ hc4] at h;apply zd;apply hZ1
 have f5:=fun (x:Store)=>vbq (T:=tab) (t:=117) (ek:=AV.str) (ev:=AV.bool) (KeyE.str rfl rfl rfl rfl) rfl rfl a0 a1 true (.map (wM AV.str AV.bool a0)::x) 0 rfl
 refine rg tok [] fun K hK=>?_
 simp only[go_sem,qb,qa,reduceCtorEq,f5];apply hK
 refine rgN [4] ?_;apply yz;cases h;simp only[ZL,yT,xd,xZ,exists_eq_left',go_sem];refine⟨by decide,by simp,?_,?_⟩
 · first|rfl|(simp only[go_sem,qb,qf,qa,qd,qt,qK,reduceIte,reduceCtorEq,push_cast,if_true,qC,qq,qE,qw,qD,qP,qZ,qV,qX,qQ,qy,zP]<;>rfl)
 first|rfl|(simp only[go_sem,push_cast,qw]<;>rfl)
def Ze (a0:Int):Bool:=
 ((decide (1≤a0))&&(decide (a0≤500)))
theorem Ze.ok (a0:Int)(r:Bool)(h:Ze a0=r):ACalls qh 106 [.int .i64 a0] [] (fun r' _=>r'=.bool r):=by
 refine zf (rs:=[.tmp 2]) tok Tryz.func106 rfl Tryz.ntmps106 rfl Tryz.call106 (by simp) ?_;refine zk [(0,.int .i64 a0)] ⟨rfl,trivial⟩ ?_;unfold Ze at h;refine rgN [0] ?_
 refine rc [2] fun K hK=>?_
 refine rnN 3 ?_;refine zh 3 (fun L τ=>L=[(8,.bool ((decide (1≤a0))&&(decide (a0≤500))))]∧τ=[]) ?_ ?_
 · refine yw 5 rfl (fun hg5=>?_) (fun hg5=>?_)
   · have t1:=eq_true hg5;refine rnN 3 ?_;refine zb ⟨rfl,_,_,⟨rfl,rfl⟩,.p t1⟩
   have t2:=eq_false hg5;refine rnN 3 ?_;refine zb ⟨rfl,_,_,⟨rfl,rfl⟩,.p t2⟩
 rintro _ _ ⟨rfl,rfl⟩;refine rnN 1 ?_;refine nkN hK ?_;cases h;exact rtA
theorem Ze.ev (a0:Int)(r:Bool)(h:Ze a0=r)(σ:Store):ACalls qh 106 [.int .i64 a0] σ (fun r' σ'=>r'=.bool r∧σ'=σ):=
 (Ze.ok a0 r h).c σ
def xJ.l4 (a1:List UInt8):List GEnumeration→Int→GEnumeration×Bool
 |[],x2=>((⟨[],([]:List GNamed)⟩:GEnumeration),false)
 |y4::q4,x2=>(if y4.fName=a1 then (y4,true) else ((xJ.l4 a1 q4) (x2+1)))
def xJ (a0:GSchema)(a1:List UInt8):GEnumeration×Bool:=
 (xJ.l4 a1 a0.fEnums 0)
theorem xJ.ok (a0:GSchema)(a1:List UInt8)(r:GEnumeration×Bool)(h:xJ a0 a1=r):ACalls qh 140 [.agg (encGSchema a0),.str a1] [] (fun r' _=>r'=.tup [.agg (encGEnumeration r.1),.bool r.2]):=by
 refine zf (rs:=[.cell 4 84,.tmp 5]) tok Tryz.func140 rfl Tryz.ntmps140 rfl Tryz.call140 (by simp) ?_;refine zk [(0,.agg (encGSchema a0)),(1,.str a1)] ⟨rfl,rfl,trivial⟩ ?_;unfold xJ at h
 refine rg tok [1,2,4] fun K hK=>?_
 simp only[go_sem,qb,qa,qd,reduceCtorEq,encGSchema];apply hK
 refine za fun Z1 hZ1=>?_
 refine rgN [1,4,9,10,11] ?_;apply ze
 refine yP 9 fun hb4=>?_
 replace hb4:qc a0.fEnums≤9223372036854775807:=hb4.1;refine zp (fun m L τ=>∃ (p4 q4:List GEnumeration) (x2:Int),m=qc q4∧L=[(1,.str a1),(4,.op 0 0 0),(9,.ds true (qe encGEnumeration a0.fEnums) (qc a0.fEnums) false),(10,.int .i64 (qc a0.fEnums:Int)),(11,.int .i64 x2)]∧τ=[.cells 0 [.str [],.ds true [] 0 true]]∧a0.fEnums=p4++q4∧x2=(qc p4:Int)∧xJ.l4 a1 q4 x2=r) _ ⟨[],a0.fEnums,0,rfl,rfl,rfl,rfl,rfl,h⟩ (.t [1] false) ?_;rintro m L τ ⟨p4,q4,x2,rfl,rfl,rfl,hE4,hi4,h⟩
 rcases q4 with _|⟨y4,q4⟩
 · have hz4:=yl hE4 hi4;simp only[xJ.l4] at h
   refine rg tok [1,4,9,10,11,12] fun K hK=>?_
   simp only[go_sem,qb,qa,hz4];apply hK
   refine za fun Z5 hZ5=>?_
   refine zn rfl ?_;apply zr;apply hZ1;refine rgN [4,5] ?_;cases h;exact rtA
 obtain⟨hz4,hw4,hx4,hE'4,hi'4⟩:=zV hE4 hi4 hb4;simp only[xJ.l4] at h
 refine rg tok [1,4,9,10,11,12] fun K hK=>?_
 simp only[go_sem,qb,qa,hz4];apply hK
 refine za fun Z6 hZ6=>?_
 refine zo rfl ?_;apply zd;apply hZ6
 refine za fun Z7 hZ7=>?_
 apply ze;have f8:=E23.idxS hx4;have f9:=E23.loadS rfl rfl hx4
 refine rg tok [1,4,7,9,10,11] fun K hK=>?_
 simp only[go_sem,qb,qf,qa,qd,encGEnumeration,f8,f9];apply hK
 refine rgN [1,4,7,9,10,11,18] ?_;refine zq rfl (fun hc10=>?_) (fun hc10=>?_)
 · rw[if_pos hc10] at h;have t11:=eq_true hc10
   refine rg tok [4,5] fun K hK=>?_
   simp only[go_sem,qb,qf,qa,qd,t11];apply hK
   cases h;exact rtA
 rw[if_neg hc10] at h;have t12:=eq_false hc10;apply zd;apply hZ7
 refine rgE tok [1,4,9,10,11] fun K hK=>?_
 simp only[go_sem,qb,qa,hw4,t12];apply hK
 exact⟨_,_,_,qp q4.length,⟨p4++[y4],q4,x2+1,rfl,rfl,rfl,hE'4,hi'4,h⟩,(.t [0] false)⟩
theorem xJ.ev (a0:GSchema)(a1:List UInt8)(r:GEnumeration×Bool)(h:xJ a0 a1=r)(σ:Store):ACalls qh 140 [.agg (encGSchema a0),.str a1] σ (fun r' σ'=>r'=.tup [.agg (encGEnumeration r.1),.bool r.2]∧σ'=σ):=
 (xJ.ok a0 a1 r h).c σ
def wj (a0:GSchema)(a1:GField):Bool:=
 (if a1.fType.fKind=6 then bnd (xJ a0 a1.fType.fName) fun r6=>(((decide (1≤a1.fLabel))&&(decide (a1.fLabel≤3)))&&r6.2) else (if a1.fType.fKind=7 then bnd (zI a0 a1.fType.fName) fun r10=>(((decide (1≤a1.fLabel))&&(decide (a1.fLabel≤3)))&&r10.2) else (((((decide (1≤a1.fLabel))&&(decide (a1.fLabel≤3)))&&(decide (1≤a1.fType.fKind)))&&(decide (a1.fType.fName=[])))&&(decide (a1.fType.fKind<6)))))
theorem wj.ok (a0:GSchema)(a1:GField)(r:Bool)(h:wj a0 a1=r):ACalls qh 107 [.agg (encGSchema a0),.agg (encGField a1)] [] (fun r' _=>r'=.bool r):=by
 refine zf (rs:=[.tmp 4]) tok Tryz.func107 rfl Tryz.ntmps107 rfl Tryz.call107 (by simp) ?_;refine zk [(0,.agg (encGSchema a0)),(1,.agg (encGField a1))] ⟨rfl,rfl,trivial⟩ ?_;unfold wj at h
 refine rg tok [2,3] fun K hK=>?_
 simp only[go_sem,qb,qa,qd,reduceCtorEq,encGField,encGSchema];apply hK
 refine rc [2,3,5] fun K hK=>?_
 refine rnN 4 ?_;refine zh 4 (fun L τ=>L=[(2,.op 0 0 0),(3,.op 1 0 0),(17,.bool ((decide (1≤a1.fLabel))&&(decide (a1.fLabel≤3))))]∧τ=[.cells 0 (encGSchema a0),.cells 0 (encGField a1)]) ?_ ?_
 · refine yw 13 rfl (fun hg13=>?_) (fun hg13=>?_)
   · have t1:=eq_true hg13;refine rnN 4 ?_;refine zb ⟨rfl,_,_,⟨rfl,rfl⟩,.p t1⟩
   have t2:=eq_false hg13;refine rnN 4 ?_;refine zb ⟨rfl,_,_,⟨rfl,rfl⟩,.p t2⟩
 rintro _ _ ⟨rfl,rfl⟩;refine rnN 1 ?_;refine nkN hK ?_
 refine za fun Z3 hZ3=>?_
 refine rgN [2,3,5,20] ?_;apply ze;refine rgN [2,3,5,20,21] ?_;refine zq rfl (fun hc4=>?_) (fun hc4=>?_)
 · rw[if_pos hc4] at h;have t5:=eq_true hc4
   refine rc [5,7] fun K hK=>?_
   obtain⟨r6,hr6,h⟩:=zQ h;refine zi tok 4 ?_;simp only[go_sem,qb,qf,qa,qd,t5];refine clN rfl rfl rfl (xJ.ev a0 a1.fType.fName r6 hr6 _) ?_;refine zi tok 6 ?_;simp only[go_sem,qb,qf,qa,qd,encGEnumeration];refine nkN hK ?_
   refine rc [4] fun K hK=>?_
   refine rnN 2 ?_;refine zh 2 (fun L τ=>L=[(34,.bool (((decide (1≤a1.fLabel))&&(decide (a1.fLabel≤3)))&&r6.2))]∧τ=[.cells 0 (encGSchema a0),.cells 0 (encGField a1),.cells 0 (encGEnumeration r6.1)]) ?_ ?_
   · refine zH (b:=((decide (1≤a1.fLabel))&&(decide (a1.fLabel≤3)))) 32 rfl (fun hg32=>?_) (fun hg32=>?_)
     · refine rnN 2 ?_;refine zb ⟨rfl,_,_,⟨rfl,rfl⟩,.b hg32⟩
     refine rnN 2 ?_;refine zb ⟨rfl,_,_,⟨rfl,rfl⟩,.b hg32⟩
   rintro _ _ ⟨rfl,rfl⟩;refine rnN 1 ?_;refine nkN hK ?_;cases h;exact rtA
 rw[if_neg hc4] at h;have t7:=eq_false hc4
 refine rg tok [2,3,5,35] fun K hK=>?_
 simp only[go_sem,qb,qa,t7];apply hK
 refine zq rfl (fun hc8=>?_) (fun hc8=>?_)
 · rw[if_pos hc8] at h;have t9:=eq_true hc8
   refine rc [5,9] fun K hK=>?_
   obtain⟨r10,hr10,h⟩:=zQ h;refine zi tok 4 ?_;simp only[go_sem,qb,qf,qa,qd,t9];refine clN rfl rfl rfl (zI.ev a0 a1.fType.fName r10 hr10 _) ?_;refine zi tok 6 ?_;simp only[go_sem,qb,qf,qa,qd,encGMessage];refine nkN hK ?_
   refine rc [4] fun K hK=>?_
   refine rnN 2 ?_;refine zh 2 (fun L τ=>L=[(48,.bool (((decide (1≤a1.fLabel))&&(decide (a1.fLabel≤3)))&&r10.2))]∧τ=[.cells 0 (encGSchema a0),.cells 0 (encGField a1),.cells 0 (encGMessage r10.1)]) ?_ ?_
   · refine zH (b:=((decide (1≤a1.fLabel))&&(decide (a1.fLabel≤3)))) 46 rfl (fun hg46=>?_) (fun hg46=>?_)
     · refine rnN 2 ?_;refine zb ⟨rfl,_,_,⟨rfl,rfl⟩,.b hg46⟩
     refine rnN 2 ?_;refine zb ⟨rfl,_,_,⟨rfl,rfl⟩,.b hg46⟩
   rintro _ _ ⟨rfl,rfl⟩;refine rnN 1 ?_;refine nkN hK ?_;cases h;exact rtA
 rw[if_neg hc8] at h;have t11:=eq_false hc8;apply zd;apply hZ3
 refine rc [4] fun K hK=>?_
 refine zi tok 2 ?_;simp only[go_sem,qb,qa,t11];refine zh 5 (fun L τ=>L=[(3,.op 1 0 0),(55,.bool (((decide (1≤a1.fLabel))&&(decide (a1.fLabel≤3)))&&(decide (1≤a1.fType.fKind))))]∧τ=[.cells 0 (encGSchema a0),.cells 0 (encGField a1)]) ?_ ?_
 · refine zH (b:=((decide (1≤a1.fLabel))&&(decide (a1.fLabel≤3)))) 50 rfl (fun hg50=>?_) (fun hg50=>?_)
   · refine rnN 5 ?_;refine zb ⟨rfl,_,_,⟨rfl,rfl⟩,.b hg50⟩
   refine rnN 5 ?_;refine zb ⟨rfl,_,_,⟨rfl,rfl⟩,.b hg50⟩
 rintro _ _ ⟨rfl,rfl⟩;refine rnN 1 ?_;refine zh 8 (fun L τ=>L=[(3,.op 1 0 0),(64,.bool ((((decide (1≤a1.fLabel))&&(decide (a1.fLabel≤3)))&&(decide (1≤a1.fType.fKind)))&&(decide (a1.fType.fName=[]))))]∧τ=[.cells 0 (encGSchema a0),.cells 0 (encGField a1)]) ?_ ?_
 · refine zH (b:=(((decide (1≤a1.fLabel))&&(decide (a1.fLabel≤3)))&&(decide (1≤a1.fType.fKind)))) 56 rfl (fun hg56=>?_) (fun hg56=>?_)
   · refine zi tok 8 ?_;simp only[go_sem,qb,qf,qa,qd,evEqA,ceqL,ceq];refine zb ⟨rfl,_,_,⟨rfl,rfl⟩,.b hg56⟩
   refine rnN 8 ?_;refine zb ⟨rfl,_,_,⟨rfl,rfl⟩,.b hg56⟩
 rintro _ _ ⟨rfl,rfl⟩;refine rnN 1 ?_;refine zh 5 (fun L τ=>L=[(70,.bool (((((decide (1≤a1.fLabel))&&(decide (a1.fLabel≤3)))&&(decide (1≤a1.fType.fKind)))&&(decide (a1.fType.fName=[])))&&(decide (a1.fType.fKind<6))))]∧τ=[.cells 0 (encGSchema a0),.cells 0 (encGField a1)]) ?_ ?_
 · refine zH (b:=((((decide (1≤a1.fLabel))&&(decide (a1.fLabel≤3)))&&(decide (1≤a1.fType.fKind)))&&(decide (a1.fType.fName=[])))) 65 rfl (fun hg65=>?_) (fun hg65=>?_)
   · refine rnN 5 ?_;refine zb ⟨rfl,_,_,⟨rfl,rfl⟩,.b hg65⟩
   refine rnN 5 ?_;refine zb ⟨rfl,_,_,⟨rfl,rfl⟩,.b hg65⟩
 rintro _ _ ⟨rfl,rfl⟩;refine rnN 1 ?_;refine nkN hK ?_;cases h;exact rtA
theorem wj.ev (a0:GSchema)(a1:GField)(r:Bool)(h:wj a0 a1=r)(σ:Store):ACalls qh 107 [.agg (encGSchema a0),.agg (encGField a1)] σ (fun r' σ'=>r'=.bool r∧σ'=σ):=
 (wj.ok a0 a1 r h).c σ
def zG.l21 (a0:GSchema)(r2:Bool×List (List UInt8×Bool)):List GField→Int→List (Int×Bool)→List (List UInt8×Bool)→Option (Int×List (List UInt8×Bool))
 |[],x17,l15,l16=>some (0,r2.2)
 |y21::q21,x17,l15,l16=>(yp l16 y21.fName).bind fun r28=>(if (!r28.1)=true then some (6,r2.2) else bnd (Ze y21.fTag) fun r30=>(if ((!r30)||((vaX l15 y21.fTag).getD false))=true then some (7,r2.2) else bnd (wj a0 y21) fun r33=>(if (!r33)=true then some (8,r2.2) else ((zG.l21 a0 r2 q21) (x17+1) (va6 l15 y21.fTag true) r28.2))))
def zG.l12 (a0:GSchema)(a2:GMessage)(r2:Bool×List (List UInt8×Bool)):List Int→Int→List (Int×Bool)→Option (Int×List (List UInt8×Bool))
 |[],x9,l8=>(zG.l21 a0 r2 a2.fFields 0 l8 [])
 |y12::q12,x9,l8=>bnd (Ze y12) fun r41=>(if ((!r41)||((vaX l8 y12).getD false))=true then some (7,r2.2) else ((zG.l12 a0 a2 r2 q12) (x9+1) (va6 l8 y12 true)))
def zG (a0:GSchema)(a1:List (List UInt8×Bool))(a2:GMessage):Option (Int×List (List UInt8×Bool)):=
 (yp a1 a2.fName).bind fun r2=>(if (!r2.1)=true then some (6,r2.2) else (if ((decide (16<(qc a2.fFields:Int)))||(decide (32<(qc a2.fReserved:Int))))=true then some (4,r2.2) else (zG.l12 a0 a2 r2 a2.fReserved 0 [])))
theorem zG.ok (a0:GSchema)(a1:List (List UInt8×Bool))(a2:GMessage)(r:Int×List (List UInt8×Bool))(h:zG a0 a1 a2=some r):ACalls qh 61 [.agg (encGSchema a0),.mp 0,.agg (encGMessage a2)] [.map (wM AV.str AV.bool a1)] (fun r' σ'=>r'=.int .i64 r.1∧σ'=[.map (wM AV.str AV.bool r.2)]):=by
 refine vaI [0] (rs:=[.tmp 6]) tok Tryz.func61 rfl Tryz.ntmps61 rfl Tryz.call61 (by simp) rfl ?_;refine zk [(0,.agg (encGSchema a0)),(1,.mp 0),(2,.agg (encGMessage a2))] ⟨rfl,rfl,rfl,trivial⟩ ?_;unfold zG at h
 refine rg tok [1,3,5] fun K hK=>?_
 simp only[go_sem,qb,qa,qd,reduceCtorEq,encGMessage,encGSchema];apply hK
 refine za fun Z1 hZ1=>?_
 apply ze
 refine rc [3,5,13] fun K hK=>?_
 obtain⟨r2,hr2,h⟩:=bind_some h;refine rnN 3 ?_;refine clN rfl rfl rfl (@id (ACalls qh 63 [.mp 0,.str a2.fName] [.map (wM AV.str AV.bool a1),.cells 0 (encGSchema a0),.cells 0 (encGMessage a2)] (fun r' σ'=>r'=.bool r2.1∧σ'=[.map (wM AV.str AV.bool r2.2),.cells 0 (encGSchema a0),.cells 0 (encGMessage a2)])) ((yp.ok a1 a2.fName r2 hr2).i [0])) ?_;refine rnN 2 ?_;refine nkN hK ?_;refine zm (b:=(!r2.1)) rfl (fun hc3=>?_) (fun hc3=>?_)
 · rw[if_pos hc3] at h;refine rgN [6] ?_;apply yz;cases h;simp only[ZL,yT,xd,xZ,exists_eq_left',go_sem,qd];refine⟨by decide,by simp,?_,?_⟩
   · first|rfl|(simp only[go_sem,qb,qf,qa,qd,qt,qK,reduceIte,reduceCtorEq,push_cast,if_true,qC,qq,qE,qw,qD,qP,qZ,qV,qX,qQ,qy,zP]<;>rfl)
   first|rfl|(simp only[go_sem,push_cast,qw]<;>rfl)
 rw[xQ hc3] at h
 refine rc [3,5,19] fun K hK=>?_
 refine rnN 5 ?_;refine zh 5 (fun L τ=>L=[(3,.op 1 0 0),(5,.op 2 0 0),(29,.bool ((decide (16<(qc a2.fFields:Int)))||(decide (32<(qc a2.fReserved:Int)))))]∧τ=[.map (wM AV.str AV.bool r2.2),.cells 0 (encGSchema a0),.cells 0 (encGMessage a2)]) ?_ ?_
 · refine yw 24 rfl (fun hg24=>?_) (fun hg24=>?_)
   · have t4:=eq_true hg24;refine rnN 5 ?_;refine zb ⟨rfl,_,_,⟨rfl,rfl⟩,.p t4⟩
   have t5:=eq_false hg24;refine rnN 5 ?_;refine zb ⟨rfl,_,_,⟨rfl,rfl⟩,.p t5⟩
 rintro _ _ ⟨rfl,rfl⟩;refine rnN 1 ?_;refine nkN hK ?_;refine zm (b:=((decide (16<(qc a2.fFields:Int)))||(decide (32<(qc a2.fReserved:Int))))) rfl (fun hc6=>?_) (fun hc6=>?_)
 · rw[if_pos hc6] at h;refine rgN [6] ?_;apply yz;cases h;simp only[ZL,yT,xd,xZ,exists_eq_left',go_sem,qd];refine⟨by decide,by simp,?_,?_⟩
   · first|rfl|(simp only[go_sem,qb,qf,qa,qd,qt,qK,reduceIte,reduceCtorEq,push_cast,if_true,qC,qq,qE,qw,qD,qP,qZ,qV,qX,qQ,qy,zP]<;>rfl)
   first|rfl|(simp only[go_sem,push_cast,qw]<;>rfl)
 rw[xQ hc6] at h;apply zd;apply hZ1;refine rgN [3,5,7] ?_;refine zU (L:=[(3,.op 1 0 0),(5,.op 2 0 0),(7,.mp 3)]) (τ:=[.map (wM AV.str AV.bool r2.2),.cells 0 (encGSchema a0),.cells 0 (encGMessage a2),.map (wM (AV.int .i64) AV.bool [])]) .s ?_
 refine za fun Z7 hZ7=>?_
 refine rgN [3,5,7,32,33,34] ?_;apply ze
 refine yP 32 fun hb12=>?_
 replace hb12:qc a2.fReserved≤9223372036854775807:=hb12.1;refine zp (fun m L τ=>∃ (p12 q12:List Int) (x9:Int) (l8:List (Int×Bool)),m=qc q12∧L=[(3,.op 1 0 0),(5,.op 2 0 0),(7,.mp 3),(32,.ds true (qe encI a2.fReserved) (qc a2.fReserved) false),(33,.int .i64 (qc a2.fReserved:Int)),(34,.int .i64 x9)]∧τ=[.map (wM AV.str AV.bool r2.2),.cells 0 (encGSchema a0),.cells 0 (encGMessage a2),.map (wM (AV.int .i64) AV.bool l8)]∧a2.fReserved=p12++q12∧x9=(qc p12:Int)∧zG.l12 a0 a2 r2 q12 x9 l8=some r) _ ⟨[],a2.fReserved,0,[],rfl,rfl,rfl,rfl,rfl,h⟩ .s ?_;rintro m L τ ⟨p12,q12,x9,l8,rfl,rfl,rfl,hE12,hi12,h⟩
 rcases q12 with _|⟨y12,q12⟩
 · have hz12:=yl hE12 hi12;simp only[zG.l12] at h
   refine rg tok [3,5,7,32,33,34,35] fun K hK=>?_
   simp only[go_sem,qb,qa,hz12];apply hK
   refine za fun Z13 hZ13=>?_
   refine zn rfl ?_;apply zr;apply hZ7;refine rgN [3,5,7,10] ?_;refine zU (L:=[(3,.op 1 0 0),(5,.op 2 0 0),(7,.mp 3),(10,.mp 4)]) (τ:=[.map (wM AV.str AV.bool r2.2),.cells 0 (encGSchema a0),.cells 0 (encGMessage a2),.map (wM (AV.int .i64) AV.bool l8),.map (wM AV.str AV.bool [])]) .s ?_
   refine za fun Z14 hZ14=>?_
   refine rgN [3,7,10,51,52,53] ?_;apply ze
   refine yP 51 fun hb21=>?_
   replace hb21:qc a2.fFields≤9223372036854775807:=hb21.1;refine zp (fun m L τ=>∃ (p21 q21:List GField) (x17:Int) (l15:List (Int×Bool)) (l16:List (List UInt8×Bool)),m=qc q21∧L=[(3,.op 1 0 0),(7,.mp 2),(10,.mp 3),(51,.ds true (qe encGField a2.fFields) (qc a2.fFields) false),(52,.int .i64 (qc a2.fFields:Int)),(53,.int .i64 x17)]∧τ=[.map (wM AV.str AV.bool r2.2),.cells 0 (encGSchema a0),.map (wM (AV.int .i64) AV.bool l15),.map (wM AV.str AV.bool l16)]∧a2.fFields=p21++q21∧x17=(qc p21:Int)∧zG.l21 a0 r2 q21 x17 l15 l16=some r) _ ⟨[],a2.fFields,0,l8,[],rfl,rfl,rfl,rfl,rfl,h⟩ (.t [0,1,3,4] false) ?_;rintro m L τ ⟨p21,q21,x17,l15,l16,rfl,rfl,rfl,hE21,hi21,h⟩
   rcases q21 with _|⟨y21,q21⟩
   · have hz21:=yl hE21 hi21;simp only[zG.l21] at h
     refine rg tok [3,7,10,51,52,53,54] fun K hK=>?_
     simp only[go_sem,qb,qa,hz21];apply hK
     refine za fun Z22 hZ22=>?_
     refine zn rfl ?_;apply zr;apply hZ14;refine rgN [6] ?_;apply yz;cases h;simp only[ZL,yT,xd,xZ,exists_eq_left',go_sem,qd];refine⟨by decide,by simp,?_,?_⟩
     · first|rfl|(simp only[go_sem,qb,qf,qa,qd,qt,qK,reduceIte,reduceCtorEq,push_cast,if_true,qC,qq,qE,qw,qD,qP,qZ,qV,qX,qQ,qy,zP]<;>rfl)
     first|rfl|(simp only[go_sem,push_cast,qw]<;>rfl)
   obtain⟨hz21,hw21,hx21,hE'21,hi'21⟩:=zV hE21 hi21 hb21;simp only[zG.l21] at h
   refine rg tok [3,7,10,51,52,53,54] fun K hK=>?_
   simp only[go_sem,qb,qa,hz21];apply hK
   refine za fun Z23 hZ23=>?_
   refine zo rfl ?_;apply zd;apply hZ23
   refine za fun Z24 hZ24=>?_
   apply ze;have f25:=E47.idxS hx21;have f26:=E47.loadS rfl rfl hx21
   refine rg tok [3,7,10,12,51,52,53] fun K hK=>?_
   simp only[go_sem,qb,qf,qa,qd,encGField,f25,f26];apply hK
   refine za fun Z27 hZ27=>?_
   apply ze
   refine rc [3,7,10,12,51,52,53,57] fun K hK=>?_
   obtain⟨r28,hr28,h⟩:=bind_some h;refine rnN 3 ?_;refine clN rfl rfl rfl (@id (ACalls qh 63 [.mp 3,.str y21.fName] [.map (wM AV.str AV.bool r2.2),.cells 0 (encGSchema a0),.map (wM (AV.int .i64) AV.bool l15),.map (wM AV.str AV.bool l16),.cells 0 (encGField y21)] (fun r' σ'=>r'=.bool r28.1∧σ'=[.map (wM AV.str AV.bool r2.2),.cells 0 (encGSchema a0),.map (wM (AV.int .i64) AV.bool l15),.map (wM AV.str AV.bool r28.2),.cells 0 (encGField y21)])) ((yp.ok l16 y21.fName r28 hr28).i [3])) ?_;refine rnN 2 ?_;refine nkN hK ?_;refine zm (b:=(!r28.1)) rfl (fun hc29=>?_) (fun hc29=>?_)
   · rw[if_pos hc29] at h;refine rgN [6] ?_;apply yz;cases h;simp only[ZL,yT,xd,xZ,exists_eq_left',go_sem,qd];refine⟨by decide,by simp,?_,?_⟩
     · first|rfl|(simp only[go_sem,qb,qf,qa,qd,qt,qK,reduceIte,reduceCtorEq,push_cast,if_true,qC,qq,qE,qw,qD,qP,qZ,qV,qX,qQ,qy,zP]<;>rfl)
     first|rfl|(simp only[go_sem,push_cast,qw]<;>rfl)
   rw[xQ hc29] at h
   refine rc [3,7,10,12,51,52,53,63] fun K hK=>?_
   obtain⟨r30,hr30,h⟩:=zQ h;refine rnN 2 ?_;refine clN rfl rfl rfl (Ze.ev y21.fTag r30 hr30 _) ?_;refine rnN 2 ?_;refine zh 5 (fun L τ=>L=[(3,.op 1 0 0),(7,.mp 2),(10,.mp 3),(12,.op 4 0 0),(51,.ds true (qe encGField a2.fFields) (qc a2.fFields) false),(52,.int .i64 (qc a2.fFields:Int)),(53,.int .i64 x17),(73,.bool ((!r30)||((vaX l15 y21.fTag).getD false)))]∧τ=[.map (wM AV.str AV.bool r2.2),.cells 0 (encGSchema a0),.map (wM (AV.int .i64) AV.bool l15),.map (wM AV.str AV.bool r28.2),.cells 0 (encGField y21)]) ?_ ?_
   · refine zH (b:=(!r30)) 68 rfl (fun hg68=>?_) (fun hg68=>?_)
     · refine zi tok 5 ?_;simp only[go_sem,qb,qa,if_false,if_true];refine zb ⟨rfl,_,_,⟨rfl,rfl⟩,.b hg68⟩
     have f31:=fun (o0:ZN) (o1:ZN) (x:Store)=>vbt (T:=tab) (t:=161) (ek:=(AV.int .i64)) (ev:=AV.bool) (z:=false) (KeyE.int rfl rfl rfl rfl) rfl rfl rfl rfl l15 y21.fTag false (o0::o1::.map (wM (AV.int .i64) AV.bool l15)::x) 2 rfl
     refine zi tok 5 ?_;simp only[go_sem,qb,qa,qd,X7,ue,if_false,if_true,f31];refine zb ⟨rfl,_,_,⟨rfl,rfl⟩,.b hg68⟩
   rintro _ _ ⟨rfl,rfl⟩;refine rnN 1 ?_;refine nkN hK ?_;refine zm (b:=((!r30)||((vaX l15 y21.fTag).getD false))) rfl (fun hc32=>?_) (fun hc32=>?_)
   · rw[if_pos hc32] at h;refine rgN [6] ?_;apply yz;cases h;simp only[ZL,yT,xd,xZ,exists_eq_left',go_sem,qd];refine⟨by decide,by simp,?_,?_⟩
     · first|rfl|(simp only[go_sem,qb,qf,qa,qd,qt,qK,reduceIte,reduceCtorEq,push_cast,if_true,qC,qq,qE,qw,qD,qP,qZ,qV,qX,qQ,qy,zP]<;>rfl)
     first|rfl|(simp only[go_sem,push_cast,qw]<;>rfl)
   rw[xQ hc32] at h
   refine rc [3,7,10,12,51,52,53,74] fun K hK=>?_
   obtain⟨r33,hr33,h⟩:=zQ h;refine rnN 2 ?_;refine clN rfl rfl rfl (wj.ev a0 y21 r33 hr33 _) ?_;refine rnN 2 ?_;refine nkN hK ?_;refine zm (b:=(!r33)) rfl (fun hc34=>?_) (fun hc34=>?_)
   · rw[if_pos hc34] at h;refine rgN [6] ?_;apply yz;cases h;simp only[ZL,yT,xd,xZ,exists_eq_left',go_sem,qd];refine⟨by decide,by simp,?_,?_⟩
     · first|rfl|(simp only[go_sem,qb,qf,qa,qd,qt,qK,reduceIte,reduceCtorEq,push_cast,if_true,qC,qq,qE,qw,qD,qP,qZ,qV,qX,qQ,qy,zP]<;>rfl)
     first|rfl|(simp only[go_sem,push_cast,qw]<;>rfl)
   rw[xQ hc34] at h;apply zd;apply hZ27
   have f35:=fun (o0:ZN) (o1:ZN) (x:Store)=>vbq (T:=tab) (t:=161) (ek:=(AV.int .i64)) (ev:=AV.bool) (KeyE.int rfl rfl rfl rfl) rfl rfl l15 y21.fTag true (o0::o1::.map (wM (AV.int .i64) AV.bool l15)::x) 2 rfl
   refine rgE tok [3,7,10,51,52,53] fun K hK=>?_
   simp only[go_sem,qb,qa,qd,f35];apply hK
   apply hZ24
   refine rgE tok [3,7,10,51,52,53] fun K hK=>?_
   simp only[go_sem,qb,qa,hw21];apply hK
   exact⟨_,_,_,qp q21.length,⟨p21++[y21],q21,x17+1,va6 l15 y21.fTag true,r28.2,rfl,rfl,rfl,hE'21,hi'21,h⟩,(.t [0,1,2,3] false)⟩
 obtain⟨hz12,hw12,hx12,hE'12,hi'12⟩:=zV hE12 hi12 hb12;simp only[zG.l12] at h
 refine rg tok [3,5,7,32,33,34,35] fun K hK=>?_
 simp only[go_sem,qb,qa,hz12];apply hK
 refine za fun Z36 hZ36=>?_
 refine zo rfl ?_;apply zd;apply hZ36
 refine za fun Z37 hZ37=>?_
 apply ze;have f38:=E45.idxS hx12;have f39:=E45.fldS0 (f:=3) rfl rfl hx12
 refine rg tok [3,5,7,9,32,33,34] fun K hK=>?_
 simp only[go_sem,qb,qa,encI,f38,f39];apply hK
 refine za fun Z40 hZ40=>?_
 refine rc [3,5,7,9,32,33,34,45] fun K hK=>?_
 obtain⟨r41,hr41,h⟩:=zQ h;refine rnN 1 ?_;refine clN rfl rfl rfl (Ze.ev y12 r41 hr41 _) ?_;refine rnN 2 ?_;refine zh 4 (fun L τ=>L=[(3,.op 1 0 0),(5,.op 2 0 0),(7,.mp 3),(9,.int .i64 y12),(32,.ds true (qe encI a2.fReserved) (qc a2.fReserved) false),(33,.int .i64 (qc a2.fReserved:Int)),(34,.int .i64 x9),(45,.bool ((!r41)||((vaX l8 y12).getD false)))]∧τ=[.map (wM AV.str AV.bool r2.2),.cells 0 (encGSchema a0),.cells 0 (encGMessage a2),.map (wM (AV.int .i64) AV.bool l8)]) ?_ ?_
 · refine zH (b:=(!r41)) 41 rfl (fun hg41=>?_) (fun hg41=>?_)
   · refine zi tok 4 ?_;simp only[go_sem,qb,qa,if_false,if_true];refine zb ⟨rfl,_,_,⟨rfl,rfl⟩,.b hg41⟩
   have f42:=fun (o0:ZN) (o1:ZN) (o2:ZN) (x:Store)=>vbt (T:=tab) (t:=161) (ek:=(AV.int .i64)) (ev:=AV.bool) (z:=false) (KeyE.int rfl rfl rfl rfl) rfl rfl rfl rfl l8 y12 false (o0::o1::o2::.map (wM (AV.int .i64) AV.bool l8)::x) 3 rfl
   refine zi tok 4 ?_;simp only[go_sem,qb,qa,X7,ue,if_false,if_true,f42];refine zb ⟨rfl,_,_,⟨rfl,rfl⟩,.b hg41⟩
 rintro _ _ ⟨rfl,rfl⟩;refine nkN hK ?_;refine zm (b:=((!r41)||((vaX l8 y12).getD false))) rfl (fun hc43=>?_) (fun hc43=>?_)
 · rw[if_pos hc43] at h;refine rgN [6] ?_;apply yz;cases h;simp only[ZL,yT,xd,xZ,exists_eq_left',go_sem,qd];refine⟨by decide,by simp,?_,?_⟩
   · first|rfl|(simp only[go_sem,qb,qf,qa,qd,qt,qK,reduceIte,reduceCtorEq,push_cast,if_true,qC,qq,qE,qw,qD,qP,qZ,qV,qX,qQ,qy,zP]<;>rfl)
   first|rfl|(simp only[go_sem,push_cast,qw]<;>rfl)
 rw[xQ hc43] at h;apply zd;apply hZ40
 have f44:=fun (o0:ZN) (o1:ZN) (o2:ZN) (x:Store)=>vbq (T:=tab) (t:=161) (ek:=(AV.int .i64)) (ev:=AV.bool) (KeyE.int rfl rfl rfl rfl) rfl rfl l8 y12 true (o0::o1::o2::.map (wM (AV.int .i64) AV.bool l8)::x) 3 rfl
 refine rgE tok [3,5,7,32,33,34] fun K hK=>?_
 simp only[go_sem,qb,qa,f44];apply hK
 apply hZ37
 refine rgE tok [3,5,7,32,33,34] fun K hK=>?_
 simp only[go_sem,qb,qa,hw12];apply hK
 exact⟨_,_,_,qp q12.length,⟨p12++[y12],q12,x9+1,va6 l8 y12 true,rfl,rfl,rfl,hE'12,hi'12,h⟩,.s⟩
end
section
set_option maxRecDepth 4000
set_option maxHeartbeats 1000000
open AM
def yB.l23 (r2:Bool×List (List UInt8×Bool)):List GNamed→Int→List (List UInt8×Bool)→List (Int×Bool)→Option (Int×List (List UInt8×Bool))
 |[],x19,l17,l18=>some (0,r2.2)
 |y23::q23,x19,l17,l18=>(yp l17 y23.fName).bind fun r30=>(if (!r30.1)=true then some (6,r2.2) else (if (((decide (y23.fN<0))||(decide (2147483647<y23.fN)))||((vaX l18 y23.fN).getD false))=true then some (11,r2.2) else ((yB.l23 r2 q23) (x19+1) r30.2 (va6 l18 y23.fN true))))
def yB.l12 (a1:GEnumeration)(r2:Bool×List (List UInt8×Bool)):List GNamed→Int→Bool→Option (Int×List (List UInt8×Bool))
 |[],x9,x8=>(if (!x8)=true then some (12,r2.2) else (yB.l23 r2 a1.fValues 0 [] []))
 |y12::q12,x9,x8=>((yB.l12 a1 r2 q12) (x9+1) (x8||(decide (y12.fN=0))))
def yB (a0:List (List UInt8×Bool))(a1:GEnumeration):Option (Int×List (List UInt8×Bool)):=
 (yp a0 a1.fName).bind fun r2=>(if (!r2.1)=true then some (6,r2.2) else (if 16<(qc a1.fValues:Int) then some (4,r2.2) else (yB.l12 a1 r2 a1.fValues 0 false)))
theorem yB.ok (a0:List (List UInt8×Bool))(a1:GEnumeration)(r:Int×List (List UInt8×Bool))(h:yB a0 a1=some r):ACalls qh 62 [.mp 0,.agg (encGEnumeration a1)] [.map (wM AV.str AV.bool a0)] (fun r' σ'=>r'=.int .i64 r.1∧σ'=[.map (wM AV.str AV.bool r.2)]):=by
 refine vaI [0] (rs:=[.tmp 4]) tok Tryz.func62 rfl Tryz.ntmps62 rfl Tryz.call62 (by simp) rfl ?_;refine zk [(0,.mp 0),(1,.agg (encGEnumeration a1))] ⟨rfl,rfl,trivial⟩ ?_;unfold yB at h
 refine rg tok [0,3] fun K hK=>?_
 simp only[go_sem,qb,qa,qd,reduceCtorEq,encGEnumeration];apply hK
 refine za fun Z1 hZ1=>?_
 apply ze
 refine rc [3,12] fun K hK=>?_
 obtain⟨r2,hr2,h⟩:=bind_some h;refine rnN 3 ?_;refine clN rfl rfl rfl (@id (ACalls qh 63 [.mp 0,.str a1.fName] [.map (wM AV.str AV.bool a0),.cells 0 (encGEnumeration a1)] (fun r' σ'=>r'=.bool r2.1∧σ'=[.map (wM AV.str AV.bool r2.2),.cells 0 (encGEnumeration a1)])) ((yp.ok a0 a1.fName r2 hr2).i [0])) ?_;refine rnN 2 ?_;refine nkN hK ?_;refine zm (b:=(!r2.1)) rfl (fun hc3=>?_) (fun hc3=>?_)
 · rw[if_pos hc3] at h;refine rgN [4] ?_;apply yz;cases h;simp only[ZL,yT,xd,xZ,exists_eq_left',go_sem,qd];refine⟨by decide,by simp,?_,?_⟩
   · first|rfl|(simp only[go_sem,qb,qf,qa,qd,qt,qK,reduceIte,reduceCtorEq,push_cast,if_true,qC,qq,qE,qw,qD,qP,qZ,qV,qX,qQ,qy,zP]<;>rfl)
   first|rfl|(simp only[go_sem,push_cast,qw]<;>rfl)
 rw[xQ hc3] at h;refine rgN [3,18] ?_;refine zq rfl (fun hc4=>?_) (fun hc4=>?_)
 · rw[if_pos hc4] at h;have t5:=eq_true hc4
   refine rg tok [4] fun K hK=>?_
   simp only[go_sem,qb,qa,t5];apply hK
   apply yz;cases h;simp only[ZL,yT,xd,xZ,exists_eq_left',go_sem,qd];refine⟨by decide,by simp,?_,?_⟩
   · first|rfl|(simp only[go_sem,qb,qf,qa,qd,qt,qK,reduceIte,reduceCtorEq,push_cast,if_true,qC,qq,qE,qw,qD,qP,qZ,qV,qX,qQ,qy,zP]<;>rfl)
   first|rfl|(simp only[go_sem,push_cast,qw]<;>rfl)
 rw[if_neg hc4] at h;have t6:=eq_false hc4;apply zd;apply hZ1
 refine rg tok [3,5] fun K hK=>?_
 simp only[go_sem,qb,qa,t6];apply hK
 refine za fun Z7 hZ7=>?_
 refine rgN [3,5,24,25,26] ?_;apply ze
 refine yP 24 fun hb12=>?_
 replace hb12:qc a1.fValues≤9223372036854775807:=hb12.1;refine zp (fun m L τ=>∃ (p12 q12:List GNamed) (x9:Int) (x8:Bool),m=qc q12∧L=[(3,.op 1 0 0),(5,.bool x8),(24,.ds true (qe encGNamed a1.fValues) (qc a1.fValues) false),(25,.int .i64 (qc a1.fValues:Int)),(26,.int .i64 x9)]∧τ=[.map (wM AV.str AV.bool r2.2),.cells 0 (encGEnumeration a1)]∧a1.fValues=p12++q12∧x9=(qc p12:Int)∧yB.l12 a1 r2 q12 x9 x8=some r) _ ⟨[],a1.fValues,0,false,rfl,rfl,rfl,rfl,rfl,h⟩ .s ?_;rintro m L τ ⟨p12,q12,x9,x8,rfl,rfl,rfl,hE12,hi12,h⟩
 rcases q12 with _|⟨y12,q12⟩
 · have hz12:=yl hE12 hi12;simp only[yB.l12] at h
   refine rg tok [3,5,24,25,26,27] fun K hK=>?_
   simp only[go_sem,qb,qa,hz12];apply hK
   refine za fun Z13 hZ13=>?_
   refine zn rfl ?_;apply zr;apply hZ7
   refine za fun Z14 hZ14=>?_
   refine rgN [3,38] ?_;refine zm (b:=(!x8)) rfl (fun hc15=>?_) (fun hc15=>?_)
   · rw[if_pos hc15] at h;refine rgN [4] ?_;apply yz;cases h;simp only[ZL,yT,xd,xZ,exists_eq_left',go_sem,qd];refine⟨by decide,by simp,?_,?_⟩
     · first|rfl|(simp only[go_sem,qb,qf,qa,qd,qt,qK,reduceIte,reduceCtorEq,push_cast,if_true,qC,qq,qE,qw,qD,qP,qZ,qV,qX,qQ,qy,zP]<;>rfl)
     first|rfl|(simp only[go_sem,push_cast,qw]<;>rfl)
   rw[xQ hc15] at h;apply zd;apply hZ14;refine rgN [3,8,9] ?_;refine zU (L:=[(3,.op 1 0 0),(8,.mp 2),(9,.mp 3)]) (τ:=[.map (wM AV.str AV.bool r2.2),.cells 0 (encGEnumeration a1),.map (wM AV.str AV.bool []),.map (wM (AV.int .i64) AV.bool [])]) .s ?_
   refine za fun Z16 hZ16=>?_
   refine rgN [8,9,42,43,44] ?_;apply ze
   refine yP 42 fun hb23=>?_
   replace hb23:qc a1.fValues≤9223372036854775807:=hb23.1;refine zp (fun m L τ=>∃ (p23 q23:List GNamed) (x19:Int) (l17:List (List UInt8×Bool)) (l18:List (Int×Bool)),m=qc q23∧L=[(8,.mp 1),(9,.mp 2),(42,.ds true (qe encGNamed a1.fValues) (qc a1.fValues) false),(43,.int .i64 (qc a1.fValues:Int)),(44,.int .i64 x19)]∧τ=[.map (wM AV.str AV.bool r2.2),.map (wM AV.str AV.bool l17),.map (wM (AV.int .i64) AV.bool l18)]∧a1.fValues=p23++q23∧x19=(qc p23:Int)∧yB.l23 r2 q23 x19 l17 l18=some r) _ ⟨[],a1.fValues,0,[],[],rfl,rfl,rfl,rfl,rfl,h⟩ (.t [0,2,3] false) ?_;rintro m L τ ⟨p23,q23,x19,l17,l18,rfl,rfl,rfl,hE23,hi23,h⟩
   rcases q23 with _|⟨y23,q23⟩
   · have hz23:=yl hE23 hi23;simp only[yB.l23] at h
     refine rg tok [8,9,42,43,44,45] fun K hK=>?_
     simp only[go_sem,qb,qa,hz23];apply hK
     refine za fun Z24 hZ24=>?_
     refine zn rfl ?_;apply zr;apply hZ16;refine rgN [4] ?_;apply yz;cases h;simp only[ZL,yT,xd,xZ,exists_eq_left',go_sem,qd];refine⟨by decide,by simp,?_,?_⟩
     · first|rfl|(simp only[go_sem,qb,qf,qa,qd,qt,qK,reduceIte,reduceCtorEq,push_cast,if_true,qC,qq,qE,qw,qD,qP,qZ,qV,qX,qQ,qy,zP]<;>rfl)
     first|rfl|(simp only[go_sem,push_cast,qw]<;>rfl)
   obtain⟨hz23,hw23,hx23,hE'23,hi'23⟩:=zV hE23 hi23 hb23;simp only[yB.l23] at h
   refine rg tok [8,9,42,43,44,45] fun K hK=>?_
   simp only[go_sem,qb,qa,hz23];apply hK
   refine za fun Z25 hZ25=>?_
   refine zo rfl ?_;apply zd;apply hZ25
   refine za fun Z26 hZ26=>?_
   apply ze;have f27:=E82.idxS hx23;have f28:=E82.loadS rfl rfl hx23
   refine rg tok [8,9,11,42,43,44] fun K hK=>?_
   simp only[go_sem,qb,qf,qa,qd,encGNamed,f27,f28];apply hK
   refine za fun Z29 hZ29=>?_
   apply ze
   refine rc [8,9,11,42,43,44,48] fun K hK=>?_
   obtain⟨r30,hr30,h⟩:=bind_some h;refine rnN 3 ?_;refine clN rfl rfl rfl (@id (ACalls qh 63 [.mp 1,.str y23.fName] [.map (wM AV.str AV.bool r2.2),.map (wM AV.str AV.bool l17),.map (wM (AV.int .i64) AV.bool l18),.cells 0 [.str y23.fName,.int .i64 y23.fN]] (fun r' σ'=>r'=.bool r30.1∧σ'=[.map (wM AV.str AV.bool r2.2),.map (wM AV.str AV.bool r30.2),.map (wM (AV.int .i64) AV.bool l18),.cells 0 [.str y23.fName,.int .i64 y23.fN]])) ((yp.ok l17 y23.fName r30 hr30).i [1])) ?_;refine rnN 2 ?_;refine nkN hK ?_;refine zm (b:=(!r30.1)) rfl (fun hc31=>?_) (fun hc31=>?_)
   · rw[if_pos hc31] at h;refine rgN [4] ?_;apply yz;cases h;simp only[ZL,yT,xd,xZ,exists_eq_left',go_sem,qd];refine⟨by decide,by simp,?_,?_⟩
     · first|rfl|(simp only[go_sem,qb,qf,qa,qd,qt,qK,reduceIte,reduceCtorEq,push_cast,if_true,qC,qq,qE,qw,qD,qP,qZ,qV,qX,qQ,qy,zP]<;>rfl)
     first|rfl|(simp only[go_sem,push_cast,qw]<;>rfl)
   rw[xQ hc31] at h
   refine rc [8,9,11,42,43,44,54] fun K hK=>?_
   refine rnN 4 ?_;refine zh 4 (fun L τ=>L=[(8,.mp 1),(9,.mp 2),(11,.op 3 0 0),(42,.ds true (qe encGNamed a1.fValues) (qc a1.fValues) false),(43,.int .i64 (qc a1.fValues:Int)),(44,.int .i64 x19),(62,.bool ((decide (y23.fN<0))||(decide (2147483647<y23.fN))))]∧τ=[.map (wM AV.str AV.bool r2.2),.map (wM AV.str AV.bool r30.2),.map (wM (AV.int .i64) AV.bool l18),.cells 0 [.str y23.fName,.int .i64 y23.fN]]) ?_ ?_
   · refine yw 58 rfl (fun hg58=>?_) (fun hg58=>?_)
     · have t32:=eq_true hg58;refine rnN 4 ?_;refine zb ⟨rfl,_,_,⟨rfl,rfl⟩,.p t32⟩
     have t33:=eq_false hg58;refine rnN 4 ?_;refine zb ⟨rfl,_,_,⟨rfl,rfl⟩,.p t33⟩
   rintro _ _ ⟨rfl,rfl⟩;refine rnN 1 ?_;refine zh 5 (fun L τ=>L=[(8,.mp 1),(9,.mp 2),(11,.op 3 0 0),(42,.ds true (qe encGNamed a1.fValues) (qc a1.fValues) false),(43,.int .i64 (qc a1.fValues:Int)),(44,.int .i64 x19),(68,.bool (((decide (y23.fN<0))||(decide (2147483647<y23.fN)))||((vaX l18 y23.fN).getD false)))]∧τ=[.map (wM AV.str AV.bool r2.2),.map (wM AV.str AV.bool r30.2),.map (wM (AV.int .i64) AV.bool l18),.cells 0 [.str y23.fName,.int .i64 y23.fN]]) ?_ ?_
   · refine zH (b:=((decide (y23.fN<0))||(decide (2147483647<y23.fN)))) 63 rfl (fun hg63=>?_) (fun hg63=>?_)
     · refine zi tok 5 ?_;simp only[go_sem,qb,qa,if_false,if_true];refine zb ⟨rfl,_,_,⟨rfl,rfl⟩,.b hg63⟩
     have f34:=fun (o0:ZN) (o1:ZN) (x:Store)=>vbt (T:=tab) (t:=161) (ek:=(AV.int .i64)) (ev:=AV.bool) (z:=false) (KeyE.int rfl rfl rfl rfl) rfl rfl rfl rfl l18 y23.fN false (o0::o1::.map (wM (AV.int .i64) AV.bool l18)::x) 2 rfl
     refine zi tok 5 ?_;simp only[go_sem,qb,qa,qd,X7,ue,if_false,if_true,f34];refine zb ⟨rfl,_,_,⟨rfl,rfl⟩,.b hg63⟩
   rintro _ _ ⟨rfl,rfl⟩;refine rnN 1 ?_;refine nkN hK ?_;refine zm (b:=(((decide (y23.fN<0))||(decide (2147483647<y23.fN)))||((vaX l18 y23.fN).getD false))) rfl (fun hc35=>?_) (fun hc35=>?_)
   · rw[if_pos hc35] at h;refine rgN [4] ?_;apply yz;cases h;simp only[ZL,yT,xd,xZ,exists_eq_left',go_sem,qd];refine⟨by decide,by simp,?_,?_⟩
     · first|rfl|(simp only[go_sem,qb,qf,qa,qd,qt,qK,reduceIte,reduceCtorEq,push_cast,if_true,qC,qq,qE,qw,qD,qP,qZ,qV,qX,qQ,qy,zP]<;>rfl)
     first|rfl|(simp only[go_sem,push_cast,qw]<;>rfl)
   rw[xQ hc35] at h;apply zd;apply hZ29
   have f36:=fun (o0:ZN) (o1:ZN) (x:Store)=>vbq (T:=tab) (t:=161) (ek:=(AV.int .i64)) (ev:=AV.bool) (KeyE.int rfl rfl rfl rfl) rfl rfl l18 y23.fN true (o0::o1::.map (wM (AV.int .i64) AV.bool l18)::x) 2 rfl
   refine rgE tok [8,9,42,43,44] fun K hK=>?_
   simp only[go_sem,qb,qa,qd,f36];apply hK
   apply hZ26
   refine rgE tok [8,9,42,43,44] fun K hK=>?_
   simp only[go_sem,qb,qa,hw23];apply hK
   exact⟨_,_,_,qp q23.length,⟨p23++[y23],q23,x19+1,r30.2,va6 l18 y23.fN true,rfl,rfl,rfl,hE'23,hi'23,h⟩,(.t [0,1,2] false)⟩
 obtain⟨hz12,hw12,hx12,hE'12,hi'12⟩:=zV hE12 hi12 hb12;simp only[yB.l12] at h
 refine rg tok [3,5,24,25,26,27] fun K hK=>?_
 simp only[go_sem,qb,qa,hz12];apply hK
 refine za fun Z37 hZ37=>?_
 refine zo rfl ?_;apply zd;apply hZ37
 refine za fun Z38 hZ38=>?_
 apply ze;have f39:=E82.idxS hx12;have f40:=E82.loadS rfl rfl hx12
 refine rg tok [3,5,7,24,25,26] fun K hK=>?_
 simp only[go_sem,qb,qf,qa,qd,encGNamed,f39,f40];apply hK
 refine rcE [3,5,24,25,26] fun K hK=>?_
 refine rnN 2 ?_;refine zh 4 (fun L τ=>L=[(3,.op 1 0 0),(5,.bool x8),(24,.ds true (qe encGNamed a1.fValues) (qc a1.fValues) false),(25,.int .i64 (qc a1.fValues:Int)),(26,.int .i64 x9),(35,.bool (x8||(decide (y12.fN=0))))]∧τ=[.map (wM AV.str AV.bool r2.2),.cells 0 (encGEnumeration a1),.cells 0 [.str y12.fName,.int .i64 y12.fN]]) ?_ ?_
 · refine zH (b:=x8) 31 rfl (fun hg31=>?_) (fun hg31=>?_)
   · refine rnN 4 ?_;refine zb ⟨rfl,_,_,⟨rfl,rfl⟩,.b hg31⟩
   refine rnN 4 ?_;refine zb ⟨rfl,_,_,⟨rfl,rfl⟩,.b hg31⟩
 rintro _ _ ⟨rfl,rfl⟩;refine rnN 1 ?_;refine nkN hK ?_;apply hZ38
 refine rgE tok [3,5,24,25,26] fun K hK=>?_
 simp only[go_sem,qb,qa,hw12];apply hK
 exact⟨_,_,_,qp q12.length,⟨p12++[y12],q12,x9+1,(x8||(decide (y12.fN=0))),rfl,rfl,rfl,hE'12,hi'12,h⟩,(.t [0,1] false)⟩
def zx.l29 (a0:GSchema):List GMethod→Int→List (List UInt8×Bool)→Option Int
 |[],x26,l25=>some 0
 |y29::q29,x26,l25=>bnd (zI a0 y29.fIn) fun r35=>bnd (zI a0 y29.fOut) fun r36=>(yp l25 y29.fName).bind fun r37=>(if (!r37.1)=true then some 6 else (if ((!r35.2)||(!r36.2))=true then some 8 else ((zx.l29 a0 q29) (x26+1) r37.2)))
def zx.l22 (a0:GSchema):List GEnumeration→Int→List (List UInt8×Bool)→Option Int
 |[],x19,l18=>(zx.l29 a0 a0.fMethods 0 [])
 |y22::q22,x19,l18=>(yB l18 y22).bind fun r44=>(if r44.1=0 then ((zx.l22 a0 q22) (x19+1) r44.2) else some r44.1)
def zx.l15 (a0:GSchema):List GMessage→Int→List (List UInt8×Bool)→Option Int
 |[],x12,l11=>(zx.l22 a0 a0.fEnums 0 l11)
 |y15::q15,x12,l11=>(zG a0 l11 y15).bind fun r52=>(if r52.1=0 then ((zx.l15 a0 q15) (x12+1) r52.2) else some r52.1)
def zx (a0:GSchema):Option Int:=
 (yK a0.fName).bind fun r2=>(if (!r2)=true then some 6 else (if (qc a0.fMessages:Int)=0 then some 12 else (if (((decide (10<(qc a0.fMessages:Int)))||(decide (6<(qc a0.fEnums:Int))))||(decide (6<(qc a0.fMethods:Int))))=true then some 4 else (zx.l15 a0 a0.fMessages 0 []))))
theorem zx.ok (a0:GSchema)(r:Int)(h:zx a0=some r):ACalls qh 39 [.agg (encGSchema a0)] [] (fun r' _=>r'=.int .i64 r):=by
 refine zf (rs:=[.tmp 2]) tok Tryz.func39 rfl Tryz.ntmps39 rfl Tryz.call39 (by simp) ?_;refine zk [(0,.agg (encGSchema a0))] ⟨rfl,trivial⟩ ?_;unfold zx at h
 refine rg tok [1] fun K hK=>?_
 simp only[go_sem,qb,qa,qd,reduceCtorEq,encGSchema];apply hK
 refine za fun Z1 hZ1=>?_
 apply ze
 refine rc [1,17] fun K hK=>?_
 obtain⟨r2,hr2,h⟩:=bind_some h;refine rnN 2 ?_;refine clN rfl rfl rfl (yK.ev a0.fName r2 hr2 _) ?_;refine rnN 2 ?_;refine nkN hK ?_;refine zm (b:=(!r2)) rfl (fun hc3=>?_) (fun hc3=>?_)
 · rw[if_pos hc3] at h;refine rgN [2] ?_;cases h;exact rtA
 rw[xQ hc3] at h;refine rgN [1,22] ?_;refine zq rfl (fun hc4=>?_) (fun hc4=>?_)
 · rw[if_pos hc4] at h;have t5:=eq_true hc4
   refine rg tok [2] fun K hK=>?_
   simp only[go_sem,qb,qa,t5];apply hK
   cases h;exact rtA
 rw[if_neg hc4] at h;have t6:=eq_false hc4
 refine rc [1,27] fun K hK=>?_
 refine zi tok 5 ?_;simp only[go_sem,qb,qa,qd,t6];refine zh 5 (fun L τ=>L=[(1,.op 0 0 0),(37,.bool ((decide (10<(qc a0.fMessages:Int)))||(decide (6<(qc a0.fEnums:Int)))))]∧τ=[.cells 0 (encGSchema a0)]) ?_ ?_
 · refine yw 32 rfl (fun hg32=>?_) (fun hg32=>?_)
   · have t7:=eq_true hg32;refine rnN 5 ?_;refine zb ⟨rfl,_,_,⟨rfl,rfl⟩,.p t7⟩
   have t8:=eq_false hg32;refine rnN 5 ?_;refine zb ⟨rfl,_,_,⟨rfl,rfl⟩,.p t8⟩
 rintro _ _ ⟨rfl,rfl⟩;refine rnN 1 ?_;refine zh 5 (fun L τ=>L=[(1,.op 0 0 0),(43,.bool (((decide (10<(qc a0.fMessages:Int)))||(decide (6<(qc a0.fEnums:Int))))||(decide (6<(qc a0.fMethods:Int)))))]∧τ=[.cells 0 (encGSchema a0)]) ?_ ?_
 · refine zH (b:=((decide (10<(qc a0.fMessages:Int)))||(decide (6<(qc a0.fEnums:Int))))) 38 rfl (fun hg38=>?_) (fun hg38=>?_)
   · refine rnN 5 ?_;refine zb ⟨rfl,_,_,⟨rfl,rfl⟩,.b hg38⟩
   refine rnN 5 ?_;refine zb ⟨rfl,_,_,⟨rfl,rfl⟩,.b hg38⟩
 rintro _ _ ⟨rfl,rfl⟩;refine rnN 1 ?_;refine nkN hK ?_;refine zm (b:=(((decide (10<(qc a0.fMessages:Int)))||(decide (6<(qc a0.fEnums:Int))))||(decide (6<(qc a0.fMethods:Int))))) rfl (fun hc9=>?_) (fun hc9=>?_)
 · rw[if_pos hc9] at h;refine rgN [2] ?_;cases h;exact rtA
 rw[xQ hc9] at h;apply zd;apply hZ1;refine rgN [1,3] ?_;refine zU (L:=[(1,.op 0 0 0),(3,.mp 1)]) (τ:=[.cells 0 (encGSchema a0),.map (wM AV.str AV.bool [])]) .s ?_
 refine za fun Z10 hZ10=>?_
 refine rgN [1,3,46,47,48] ?_;apply ze
 refine yP 46 fun hb15=>?_
 replace hb15:qc a0.fMessages≤9223372036854775807:=hb15.1;refine zp (fun m L τ=>∃ (p15 q15:List GMessage) (x12:Int) (l11:List (List UInt8×Bool)),m=qc q15∧L=[(1,.op 0 0 0),(3,.mp 1),(46,.ds true (qe encGMessage a0.fMessages) (qc a0.fMessages) false),(47,.int .i64 (qc a0.fMessages:Int)),(48,.int .i64 x12)]∧τ=[.cells 0 (encGSchema a0),.map (wM AV.str AV.bool l11)]∧a0.fMessages=p15++q15∧x12=(qc p15:Int)∧zx.l15 a0 q15 x12 l11=some r) _ ⟨[],a0.fMessages,0,[],rfl,rfl,rfl,rfl,rfl,h⟩ .s ?_;rintro m L τ ⟨p15,q15,x12,l11,rfl,rfl,rfl,hE15,hi15,h⟩
 rcases q15 with _|⟨y15,q15⟩
 · have hz15:=yl hE15 hi15;simp only[zx.l15] at h
   refine rg tok [1,3,46,47,48,49] fun K hK=>?_
   simp only[go_sem,qb,qa,hz15];apply hK
   refine za fun Z16 hZ16=>?_
   refine zn rfl ?_;apply zr;apply hZ10
   refine za fun Z17 hZ17=>?_
   refine rgN [1,3,61,62,63] ?_;apply ze
   refine yP 61 fun hb22=>?_
   replace hb22:qc a0.fEnums≤9223372036854775807:=hb22.1;refine zp (fun m L τ=>∃ (p22 q22:List GEnumeration) (x19:Int) (l18:List (List UInt8×Bool)),m=qc q22∧L=[(1,.op 0 0 0),(3,.mp 1),(61,.ds true (qe encGEnumeration a0.fEnums) (qc a0.fEnums) false),(62,.int .i64 (qc a0.fEnums:Int)),(63,.int .i64 x19)]∧τ=[.cells 0 (encGSchema a0),.map (wM AV.str AV.bool l18)]∧a0.fEnums=p22++q22∧x19=(qc p22:Int)∧zx.l22 a0 q22 x19 l18=some r) _ ⟨[],a0.fEnums,0,l11,rfl,rfl,rfl,rfl,rfl,h⟩ .s ?_;rintro m L τ ⟨p22,q22,x19,l18,rfl,rfl,rfl,hE22,hi22,h⟩
   rcases q22 with _|⟨y22,q22⟩
   · have hz22:=yl hE22 hi22;simp only[zx.l22] at h
     refine rg tok [1,3,61,62,63,64] fun K hK=>?_
     simp only[go_sem,qb,qa,hz22];apply hK
     refine za fun Z23 hZ23=>?_
     refine zn rfl ?_;apply zr;apply hZ17;refine rgN [1,10] ?_;refine zU (L:=[(1,.op 0 0 0),(10,.mp 2)]) (τ:=[.cells 0 (encGSchema a0),.map (wM AV.str AV.bool l18),.map (wM AV.str AV.bool [])]) .s ?_
     refine za fun Z24 hZ24=>?_
     refine rgN [1,10,76,77,78] ?_;apply ze
     refine yP 76 fun hb29=>?_
     replace hb29:qc a0.fMethods≤9223372036854775807:=hb29.1;refine zp (fun m L τ=>∃ (p29 q29:List GMethod) (x26:Int) (l25:List (List UInt8×Bool)),m=qc q29∧L=[(1,.op 0 0 0),(10,.mp 1),(76,.ds true (qe encGMethod a0.fMethods) (qc a0.fMethods) false),(77,.int .i64 (qc a0.fMethods:Int)),(78,.int .i64 x26)]∧τ=[.cells 0 (encGSchema a0),.map (wM AV.str AV.bool l25)]∧a0.fMethods=p29++q29∧x26=(qc p29:Int)∧zx.l29 a0 q29 x26 l25=some r) _ ⟨[],a0.fMethods,0,[],rfl,rfl,rfl,rfl,rfl,h⟩ (.t [0,2] false) ?_;rintro m L τ ⟨p29,q29,x26,l25,rfl,rfl,rfl,hE29,hi29,h⟩
     rcases q29 with _|⟨y29,q29⟩
     · have hz29:=yl hE29 hi29;simp only[zx.l29] at h
       refine rg tok [1,10,76,77,78,79] fun K hK=>?_
       simp only[go_sem,qb,qa,hz29];apply hK
       refine za fun Z30 hZ30=>?_
       refine zn rfl ?_;apply zr;apply hZ24;refine rgN [2] ?_;cases h;exact rtA
     obtain⟨hz29,hw29,hx29,hE'29,hi'29⟩:=zV hE29 hi29 hb29;simp only[zx.l29] at h
     refine rg tok [1,10,76,77,78,79] fun K hK=>?_
     simp only[go_sem,qb,qa,hz29];apply hK
     refine za fun Z31 hZ31=>?_
     refine zo rfl ?_;apply zd;apply hZ31
     refine za fun Z32 hZ32=>?_
     apply ze;have f33:=E24.idxS hx29;have f34:=E24.loadS rfl rfl hx29
     refine rg tok [1,10,12,76,77,78] fun K hK=>?_
     simp only[go_sem,qb,qf,qa,qd,encGMethod,f33,f34];apply hK
     refine rc [1,10,12,14,76,77,78] fun K hK=>?_
     obtain⟨r35,hr35,h⟩:=zQ h;refine rnN 3 ?_;refine clN rfl rfl rfl (zI.ev a0 y29.fIn r35 hr35 _) ?_;refine zi tok 6 ?_;simp only[go_sem,qb,qf,qa,qd,encGMessage];refine nkN hK ?_
     refine rc [1,10,12,14,16,76,77,78] fun K hK=>?_
     obtain⟨r36,hr36,h⟩:=zQ h;refine rnN 3 ?_;refine clN rfl rfl rfl (zI.ev a0 y29.fOut r36 hr36 _) ?_;refine zi tok 6 ?_;simp only[go_sem,qb,qf,qa,qd,encGMessage];refine nkN hK ?_;apply ze
     refine rc [1,10,14,16,76,77,78,96] fun K hK=>?_
     obtain⟨r37,hr37,h⟩:=bind_some h;refine rnN 3 ?_;refine clN rfl rfl rfl (@id (ACalls qh 63 [.mp 1,.str y29.fName] [.cells 0 (encGSchema a0),.map (wM AV.str AV.bool l25),.cells 0 [.str y29.fName,.str y29.fIn,.str y29.fOut],.cells 0 (encGMessage r35.1),.cells 0 (encGMessage r36.1)] (fun r' σ'=>r'=.bool r37.1∧σ'=[.cells 0 (encGSchema a0),.map (wM AV.str AV.bool r37.2),.cells 0 [.str y29.fName,.str y29.fIn,.str y29.fOut],.cells 0 (encGMessage r35.1),.cells 0 (encGMessage r36.1)])) ((yp.ok l25 y29.fName r37 hr37).i [1])) ?_;refine rnN 2 ?_;refine nkN hK ?_;refine zm (b:=(!r37.1)) rfl (fun hc38=>?_) (fun hc38=>?_)
     · rw[if_pos hc38] at h;refine rgN [2] ?_;cases h;exact rtA
     rw[xQ hc38] at h
     refine rc [1,10,76,77,78,102] fun K hK=>?_
     refine rnN 3 ?_;refine zh 3 (fun L τ=>L=[(1,.op 0 0 0),(10,.mp 1),(76,.ds true (qe encGMethod a0.fMethods) (qc a0.fMethods) false),(77,.int .i64 (qc a0.fMethods:Int)),(78,.int .i64 x26),(108,.bool ((!r35.2)||(!r36.2)))]∧τ=[.cells 0 (encGSchema a0),.map (wM AV.str AV.bool r37.2),.cells 0 [.str y29.fName,.str y29.fIn,.str y29.fOut],.cells 0 (encGMessage r35.1),.cells 0 (encGMessage r36.1)]) ?_ ?_
     · refine zH (b:=(!r35.2)) 105 rfl (fun hg105=>?_) (fun hg105=>?_)
       · refine rnN 3 ?_;refine zb ⟨rfl,_,_,⟨rfl,rfl⟩,.b hg105⟩
       refine rnN 3 ?_;refine zb ⟨rfl,_,_,⟨rfl,rfl⟩,.b hg105⟩
     rintro _ _ ⟨rfl,rfl⟩;refine rnN 1 ?_;refine nkN hK ?_;refine zm (b:=((!r35.2)||(!r36.2))) rfl (fun hc39=>?_) (fun hc39=>?_)
     · rw[if_pos hc39] at h;refine rgN [2] ?_;cases h;exact rtA
     rw[xQ hc39] at h;apply zd;apply hZ32
     refine rgE tok [1,10,76,77,78] fun K hK=>?_
     simp only[go_sem,qb,qa,hw29];apply hK
     exact⟨_,_,_,qp q29.length,⟨p29++[y29],q29,x26+1,r37.2,rfl,rfl,rfl,hE'29,hi'29,h⟩,(.t [0,1] false)⟩
   obtain⟨hz22,hw22,hx22,hE'22,hi'22⟩:=zV hE22 hi22 hb22;simp only[zx.l22] at h
   refine rg tok [1,3,61,62,63,64] fun K hK=>?_
   simp only[go_sem,qb,qa,hz22];apply hK
   refine za fun Z40 hZ40=>?_
   refine zo rfl ?_;apply zd;apply hZ40
   refine za fun Z41 hZ41=>?_
   apply ze;have f42:=E23.idxS hx22;have f43:=E23.loadS rfl rfl hx22
   refine rg tok [1,3,8,61,62,63] fun K hK=>?_
   simp only[go_sem,qb,qf,qa,qd,encGEnumeration,f42,f43];apply hK
   refine rc [1,3,9,61,62,63] fun K hK=>?_
   obtain⟨r44,hr44,h⟩:=bind_some h;refine rnN 2 ?_;refine clN rfl rfl rfl (@id (ACalls qh 62 [.mp 1,.agg (encGEnumeration y22)] [.cells 0 (encGSchema a0),.map (wM AV.str AV.bool l18),.cells 0 (encGEnumeration y22)] (fun r' σ'=>r'=.int .i64 r44.1∧σ'=[.cells 0 (encGSchema a0),.map (wM AV.str AV.bool r44.2),.cells 0 (encGEnumeration y22)])) ((yB.ok l18 y22 r44 hr44).i [1])) ?_;refine rnN 1 ?_;refine nkN hK ?_;refine rgN [1,3,9,61,62,63,71] ?_;refine zq rfl (fun hc45=>?_) (fun hc45=>?_)
   · rw[if_neg hc45] at h;have t46:=eq_false hc45
     refine rg tok [2] fun K hK=>?_
     simp only[go_sem,qb,qa,t46];apply hK
     cases h;exact rtA
   rw[if_pos hc45] at h;have t47:=eq_true hc45;apply zd;apply hZ41
   refine rgE tok [1,3,61,62,63] fun K hK=>?_
   simp only[go_sem,qb,qa,hw22,t47];apply hK
   exact⟨_,_,_,qp q22.length,⟨p22++[y22],q22,x19+1,r44.2,rfl,rfl,rfl,hE'22,hi'22,h⟩,(.t [0,1] false)⟩
 obtain⟨hz15,hw15,hx15,hE'15,hi'15⟩:=zV hE15 hi15 hb15;simp only[zx.l15] at h
 refine rg tok [1,3,46,47,48,49] fun K hK=>?_
 simp only[go_sem,qb,qa,hz15];apply hK
 refine za fun Z48 hZ48=>?_
 refine zo rfl ?_;apply zd;apply hZ48
 refine za fun Z49 hZ49=>?_
 apply ze;have f50:=E22.idxS hx15;have f51:=E22.loadS rfl rfl hx15
 refine rg tok [1,3,5,46,47,48] fun K hK=>?_
 simp only[go_sem,qb,qf,qa,qd,encGMessage,f50,f51];apply hK
 refine rc [1,3,6,46,47,48] fun K hK=>?_
 obtain⟨r52,hr52,h⟩:=bind_some h;refine rnN 3 ?_;refine clN rfl rfl rfl (@id (ACalls qh 61 [.agg (encGSchema a0),.mp 1,.agg (encGMessage y15)] [.cells 0 (encGSchema a0),.map (wM AV.str AV.bool l11),.cells 0 (encGMessage y15)] (fun r' σ'=>r'=.int .i64 r52.1∧σ'=[.cells 0 (encGSchema a0),.map (wM AV.str AV.bool r52.2),.cells 0 (encGMessage y15)])) ((zG.ok a0 l11 y15 r52 hr52).i [1])) ?_;refine rnN 1 ?_;refine nkN hK ?_;refine rgN [1,3,6,46,47,48,57] ?_;refine zq rfl (fun hc53=>?_) (fun hc53=>?_)
 · rw[if_neg hc53] at h;have t54:=eq_false hc53
   refine rg tok [2] fun K hK=>?_
   simp only[go_sem,qb,qa,t54];apply hK
   cases h;exact rtA
 rw[if_pos hc53] at h;have t55:=eq_true hc53;apply zd;apply hZ49
 refine rgE tok [1,3,46,47,48] fun K hK=>?_
 simp only[go_sem,qb,qa,hw15,t55];apply hK
 exact⟨_,_,_,qp q15.length,⟨p15++[y15],q15,x12+1,r52.2,rfl,rfl,rfl,hE'15,hi'15,h⟩,(.t [0,1] false)⟩
theorem zx.ev (a0:GSchema)(r:Int)(h:zx a0=some r)(σ:Store):ACalls qh 39 [.agg (encGSchema a0)] σ (fun r' σ'=>r'=.int .i64 r∧σ'=σ):=
 (zx.ok a0 r h).c σ
def xw (a0:GSchema)(a1:List UInt8)(a2:List UInt8):Option (GTree×Int):=
 (zx a0).bind fun r2=>(if r2=0 then bnd (zI a0 a1) fun r6=>(if (!r6.2)=true then some ((⟨0,0,[],([]:List GEntry),([]:List GRaw)⟩:GTree),14) else (zz rounds a0 r6.1 a2 1).bind fun r9=>some (r9.1,r9.2)) else some ((⟨0,0,[],([]:List GEntry),([]:List GRaw)⟩:GTree),1))
theorem xw.ok (a0:GSchema)(a1:List UInt8)(a2:List UInt8)(r:GTree×Int)(h:xw a0 a1 a2=some r):ACalls qh 16 [.agg (encGSchema a0),.str a1,.ds true (qe encB a2) (qc a2) false] [] (fun r' _=>r'=.tup [.agg (cellsGTree r.1),.int .i64 r.2]):=by
 refine zf (rs:=[.cell 6 30,.tmp 7]) tok Tryz.func16 rfl Tryz.ntmps16 rfl Tryz.call16 (by simp) ?_;refine zk [(0,.agg (encGSchema a0)),(1,.str a1),(2,.ds true (qe encB a2) (qc a2) false)] ⟨rfl,rfl,rfl,trivial⟩ ?_;unfold xw at h
 refine rg tok [1,2,3,6] fun K hK=>?_
 simp only[go_sem,qb,qa,qd,reduceCtorEq,encGSchema];apply hK
 refine za fun Z1 hZ1=>?_
 refine rc [1,2,3,6,12] fun K hK=>?_
 obtain⟨r2,hr2,h⟩:=bind_some h;refine rnN 1 ?_;refine clN rfl rfl rfl (zx.ev a0 r2 hr2 _) ?_;refine rnN 1 ?_;refine nkN hK ?_;refine zq rfl (fun hc3=>?_) (fun hc3=>?_)
 · rw[if_neg hc3] at h;have t4:=eq_false hc3
   refine rg tok [6,7] fun K hK=>?_
   simp only[go_sem,qb,qf,qa,qd,t4];apply hK
   cases h;exact rtA
 rw[if_pos hc3] at h;have t5:=eq_true hc3;apply zd;apply hZ1
 refine rc [2,3,6,8,9] fun K hK=>?_
 obtain⟨r6,hr6,h⟩:=zQ h;refine zi tok 2 ?_;simp only[go_sem,qb,qf,qa,qd,t5];refine clN rfl rfl rfl (zI.ev a0 a1 r6 hr6 _) ?_;refine zi tok 6 ?_;simp only[go_sem,qb,qf,qa,qd,encGMessage];refine nkN hK ?_
 refine za fun Z7 hZ7=>?_
 refine rgN [2,3,6,8,21] ?_;refine zm (b:=(!r6.2)) rfl (fun hc8=>?_) (fun hc8=>?_)
 · rw[if_pos hc8] at h;refine rgN [6,7] ?_;cases h;exact rtA
 rw[xQ hc8] at h;apply zd;apply hZ7
 refine rc [6,7] fun K hK=>?_
 obtain⟨r9,hr9,h⟩:=bind_some h;refine rnN 3 ?_;refine clN rfl rfl rfl (zz.ev rounds a0 r6.1 a2 1 r9 hr9 _) ?_;refine zi tok 4 ?_;simp only[go_sem,qb,qf,qa,qd,cellsGTree];refine nkN hK ?_;cases h;exact rtA
theorem xw.ev (a0:GSchema)(a1:List UInt8)(a2:List UInt8)(r:GTree×Int)(h:xw a0 a1 a2=some r)(σ:Store):ACalls qh 16 [.agg (encGSchema a0),.str a1,.ds true (qe encB a2) (qc a2) false] σ (fun r' σ'=>r'=.tup [.agg (cellsGTree r.1),.int .i64 r.2]∧σ'=σ):=
 (xw.ok a0 a1 a2 r h).c σ
def z8.l20 (xn:GTree→Int→Option Int)(a1:Int)(x7:Int)(rec10:Int→Int→Option Int):List GTree→Int→Int→Option Int
 |[],x17,x16=>(rec10 (x7+1) x16)
 |y20::q20,x17,x16=>(xn y20 (IntKind.i64.wrap (a1-1))).bind fun r26=>((z8.l20 xn a1 x7 rec10 q20) (x17+1) (if x16<r26 then r26 else x16))
def z8.l10 (xn:GTree→Int→Option Int)(a1:Int):List GEntry→Int→Int→Option Int
 |[],x7,x6=>some (IntKind.i64.wrap (x6+1))
 |y10::q10,x7,x6=>(z8.l20 xn a1 x7 (z8.l10 xn a1 q10) y10.fTrees 0 x6)
def z8.body (xn:GTree→Int→Option Int)(a0:GTree)(a1:Int):Option Int:=
 (if ((!(decide (a0.fKind=3)))||(decide (a1=0)))=true then some 0 else (z8.l10 xn a1 a0.fEntries 0 0))
theorem z8.step (xn:GTree→Int→Option Int)(ih_value_deep:∀ (a0:GTree) (a1:Int) (r:Int),xn a0 a1=some r→ACalls qh 152 [.agg (cellsGTree a0),.int .i64 a1] [] (fun r' _=>r'=.int .i64 r))(a0:GTree)(a1:Int)(r:Int)(h:z8.body xn a0 a1=some r):ACalls qh 152 [.agg (cellsGTree a0),.int .i64 a1] [] (fun r' _=>r'=.int .i64 r):=by
 have ev_value_deep:=fun a0 a1 r h σ=>(ih_value_deep a0 a1 r h).c σ
 refine zf (rs:=[.tmp 4]) tok Tryz.func152 rfl Tryz.ntmps152 rfl Tryz.call152 (by simp) ?_;refine zk [(0,.agg (cellsGTree a0)),(1,.int .i64 a1)] ⟨rfl,rfl,trivial⟩ ?_;unfold z8.body at h
 refine rg tok [1,2] fun K hK=>?_
 simp only[go_sem,qb,qa,qd,reduceCtorEq,cellsGTree];apply hK
 refine za fun Z1 hZ1=>?_
 refine rc [1,2,16] fun K hK=>?_
 refine rnN 4 ?_;refine zh 3 (fun L τ=>L=[(1,.int .i64 a1),(2,.op 0 0 0),(16,.bool ((!(decide (a0.fKind=3)))||(decide (a1=0))))]∧τ=[.cells 0 (cellsGTree a0)]) ?_ ?_
 · refine yw 13 rfl (fun hg13=>?_) (fun hg13=>?_)
   · have t2:=eq_false hg13;refine rnN 3 ?_;refine zb ⟨rfl,_,_,⟨rfl,rfl⟩,.p t2⟩
   have t3:=eq_true hg13;refine rnN 3 ?_;refine zb ⟨rfl,_,_,⟨rfl,rfl⟩,.p t3⟩
 rintro _ _ ⟨rfl,rfl⟩;refine nkN hK ?_;refine zm (b:=((!(decide (a0.fKind=3)))||(decide (a1=0)))) rfl (fun hc4=>?_) (fun hc4=>?_)
 · rw[if_pos hc4] at h;refine rgN [4] ?_;cases h;exact rtA
 rw[xQ hc4] at h;apply zd;apply hZ1;refine rgN [1,2,5] ?_
 refine za fun Z5 hZ5=>?_
 refine rgN [1,5,18,19,20] ?_;apply ze
 refine yP 18 fun hb10=>?_
 replace hb10:qc a0.fEntries≤9223372036854775807:=hb10.1;refine zp (fun m L τ=>∃ (p10 q10:List GEntry) (x7:Int) (x6:Int),m=qc q10∧L=[(1,.int .i64 a1),(5,.int .i64 x6),(18,.ds true (qe encGEntry a0.fEntries) (qc a0.fEntries) false),(19,.int .i64 (qc a0.fEntries:Int)),(20,.int .i64 x7)]∧τ=[]∧a0.fEntries=p10++q10∧x7=(qc p10:Int)∧z8.l10 xn a1 q10 x7 x6=some r) _ ⟨[],a0.fEntries,0,0,rfl,rfl,rfl,rfl,rfl,h⟩ (.t [] false) ?_;rintro m L τ ⟨p10,q10,x7,x6,rfl,rfl,rfl,hE10,hi10,h⟩
 rcases q10 with _|⟨y10,q10⟩
 · have hz10:=yl hE10 hi10;simp only[z8.l10] at h
   refine rg tok [1,5,18,19,20,21] fun K hK=>?_
   simp only[go_sem,qb,qa,hz10];apply hK
   refine za fun Z11 hZ11=>?_
   refine zn rfl ?_;apply zr;apply hZ5;refine rgN [4] ?_;cases h;exact rtA
 obtain⟨hz10,hw10,hx10,hE'10,hi'10⟩:=zV hE10 hi10 hb10;simp only[z8.l10] at h
 refine rg tok [1,5,18,19,20,21] fun K hK=>?_
 simp only[go_sem,qb,qa,hz10];apply hK
 refine za fun Z12 hZ12=>?_
 refine zo rfl ?_;apply zd;apply hZ12
 refine za fun Z13 hZ13=>?_
 apply ze;have f14:=E27.idxS hx10;have f15:=E27.loadS rfl rfl hx10
 refine rg tok [1,5,7,18,19,20] fun K hK=>?_
 simp only[go_sem,qb,qf,qa,qd,cellsGEntry,zS,f14,f15];apply hK
 refine rgN [1,5,18,19,20,25,26,27] ?_;apply ze
 refine yP 25 fun hb20=>?_
 replace hb20:qc y10.fTrees≤9223372036854775807:=hb20.1;refine zp (fun m L τ=>∃ (p20 q20:List GTree) (x17:Int) (x16:Int),m=qc q20∧L=[(1,.int .i64 a1),(5,.int .i64 x16),(18,.ds true (qe encGEntry a0.fEntries) (qc a0.fEntries) false),(19,.int .i64 (qc a0.fEntries:Int)),(20,.int .i64 x7),(25,.ds true (qe encGTree y10.fTrees) (qc y10.fTrees) false),(26,.int .i64 (qc y10.fTrees:Int)),(27,.int .i64 x17)]∧τ=[]∧y10.fTrees=p20++q20∧x17=(qc p20:Int)∧z8.l20 xn a1 x7 (z8.l10 xn a1 q10) q20 x17 x16=some r) _ ⟨[],y10.fTrees,0,x6,rfl,rfl,rfl,rfl,rfl,h⟩ (.t [] false) ?_;rintro m L τ ⟨p20,q20,x17,x16,rfl,rfl,rfl,hE20,hi20,h⟩
 rcases q20 with _|⟨y20,q20⟩
 · have hz20:=yl hE20 hi20;simp only[z8.l20] at h
   refine rg tok [1,5,18,19,20,25,26,27,28] fun K hK=>?_
   simp only[go_sem,qb,qa,hz20];apply hK
   refine za fun Z21 hZ21=>?_
   refine zn rfl ?_;apply zr;apply hZ13
   refine rgE tok [1,5,18,19,20] fun K hK=>?_
   simp only[go_sem,qb,qa,hw10];apply hK
   exact⟨_,_,_,qp q10.length,⟨p10++[y10],q10,x7+1,x16,rfl,rfl,rfl,hE'10,hi'10,h⟩,.s⟩
 obtain⟨hz20,hw20,hx20,hE'20,hi'20⟩:=zV hE20 hi20 hb20;simp only[z8.l20] at h
 refine rg tok [1,5,18,19,20,25,26,27,28] fun K hK=>?_
 simp only[go_sem,qb,qa,hz20];apply hK
 refine za fun Z22 hZ22=>?_
 refine zo rfl ?_;apply zd;apply hZ22
 refine za fun Z23 hZ23=>?_
 apply ze;have f24:=E90.idxS hx20;have f25:=E90.loadS rfl rfl hx20
 refine rg tok [1,5,9,18,19,20,25,26,27] fun K hK=>?_
 simp only[go_sem,qb,qf,qa,qd,cellsGTree,yU,f24,f25];apply hK
 refine rcE [1,5,18,19,20,25,26,27] fun K hK=>?_
 obtain⟨r26,hr26,h⟩:=bind_some h;refine rnN 4 ?_;refine clN rfl rfl rfl (ev_value_deep y20 (IntKind.i64.wrap (a1-1)) r26 hr26 _) ?_;refine zi tok 2 ?_;simp only[go_sem,qb,qa,vaB,foldO,vcc];refine nkN hK ?_;apply hZ23
 refine rgE tok [1,5,18,19,20,25,26,27] fun K hK=>?_
 simp only[go_sem,qb,qa,hw20];apply hK
 exact⟨_,_,_,qp q20.length,⟨p20++[y20],q20,x17+1,(if x16<r26 then r26 else x16),rfl,rfl,rfl,hE'20,hi'20,h⟩,(.t [] false)⟩
def z8 : Nat→GTree→Int→Option Int
 |0,_,_=>none
 |k+1,a0,a1=>z8.body (z8 k) a0 a1
theorem z8.all (k:Nat):(∀ (a0:GTree) (a1:Int) (r:Int),z8 k a0 a1=some r→ACalls qh 152 [.agg (cellsGTree a0),.int .i64 a1] [] (fun r' _=>r'=.int .i64 r)):=by
 induction k with
 |zero=>exact (fun a0 a1 r h=>by simp only[z8] at h; cases h)
 |succ k ih=>exact (fun a0 a1 r h=>z8.step _ ih a0 a1 r (by simpa only [z8] using h))
theorem z8.ev (k:Nat)(a0:GTree)(a1:Int)(r:Int)(h:z8 k a0 a1=some r)(σ:Store):ACalls qh 152 [.agg (cellsGTree a0),.int .i64 a1] σ (fun r' σ'=>r'=.int .i64 r∧σ'=σ):=
 ((z8.all k) a0 a1 r h).c σ
end
section
set_option maxRecDepth 4000
set_option maxHeartbeats 1000000
open AM
def wP (a0:GTree):Option Int:=
 (z8 rounds a0 101).bind fun r1=>some r1
theorem wP.ok (a0:GTree)(r:Int)(h:wP a0=some r):ACalls qh 131 [.agg (cellsGTree a0)] [] (fun r' _=>r'=.int .i64 r):=by
 refine zf (rs:=[.tmp 2]) tok Tryz.func131 rfl Tryz.ntmps131 rfl Tryz.call131 (by simp) ?_;refine zk [(0,.agg (cellsGTree a0))] ⟨rfl,trivial⟩ ?_;unfold wP at h
 refine rg tok [1] fun K hK=>?_
 simp only[go_sem,qb,qa,qd,reduceCtorEq,cellsGTree];apply hK
 refine rc [2] fun K hK=>?_
 obtain⟨r1,hr1,h⟩:=bind_some h;refine rnN 1 ?_;refine clN rfl rfl rfl (z8.ev rounds a0 101 r1 hr1 _) ?_;refine rnN 1 ?_;refine nkN hK ?_;cases h;exact rtA
theorem wP.ev (a0:GTree)(r:Int)(h:wP a0=some r)(σ:Store):ACalls qh 131 [.agg (cellsGTree a0)] σ (fun r' σ'=>r'=.int .i64 r∧σ'=σ):=
 (wP.ok a0 r h).c σ
def yv (a0:GRaw):Bool:=
 (if ((decide (a0.fTag<1))||(decide (500<a0.fTag)))=true then false else (if a0.fWire=0 then decide (a0.fB=[]) else (if a0.fWire=1 then ((decide (a0.fN=0))&&(decide ((qc a0.fB:Int)≤4096))) else false)))
theorem yv.ok (a0:GRaw)(r:Bool)(h:yv a0=r):ACalls qh 51 [.agg (encGRaw a0)] [] (fun r' _=>r'=.bool r):=by
 refine zf (rs:=[.tmp 2]) tok Tryz.func51 rfl Tryz.ntmps51 rfl Tryz.call51 (by simp) ?_;refine zk [(0,.agg (encGRaw a0))] ⟨rfl,trivial⟩ ?_;unfold yv at h
 refine rg tok [1] fun K hK=>?_
 simp only[go_sem,qb,qa,qd,reduceCtorEq,encGRaw];apply hK
 refine za fun Z1 hZ1=>?_
 refine rc [1,10] fun K hK=>?_
 refine rnN 4 ?_;refine zh 4 (fun L τ=>L=[(1,.op 0 0 0),(10,.bool ((decide (a0.fTag<1))||(decide (500<a0.fTag))))]∧τ=[.cells 0 [.int .i64 a0.fTag,.int .i64 a0.fWire,.int .i64 a0.fN,.str a0.fB]]) ?_ ?_
 · refine yw 6 rfl (fun hg6=>?_) (fun hg6=>?_)
   · have t2:=eq_true hg6;refine rnN 4 ?_;refine zb ⟨rfl,_,_,⟨rfl,rfl⟩,.p t2⟩
   have t3:=eq_false hg6;refine rnN 4 ?_;refine zb ⟨rfl,_,_,⟨rfl,rfl⟩,.p t3⟩
 rintro _ _ ⟨rfl,rfl⟩;refine nkN hK ?_;refine zm (b:=((decide (a0.fTag<1))||(decide (500<a0.fTag)))) rfl (fun hc4=>?_) (fun hc4=>?_)
 · rw[if_pos hc4] at h;refine rgN [2] ?_;cases h;exact rtA
 rw[xQ hc4] at h;apply zd;apply hZ1
 refine za fun Z5 hZ5=>?_
 refine rgN [1,12] ?_;apply ze;refine rgN [1,12,13] ?_;refine zq rfl (fun hc6=>?_) (fun hc6=>?_)
 · rw[if_pos hc6] at h;have t7:=eq_true hc6
   refine rg tok [2] fun K hK=>?_
   simp only[go_sem,qb,qa,qd,t7];apply hK
   cases h;exact rtA
 rw[if_neg hc6] at h;have t8:=eq_false hc6
 refine rg tok [1,18] fun K hK=>?_
 simp only[go_sem,qb,qa,t8];apply hK
 refine zq rfl (fun hc9=>?_) (fun hc9=>?_)
 · rw[if_pos hc9] at h;have t10:=eq_true hc9
   refine rc [2] fun K hK=>?_
   refine zi tok 4 ?_;simp only[go_sem,qb,qa,qd,t10];refine zh 5 (fun L τ=>L=[(28,.bool ((decide (a0.fN=0))&&(decide ((qc a0.fB:Int)≤4096))))]∧τ=[.cells 0 [.int .i64 a0.fTag,.int .i64 a0.fWire,.int .i64 a0.fN,.str a0.fB]]) ?_ ?_
   · refine yw 23 rfl (fun hg23=>?_) (fun hg23=>?_)
     · have t11:=eq_true hg23;refine rnN 5 ?_;refine zb ⟨rfl,_,_,⟨rfl,rfl⟩,.p t11⟩
     have t12:=eq_false hg23;refine rnN 5 ?_;refine zb ⟨rfl,_,_,⟨rfl,rfl⟩,.p t12⟩
   rintro _ _ ⟨rfl,rfl⟩;refine rnN 1 ?_;refine nkN hK ?_;cases h;exact rtA
 rw[if_neg hc9] at h;have t13:=eq_false hc9;apply zd;apply hZ5
 refine rg tok [2] fun K hK=>?_
 simp only[go_sem,qb,qa,t13];apply hK
 cases h;exact rtA
theorem yv.ev (a0:GRaw)(r:Bool)(h:yv a0=r)(σ:Store):ACalls qh 51 [.agg (encGRaw a0)] σ (fun r' σ'=>r'=.bool r∧σ'=σ):=
 (yv.ok a0 r h).c σ
def xl.l4 (a0:List GRaw):Nat→Int→Option Bool
 |0,_=>none
 |k4+1,x2=>(if x2<(qc a0:Int) then (Zv a0 x2).bind fun y9=>(Zv a0 (IntKind.i64.wrap (x2-1))).bind fun y12=>(if y9.fTag<y12.fTag then some false else ((xl.l4 a0 k4) (IntKind.i64.wrap (x2+1)))) else some true)
def xl (a0:List GRaw):Option Bool:=
 (xl.l4 a0 rounds 1)
theorem xl.ok (a0:List GRaw)(r:Bool)(h:xl a0=some r):ACalls qh 159 [.ds true (qe encGRaw a0) (qc a0) false] [] (fun r' _=>r'=.bool r):=by
 refine zf (rs:=[.tmp 2]) tok Tryz.func159 rfl Tryz.ntmps159 rfl Tryz.call159 (by simp) ?_;refine zk [(0,.ds true (qe encGRaw a0) (qc a0) false)] ⟨rfl,trivial⟩ ?_;unfold xl at h;refine rgN [0] ?_
 refine za fun Z1 hZ1=>?_
 refine rgN [0,3] ?_;apply ze;refine zp (fun m L τ=>∃ (k4:Nat) (x2:Int),m=0+k4∧L=[(0,.ds true (qe encGRaw a0) (qc a0) false),(3,.int .i64 x2)]∧τ=[]∧xl.l4 a0 k4 x2=some r) _ ⟨rounds,1,rfl,rfl,rfl,h⟩ .s ?_;rintro m L τ ⟨k4,x2,rfl,rfl,rfl,h⟩
 rcases k4 with _|k4
 · cases h
 simp only[xl.l4] at h
 refine za fun Z5 hZ5=>?_
 refine rgN [0,3,7] ?_;refine zq rfl (fun hc6=>?_) (fun hc6=>?_)
 · rw[if_pos hc6] at h;have t7:=eq_true hc6;apply zd;apply hZ5
   refine za fun Z8 hZ8=>?_
   apply ze;obtain⟨y9,hy9,h⟩:=bind_some h;have f10:=E28.idxS hy9;have f11:=E28.fldS0 (f:=3) rfl rfl hy9;obtain⟨y12,hy12,h⟩:=bind_some h;have f13:=E28.idxS hy12;have f14:=E28.fldS0 (f:=3) rfl rfl hy12
   refine rd [0,3,21] fun K hK=>?_
   refine DW.start (T:=tab) [.any,.any,.any,.any,.at [],.any,.any,.any,.any,.any,.at [],.any] [] ?_;refine DW.runN tok 8 ?_;simp only[go_sem,qb,qa,reduceCtorEq,encGRaw,t7,f10,f11];refine DW.runN tok 4 ?_;simp only[go_sem,qb,qa,reduceCtorEq,encGRaw,f13,f14];refine DW.fin tok (by decide +kernel) rfl ?_;simp only[zj,upd,qa,reduceIte,yu,xe];apply hK
   refine zq rfl (fun hc15=>?_) (fun hc15=>?_)
   · rw[if_pos hc15] at h;have t16:=eq_true hc15
     refine rg tok [2] fun K hK=>?_
     simp only[go_sem,qb,qa,reduceCtorEq,t16];apply hK
     cases h;exact rtA
   rw[if_neg hc15] at h;have t17:=eq_false hc15;apply zd;apply hZ8
   refine rgE tok [0,3] fun K hK=>?_
   simp only[go_sem,qb,qa,reduceCtorEq,t17];apply hK
   exact⟨_,_,_,qp (0+k4),⟨k4,IntKind.i64.wrap (x2+1),rfl,rfl,rfl,h⟩,.s⟩
 rw[if_neg hc6] at h;have t18:=eq_false hc6;apply zr;apply hZ1
 refine rg tok [2] fun K hK=>?_
 simp only[go_sem,qb,qa,reduceCtorEq,t18];apply hK
 cases h;exact rtA
theorem xl.ev (a0:List GRaw)(r:Bool)(h:xl a0=some r)(σ:Store):ACalls qh 159 [.ds true (qe encGRaw a0) (qc a0) false] σ (fun r' σ'=>r'=.bool r∧σ'=σ):=
 (xl.ok a0 r h).c σ
def yN.l16 (x2:Int)(rec4:Int→Option Bool)(y4:GRaw):List GEntry→Int→Option Bool
 |[],x14=>(rec4 (x2+1))
 |y16::q16,x14=>(if y16.fTag=y4.fTag then some false else ((yN.l16 x2 rec4 y4 q16) (x14+1)))
def yN.l4 (a0:GTree):List GRaw→Int→Option Bool
 |[],x2=>(xl a0.fRest).bind fun r6=>some r6
 |y4::q4,x2=>bnd (yv y4) fun r12=>(if (!r12)=true then some false else (yN.l16 x2 (yN.l4 a0 q4) y4 a0.fEntries 0))
def yN (a0:GTree):Option Bool:=
 (yN.l4 a0 a0.fRest 0)
theorem yN.ok (a0:GTree)(r:Bool)(h:yN a0=some r):ACalls qh 154 [.agg (cellsGTree a0)] [] (fun r' _=>r'=.bool r):=by
 refine zf (rs:=[.tmp 2]) tok Tryz.func154 rfl Tryz.ntmps154 rfl Tryz.call154 (by simp) ?_;refine zk [(0,.agg (cellsGTree a0))] ⟨rfl,trivial⟩ ?_;unfold yN at h
 refine rg tok [1] fun K hK=>?_
 simp only[go_sem,qb,qa,qd,reduceCtorEq,cellsGTree];apply hK
 refine za fun Z1 hZ1=>?_
 refine rgN [1,8,9,10] ?_;apply ze
 refine yP 8 fun hb4=>?_
 replace hb4:qc a0.fRest≤9223372036854775807:=hb4.1;refine zp (fun m L τ=>∃ (p4 q4:List GRaw) (x2:Int),m=qc q4∧L=[(1,.op 0 0 0),(8,.ds true (qe encGRaw a0.fRest) (qc a0.fRest) false),(9,.int .i64 (qc a0.fRest:Int)),(10,.int .i64 x2)]∧τ=[.cells 0 (cellsGTree a0)]∧a0.fRest=p4++q4∧x2=(qc p4:Int)∧yN.l4 a0 q4 x2=some r) _ ⟨[],a0.fRest,0,rfl,rfl,rfl,rfl,rfl,h⟩ .s ?_;rintro m L τ ⟨p4,q4,x2,rfl,rfl,rfl,hE4,hi4,h⟩
 rcases q4 with _|⟨y4,q4⟩
 · have hz4:=yl hE4 hi4;simp only[yN.l4] at h
   refine rg tok [1,8,9,10,11] fun K hK=>?_
   simp only[go_sem,qb,qa,hz4];apply hK
   refine za fun Z5 hZ5=>?_
   refine zn rfl ?_;apply zr;apply hZ1
   refine rc [2] fun K hK=>?_
   obtain⟨r6,hr6,h⟩:=bind_some h;refine rnN 2 ?_;refine clN rfl rfl rfl (xl.ev a0.fRest r6 hr6 _) ?_;refine rnN 1 ?_;refine nkN hK ?_;cases h;exact rtA
 obtain⟨hz4,hw4,hx4,hE'4,hi'4⟩:=zV hE4 hi4 hb4;simp only[yN.l4] at h
 refine rg tok [1,8,9,10,11] fun K hK=>?_
 simp only[go_sem,qb,qa,hz4];apply hK
 refine za fun Z7 hZ7=>?_
 refine zo rfl ?_;apply zd;apply hZ7
 refine za fun Z8 hZ8=>?_
 apply ze;have f9:=E28.idxS hx4;have f10:=E28.loadS rfl rfl hx4
 refine rg tok [1,4,8,9,10] fun K hK=>?_
 simp only[go_sem,qb,qf,qa,qd,encGRaw,f9,f10];apply hK
 refine za fun Z11 hZ11=>?_
 refine rc [1,4,8,9,10,16] fun K hK=>?_
 obtain⟨r12,hr12,h⟩:=zQ h;refine rnN 1 ?_;refine clN rfl rfl rfl (yv.ev y4 r12 hr12 _) ?_;refine rnN 1 ?_;refine nkN hK ?_;refine zm (b:=(!r12)) rfl (fun hc13=>?_) (fun hc13=>?_)
 · rw[if_pos hc13] at h;refine rgN [2] ?_;cases h;exact rtA
 rw[xQ hc13] at h;apply zd;apply hZ11;refine rgN [1,4,8,9,10,18,19,20] ?_;apply ze
 refine yP 18 fun hb16=>?_
 replace hb16:qc a0.fEntries≤9223372036854775807:=hb16.1;refine zp (fun m L τ=>∃ (p16 q16:List GEntry) (x14:Int),m=qc q16∧L=[(1,.op 0 0 0),(4,.op 1 0 0),(8,.ds true (qe encGRaw a0.fRest) (qc a0.fRest) false),(9,.int .i64 (qc a0.fRest:Int)),(10,.int .i64 x2),(18,.ds true (qe encGEntry a0.fEntries) (qc a0.fEntries) false),(19,.int .i64 (qc a0.fEntries:Int)),(20,.int .i64 x14)]∧τ=[.cells 0 (cellsGTree a0),.cells 0 [.int .i64 y4.fTag,.int .i64 y4.fWire,.int .i64 y4.fN,.str y4.fB]]∧a0.fEntries=p16++q16∧x14=(qc p16:Int)∧yN.l16 x2 (yN.l4 a0 q4) y4 q16 x14=some r) _ ⟨[],a0.fEntries,0,rfl,rfl,rfl,rfl,rfl,h⟩ .s ?_;rintro m L τ ⟨p16,q16,x14,rfl,rfl,rfl,hE16,hi16,h⟩
 rcases q16 with _|⟨y16,q16⟩
 · have hz16:=yl hE16 hi16;simp only[yN.l16] at h
   refine rg tok [1,4,8,9,10,18,19,20,21] fun K hK=>?_
   simp only[go_sem,qb,qa,hz16];apply hK
   refine za fun Z17 hZ17=>?_
   refine zn rfl ?_;apply zr;apply hZ8
   refine rgE tok [1,8,9,10] fun K hK=>?_
   simp only[go_sem,qb,qa,hw4];apply hK
   exact⟨_,_,_,qp q4.length,⟨p4++[y4],q4,x2+1,rfl,rfl,rfl,hE'4,hi'4,h⟩,(.t [0] false)⟩
 obtain⟨hz16,hw16,hx16,hE'16,hi'16⟩:=zV hE16 hi16 hb16;simp only[yN.l16] at h
 refine rg tok [1,4,8,9,10,18,19,20,21] fun K hK=>?_
 simp only[go_sem,qb,qa,hz16];apply hK
 refine za fun Z18 hZ18=>?_
 refine zo rfl ?_;apply zd;apply hZ18
 refine za fun Z19 hZ19=>?_
 apply ze;have f20:=E27.idxS hx16;have f21:=E27.loadS rfl rfl hx16
 refine rg tok [1,4,6,8,9,10,18,19,20] fun K hK=>?_
 simp only[go_sem,qb,qf,qa,qd,cellsGEntry,zS,f20,f21];apply hK
 refine rgN [1,4,8,9,10,18,19,20,28] ?_;refine zq rfl (fun hc22=>?_) (fun hc22=>?_)
 · rw[if_pos hc22] at h;have t23:=eq_true hc22
   refine rg tok [2] fun K hK=>?_
   simp only[go_sem,qb,qa,t23];apply hK
   cases h;exact rtA
 rw[if_neg hc22] at h;have t24:=eq_false hc22;apply zd;apply hZ19
 refine rgE tok [1,4,8,9,10,18,19,20] fun K hK=>?_
 simp only[go_sem,qb,qa,hw16,t24];apply hK
 exact⟨_,_,_,qp q16.length,⟨p16++[y16],q16,x14+1,rfl,rfl,rfl,hE'16,hi'16,h⟩,(.t [0,1] false)⟩
theorem yN.ev (a0:GTree)(r:Bool)(h:yN a0=some r)(σ:Store):ACalls qh 154 [.agg (cellsGTree a0)] σ (fun r' σ'=>r'=.bool r∧σ'=σ):=
 (yN.ok a0 r h).c σ
def zy.j25 (x16:Int)(rec18:Int→Option Bool)(x24:Bool):Option Bool:=
 (if x24=true then some false else (rec18 (x16+1)))
def zy.l18 (yg:GTree→Option Bool)(x3:Int)(rec6:Int→Int→Option Bool)(y6:GEntry):List GTree→Int→Option Bool
 |[],x16=>(rec6 (x3+1) y6.fTag)
 |y18::q18,x16=>(Zv y6.fTrees 0).bind fun y27=>(if y18.fKind=y27.fKind then (yg y18).bind fun r32=>(zy.j25 x16 (zy.l18 yg x3 rec6 y6 q18) (!r32)) else (zy.j25 x16 (zy.l18 yg x3 rec6 y6 q18) true))
def zy.l6 (yg:GTree→Option Bool):List GEntry→Int→Int→Option Bool
 |[],x3,x2=>some true
 |y6::q6,x3,x2=>(if ((((decide (y6.fTag≤x2))||(decide (500<y6.fTag)))||(decide ((qc y6.fTrees:Int)<1)))||(decide (64<(qc y6.fTrees:Int))))=true then some false else (zy.l18 yg x3 (zy.l6 yg q6) y6 y6.fTrees 0))
def zy.body (xO:GTree→Option Bool)(yg:GTree→Option Bool)(a0:GTree):Option Bool:=
 (zy.l6 yg a0.fEntries 0 0)
theorem zy.step (xO:GTree→Option Bool)(yg:GTree→Option Bool)(Yh:∀ (a0:GTree) (r:Bool),xO a0=some r→ACalls qh 153 [.agg (cellsGTree a0)] [] (fun r' _=>r'=.bool r))(YL:∀ (a0:GTree) (r:Bool),yg a0=some r→ACalls qh 132 [.agg (cellsGTree a0)] [] (fun r' _=>r'=.bool r))(a0:GTree)(r:Bool)(h:zy.body xO yg a0=some r):ACalls qh 153 [.agg (cellsGTree a0)] [] (fun r' _=>r'=.bool r):=by
 have ev_value_entries:=fun a0 r h σ=>(Yh a0 r h).c σ
 have ev_value_right:=fun a0 r h σ=>(YL a0 r h).c σ
 refine zf (rs:=[.tmp 2]) tok Tryz.func153 rfl Tryz.ntmps153 rfl Tryz.call153 (by simp) ?_;refine zk [(0,.agg (cellsGTree a0))] ⟨rfl,trivial⟩ ?_;unfold zy.body at h
 refine rg tok [1] fun K hK=>?_
 simp only[go_sem,qb,qa,qd,reduceCtorEq,cellsGTree];apply hK
 refine rgN [1,3] ?_
 refine za fun Z1 hZ1=>?_
 refine rgN [3,9,10,11] ?_;apply ze
 refine yP 9 fun hb6=>?_
 replace hb6:qc a0.fEntries≤9223372036854775807:=hb6.1;refine zp (fun m L τ=>∃ (p6 q6:List GEntry) (x3:Int) (x2:Int),m=qc q6∧L=[(3,.int .i64 x2),(9,.ds true (qe encGEntry a0.fEntries) (qc a0.fEntries) false),(10,.int .i64 (qc a0.fEntries:Int)),(11,.int .i64 x3)]∧τ=[]∧a0.fEntries=p6++q6∧x3=(qc p6:Int)∧zy.l6 yg q6 x3 x2=some r) _ ⟨[],a0.fEntries,0,0,rfl,rfl,rfl,rfl,rfl,h⟩ (.t [] false) ?_;rintro m L τ ⟨p6,q6,x3,x2,rfl,rfl,rfl,hE6,hi6,h⟩
 rcases q6 with _|⟨y6,q6⟩
 · have hz6:=yl hE6 hi6;simp only[zy.l6] at h
   refine rg tok [3,9,10,11,12] fun K hK=>?_
   simp only[go_sem,qb,qa,hz6];apply hK
   refine za fun Z7 hZ7=>?_
   refine zn rfl ?_;apply zr;apply hZ1;refine rgN [2] ?_;cases h;exact rtA
 obtain⟨hz6,hw6,hx6,hE'6,hi'6⟩:=zV hE6 hi6 hb6;simp only[zy.l6] at h
 refine rg tok [3,9,10,11,12] fun K hK=>?_
 simp only[go_sem,qb,qa,hz6];apply hK
 refine za fun Z8 hZ8=>?_
 refine zo rfl ?_;apply zd;apply hZ8
 refine za fun Z9 hZ9=>?_
 apply ze;have f10:=E27.idxS hx6;have f11:=E27.loadS rfl rfl hx6
 refine rg tok [3,5,9,10,11] fun K hK=>?_
 simp only[go_sem,qb,qf,qa,qd,cellsGEntry,zS,f10,f11];apply hK
 refine za fun Z12 hZ12=>?_
 refine rc [5,9,10,11,35] fun K hK=>?_
 refine rnN 5 ?_;refine zh 4 (fun L τ=>L=[(5,.op 0 0 0),(9,.ds true (qe encGEntry a0.fEntries) (qc a0.fEntries) false),(10,.int .i64 (qc a0.fEntries:Int)),(11,.int .i64 x3),(23,.bool ((decide (y6.fTag≤x2))||(decide (500<y6.fTag))))]∧τ=[.cells 0 (cellsGEntry y6)]) ?_ ?_
 · refine yw 19 rfl (fun hg19=>?_) (fun hg19=>?_)
   · have t13:=eq_true hg19;refine rnN 4 ?_;refine zb ⟨rfl,_,_,⟨rfl,rfl⟩,.p t13⟩
   have t14:=eq_false hg19;refine rnN 4 ?_;refine zb ⟨rfl,_,_,⟨rfl,rfl⟩,.p t14⟩
 rintro _ _ ⟨rfl,rfl⟩;refine rnN 1 ?_;refine zh 5 (fun L τ=>L=[(5,.op 0 0 0),(9,.ds true (qe encGEntry a0.fEntries) (qc a0.fEntries) false),(10,.int .i64 (qc a0.fEntries:Int)),(11,.int .i64 x3),(29,.bool (((decide (y6.fTag≤x2))||(decide (500<y6.fTag)))||(decide ((qc y6.fTrees:Int)<1))))]∧τ=[.cells 0 (cellsGEntry y6)]) ?_ ?_
 · refine zH (b:=((decide (y6.fTag≤x2))||(decide (500<y6.fTag)))) 24 rfl (fun hg24=>?_) (fun hg24=>?_)
   · refine rnN 5 ?_;refine zb ⟨rfl,_,_,⟨rfl,rfl⟩,.b hg24⟩
   refine rnN 5 ?_;refine zb ⟨rfl,_,_,⟨rfl,rfl⟩,.b hg24⟩
 rintro _ _ ⟨rfl,rfl⟩;refine rnN 1 ?_;refine zh 5 (fun L τ=>L=[(5,.op 0 0 0),(9,.ds true (qe encGEntry a0.fEntries) (qc a0.fEntries) false),(10,.int .i64 (qc a0.fEntries:Int)),(11,.int .i64 x3),(35,.bool ((((decide (y6.fTag≤x2))||(decide (500<y6.fTag)))||(decide ((qc y6.fTrees:Int)<1)))||(decide (64<(qc y6.fTrees:Int)))))]∧τ=[.cells 0 (cellsGEntry y6)]) ?_ ?_
 · refine zH (b:=(((decide (y6.fTag≤x2))||(decide (500<y6.fTag)))||(decide ((qc y6.fTrees:Int)<1)))) 30 rfl (fun hg30=>?_) (fun hg30=>?_)
   · refine rnN 5 ?_;refine zb ⟨rfl,_,_,⟨rfl,rfl⟩,.b hg30⟩
   refine rnN 5 ?_;refine zb ⟨rfl,_,_,⟨rfl,rfl⟩,.b hg30⟩
 rintro _ _ ⟨rfl,rfl⟩;refine nkN hK ?_;refine zm (b:=((((decide (y6.fTag≤x2))||(decide (500<y6.fTag)))||(decide ((qc y6.fTrees:Int)<1)))||(decide (64<(qc y6.fTrees:Int))))) rfl (fun hc15=>?_) (fun hc15=>?_)
 · rw[if_pos hc15] at h;refine rgN [2] ?_;cases h;exact rtA
 rw[xQ hc15] at h;apply zd;apply hZ12;refine rgN [3,5,9,10,11] ?_;refine rgN [3,5,9,10,11,39,40,41] ?_;apply ze
 refine yP 39 fun hb18=>?_
 replace hb18:qc y6.fTrees≤9223372036854775807:=hb18.1;refine zp (fun m L τ=>∃ (p18 q18:List GTree) (x16:Int),m=qc q18∧L=[(3,.int .i64 y6.fTag),(5,.op 0 0 0),(9,.ds true (qe encGEntry a0.fEntries) (qc a0.fEntries) false),(10,.int .i64 (qc a0.fEntries:Int)),(11,.int .i64 x3),(39,.ds true (qe encGTree y6.fTrees) (qc y6.fTrees) false),(40,.int .i64 (qc y6.fTrees:Int)),(41,.int .i64 x16)]∧τ=[.cells 0 (cellsGEntry y6)]∧y6.fTrees=p18++q18∧x16=(qc p18:Int)∧zy.l18 yg x3 (zy.l6 yg q6) y6 q18 x16=some r) _ ⟨[],y6.fTrees,0,rfl,rfl,rfl,rfl,rfl,h⟩ .s ?_;rintro m L τ ⟨p18,q18,x16,rfl,rfl,rfl,hE18,hi18,h⟩
 rcases q18 with _|⟨y18,q18⟩
 · have hz18:=yl hE18 hi18;simp only[zy.l18] at h
   refine rg tok [3,5,9,10,11,39,40,41,42] fun K hK=>?_
   simp only[go_sem,qb,qa,hz18];apply hK
   refine za fun Z19 hZ19=>?_
   refine zn rfl ?_;apply zr;apply hZ9
   refine rgE tok [3,9,10,11] fun K hK=>?_
   simp only[go_sem,qb,qa,hw6];apply hK
   exact⟨_,_,_,qp q6.length,⟨p6++[y6],q6,x3+1,y6.fTag,rfl,rfl,rfl,hE'6,hi'6,h⟩,(.t [] false)⟩
 obtain⟨hz18,hw18,hx18,hE'18,hi'18⟩:=zV hE18 hi18 hb18;simp only[zy.l18] at h
 refine rg tok [3,5,9,10,11,39,40,41,42] fun K hK=>?_
 simp only[go_sem,qb,qa,hz18];apply hK
 refine za fun Z20 hZ20=>?_
 refine zo rfl ?_;apply zd;apply hZ20
 refine za fun Z21 hZ21=>?_
 apply ze;have f22:=E90.idxS hx18;have f23:=E90.loadS rfl rfl hx18
 refine rg tok [3,5,7,9,10,11,39,40,41] fun K hK=>?_
 simp only[go_sem,qb,qf,qa,qd,cellsGTree,yU,f22,f23];apply hK
 refine xG (fun L τ=>∃ (x24:Bool),L=[(3,.int .i64 y6.fTag),(5,.op 0 0 0),(9,.ds true (qe encGEntry a0.fEntries) (qc a0.fEntries) false),(10,.int .i64 (qc a0.fEntries:Int)),(11,.int .i64 x3),(39,.ds true (qe encGTree y6.fTrees) (qc y6.fTrees) false),(40,.int .i64 (qc y6.fTrees:Int)),(41,.int .i64 x16),(57,.bool x24)]∧τ=[.cells 0 (cellsGEntry y6)]∧zy.j25 x16 (zy.l18 yg x3 (zy.l6 yg q6) y6 q18) x24=some r) ?_ ?_
 · refine rdE [3,5,9,10,11,39,40,41,57] fun K hK=>?_
   refine DW.start (T:=tab) [.any,.at [],.any,.at [],.any,.any,.at [],.any,.any,.at [],.eff,.any,.any] [] ?_;obtain⟨y27,hy27,h⟩:=bind_some h;have f28:=E90.idxS hy27;have f29:=E90.fldS0 (f:=3) rfl rfl hy27;refine DW.runN tok 8 ?_;simp only[go_sem,qb,qa,qd,cellsGTree,yU,f28,f29];refine DW.runN tok 1 ?_;simp only[go_sem,qb,qa]
   refine DW.if 53 rfl (fun hg53=>?_) (fun hg53=>?_)
   · rw[if_neg hg53] at h;have t30:=eq_false hg53;refine DW.runN tok 4 ?_;simp only[go_sem,qb,qa,t30];refine DW.fin tok (by decide +kernel) rfl ?_;simp only[zj,upd,qa,reduceIte,yu,xe];apply hK
     exact⟨_,_,⟨true,rfl,rfl,h⟩,(.t [0] false)⟩
   rw[if_pos hg53] at h;have t31:=eq_true hg53;obtain⟨r32,hr32,h⟩:=bind_some h;refine DW.runN tok 1 ?_;simp only[go_sem,qb,qf,qa,qd,t31];refine DW.call rfl rfl rfl (ev_value_right y18 r32 hr32 _) ?_;refine DW.runN tok 2 ?_;simp only[go_sem,qb,qa];refine DW.fin tok (by decide +kernel) rfl ?_;simp only[zj,upd,qa,reduceIte,yu,xe];apply hK
   exact⟨_,_,⟨!r32,rfl,rfl,h⟩,(.t [0] false)⟩
 rintro _ _ ⟨x24,rfl,rfl,h⟩;unfold zy.j25 at h;refine zm (b:=x24) rfl (fun hc26=>?_) (fun hc26=>?_)
 · rw[if_pos hc26] at h;refine rgN [2] ?_;cases h;exact rtA
 rw[xQ hc26] at h;apply zd;apply hZ21
 refine rgE tok [3,5,9,10,11,39,40,41] fun K hK=>?_
 simp only[go_sem,qb,qa,hw18];apply hK
 exact⟨_,_,_,qp q18.length,⟨p18++[y18],q18,x16+1,rfl,rfl,rfl,hE'18,hi'18,h⟩,.s⟩
def xm.body (xO:GTree→Option Bool)(yg:GTree→Option Bool)(a0:GTree):Option Bool:=
 (if a0.fKind=1 then some (((decide (a0.fS=[]))&&(decide ((qc a0.fEntries:Int)=0)))&&(decide ((qc a0.fRest:Int)=0))) else (if a0.fKind=2 then some (((decide (a0.fN=0))&&(decide ((qc a0.fEntries:Int)=0)))&&(decide ((qc a0.fRest:Int)=0))) else (if a0.fKind=3 then (if ((decide (a0.fN=0))&&(decide (a0.fS=[])))=true then (xO a0).bind fun r16=>some r16 else some false).bind fun c16=>(if c16=true then (yN a0).bind fun r18=>some r18 else some false).bind fun c18=>some c18 else some false)))
theorem xm.step (xO:GTree→Option Bool)(yg:GTree→Option Bool)(Yh:∀ (a0:GTree) (r:Bool),xO a0=some r→ACalls qh 153 [.agg (cellsGTree a0)] [] (fun r' _=>r'=.bool r))(YL:∀ (a0:GTree) (r:Bool),yg a0=some r→ACalls qh 132 [.agg (cellsGTree a0)] [] (fun r' _=>r'=.bool r))(a0:GTree)(r:Bool)(h:xm.body xO yg a0=some r):ACalls qh 132 [.agg (cellsGTree a0)] [] (fun r' _=>r'=.bool r):=by
 have ev_value_entries:=fun a0 r h σ=>(Yh a0 r h).c σ
 have ev_value_right:=fun a0 r h σ=>(YL a0 r h).c σ
 refine zf (rs:=[.tmp 2]) tok Tryz.func132 rfl Tryz.ntmps132 rfl Tryz.call132 (by simp) ?_;refine zk [(0,.agg (cellsGTree a0))] ⟨rfl,trivial⟩ ?_;unfold xm.body at h
 refine rg tok [1] fun K hK=>?_
 simp only[go_sem,qb,qa,qd,reduceCtorEq,cellsGTree];apply hK
 refine za fun Z1 hZ1=>?_
 refine rgN [1,4] ?_;apply ze;refine rgN [1,4,5] ?_;refine zq rfl (fun hc2=>?_) (fun hc2=>?_)
 · rw[if_pos hc2] at h;have t3:=eq_true hc2
   refine rc [2] fun K hK=>?_
   refine zi tok 4 ?_;simp only[go_sem,qb,qa,qd,t3];refine zh 5 (fun L τ=>L=[(1,.op 0 0 0),(15,.bool ((decide (a0.fS=[]))&&(decide ((qc a0.fEntries:Int)=0))))]∧τ=[.cells 0 (cellsGTree a0)]) ?_ ?_
   · refine yw 10 rfl (fun hg10=>?_) (fun hg10=>?_)
     · have t4:=eq_true hg10;refine rnN 5 ?_;refine zb ⟨rfl,_,_,⟨rfl,rfl⟩,.p t4⟩
     have t5:=eq_false hg10;refine rnN 5 ?_;refine zb ⟨rfl,_,_,⟨rfl,rfl⟩,.p t5⟩
   rintro _ _ ⟨rfl,rfl⟩;refine rnN 1 ?_;refine zh 5 (fun L τ=>L=[(21,.bool (((decide (a0.fS=[]))&&(decide ((qc a0.fEntries:Int)=0)))&&(decide ((qc a0.fRest:Int)=0))))]∧τ=[.cells 0 (cellsGTree a0)]) ?_ ?_
   · refine zH (b:=((decide (a0.fS=[]))&&(decide ((qc a0.fEntries:Int)=0)))) 16 rfl (fun hg16=>?_) (fun hg16=>?_)
     · refine rnN 5 ?_;refine zb ⟨rfl,_,_,⟨rfl,rfl⟩,.b hg16⟩
     refine rnN 5 ?_;refine zb ⟨rfl,_,_,⟨rfl,rfl⟩,.b hg16⟩
   rintro _ _ ⟨rfl,rfl⟩;refine rnN 1 ?_;refine nkN hK ?_;cases h;exact rtA
 rw[if_neg hc2] at h;have t6:=eq_false hc2
 refine rg tok [1,4,22] fun K hK=>?_
 simp only[go_sem,qb,qa,t6];apply hK
 refine zq rfl (fun hc7=>?_) (fun hc7=>?_)
 · rw[if_pos hc7] at h;have t8:=eq_true hc7
   refine rc [2] fun K hK=>?_
   refine zi tok 4 ?_;simp only[go_sem,qb,qa,qd,t8];refine zh 5 (fun L τ=>L=[(1,.op 0 0 0),(32,.bool ((decide (a0.fN=0))&&(decide ((qc a0.fEntries:Int)=0))))]∧τ=[.cells 0 (cellsGTree a0)]) ?_ ?_
   · refine yw 27 rfl (fun hg27=>?_) (fun hg27=>?_)
     · have t9:=eq_true hg27;refine rnN 5 ?_;refine zb ⟨rfl,_,_,⟨rfl,rfl⟩,.p t9⟩
     have t10:=eq_false hg27;refine rnN 5 ?_;refine zb ⟨rfl,_,_,⟨rfl,rfl⟩,.p t10⟩
   rintro _ _ ⟨rfl,rfl⟩;refine rnN 1 ?_;refine zh 5 (fun L τ=>L=[(38,.bool (((decide (a0.fN=0))&&(decide ((qc a0.fEntries:Int)=0)))&&(decide ((qc a0.fRest:Int)=0))))]∧τ=[.cells 0 (cellsGTree a0)]) ?_ ?_
   · refine zH (b:=((decide (a0.fN=0))&&(decide ((qc a0.fEntries:Int)=0)))) 33 rfl (fun hg33=>?_) (fun hg33=>?_)
     · refine rnN 5 ?_;refine zb ⟨rfl,_,_,⟨rfl,rfl⟩,.b hg33⟩
     refine rnN 5 ?_;refine zb ⟨rfl,_,_,⟨rfl,rfl⟩,.b hg33⟩
   rintro _ _ ⟨rfl,rfl⟩;refine rnN 1 ?_;refine nkN hK ?_;cases h;exact rtA
 rw[if_neg hc7] at h;have t11:=eq_false hc7
 refine rg tok [1,39] fun K hK=>?_
 simp only[go_sem,qb,qa,t11];apply hK
 refine zq rfl (fun hc12=>?_) (fun hc12=>?_)
 · rw[if_pos hc12] at h;have t13:=eq_true hc12
   refine rc [2] fun K hK=>?_
   refine zi tok 4 ?_;simp only[go_sem,qb,qa,qd,t13];refine zh 4 (fun L τ=>L=[(1,.op 0 0 0),(48,.bool ((decide (a0.fN=0))&&(decide (a0.fS=[]))))]∧τ=[.cells 0 (cellsGTree a0)]) ?_ ?_
   · refine yw 44 rfl (fun hg44=>?_) (fun hg44=>?_)
     · have t14:=eq_true hg44;refine rnN 4 ?_;refine zb ⟨rfl,_,_,⟨rfl,rfl⟩,.p t14⟩
     have t15:=eq_false hg44;refine rnN 4 ?_;refine zb ⟨rfl,_,_,⟨rfl,rfl⟩,.p t15⟩
   rintro _ _ ⟨rfl,rfl⟩;refine rnN 1 ?_;obtain⟨c16,hc16,h⟩:=bind_some h;refine zh 3 (fun L τ=>L=[(1,.op 0 0 0),(52,.bool c16)]∧τ=[.cells 0 (cellsGTree a0)]) ?_ ?_
   · refine zH (b:=((decide (a0.fN=0))&&(decide (a0.fS=[])))) 49 rfl (fun hg49=>?_) (fun hg49=>?_)
     · rw[if_pos hg49] at hc16;obtain⟨r17,hr17,hc16⟩:=bind_some hc16;refine rnN 1 ?_;refine clN rfl rfl rfl (ev_value_entries a0 r17 hr17 _) ?_;refine rnN 1 ?_;cases hc16;refine zb ⟨rfl,_,_,⟨rfl,rfl⟩,.b hg49⟩
     rw[xQ hg49] at hc16;refine rnN 3 ?_;cases hc16;refine zb ⟨rfl,_,_,⟨rfl,rfl⟩,.b hg49⟩
   rintro _ _ ⟨rfl,rfl⟩;refine rnN 1 ?_;obtain⟨c18,hc18,h⟩:=bind_some h;refine zh 3 (fun L τ=>L=[(56,.bool c18)]∧τ=[.cells 0 (cellsGTree a0)]) ?_ ?_
   · refine zH (b:=c16) 53 rfl (fun hg53=>?_) (fun hg53=>?_)
     · rw[if_pos hg53] at hc18;obtain⟨r19,hr19,hc18⟩:=bind_some hc18;refine rnN 1 ?_;refine clN rfl rfl rfl (yN.ev a0 r19 hr19 _) ?_;refine rnN 1 ?_;cases hc18;refine zb ⟨rfl,_,_,⟨rfl,rfl⟩,.b hg53⟩
     rw[xQ hg53] at hc18;refine rnN 3 ?_;cases hc18;refine zb ⟨rfl,_,_,⟨rfl,rfl⟩,.b hg53⟩
   rintro _ _ ⟨rfl,rfl⟩;refine rnN 1 ?_;refine nkN hK ?_;cases h;exact rtA
 rw[if_neg hc12] at h;have t20:=eq_false hc12;apply zd;apply hZ1
 refine rg tok [2] fun K hK=>?_
 simp only[go_sem,qb,qa,t20];apply hK
 cases h;exact rtA
mutual
def zy : Nat→GTree→Option Bool
 |0,_=>none
 |k+1,a0=>zy.body (zy k) (xm k) a0
def xm : Nat→GTree→Option Bool
 |0,_=>none
 |k+1,a0=>xm.body (zy k) (xm k) a0
end
theorem zy.all (k:Nat):(∀ (a0:GTree) (r:Bool),zy k a0=some r→ACalls qh 153 [.agg (cellsGTree a0)] [] (fun r' _=>r'=.bool r))∧(∀ (a0:GTree) (r:Bool),xm k a0=some r→ACalls qh 132 [.agg (cellsGTree a0)] [] (fun r' _=>r'=.bool r)):=by
 induction k with
 |zero=>exact⟨(fun a0 r h=>by simp only[zy] at h; cases h),(fun a0 r h=>by simp only[xm] at h; cases h)⟩
 |succ k ih=>exact⟨(fun a0 r h=>zy.step _ _ ih.1 ih.2 a0 r (by simpa only [zy] using h)),(fun a0 r h=>xm.step _ _ ih.1 ih.2 a0 r (by simpa only [xm] using h))⟩
theorem xm.ev (k:Nat)(a0:GTree)(r:Bool)(h:xm k a0=some r)(σ:Store):ACalls qh 132 [.agg (cellsGTree a0)] σ (fun r' σ'=>r'=.bool r∧σ'=σ):=
 ((zy.all k).2 a0 r h).c σ
def wQ (a0:GTree):Option Bool:=
 (wP a0).bind fun r1=>(if r1≤10 then (xm rounds a0).bind fun r2=>some r2 else some false).bind fun c2=>some c2
theorem wQ.ok (a0:GTree)(r:Bool)(h:wQ a0=some r):ACalls qh 96 [.agg (cellsGTree a0)] [] (fun r' _=>r'=.bool r):=by
 refine zf (rs:=[.tmp 2]) tok Tryz.func96 rfl Tryz.ntmps96 rfl Tryz.call96 (by simp) ?_;refine zk [(0,.agg (cellsGTree a0))] ⟨rfl,trivial⟩ ?_;unfold wQ at h
 refine rg tok [1] fun K hK=>?_
 simp only[go_sem,qb,qa,qd,reduceCtorEq,cellsGTree];apply hK
 refine rc [2] fun K hK=>?_
 obtain⟨r1,hr1,h⟩:=bind_some h;refine rnN 1 ?_;refine clN rfl rfl rfl (wP.ev a0 r1 hr1 _) ?_;refine rnN 2 ?_;obtain⟨c2,hc2,h⟩:=bind_some h;refine zh 3 (fun L τ=>L=[(9,.bool c2)]∧τ=[.cells 0 (cellsGTree a0)]) ?_ ?_
 · refine yw 6 rfl (fun hg6=>?_) (fun hg6=>?_)
   · have t3:=eq_true hg6;rw[if_pos hg6] at hc2;obtain⟨r4,hr4,hc2⟩:=bind_some hc2;refine rnN 1 ?_;refine clN rfl rfl rfl (xm.ev rounds a0 r4 hr4 _) ?_;refine rnN 1 ?_;cases hc2;refine zb ⟨rfl,_,_,⟨rfl,rfl⟩,.p t3⟩
   have t5:=eq_false hg6;rw[if_neg hg6] at hc2;refine rnN 3 ?_;cases hc2;refine zb ⟨rfl,_,_,⟨rfl,rfl⟩,.p t5⟩
 rintro _ _ ⟨rfl,rfl⟩;refine rnN 1 ?_;refine nkN hK ?_;cases h;exact rtA
theorem wQ.ev (a0:GTree)(r:Bool)(h:wQ a0=some r)(σ:Store):ACalls qh 96 [.agg (cellsGTree a0)] σ (fun r' σ'=>r'=.bool r∧σ'=σ):=
 (wQ.ok a0 r h).c σ
def Yf (a0:Int):GValueValue:=
 (GValueValue.num a0)
theorem Yf.ok (a0:Int)(r:GValueValue)(h:Yf a0=r):ACalls qh 133 [.int .i64 a0] [] (fun r' _=>r'=.agg (encGValueValue r)):=by
 refine zf (rs:=[.cell 2 110]) tok Tryz.func133 rfl Tryz.ntmps133 rfl Tryz.call133 (by simp) ?_;refine zk [(0,.int .i64 a0)] ⟨rfl,trivial⟩ ?_;unfold Yf at h;refine rgN [0,2] ?_;refine rgN [2] ?_;cases h;exact rtA
theorem Yf.ev (a0:Int)(r:GValueValue)(h:Yf a0=r)(σ:Store):ACalls qh 133 [.int .i64 a0] σ (fun r' σ'=>r'=.agg (encGValueValue r)∧σ'=σ):=
 (Yf.ok a0 r h).c σ
def Ye (a0:List UInt8):GValueValue:=
 (GValueValue.str a0)
theorem Ye.ok (a0:List UInt8)(r:GValueValue)(h:Ye a0=r):ACalls qh 134 [.str a0] [] (fun r' _=>r'=.agg (encGValueValue r)):=by
 refine zf (rs:=[.cell 2 110]) tok Tryz.func134 rfl Tryz.ntmps134 rfl Tryz.call134 (by simp) ?_;refine zk [(0,.str a0)] ⟨rfl,trivial⟩ ?_;unfold Ye at h;refine rgN [0,2] ?_;refine rgN [2] ?_;cases h;exact rtA
theorem Ye.ev (a0:List UInt8)(r:GValueValue)(h:Ye a0=r)(σ:Store):ACalls qh 134 [.str a0] σ (fun r' σ'=>r'=.agg (encGValueValue r)∧σ'=σ):=
 (Ye.ok a0 r h).c σ
def y5 (a0:List GRaw):Option (List GRaw):=(Yg (qc a0) 40).bind fun _=>some a0
theorem y5.ok (a0 r:List GRaw)(h:y5 a0=some r):ACalls qh 135 [.ds true (qe encGRaw a0) (qc a0) false] [] (fun r' _=>r'=.ds true (qe encGRaw r) (qc r) false):=by
 obtain⟨_u,hu,h⟩:=bind_some h;have gu:=yf hu;cases h
 have f1:=fun nl tt σ=>xU E28.len a0 nl tt σ
 have f2:=zt E28.len a0;have f3:=Zu encGRaw a0
 have fin:∀ σ id ver tt,Store.at σ id ver=some (qe encGRaw a0)→tell σ [] true 12 (.os true 4 id ver 0 (qc a0) tt)=.ds true (qe encGRaw a0) (qc a0) false:=by
  intro σ id ver tt hs
  simp only[Zl,wJ,hs,qC,qq];rw[if_pos (by rw[f2]; exact qv _),← f2,ui,zP]
 refine zf (rs:=[.tmp 2]) tok Tryz.func135 rfl Tryz.ntmps135 rfl Tryz.call135 (by simp) ?_;refine zk [(0,.ds true (qe encGRaw a0) (qc a0) false)] ⟨rfl,trivial⟩ ?_;refine rgN [0] ?_
 refine za fun Z1 hZ1=>?_
 refine rc [0,4] fun K hK=>?_
 refine rnN 1 ?_
 refine vaR tok rfl rfl rfl rfl rfl rfl fun b hnil=>?_
 have hb:b=true→a0=[]:=fun hb=>by
  have:=hnil hb;simp only[ym,go_sem,reduceCtorEq] at this;exact u6 this
 clear hnil
 refine nkN hK ?_;cases b
 · refine zn rfl ?_;apply zd;apply hZ1
   refine rg tok [2] fun K hK=>?_
   by_cases h0:qc a0=0
   · obtain rfl:=u6 h0;simp only[go_sem,qb,qa,qd,reduceCtorEq,zC,z7,qT,uq,z6,zJ,ym,yj,un,ql,uH,uc];apply hK
     apply yz;simp only[ZL,yT,xd,xZ,exists_eq_left',go_sem]
     first|rfl|(simp only[go_sem,qb,qf,qa,qd,qt,qK,reduceIte,reduceCtorEq,Zl,wJ,qw]<;>rfl)
   have h1:=eq_false h0;simp only[go_sem,qb,qa,qd,reduceCtorEq,zC,z7,qT,uq,z6,zJ,ym,f1,f3,h1,gu,yJ,qw,qx,uH];apply hK
   apply yz;simp only[ZL,yT,xd,xZ,exists_eq_left',go_sem];exact fin _ _ _ _ (by simp only[Store.at_hd,Store.at_tl,if_true])
 obtain rfl:=hb rfl;refine zo rfl ?_;refine rgN [2] ?_;apply yz;simp only[ZL,yT,xd,xZ,exists_eq_left',go_sem]
 first|rfl|(simp only[go_sem,qb,qf,qa,qd,qt,qK,reduceIte,reduceCtorEq,YK,qw,qP,qQ,qX]<;>rfl)
theorem y5.own (a0 r:List GRaw)(h:y5 a0=some r):ACalls qh 135 [.ds true (qe encGRaw a0) (qc a0) false] [] (fun r' σ'=>r'=.os true 4 0 0 0 (qc r) false∧σ'=[.cells 0 (qe encGRaw r)]):=by
 obtain⟨_u,hu,h⟩:=bind_some h;have gu:=yf hu;cases h
 have f1:=fun nl tt σ=>xU E28.len a0 nl tt σ
 have f2:=zt E28.len a0;have f3:=Zu encGRaw a0;refine vcr (rs:=[.tmp 2]) tok Tryz.func135 rfl Tryz.ntmps135 rfl Tryz.call135 (by simp) ?_;refine zk [(0,.ds true (qe encGRaw a0) (qc a0) false)] ⟨rfl,trivial⟩ ?_;refine rgN [0] ?_
 refine za fun Z1 hZ1=>?_
 refine rc [0,4] fun K hK=>?_
 refine rnN 1 ?_
 refine vaR tok rfl rfl rfl rfl rfl rfl fun b hnil=>?_
 have hb:b=true→a0=[]:=fun hb=>by
  have:=hnil hb;simp only[ym,go_sem,reduceCtorEq] at this;exact u6 this
 clear hnil
 refine nkN hK ?_;cases b
 · refine zn rfl ?_;apply zd;apply hZ1
   refine rg tok [2] fun K hK=>?_
   by_cases h0:qc a0=0
   · obtain rfl:=u6 h0;simp only[go_sem,qb,qa,qd,reduceCtorEq,zC,z7,qT,uq,z6,zJ,ym,yj,un,ql,uH,uc];apply hK
     apply yz;simp only[ZL,yT,xd,xZ,exists_eq_left',go_sem];refine .inl ⟨0,true,by simp,?_,?_⟩
     · first|rfl|(simp only[go_sem,qb,qf,qa,qd,qt,qK,reduceIte,reduceCtorEq,Zl,wG,if_true]<;>rfl)
     first|rfl|(simp only[go_sem,qb,qf,qa,qd,qt,qK,reduceIte,reduceCtorEq,YS,vbL,Yu,YU,YT,qw]<;>rfl)
   have h1:=eq_false h0;simp only[go_sem,qb,qa,qd,reduceCtorEq,zC,z7,qT,uq,z6,zJ,ym,f1,f3,h1,gu,yJ,qw,qx,uH];apply hK
   apply yz;simp only[ZL,yT,xd,xZ,exists_eq_left',go_sem,qd];refine .inl ⟨1,false,by simp,?_,?_⟩
   · first|rfl|(simp only[go_sem,qb,qf,qa,qd,qt,qK,reduceIte,reduceCtorEq,Zl,wG,if_true]<;>rfl)
   first|rfl|(simp only[go_sem,YS,Yu,YU,YT,zP]<;>rfl)
 obtain rfl:=hb rfl;refine zo rfl ?_;refine rgN [2] ?_;apply yz;simp only[ZL,yT,xd,xZ,exists_eq_left',go_sem];refine .inr ?_
 first|rfl|(simp only[go_sem,qb,qf,qa,qd,qt,qK,reduceIte,reduceCtorEq,YK,qw,qP,qZ,qy,qV]<;>rfl)
theorem y5.ev (a0 r:List GRaw)(h:y5 a0=some r)(σ:Store):ACalls qh 135 [.ds true (qe encGRaw a0) (qc a0) false] σ (fun r' σ'=>r'=.ds true (qe encGRaw r) (qc r) false∧σ'=σ):=
 (y5.ok a0 r h).pureAt (by simp only[AV.canon,canonL,canon_all,qR,qy,Bool.true_or]) (by simp only[AV.canon,canon_all,qR,qy,Bool.true_or]) σ
def zN.l35 (yC:GTree→Option GValueValue)(l14:List GValueEntry)(x16:Int)(rec20:List GValueEntry→Int→Option GValueValue)(y25:GEntry):List GTree→Int→List GValueValue→Option GValueValue
 |[],x31,l29=>(Yg (qc l14+1) 32).bind fun _u37=>(rec20 (l14++[(⟨y25.fTag,l29⟩:GValueEntry)]) (IntKind.i64.wrap (x16+1)))
 |y35::q35,x31,l29=>(yC y35).bind fun r43=>(Yg (qc l29+1) 16).bind fun _u45=>((zN.l35 yC l14 x16 rec20 y25 q35) (x31+1) (l29++[r43]))
end
section
set_option maxRecDepth 4000
set_option maxHeartbeats 1000000
open AM
def zN.l20 (yC:GTree→Option GValueValue)(a0:GTree)(r12:List GRaw):Nat→List GValueEntry→Int→Option GValueValue
 |0,_,_=>none
 |k20+1,l14,x16=>(if x16<(qc a0.fEntries:Int) then (Zv a0.fEntries x16).bind fun y25=>(zN.l35 yC l14 x16 (zN.l20 yC a0 r12 k20) y25 y25.fTrees 0 ([]:List GValueValue)) else some (GValueValue.node l14 r12))
def zN.l62 (yC:GTree→Option GValueValue)(a0:GTree)(r12:List GRaw)(y52:GEntry):List GTree→Int→List GValueValue→Option GValueValue
 |[],x58,l56=>(zN.l20 yC a0 r12 rounds [(⟨y52.fTag,l56⟩:GValueEntry)] (IntKind.i64.wrap (0+1)))
 |y62::q62,x58,l56=>(yC y62).bind fun r68=>(Yg (qc l56+1) 16).bind fun _u70=>((zN.l62 yC a0 r12 y52 q62) (x58+1) (l56++[r68]))
def zN.body (yC:GTree→Option GValueValue)(a0:GTree):Option GValueValue:=
 (if a0.fKind=1 then bnd (Yf a0.fN) fun r4=>some r4 else (if a0.fKind=2 then bnd (Ye a0.fS) fun r9=>some r9 else (y5 a0.fRest).bind fun r12=>(if 0<(qc a0.fEntries:Int) then (Zv a0.fEntries 0).bind fun y52=>(zN.l62 yC a0 r12 y52 y52.fTrees 0 ([]:List GValueValue)) else some (GValueValue.node ([]:List GValueEntry) r12))))
theorem zN.step (yC:GTree→Option GValueValue)(ih_value_made:∀ (a0:GTree) (r:GValueValue),yC a0=some r→ACalls qh 97 [.agg (cellsGTree a0)] [] (fun r' _=>r'=.agg (encGValueValue r)))(a0:GTree)(r:GValueValue)(h:zN.body yC a0=some r):ACalls qh 97 [.agg (cellsGTree a0)] [] (fun r' _=>r'=.agg (encGValueValue r)):=by
 have ev_value_made:=fun a0 r h σ=>(ih_value_made a0 r h).c σ
 refine zf (rs:=[.cell 2 110]) tok Tryz.func97 rfl Tryz.ntmps97 rfl Tryz.call97 (by simp) ?_;refine zk [(0,.agg (cellsGTree a0))] ⟨rfl,trivial⟩ ?_;unfold zN.body at h
 refine rg tok [1,2] fun K hK=>?_
 simp only[go_sem,qb,qa,qd,reduceCtorEq,cellsGTree];apply hK
 refine za fun Z1 hZ1=>?_
 refine rgN [1,2,10] ?_;apply ze;refine rgN [1,2,10,11] ?_;refine zq rfl (fun hc2=>?_) (fun hc2=>?_)
 · rw[if_pos hc2] at h;have t3:=eq_true hc2
   refine rc [2] fun K hK=>?_
   obtain⟨r4,hr4,h⟩:=zQ h;refine zi tok 2 ?_;simp only[go_sem,qb,qa,qd,t3];refine clN rfl rfl rfl (Yf.ev a0.fN r4 hr4 _) ?_;have f5:=ZV r4;unfold AV.one at f5;refine zi tok 1 ?_;simp only[go_sem,qf,qa,encGValueValue,f5];refine nkN hK ?_;cases h;exact rtA
 rw[if_neg hc2] at h;have t6:=eq_false hc2
 refine rg tok [1,2,16] fun K hK=>?_
 simp only[go_sem,qb,qa,t6];apply hK
 refine zq rfl (fun hc7=>?_) (fun hc7=>?_)
 · rw[if_pos hc7] at h;have t8:=eq_true hc7
   refine rc [2] fun K hK=>?_
   obtain⟨r9,hr9,h⟩:=zQ h;refine zi tok 2 ?_;simp only[go_sem,qb,qa,qd,t8];refine clN rfl rfl rfl (Ye.ev a0.fS r9 hr9 _) ?_;have f10:=ZV r9;unfold AV.one at f10;refine zi tok 1 ?_;simp only[go_sem,qf,qa,encGValueValue,f10];refine nkN hK ?_;cases h;exact rtA
 rw[if_neg hc7] at h;have t11:=eq_false hc7;apply zd;apply hZ1
 refine rc [1,2,3] fun K hK=>?_
 obtain⟨r12,hr12,h⟩:=bind_some h;refine zi tok 2 ?_;simp only[go_sem,qb,qa,qd,t11];refine clN rfl rfl rfl (y5.ev a0.fRest r12 hr12 _) ?_;refine rnN 3 ?_;refine nkN hK ?_
 refine za fun Z13 hZ13=>?_
 refine rgN [2,3,27,28,29] ?_;apply ze;refine awp_loopS1 (fun m L τ=>∃ (k20:Nat) (l14:List GValueEntry) (x16:Int) (v15:Nat),m=0+k20∧L=[(2,.op 0 0 0),(3,.op 1 0 0),(27,.ds true (qe encGEntry a0.fEntries) (qc a0.fEntries) false),(28,.int .i64 (qc a0.fEntries:Int)),(29,.int .i64 x16)]∧τ=[.cells 0 [.nilI],.cells 0 [.os true 2 2 v15 0 (qc l14) false,.ds true (qe encGRaw r12) (qc r12) false],.cells v15 (qe encGValueEntry l14)]∧zN.l20 yC a0 r12 k20 l14 x16=some r) (rounds+1) ?_ ?_
 · refine rgN [2,3,27,28,29,30] ?_
   refine za fun Z48 hZ48=>?_
   refine zq rfl (fun hc49=>?_) (fun hc49=>?_)
   · rw[if_pos hc49] at h;have t50:=eq_true hc49;apply zd;apply hZ48
     refine za fun Z51 hZ51=>?_
     apply ze;obtain⟨y52,hy52,h⟩:=bind_some h;have f53:=E27.idxS hy52;have f54:=E27.loadS rfl rfl hy52
     refine rg tok [2,3,5,27,28,29] fun K hK=>?_
     simp only[go_sem,qb,qf,qa,qd,cellsGEntry,zS,t50,f53,f54];apply hK
     refine rgN [2,3,5,6,27,28,29] ?_;refine Zq 4 1 1 rfl (by simp) rfl (L:=[(2,.op 1 0 0),(3,.op 2 0 0),(5,.op 3 0 0),(6,.op 4 0 0),(27,.ds true (qe encGEntry a0.fEntries) (qc a0.fEntries) false),(28,.int .i64 (qc a0.fEntries:Int)),(29,.int .i64 0)]) (τ:=[.cells 0 (cellsGTree a0),.cells 0 [.nilI],.cells 0 [.ds true [] 0 true,.ds true (qe encGRaw r12) (qc r12) false],.cells 0 (cellsGEntry y52),.cells 0 [.int .i64 y52.fTag,.os true 1 5 0 0 (qc ([]:List GValueValue)) false],.cells 0 (qe encGValueValue ([]:List GValueValue))]) .s ?_
     refine za fun Z55 hZ55=>?_
     refine rgN [2,3,6,27,28,29,37,38,39] ?_;apply ze
     refine yP 37 fun hb62=>?_
     replace hb62:qc y52.fTrees≤9223372036854775807:=hb62.1;refine zp (fun m L τ=>∃ (p62 q62:List GTree) (x58:Int) (l56:List GValueValue) (v57:Nat),m=qc q62∧L=[(2,.op 0 0 0),(3,.op 1 0 0),(6,.op 2 0 0),(27,.ds true (qe encGEntry a0.fEntries) (qc a0.fEntries) false),(28,.int .i64 (qc a0.fEntries:Int)),(29,.int .i64 0),(37,.ds true (qe encGTree y52.fTrees) (qc y52.fTrees) false),(38,.int .i64 (qc y52.fTrees:Int)),(39,.int .i64 x58)]∧τ=[.cells 0 [.nilI],.cells 0 [.ds true [] 0 true,.ds true (qe encGRaw r12) (qc r12) false],.cells 0 [.int .i64 y52.fTag,.os true 1 3 v57 0 (qc l56) false],.cells v57 (qe encGValueValue l56)]∧y52.fTrees=p62++q62∧x58=(qc p62:Int)∧zN.l62 yC a0 r12 y52 q62 x58 l56=some r) _ ⟨[],y52.fTrees,0,([]:List GValueValue),0,rfl,rfl,rfl,rfl,rfl,h⟩ (.t [1,2,4,5] false) ?_;rintro m L τ ⟨p62,q62,x58,l56,v57,rfl,rfl,rfl,hE62,hi62,h⟩
     rcases q62 with _|⟨y62,q62⟩
     · have hz62:=yl hE62 hi62;simp only[zN.l62] at h
       refine rg tok [2,3,6,27,28,29,37,38,39,40] fun K hK=>?_
       simp only[go_sem,qb,qa,hz62];apply hK
       refine za fun Z63 hZ63=>?_
       refine zn rfl ?_;apply zr;apply hZ55
       refine rdE [2,3,27,28,29] fun K hK=>?_
       refine DW.start (T:=tab) [.any,.any,.any,.any,.own 1 [],.at [],.eff,.eff,.any,.any,.eff] [(1,[])] ?_;refine DW.runN tok 8 ?_;simp only[go_sem,qb,qf,qa,qd,qt,reduceCtorEq,zC,z7,q3,qT,true_and,ub,z6,zJ,ym,yJ,uc,qY,AV.one,qR,qx,qj,ql,qq,qH];refine DW.runN tok 3 ?_;simp only[go_sem,qb,qf,qa,qd,qj,ql,qq];refine DW.fin tok (by decide +kernel) rfl ?_;simp only[zj,upd,qa,reduceIte,yu,xe];apply hK
       apply hZ51
       refine rgE tok [2,3,27,28,29] fun K hK=>?_
       simp only[go_sem,qb,qa];apply hK
       exact⟨_,_,_,(Nat.lt_succ_of_le (Nat.le_of_eq (qq rounds))),⟨rounds,[(⟨y52.fTag,l56⟩:GValueEntry)],IntKind.i64.wrap (0+1),0,rfl,rfl,rfl,h⟩,(.t [0,1,5] false)⟩
     obtain⟨hz62,hw62,hx62,hE'62,hi'62⟩:=zV hE62 hi62 hb62;simp only[zN.l62] at h
     refine rg tok [2,3,6,27,28,29,37,38,39,40] fun K hK=>?_
     simp only[go_sem,qb,qa,hz62];apply hK
     refine za fun Z64 hZ64=>?_
     refine zo rfl ?_;apply zd;apply hZ64
     refine za fun Z65 hZ65=>?_
     apply ze;have f66:=E90.idxS hx62;have f67:=E90.loadS rfl rfl hx62
     refine rg tok [2,3,6,8,27,28,29,37,38,39] fun K hK=>?_
     simp only[go_sem,qb,qf,qa,qd,cellsGTree,yU,f66,f67];apply hK
     obtain⟨r68,hr68,h⟩:=bind_some h;have f69:=ZV r68;unfold AV.one at f69;obtain⟨_u70,hu70,h⟩:=bind_some h;have gu70:=yf hu70;have f71:=(zt E156.len l56)
     refine rdE [2,3,6,27,28,29,37,38,39] fun K hK=>?_
     refine DW.start (T:=tab) [.any,.own 2 [],.at [],.eff,.eff,.eff,.any,.eff] [(2,[])] ?_;refine DW.runN tok 3 ?_;simp only[go_sem,qb,qf,qa,qd,encGValueValue,qj,ql,qq];refine DW.call rfl rfl rfl (ev_value_made y62 r68 hr68 _) ?_;refine DW.runN tok 4 ?_;simp only[go_sem,qb,qf,qa,qd,qt,zC,z7,q3,qT,true_and,ub,z6,zJ,ym,encGValueValue,f69,gu70,f71,yJ,uc,qY,AV.one,qR,qx,qj,ql,qq,qH];refine DW.fin tok (by decide +kernel) rfl ?_;simp only[zj,upd,qa,reduceIte,yu,xe];apply hK
     apply hZ65
     refine rgE tok [2,3,6,27,28,29,37,38,39] fun K hK=>?_
     simp only[go_sem,qb,qa,hw62];apply hK
     exact⟨_,_,_,qp q62.length,⟨p62++[y62],q62,x58+1,l56++[r68],v57+1,rfl,rfl,rfl,hE'62,hi'62,h⟩,(.t [0,1,2,3] false)⟩
   rw[if_neg hc49] at h;have t72:=eq_false hc49;apply zr;apply hZ13
   refine rg tok [2] fun K hK=>?_
   simp only[go_sem,qb,qf,qa,t72];apply hK
   cases h;exact rtA
 clear h
 rintro m L τ ⟨k20,l14,x16,v15,rfl,rfl,rfl,h⟩
 rcases k20 with _|k20
 · cases h
 simp only[zN.l20] at h;refine rgN [2,3,27,28,29,30] ?_
 refine za fun Z21 hZ21=>?_
 refine zq rfl (fun hc22=>?_) (fun hc22=>?_)
 · rw[if_pos hc22] at h;have t23:=eq_true hc22;apply zd;apply hZ21
   refine za fun Z24 hZ24=>?_
   apply ze;obtain⟨y25,hy25,h⟩:=bind_some h;have f26:=E27.idxS hy25;have f27:=E27.loadS rfl rfl hy25
   refine rg tok [2,3,5,27,28,29] fun K hK=>?_
   simp only[go_sem,qb,qf,qa,qd,cellsGEntry,zS,t23,f26,f27];apply hK
   refine rgN [2,3,5,6,27,28,29] ?_;refine Zq 4 1 1 rfl (by simp) rfl (L:=[(2,.op 0 0 0),(3,.op 1 0 0),(5,.op 3 0 0),(6,.op 4 0 0),(27,.ds true (qe encGEntry a0.fEntries) (qc a0.fEntries) false),(28,.int .i64 (qc a0.fEntries:Int)),(29,.int .i64 x16)]) (τ:=[.cells 0 [.nilI],.cells 0 [.os true 2 2 v15 0 (qc l14) false,.ds true (qe encGRaw r12) (qc r12) false],.cells v15 (qe encGValueEntry l14),.cells 0 (cellsGEntry y25),.cells 0 [.int .i64 y25.fTag,.os true 1 5 0 0 (qc ([]:List GValueValue)) false],.cells 0 (qe encGValueValue ([]:List GValueValue))]) .s ?_
   refine za fun Z28 hZ28=>?_
   refine rgN [2,3,6,27,28,29,37,38,39] ?_;apply ze
   refine yP 37 fun hb35=>?_
   replace hb35:qc y25.fTrees≤9223372036854775807:=hb35.1;refine zp (fun m L τ=>∃ (p35 q35:List GTree) (x31:Int) (l29:List GValueValue) (v30:Nat),m=qc q35∧L=[(2,.op 0 0 0),(3,.op 1 0 0),(6,.op 3 0 0),(27,.ds true (qe encGEntry a0.fEntries) (qc a0.fEntries) false),(28,.int .i64 (qc a0.fEntries:Int)),(29,.int .i64 x16),(37,.ds true (qe encGTree y25.fTrees) (qc y25.fTrees) false),(38,.int .i64 (qc y25.fTrees:Int)),(39,.int .i64 x31)]∧τ=[.cells 0 [.nilI],.cells 0 [.os true 2 2 v15 0 (qc l14) false,.ds true (qe encGRaw r12) (qc r12) false],.cells v15 (qe encGValueEntry l14),.cells 0 [.int .i64 y25.fTag,.os true 1 4 v30 0 (qc l29) false],.cells v30 (qe encGValueValue l29)]∧y25.fTrees=p35++q35∧x31=(qc p35:Int)∧zN.l35 yC l14 x16 (zN.l20 yC a0 r12 k20) y25 q35 x31 l29=some r) _ ⟨[],y25.fTrees,0,([]:List GValueValue),0,rfl,rfl,rfl,rfl,rfl,h⟩ (.t [0,1,2,4,5] false) ?_;rintro m L τ ⟨p35,q35,x31,l29,v30,rfl,rfl,rfl,hE35,hi35,h⟩
   rcases q35 with _|⟨y35,q35⟩
   · have hz35:=yl hE35 hi35;simp only[zN.l35] at h
     refine rg tok [2,3,6,27,28,29,37,38,39,40] fun K hK=>?_
     simp only[go_sem,qb,qa,hz35];apply hK
     refine za fun Z36 hZ36=>?_
     refine zn rfl ?_;apply zr;apply hZ28;obtain⟨_u37,hu37,h⟩:=bind_some h;have gu37:=yf hu37;have f38:=(zt E190.len l14)
     refine rdE [2,3,27,28,29] fun K hK=>?_
     refine DW.start (T:=tab) [.any,.any,.any,.any,.own 1 [],.at [],.eff,.eff,.any,.any,.eff] [(1,[])] ?_;refine DW.runN tok 8 ?_;simp only[go_sem,qb,qf,qa,qd,qt,zC,z7,q3,qT,true_and,ub,z6,zJ,ym,gu37,f38,yJ,uc,qY,AV.one,qR,qx,qj,ql,qq,qH];refine DW.runN tok 3 ?_;simp only[go_sem,qb,qf,qa,qd,qj,ql,qq];refine DW.fin tok (by decide +kernel) rfl ?_;simp only[zj,upd,qa,reduceIte,yu,xe];apply hK
     apply hZ24
     refine rgE tok [2,3,27,28,29] fun K hK=>?_
     simp only[go_sem,qb,qa];apply hK
     exact⟨_,_,_,qp (0+k20),⟨k20,l14++[(⟨y25.fTag,l29⟩:GValueEntry)],IntKind.i64.wrap (x16+1),v15+1,rfl,rfl,rfl,h⟩,(.t [0,1,2] false)⟩
   obtain⟨hz35,hw35,hx35,hE'35,hi'35⟩:=zV hE35 hi35 hb35;simp only[zN.l35] at h
   refine rg tok [2,3,6,27,28,29,37,38,39,40] fun K hK=>?_
   simp only[go_sem,qb,qa,hz35];apply hK
   refine za fun Z39 hZ39=>?_
   refine zo rfl ?_;apply zd;apply hZ39
   refine za fun Z40 hZ40=>?_
   apply ze;have f41:=E90.idxS hx35;have f42:=E90.loadS rfl rfl hx35
   refine rg tok [2,3,6,8,27,28,29,37,38,39] fun K hK=>?_
   simp only[go_sem,qb,qf,qa,qd,cellsGTree,yU,f41,f42];apply hK
   obtain⟨r43,hr43,h⟩:=bind_some h;have f44:=ZV r43;unfold AV.one at f44;obtain⟨_u45,hu45,h⟩:=bind_some h;have gu45:=yf hu45;have f46:=(zt E156.len l29)
   refine rdE [2,3,6,27,28,29,37,38,39] fun K hK=>?_
   refine DW.start (T:=tab) [.any,.own 2 [],.at [],.eff,.eff,.eff,.any,.eff] [(2,[])] ?_;refine DW.runN tok 3 ?_;simp only[go_sem,qb,qf,qa,qd,encGValueValue,qj,ql,qq];refine DW.call rfl rfl rfl (ev_value_made y35 r43 hr43 _) ?_;refine DW.runN tok 4 ?_;simp only[go_sem,qb,qf,qa,qd,qt,zC,z7,q3,qT,true_and,ub,z6,zJ,ym,encGValueValue,f44,gu45,f46,yJ,uc,qY,AV.one,qR,qx,qj,ql,qq,qH];refine DW.fin tok (by decide +kernel) rfl ?_;simp only[zj,upd,qa,reduceIte,yu,xe];apply hK
   apply hZ40
   refine rgE tok [2,3,6,27,28,29,37,38,39] fun K hK=>?_
   simp only[go_sem,qb,qa,hw35];apply hK
   exact⟨_,_,_,qp q35.length,⟨p35++[y35],q35,x31+1,l29++[r43],v30+1,rfl,rfl,rfl,hE'35,hi'35,h⟩,(.t [0,1,2,3,4] false)⟩
 rw[if_neg hc22] at h;have t47:=eq_false hc22;apply zr;apply hZ13
 refine rg tok [2] fun K hK=>?_
 simp only[go_sem,qb,qf,qa,t47];apply hK
 cases h;exact rtA
def zN : Nat→GTree→Option GValueValue
 |0,_=>none
 |k+1,a0=>zN.body (zN k) a0
theorem zN.all (k:Nat):(∀ (a0:GTree) (r:GValueValue),zN k a0=some r→ACalls qh 97 [.agg (cellsGTree a0)] [] (fun r' _=>r'=.agg (encGValueValue r))):=by
 induction k with
 |zero=>exact (fun a0 r h=>by simp only[zN] at h; cases h)
 |succ k ih=>exact (fun a0 r h=>zN.step _ ih a0 r (by simpa only [zN] using h))
theorem zN.ev (k:Nat)(a0:GTree)(r:GValueValue)(h:zN k a0=some r)(σ:Store):ACalls qh 97 [.agg (cellsGTree a0)] σ (fun r' σ'=>r'=.agg (encGValueValue r)∧σ'=σ):=
 ((zN.all k) a0 r h).c σ
def Yc (a0:GTree):Option (GValueValue×Bool):=
 (wQ a0).bind fun r2=>(if (!r2)=true then some (GValueValue.nil,false) else (zN rounds a0).bind fun r4=>some (r4,true))
theorem Yc.ok (a0:GTree)(r:GValueValue×Bool)(h:Yc a0=some r):ACalls qh 57 [.agg (cellsGTree a0)] [] (fun r' _=>r'=.tup [.agg (encGValueValue r.1),.bool r.2]):=by
 refine zf (rs:=[.cell 2 110,.tmp 3]) tok Tryz.func57 rfl Tryz.ntmps57 rfl Tryz.call57 (by simp) ?_;refine zk [(0,.agg (cellsGTree a0))] ⟨rfl,trivial⟩ ?_;unfold Yc at h
 refine rg tok [1,2] fun K hK=>?_
 simp only[go_sem,qb,qa,qd,reduceCtorEq,cellsGTree];apply hK
 refine za fun Z1 hZ1=>?_
 refine rc [1,2,6] fun K hK=>?_
 obtain⟨r2,hr2,h⟩:=bind_some h;refine rnN 1 ?_;refine clN rfl rfl rfl (wQ.ev a0 r2 hr2 _) ?_;refine rnN 1 ?_;refine nkN hK ?_;refine zm (b:=(!r2)) rfl (fun hc3=>?_) (fun hc3=>?_)
 · rw[if_pos hc3] at h;refine rgN [2,3] ?_;cases h;exact rtA
 rw[xQ hc3] at h;apply zd;apply hZ1
 refine rc [2,3] fun K hK=>?_
 obtain⟨r4,hr4,h⟩:=bind_some h;refine rnN 1 ?_;refine clN rfl rfl rfl (zN.ev rounds a0 r4 hr4 _) ?_;have f5:=ZV r4;unfold AV.one at f5;refine zi tok 2 ?_;simp only[go_sem,qb,qf,qa,encGValueValue,f5];refine nkN hK ?_;cases h;exact rtA
theorem Yc.ev (a0:GTree)(r:GValueValue×Bool)(h:Yc a0=some r)(σ:Store):ACalls qh 57 [.agg (cellsGTree a0)] σ (fun r' σ'=>r'=.tup [.agg (encGValueValue r.1),.bool r.2]∧σ'=σ):=
 (Yc.ok a0 r h).c σ
def yM (a0:GValueValue):Option GValueNode:=
 (match a0 with|.nil=>none|.num n2=>none|.str s2=>none|.node e2 r2=>some (⟨e2,r2⟩:GValueNode))
theorem yM.ok (a0:GValueValue)(r:GValueNode)(h:yM a0=some r):ACalls qh 59 [.agg (encGValueValue a0)] [] (fun r' _=>r'=.dp (encGValueNode r) 0):=by
 refine zf (rs:=[.tmp 2]) tok Tryz.func59 rfl Tryz.ntmps59 rfl Tryz.call59 (by simp) ?_;refine zk [(0,.agg (encGValueValue a0))] ⟨rfl,trivial⟩ ?_;unfold yM at h;have f1:=ZV a0;unfold AV.one at f1
 refine rg tok [1] fun K hK=>?_
 simp only[go_sem,qb,qa,reduceCtorEq,encGValueValue,f1];apply hK
 rcases a0 with _|n2|s2|⟨e2,r2⟩
 · dsimp only at h
   try simp only[vbx]
   cases h
 · dsimp only at h
   try simp only[vbw]
   cases h
 · dsimp only at h
   try simp only[vbv]
   cases h
 dsimp only at h
 try simp only[XQ]
 refine rg tok [2] fun K hK=>?_
 simp only[go_sem,qb,qa,wm,wr,TypeDesc.isIface];apply hK
 cases h;exact rtA
theorem yM.ev (a0:GValueValue)(r:GValueNode)(h:yM a0=some r)(σ:Store):ACalls qh 59 [.agg (encGValueValue a0)] σ (fun r' σ'=>r'=.dp (encGValueNode r) 0∧σ'=σ):=
 (yM.ok a0 r h).c σ
def wX (a0:GValueNode):Option (List GRaw):=
 (y5 a0.frest).bind fun r1=>some r1
theorem wX.own (a0:GValueNode)(r:List GRaw)(h:wX a0=some r):ACalls qh 98 [.dp (encGValueNode a0) 0] [] (fun r' σ'=>r'=.os true 4 0 0 0 (qc r) false∧σ'=[.cells 0 (qe encGRaw r)]):=by
 refine ACalls.own0 (by simp only[push_cast]) ?_;refine ZM (rs:=[.tmp 2]) tok Tryz.func98 rfl Tryz.ntmps98 rfl Tryz.call98 (by simp) ?_;refine zk [(0,.dp (encGValueNode a0) 0)] ⟨rfl,trivial⟩ ?_;unfold wX at h;refine rgN [0] ?_
 refine rc [2] fun K hK=>?_
 obtain⟨r1,hr1,h⟩:=bind_some h;refine zi tok 4 ?_;simp only[go_sem,qb,qa,qd,reduceCtorEq,encGValueNode,vaA];refine clN rfl rfl rfl (@id (ACalls qh 135 [.ds true (qe encGRaw a0.frest) (qc a0.frest) false] [] (fun r' σ'=>r'=.os true 4 0 0 0 (qc r1) false∧σ'=[.cells 0 (qe encGRaw r1)])) ((y5.own a0.frest r1 hr1).ownAt0 (by simp only[push_cast]) (by simp only[push_cast]) _)) ?_;refine rnN 1 ?_;refine nkN hK ?_;apply yz;cases h;simp only[ZL,yT,xd,xZ,exists_eq_left',go_sem];refine⟨0,0,by simp,?_,?_⟩
 · first|rfl|(simp only[go_sem,qb,qf,qa,qd,qt,qK,reduceIte,reduceCtorEq,push_cast,if_true,qC,qq,qE,qw,qD,qP,qZ,qV,qX,qQ,qy,zP,encGRaw]<;>rfl)
 first|rfl|(simp only[go_sem,push_cast,qw,zP]<;>rfl)
def ye.l8 : List GValueEntry→Int→List Int→Option (List Int)
 |[],x4,l2=>some l2
 |y8::q8,x4,l2=>(Yg (qc l2+1) 8).bind fun _u14=>((ye.l8 q8) (x4+1) (l2++[y8.ftag]))
def ye (a0:GValueNode):Option (List Int):=
 (ye.l8 a0.fentries 0 ([]:List Int))
theorem ye.own (a0:GValueNode)(r:List Int)(h:ye a0=some r):ACalls qh 99 [.dp (encGValueNode a0) 0] [] (fun r' σ'=>r'=.os true 1 0 0 0 (qc r) false∧σ'=[.cells 0 (qe encI r)]):=by
 refine ACalls.own0 (by simp only[push_cast]) ?_;refine ZM (rs:=[.tmp 2]) tok Tryz.func99 rfl Tryz.ntmps99 rfl Tryz.call99 (by simp) ?_;refine zk [(0,.dp (encGValueNode a0) 0)] ⟨rfl,trivial⟩ ?_;unfold ye at h;refine rgN [0] ?_;refine rgN [0,3] ?_;refine wN 3 1 rfl ?_;refine zU (L:=[(0,.dp (encGValueNode a0) 0),(3,.os true 1 0 0 0 (qc ([]:List Int)) false)]) (τ:=[.cells 0 (qe encI ([]:List Int))]) .s ?_
 refine za fun Z1 hZ1=>?_
 refine rg tok [3,9,10,11] fun K hK=>?_
 simp only[go_sem,qb,qa,qd,reduceCtorEq,encGValueNode,vaA];apply hK
 apply ze
 refine yP 9 fun hb8=>?_
 replace hb8:qc a0.fentries≤9223372036854775807:=hb8.1;refine zp (fun m L τ=>∃ (p8 q8:List GValueEntry) (x4:Int) (l2:List Int) (v3:Nat),m=qc q8∧L=[(3,.os true 1 0 v3 0 (qc l2) false),(9,.ds true (qe encGValueEntry a0.fentries) (qc a0.fentries) false),(10,.int .i64 (qc a0.fentries:Int)),(11,.int .i64 x4)]∧τ=[.cells v3 (qe encI l2)]∧a0.fentries=p8++q8∧x4=(qc p8:Int)∧ye.l8 q8 x4 l2=some r) _ ⟨[],a0.fentries,0,([]:List Int),0,rfl,rfl,rfl,rfl,rfl,h⟩ .s ?_;rintro m L τ ⟨p8,q8,x4,l2,v3,rfl,rfl,rfl,hE8,hi8,h⟩
 rcases q8 with _|⟨y8,q8⟩
 · have hz8:=yl hE8 hi8;simp only[ye.l8] at h
   refine rg tok [3,9,10,11,12] fun K hK=>?_
   simp only[go_sem,qb,qa,hz8];apply hK
   refine za fun Z9 hZ9=>?_
   refine zn rfl ?_;apply zr;apply hZ1;refine rgN [2] ?_;apply yz;cases h;simp only[ZL,yT,xd,xZ,exists_eq_left',go_sem];refine⟨0,v3,by simp,?_,?_⟩
   · first|rfl|(simp only[go_sem,qb,qf,qa,qd,qt,qK,reduceIte,reduceCtorEq,push_cast,if_true,qC,qq,qE,qw,qD,qP,qZ,qV,qX,qQ,qy,zP]<;>rfl)
   first|rfl|(simp only[go_sem,push_cast,qw,zP]<;>rfl)
 obtain⟨hz8,hw8,hx8,hE'8,hi'8⟩:=zV hE8 hi8 hb8;simp only[ye.l8] at h
 refine rg tok [3,9,10,11,12] fun K hK=>?_
 simp only[go_sem,qb,qa,hz8];apply hK
 refine za fun Z10 hZ10=>?_
 refine zo rfl ?_;apply zd;apply hZ10
 refine za fun Z11 hZ11=>?_
 apply ze;have f12:=E190.idxS hx8;have f13:=E190.loadS rfl rfl hx8
 refine rg tok [3,5,9,10,11] fun K hK=>?_
 simp only[go_sem,qb,qf,qa,qd,cellsGValueEntry,wi,f12,f13];apply hK
 obtain⟨_u14,hu14,h⟩:=bind_some h;have gu14:=yf hu14;have f15:=(zt E45.len l2)
 refine rgE tok [3,9,10,11] fun K hK=>?_
 simp only[go_sem,qb,qf,qa,qd,qt,zC,z7,q3,qT,true_and,ub,z6,zJ,ym,gu14,f15,yJ,uc,qY,AV.one,qR,qx,qj,ql,qq,qH];apply hK
 apply hZ11
 refine rgE tok [3,9,10,11] fun K hK=>?_
 simp only[go_sem,qb,qa,hw8];apply hK
 exact⟨_,_,_,qp q8.length,⟨p8++[y8],q8,x4+1,l2++[y8.ftag],v3+1,rfl,rfl,rfl,hE'8,hi'8,h⟩,(.t [0] false)⟩
theorem ye.ok (a0:GValueNode)(r:List Int)(h:ye a0=some r):ACalls qh 99 [.dp (encGValueNode a0) 0] [] (fun r' _=>r'=.ds true (qe encI r) (qc r) false):=
 (ye.own a0 r h).ownData (zt E45.len r) (by simp only[push_cast])
theorem ye.ev (a0:GValueNode)(r:List Int)(h:ye a0=some r)(σ:Store):ACalls qh 99 [.dp (encGValueNode a0) 0] σ (fun r' σ'=>r'=.ds true (qe encI r) (qc r) false∧σ'=σ):=
 (ye.ok a0 r h).c σ
def wH (a0:List GValueValue):Option (List GValueValue):=(Yg (qc a0) 16).bind fun _=>some a0
theorem wH.own (a0 r:List GValueValue)(h:wH a0=some r):ACalls qh 136 [.ds true (qe encGValueValue a0) (qc a0) false] [] (fun r' σ'=>r'=.os true 1 0 0 0 (qc r) false∧σ'=[.cells 0 (qe encGValueValue r)]):=by
 obtain⟨_u,hu,h⟩:=bind_some h;have gu:=yf hu;cases h
 have f1:=fun nl tt σ=>xU E156.len a0 nl tt σ
 have f2:=zt E156.len a0;have f3:=Zu encGValueValue a0;refine vcr (rs:=[.tmp 2]) tok Tryz.func136 rfl Tryz.ntmps136 rfl Tryz.call136 (by simp) ?_;refine zk [(0,.ds true (qe encGValueValue a0) (qc a0) false)] ⟨rfl,trivial⟩ ?_;refine rgN [0] ?_
 refine za fun Z1 hZ1=>?_
 refine rc [0,4] fun K hK=>?_
 refine rnN 1 ?_
 refine vaR tok rfl rfl rfl rfl rfl rfl fun b hnil=>?_
 have hb:b=true→a0=[]:=fun hb=>by
  have:=hnil hb;simp only[ym,go_sem,reduceCtorEq] at this;exact u6 this
 clear hnil
 refine nkN hK ?_;cases b
 · refine zn rfl ?_;apply zd;apply hZ1
   refine rg tok [2] fun K hK=>?_
   by_cases h0:qc a0=0
   · obtain rfl:=u6 h0;simp only[go_sem,qb,qa,reduceCtorEq,zC,z7,qT,uq,z6,zJ,ym,yj,un,ql,uH,uc];apply hK
     apply yz;simp only[ZL,yT,xd,xZ,exists_eq_left',go_sem];refine .inl ⟨0,true,by simp,?_,?_⟩
     · first|rfl|(simp only[go_sem,qb,qf,qa,qd,qt,qK,reduceIte,reduceCtorEq,Zl,wG,if_true]<;>rfl)
     first|rfl|(simp only[go_sem,qb,qf,qa,qd,qt,qK,reduceIte,reduceCtorEq,YS,vbL,Yu,YU,YT,qw]<;>rfl)
   have h1:=eq_false h0;simp only[go_sem,qb,qa,reduceCtorEq,zC,z7,qT,uq,z6,zJ,ym,f1,f3,h1,gu,yJ,qw,qx,uH];apply hK
   apply yz;simp only[ZL,yT,xd,xZ,exists_eq_left',go_sem,qd];refine .inl ⟨1,false,by simp,?_,?_⟩
   · first|rfl|(simp only[go_sem,qb,qf,qa,qd,qt,qK,reduceIte,reduceCtorEq,Zl,wG,if_true]<;>rfl)
   first|rfl|(simp only[go_sem,YS,Yu,YU,YT,zP]<;>rfl)
 obtain rfl:=hb rfl;refine zo rfl ?_;refine rgN [2] ?_;apply yz;simp only[ZL,yT,xd,xZ,exists_eq_left',go_sem];refine .inr ?_
 first|rfl|(simp only[go_sem,qb,qf,qa,qd,qt,qK,reduceIte,reduceCtorEq,YK,qw,qP,qZ,qy,qV]<;>rfl)
def yD.l4 (a1:Int):List GValueEntry→Int→Option (List GValueValue)
 |[],x2=>some ([]:List GValueValue)
 |y4::q4,x2=>(if y4.ftag=a1 then (wH y4.fl).bind fun r12=>some r12 else ((yD.l4 a1 q4) (x2+1)))
def yD (a0:GValueNode)(a1:Int):Option (List GValueValue):=
 (yD.l4 a1 a0.fentries 0)
theorem yD.ok (a0:GValueNode)(a1:Int)(r:List GValueValue)(h:yD a0 a1=some r):ACalls qh 100 [.dp (encGValueNode a0) 0,.int .i64 a1] [] (fun r' _=>r'=.ds true (qe encGValueValue r) (qc r) false):=by
 refine zf (rs:=[.tmp 4]) tok Tryz.func100 rfl Tryz.ntmps100 rfl Tryz.call100 (by simp) ?_;refine zk [(0,.dp (encGValueNode a0) 0),(1,.int .i64 a1)] ⟨rfl,rfl,trivial⟩ ?_;unfold yD at h;refine rgN [0,1] ?_
 refine za fun Z1 hZ1=>?_
 refine rg tok [1,10,11,12] fun K hK=>?_
 simp only[go_sem,qb,qa,qd,reduceCtorEq,encGValueNode,vaA];apply hK
 apply ze
 refine yP 10 fun hb4=>?_
 replace hb4:qc a0.fentries≤9223372036854775807:=hb4.1;refine zp (fun m L τ=>∃ (p4 q4:List GValueEntry) (x2:Int),m=qc q4∧L=[(1,.int .i64 a1),(10,.ds true (qe encGValueEntry a0.fentries) (qc a0.fentries) false),(11,.int .i64 (qc a0.fentries:Int)),(12,.int .i64 x2)]∧τ=[]∧a0.fentries=p4++q4∧x2=(qc p4:Int)∧yD.l4 a1 q4 x2=some r) _ ⟨[],a0.fentries,0,rfl,rfl,rfl,rfl,rfl,h⟩ .s ?_;rintro m L τ ⟨p4,q4,x2,rfl,rfl,rfl,hE4,hi4,h⟩
 rcases q4 with _|⟨y4,q4⟩
 · have hz4:=yl hE4 hi4;simp only[yD.l4] at h
   refine rg tok [1,10,11,12,13] fun K hK=>?_
   simp only[go_sem,qb,qa,hz4];apply hK
   refine za fun Z5 hZ5=>?_
   refine zn rfl ?_;apply zr;apply hZ1;refine rgN [4] ?_;cases h;exact rtA
 obtain⟨hz4,hw4,hx4,hE'4,hi'4⟩:=zV hE4 hi4 hb4;simp only[yD.l4] at h
 refine rg tok [1,10,11,12,13] fun K hK=>?_
 simp only[go_sem,qb,qa,hz4];apply hK
 refine za fun Z6 hZ6=>?_
 refine zo rfl ?_;apply zd;apply hZ6
 refine za fun Z7 hZ7=>?_
 apply ze;have f8:=E190.idxS hx4;have f9:=E190.loadS rfl rfl hx4
 refine rg tok [1,6,10,11,12] fun K hK=>?_
 simp only[go_sem,qb,qf,qa,qd,cellsGValueEntry,wi,f8,f9];apply hK
 refine rgN [1,6,10,11,12,19] ?_;refine zq rfl (fun hc10=>?_) (fun hc10=>?_)
 · rw[if_pos hc10] at h;have t11:=eq_true hc10
   refine rc [4] fun K hK=>?_
   obtain⟨r12,hr12,h⟩:=bind_some h;refine zi tok 2 ?_;simp only[go_sem,qb,qa,qd,t11];refine clN rfl rfl rfl (@id (ACalls qh 136 [.ds true (qe encGValueValue y4.fl) (qc y4.fl) false] [.cells 0 (cellsGValueEntry y4)] (fun r' σ'=>r'=.os true 1 1 0 0 (qc r12) false∧σ'=[.cells 0 (cellsGValueEntry y4),.cells 0 (qe encGValueValue r12)])) ((wH.own y4.fl r12 hr12).ownAt0 (by simp only[push_cast]) (by simp only[push_cast]) _)) ?_;refine rnN 1 ?_;refine nkN hK ?_;cases h;exact rtA
 rw[if_neg hc10] at h;have t13:=eq_false hc10;apply zd;apply hZ7
 refine rgE tok [1,10,11,12] fun K hK=>?_
 simp only[go_sem,qb,qa,hw4,t13];apply hK
 exact⟨_,_,_,qp q4.length,⟨p4++[y4],q4,x2+1,rfl,rfl,rfl,hE'4,hi'4,h⟩,(.t [] false)⟩
theorem yD.ev (a0:GValueNode)(a1:Int)(r:List GValueValue)(h:yD a0 a1=some r)(σ:Store):ACalls qh 100 [.dp (encGValueNode a0) 0,.int .i64 a1] σ (fun r' σ'=>r'=.ds true (qe encGValueValue r) (qc r) false∧σ'=σ):=
 (yD.ok a0 a1 r h).c σ
def xT (a0:GValueValue):Int×Bool:=
 (match a0 with|.nil=>(0,false)|.num n2=>(n2,true)|.str s2=>(0,false)|.node e2 r2=>(0,false))
theorem xT.ok (a0:GValueValue)(r:Int×Bool)(h:xT a0=r):ACalls qh 155 [.agg (encGValueValue a0)] [] (fun r' _=>r'=.tup [.int .i64 r.1,.bool r.2]):=by
 refine zf (rs:=[.tmp 2,.tmp 3]) tok Tryz.func155 rfl Tryz.ntmps155 rfl Tryz.call155 (by simp) ?_;refine zk [(0,.agg (encGValueValue a0))] ⟨rfl,trivial⟩ ?_;unfold xT at h;have f1:=ZV a0;unfold AV.one at f1
 refine rg tok [1] fun K hK=>?_
 simp only[go_sem,qb,qa,reduceCtorEq,encGValueValue,f1];apply hK
 rcases a0 with _|n2|s2|⟨e2,r2⟩
 · dsimp only at h
   try simp only[vbx]
   refine rg tok [4,5] fun K hK=>?_
   simp only[go_sem,qb,qa,qd,wm,wr,TypeDesc.isIface];apply hK
   refine rgN [2,3] ?_;cases h;exact rtA
 · dsimp only at h
   try simp only[vbw]
   refine rg tok [4,5] fun K hK=>?_
   simp only[go_sem,qb,qa,qd,wm,wr,TypeDesc.isIface];apply hK
   refine rgN [2,3] ?_;cases h;exact rtA
 · dsimp only at h
   try simp only[vbv]
   refine rg tok [4,5] fun K hK=>?_
   simp only[go_sem,qb,qa,qd,wm,wr,TypeDesc.isIface];apply hK
   refine rgN [2,3] ?_;cases h;exact rtA
 dsimp only at h
 try simp only[XQ]
 refine rg tok [4,5] fun K hK=>?_
 simp only[go_sem,qb,qa,qd,wm,wr,TypeDesc.isIface];apply hK
 refine rgN [2,3] ?_;cases h;exact rtA
theorem xT.ev (a0:GValueValue)(r:Int×Bool)(h:xT a0=r)(σ:Store):ACalls qh 155 [.agg (encGValueValue a0)] σ (fun r' σ'=>r'=.tup [.int .i64 r.1,.bool r.2]∧σ'=σ):=
 (xT.ok a0 r h).c σ
def xS (a0:GValueValue):List UInt8×Bool:=
 (match a0 with|.nil=>([],false)|.num n2=>([],false)|.str s2=>(s2,true)|.node e2 r2=>([],false))
theorem xS.ok (a0:GValueValue)(r:List UInt8×Bool)(h:xS a0=r):ACalls qh 156 [.agg (encGValueValue a0)] [] (fun r' _=>r'=.tup [.str r.1,.bool r.2]):=by
 refine zf (rs:=[.tmp 2,.tmp 3]) tok Tryz.func156 rfl Tryz.ntmps156 rfl Tryz.call156 (by simp) ?_;refine zk [(0,.agg (encGValueValue a0))] ⟨rfl,trivial⟩ ?_;unfold xS at h;have f1:=ZV a0;unfold AV.one at f1
 refine rg tok [1] fun K hK=>?_
 simp only[go_sem,qb,qa,reduceCtorEq,encGValueValue,f1];apply hK
 rcases a0 with _|n2|s2|⟨e2,r2⟩
 · dsimp only at h
   try simp only[vbx]
   refine rg tok [4,5] fun K hK=>?_
   simp only[go_sem,qb,qa,qd,wm,wr,TypeDesc.isIface];apply hK
   refine rgN [2,3] ?_;cases h;exact rtA
 · dsimp only at h
   try simp only[vbw]
   refine rg tok [4,5] fun K hK=>?_
   simp only[go_sem,qb,qa,qd,wm,wr,TypeDesc.isIface];apply hK
   refine rgN [2,3] ?_;cases h;exact rtA
 · dsimp only at h
   try simp only[vbv]
   refine rg tok [4,5] fun K hK=>?_
   simp only[go_sem,qb,qa,qd,wm,wr,TypeDesc.isIface];apply hK
   refine rgN [2,3] ?_;cases h;exact rtA
 dsimp only at h
 try simp only[XQ]
 refine rg tok [4,5] fun K hK=>?_
 simp only[go_sem,qb,qa,qd,wm,wr,TypeDesc.isIface];apply hK
 refine rgN [2,3] ?_;cases h;exact rtA
theorem xS.ev (a0:GValueValue)(r:List UInt8×Bool)(h:xS a0=r)(σ:Store):ACalls qh 156 [.agg (encGValueValue a0)] σ (fun r' σ'=>r'=.tup [.str r.1,.bool r.2]∧σ'=σ):=
 (xS.ok a0 r h).c σ
def wv (a0:GValueValue):Option GValueValue:=
 bnd (xT a0) fun r3=>(if r3.2=true then some (GValueValue.num r3.1) else bnd (xS a0) fun r6=>(if r6.2=true then some (GValueValue.str r6.1) else (yM a0).bind fun r8=>some (GValueValue.node r8.fentries r8.frest)))
theorem wv.ok (a0:GValueValue)(r:GValueValue)(h:wv a0=some r):ACalls qh 137 [.agg (encGValueValue a0)] [] (fun r' _=>r'=anyV r):=by
 refine zf (rs:=[.tmp 2]) tok Tryz.func137 rfl Tryz.ntmps137 rfl Tryz.call137 (by simp) ?_;refine zk [(0,.agg (encGValueValue a0))] ⟨rfl,trivial⟩ ?_;unfold wv at h;have f1:=ZV a0;unfold AV.one at f1
 refine rg tok [1] fun K hK=>?_
 simp only[go_sem,qb,qa,reduceCtorEq,encGValueValue,f1];apply hK
 refine za fun Z2 hZ2=>?_
 refine rc [1,3,4] fun K hK=>?_
 obtain⟨r3,hr3,h⟩:=zQ h;refine rnN 1 ?_;refine clN rfl rfl rfl (xT.ev a0 r3 hr3 _) ?_;refine rnN 5 ?_;refine nkN hK ?_;refine rgN [1,3,12] ?_;refine zm (b:=r3.2) rfl (fun hc4=>?_) (fun hc4=>?_)
 · rw[if_pos hc4] at h;refine rgN [2] ?_;cases h;exact rtA
 rw[xQ hc4] at h;apply zd;apply hZ2
 refine za fun Z5 hZ5=>?_
 refine rc [1,5,6] fun K hK=>?_
 obtain⟨r6,hr6,h⟩:=zQ h;refine rnN 1 ?_;refine clN rfl rfl rfl (xS.ev a0 r6 hr6 _) ?_;refine rnN 5 ?_;refine nkN hK ?_;refine rgN [1,5,20] ?_;refine zm (b:=r6.2) rfl (fun hc7=>?_) (fun hc7=>?_)
 · rw[if_pos hc7] at h;refine rgN [2] ?_;cases h;exact rtA
 rw[xQ hc7] at h;apply zd;apply hZ5
 refine rc [2] fun K hK=>?_
 obtain⟨r8,hr8,h⟩:=bind_some h;refine rnN 1 ?_;refine clN rfl rfl rfl (yM.ev a0 r8 hr8 _) ?_;refine rnN 2 ?_;refine nkN hK ?_;cases h;exact rtA
theorem wv.ev (a0:GValueValue)(r:GValueValue)(h:wv a0=some r)(σ:Store):ACalls qh 137 [.agg (encGValueValue a0)] σ (fun r' σ'=>r'=anyV r∧σ'=σ):=
 (wv.ok a0 r h).c σ
def xz.l9 : Nat→List UInt8→Int→Option (List UInt8)
 |0,_,_=>none
 |k9+1,l3,x5=>(if 128≤x5 then (Yg (qc l3+1) 1).bind fun _u14=>((xz.l9 k9) (l3++[ua (qF (IntKind.u8.wrap ((ur (qA 8 (IntKind.u8.wrap x5) ||| qA 8 128):Nat):Int)))]) (Int.fdiv x5 (2^(min (qF 7) 64)))) else (Yg (qc l3+1) 1).bind fun _u18=>some (l3++[ua (qF (IntKind.u8.wrap x5))]))
def xz (a0:List UInt8)(a1:Int):Option (List UInt8):=
 (if 128≤a1 then (Yg (qc a0+1) 1).bind fun _u24=>(xz.l9 rounds (a0++[ua (qF (IntKind.u8.wrap ((ur (qA 8 (IntKind.u8.wrap a1) ||| qA 8 128):Nat):Int)))]) (Int.fdiv a1 (2^(min (qF 7) 64)))) else (Yg (qc a0+1) 1).bind fun _u28=>some (a0++[ua (qF (IntKind.u8.wrap a1))]))
theorem xz.own (a0:List UInt8)(a1:Int)(r:List UInt8)(h:xz a0 a1=some r):ACalls qh 89 [.ds true (qe encB a0) (qc a0) false,.int .u64 a1] [] (fun r' σ'=>r'=.os true 1 0 0 0 (qc r) false∧σ'=[.cells 0 (qe encB r)]):=by
 refine ACalls.own0 (by simp only[push_cast]) ?_;refine ZM (rs:=[.tmp 4]) tok Tryz.func89 rfl Tryz.ntmps89 rfl Tryz.call89 (by simp) ?_;refine zk [(0,.ds true (qe encB a0) (qc a0) false),(1,.int .u64 a1)] ⟨rfl,rfl,trivial⟩ ?_;unfold xz at h;refine rgN [0,1] ?_;have f1:=E34.sl_tight a0 .i64 .i64
 refine rg tok [0,1] fun K hK=>?_
 simp only[go_sem,qb,qa,reduceCtorEq,f1];apply hK
 refine za fun Z2 hZ2=>?_
 apply ze;refine awp_loopS1 (fun m L τ=>∃ (k9:Nat) (l3:List UInt8) (x5:Int) (v4:Nat),m=0+k9∧L=[(0,.os true 1 0 v4 0 (qc l3) false),(1,.int .u64 x5)]∧τ=[.cells v4 (qe encB l3)]∧xz.l9 k9 l3 x5=some r) (rounds+1) ?_ ?_
 · refine za fun Z20 hZ20=>?_
   refine rgN [0,1,12] ?_;refine zq rfl (fun hc21=>?_) (fun hc21=>?_)
   · rw[if_pos hc21] at h;have t22:=eq_true hc21;apply zd;apply hZ20;apply ze;have f23:=yW (T:=tab) (src:=140) (dst:=5) rfl rfl rfl;obtain⟨_u24,hu24,h⟩:=bind_some h;have gu24:=yf hu24;have f25:=app_tight E34.len a0 (m:=1) (by decide)
     refine rg tok [0,1] fun K hK=>?_
     simp only[go_sem,qb,qf,qa,qt,reduceCtorEq,zC,z7,q3,qT,true_and,ub,z6,ym,t22,f23,gu24,f25,yJ,uc,qY,AV.one,qR,qx,qj,ql,qq,qH];apply hK
     refine zU (L:=[(0,.os true 1 1 0 0 (qc (a0++[ua (qF (IntKind.u8.wrap ((ur (qA 8 (IntKind.u8.wrap a1) ||| qA 8 128):Nat):Int)))])) false),(1,.int .u64 a1)]) (τ:=[.cells 0 [.int .u8 (IntKind.u8.wrap ((ur (qA 8 (IntKind.u8.wrap a1) ||| qA 8 128):Nat):Int))],.cells 0 (qe encB (a0++[ua (qF (IntKind.u8.wrap ((ur (qA 8 (IntKind.u8.wrap a1) ||| qA 8 128):Nat):Int)))]))]) (.same (by first|exact⟨rfl,rfl,trivial⟩|rfl|(simp only[go_sem,reduceCtorEq,Fits,qi,qj,ql,qq,and_self]<;>rfl)) (by first|exact⟨rfl,rfl,trivial⟩|rfl|(simp only[go_sem,encB,qS,qO,un,qz,vaN]<;>rfl))) ?_
     refine rgE tok [0,1] fun K hK=>?_
     simp only[go_sem,qb,qa,reduceCtorEq,YA,Int.reduceLT];apply hK
     exact⟨_,_,_,(Nat.lt_succ_of_le (Nat.le_of_eq (qq rounds))),⟨rounds,a0++[ua (qF (IntKind.u8.wrap ((ur (qA 8 (IntKind.u8.wrap a1) ||| qA 8 128):Nat):Int)))],Int.fdiv a1 (2^(min (qF 7) 64)),0,rfl,rfl,rfl,h⟩,(.t [1] false)⟩
   rw[if_neg hc21] at h;have t26:=eq_false hc21;apply zr;apply hZ2;have f27:=yW (T:=tab) (src:=140) (dst:=5) rfl rfl rfl;obtain⟨_u28,hu28,h⟩:=bind_some h;have gu28:=yf hu28;have f29:=app_tight E34.len a0 (m:=1) (by decide)
   refine rg tok [4] fun K hK=>?_
   simp only[go_sem,qb,qf,qa,qt,reduceCtorEq,zC,z7,q3,qT,true_and,ub,z6,ym,t26,f27,gu28,f29,yJ,uc,qY,AV.one,qR,qx,qj,ql,qq,qH];apply hK
   refine zU (L:=[(4,.os true 1 1 0 0 (qc (a0++[ua (qF (IntKind.u8.wrap a1))])) false)]) (τ:=[.cells 0 [.int .u8 (IntKind.u8.wrap a1)],.cells 0 (qe encB (a0++[ua (qF (IntKind.u8.wrap a1))]))]) (.same (by first|exact⟨rfl,trivial⟩|rfl|(simp only[go_sem,Fits,qi,qj,ql,qq,and_self]<;>rfl)) (by first|exact⟨rfl,trivial⟩|rfl|(simp only[go_sem,encB,qS,qO,un,qz,vaN]<;>rfl))) ?_;apply yz;cases h;simp only[ZL,yT,xd,xZ,exists_eq_left',go_sem,qd];refine⟨1,0,by simp,?_,?_⟩
   · first|rfl|(simp only[go_sem,qb,qf,qa,qd,qt,qK,reduceIte,reduceCtorEq,push_cast,if_true,qC,qq,qE,qw,qD,qP,qZ,qV,qX,qQ,qy,zP]<;>rfl)
   first|rfl|(simp only[go_sem,push_cast,qw,zP]<;>rfl)
 clear h
 rintro m L τ ⟨k9,l3,x5,v4,rfl,rfl,rfl,h⟩
 rcases k9 with _|k9
 · cases h
 simp only[xz.l9] at h
 refine za fun Z10 hZ10=>?_
 refine rgN [0,1,12] ?_;refine zq rfl (fun hc11=>?_) (fun hc11=>?_)
 · rw[if_pos hc11] at h;have t12:=eq_true hc11;apply zd;apply hZ10;apply ze;have f13:=yW (T:=tab) (src:=140) (dst:=5) rfl rfl rfl;obtain⟨_u14,hu14,h⟩:=bind_some h;have gu14:=yf hu14;have f15:=(zt E34.len l3)
   refine rg tok [0,1] fun K hK=>?_
   simp only[go_sem,qb,qf,qa,qt,reduceCtorEq,zC,z7,q3,qT,true_and,ub,z6,zJ,ym,t12,f13,gu14,f15,yJ,uc,qY,AV.one,qR,qx,qj,ql,qq,qH];apply hK
   refine zU (L:=[(0,.os true 1 0 (v4+1) 0 (qc (l3++[ua (qF (IntKind.u8.wrap ((ur (qA 8 (IntKind.u8.wrap x5) ||| qA 8 128):Nat):Int)))])) false),(1,.int .u64 x5)]) (τ:=[.cells (v4+1) (qe encB (l3++[ua (qF (IntKind.u8.wrap ((ur (qA 8 (IntKind.u8.wrap x5) ||| qA 8 128):Nat):Int)))])),.cells 0 [.int .u8 (IntKind.u8.wrap ((ur (qA 8 (IntKind.u8.wrap x5) ||| qA 8 128):Nat):Int))]]) (.same (by first|exact⟨rfl,rfl,trivial⟩|rfl|(simp only[go_sem,reduceCtorEq,Fits,qi,qj,ql,qq,and_self]<;>rfl)) (by first|exact⟨rfl,rfl,trivial⟩|rfl|(simp only[go_sem,encB,qS,qO,un,qz,vaN]<;>rfl))) ?_
   refine rgE tok [0,1] fun K hK=>?_
   simp only[go_sem,qb,qa,reduceCtorEq,YA,Int.reduceLT];apply hK
   exact⟨_,_,_,qp (0+k9),⟨k9,l3++[ua (qF (IntKind.u8.wrap ((ur (qA 8 (IntKind.u8.wrap x5) ||| qA 8 128):Nat):Int)))],Int.fdiv x5 (2^(min (qF 7) 64)),v4+1,rfl,rfl,rfl,h⟩,(.t [0] false)⟩
 rw[if_neg hc11] at h;have t16:=eq_false hc11;apply zr;apply hZ2;have f17:=yW (T:=tab) (src:=140) (dst:=5) rfl rfl rfl;obtain⟨_u18,hu18,h⟩:=bind_some h;have gu18:=yf hu18;have f19:=(zt E34.len l3)
 refine rg tok [4] fun K hK=>?_
 simp only[go_sem,qb,qf,qa,qt,reduceCtorEq,zC,z7,q3,qT,true_and,ub,z6,zJ,ym,t16,f17,gu18,f19,yJ,uc,qY,AV.one,qR,qx,qj,ql,qq,qH];apply hK
 refine zU (L:=[(4,.os true 1 0 (v4+1) 0 (qc (l3++[ua (qF (IntKind.u8.wrap x5))])) false)]) (τ:=[.cells (v4+1) (qe encB (l3++[ua (qF (IntKind.u8.wrap x5))])),.cells 0 [.int .u8 (IntKind.u8.wrap x5)]]) (.same (by first|exact⟨rfl,trivial⟩|rfl|(simp only[go_sem,Fits,qi,qj,ql,qq,and_self]<;>rfl)) (by first|exact⟨rfl,trivial⟩|rfl|(simp only[go_sem,encB,qS,qO,un,qz,vaN]<;>rfl))) ?_;apply yz;cases h;simp only[ZL,yT,xd,xZ,exists_eq_left',go_sem,qd];refine⟨0,v4+1,by simp,?_,?_⟩
 · first|rfl|(simp only[go_sem,qb,qf,qa,qd,qt,qK,reduceIte,reduceCtorEq,push_cast,if_true,qC,qq,qE,qw,qD,qP,qZ,qV,qX,qQ,qy,zP]<;>rfl)
 first|rfl|(simp only[go_sem,push_cast,qw,zP]<;>rfl)
end
section
set_option maxRecDepth 4000
set_option maxHeartbeats 1000000
open AM
theorem xz.ok (a0:List UInt8)(a1:Int)(r:List UInt8)(h:xz a0 a1=some r):ACalls qh 89 [.ds true (qe encB a0) (qc a0) false,.int .u64 a1] [] (fun r' _=>r'=.ds true (qe encB r) (qc r) false):=
 (xz.own a0 a1 r h).ownData (zt E34.len r) (by simp only[push_cast])
theorem xz.ev (a0:List UInt8)(a1:Int)(r:List UInt8)(h:xz a0 a1=some r)(σ:Store):ACalls qh 89 [.ds true (qe encB a0) (qc a0) false,.int .u64 a1] σ (fun r' σ'=>r'=.ds true (qe encB r) (qc r) false∧σ'=σ):=
 (xz.ok a0 a1 r h).c σ
def Z0 (a0:Int):Int:=
 IntKind.u64.wrap ((ur (qA 64 (IntKind.u64.wrap ((IntKind.u64.wrap a0)*2^(min (qF 1) 64))) ^^^ qA 64 (IntKind.u64.wrap (Int.fdiv a0 (2^(min (qF 63) 64))))):Nat):Int)
theorem Z0.ok (a0:Int)(r:Int)(h:Z0 a0=r):ACalls qh 90 [.int .i64 a0] [] (fun r' _=>r'=.int .u64 r):=by
 refine zf (rs:=[.tmp 2]) tok Tryz.func90 rfl Tryz.ntmps90 rfl Tryz.call90 (by simp) ?_;refine zk [(0,.int .i64 a0)] ⟨rfl,trivial⟩ ?_;unfold Z0 at h;refine rgN [0] ?_;have f1:=yW (T:=tab) (src:=3) (dst:=140) rfl rfl rfl;have f2:=yW (T:=tab) (src:=3) (dst:=140) rfl rfl rfl
 refine rg tok [2] fun K hK=>?_
 simp only[go_sem,qb,qa,reduceCtorEq,f1,YA,Int.reduceLT];apply hK
 cases h;exact rtA
theorem Z0.ev (a0:Int)(r:Int)(h:Z0 a0=r)(σ:Store):ACalls qh 90 [.int .i64 a0] σ (fun r' σ'=>r'=.int .u64 r∧σ'=σ):=
 (Z0.ok a0 r h).c σ
def ZZ (a0:List UInt8)(a1:GRaw):Option (List UInt8×Bool):=
 bnd (yv a1) fun r2=>(if (!r2)=true then some (a0,false) else (xz a0 (IntKind.u64.wrap (IntKind.i64.wrap ((IntKind.i64.wrap (2*a1.fTag))+a1.fWire)))).bind fun r5=>(if a1.fWire=0 then bnd (Z0 a1.fN) fun r9=>(xz r5 r9).bind fun r10=>some (r10,true) else (xz r5 (IntKind.u64.wrap (qc a1.fB:Int))).bind fun r13=>(Yg (qc r13+qc a1.fB) 1).bind fun _u14=>some (r13++a1.fB,true)))
theorem ZZ.ok (a0:List UInt8)(a1:GRaw)(r:List UInt8×Bool)(h:ZZ a0 a1=some r):ACalls qh 52 [.ds true (qe encB a0) (qc a0) false,.agg (encGRaw a1)] [] (fun r' _=>r'=.tup [.ds true (qe encB r.1) (qc r.1) false,.bool r.2]):=by
 refine zf (rs:=[.tmp 4,.tmp 5]) tok Tryz.func52 rfl Tryz.ntmps52 rfl Tryz.call52 (by simp) ?_;refine zk [(0,.ds true (qe encB a0) (qc a0) false),(1,.agg (encGRaw a1))] ⟨rfl,rfl,trivial⟩ ?_;unfold ZZ at h
 refine rg tok [0,3] fun K hK=>?_
 simp only[go_sem,qb,qa,qd,reduceCtorEq,encGRaw];apply hK
 refine za fun Z1 hZ1=>?_
 refine rc [0,3,9] fun K hK=>?_
 obtain⟨r2,hr2,h⟩:=zQ h;refine rnN 1 ?_;refine clN rfl rfl rfl (yv.ev a1 r2 hr2 _) ?_;refine rnN 1 ?_;refine nkN hK ?_;refine zm (b:=(!r2)) rfl (fun hc3=>?_) (fun hc3=>?_)
 · rw[if_pos hc3] at h;refine rgN [4,5] ?_;cases h;exact rtA
 rw[xQ hc3] at h;apply zd;apply hZ1
 refine rc [3,6] fun K hK=>?_
 have f4:=yW (T:=tab) (src:=3) (dst:=140) rfl rfl rfl;obtain⟨r5,hr5,h⟩:=bind_some h;refine zi tok 8 ?_;simp only[go_sem,qb,qa,qd,reduceCtorEq,f4];refine clN rfl rfl rfl (xz.ev a0 (IntKind.u64.wrap (IntKind.i64.wrap ((IntKind.i64.wrap (2*a1.fTag))+a1.fWire))) r5 hr5 _) ?_;refine rnN 1 ?_;refine nkN hK ?_
 refine za fun Z6 hZ6=>?_
 refine rgN [3,6,22] ?_;refine zq rfl (fun hc7=>?_) (fun hc7=>?_)
 · rw[if_pos hc7] at h;have t8:=eq_true hc7
   refine rc [4,5] fun K hK=>?_
   obtain⟨r9,hr9,h⟩:=zQ h;refine zi tok 3 ?_;simp only[go_sem,qb,qa,qd,t8];refine clN rfl rfl rfl (Z0.ev a1.fN r9 hr9 _) ?_;obtain⟨r10,hr10,h⟩:=bind_some h;refine clN rfl rfl rfl (xz.ev r5 r9 r10 hr10 _) ?_;refine rnN 2 ?_;refine nkN hK ?_;cases h;exact rtA
 rw[if_neg hc7] at h;have t11:=eq_false hc7;apply zd;apply hZ6;have f12:=yW (T:=tab) (src:=3) (dst:=140) rfl rfl rfl;obtain⟨r13,hr13,h⟩:=bind_some h;obtain⟨_u14,hu14,h⟩:=bind_some h;have gu14:=yf hu14;have f15:=(zt E34.len r13)
 refine rd [4,5] fun K hK=>?_
 refine DW.start (T:=tab) [.any,.any,.at [],.at [],.at [],.eff,.any,.own 1 [],.eff,.any,.any] [(1,[])] ?_;refine DW.runN tok 5 ?_;simp only[go_sem,qb,qa,qd,t11,f12,qj,ql,qq];refine DW.callS rfl rfl rfl (@id (ACalls qh 89 [.ds true (qe encB r5) (qc r5) false,.int .u64 (IntKind.u64.wrap (qc a1.fB:Int))] [.cells 0 [.int .i64 a1.fTag,.int .i64 a1.fWire,.int .i64 a1.fN,.str a1.fB]] (fun r' σ'=>r'=.os true 1 1 0 0 (qc r13) false∧σ'=[.cells 0 [.int .i64 a1.fTag,.int .i64 a1.fWire,.int .i64 a1.fN,.str a1.fB],.cells 0 (qe encB r13)])) ((xz.own r5 (IntKind.u64.wrap (qc a1.fB:Int)) r13 hr13).ownAt0 (by simp only[push_cast]) (by simp only[push_cast]) _)) (vcq (by simp only[go_sem,qf])) ?_;refine DW.runN tok 5 ?_;simp only[go_sem,qb,qf,qa,qd,z6,zJ,ym,true_and,gu14,f15,srcCells_s,Xu,Zu,qj,ql,qq];refine DW.fin tok (by decide +kernel) rfl ?_;simp only[zj,upd,qa,reduceIte,yu,xe];apply hK
 refine zU (L:=[(4,.os true 1 1 (0+1) 0 (qc (r13++a1.fB)) false),(5,.bool true)]) (τ:=[.cells 0 [.int .i64 a1.fTag,.int .i64 a1.fWire,.int .i64 a1.fN,.str a1.fB],.cells (0+1) (qe encB (r13++a1.fB))]) .s ?_;cases h;exact rtA
theorem ZZ.ev (a0:List UInt8)(a1:GRaw)(r:List UInt8×Bool)(h:ZZ a0 a1=some r)(σ:Store):ACalls qh 52 [.ds true (qe encB a0) (qc a0) false,.agg (encGRaw a1)] σ (fun r' σ'=>r'=.tup [.ds true (qe encB r.1) (qc r.1) false,.bool r.2]∧σ'=σ):=
 (ZZ.ok a0 a1 r h).c σ
def yi.l11 : List GRaw→Int→List UInt8→Option (List UInt8×Int)
 |[],x8,x7=>some (x7,0)
 |y11::q11,x8,x7=>(ZZ x7 y11).bind fun r17=>(if 4096<(qc r17.1:Int) then some (([]:List UInt8),4) else ((yi.l11 q11) (x8+1) r17.1))
def yi.l4 (a0:List GRaw):List GRaw→Int→Option (List UInt8×Int)
 |[],x2=>(yi.l11 a0 0 ([]:List UInt8))
 |y4::q4,x2=>bnd (yv y4) fun r25=>(if (!r25)=true then some (([]:List UInt8),1) else ((yi.l4 a0 q4) (x2+1)))
def yi (a0:List GRaw):Option (List UInt8×Int):=
 (yi.l4 a0 a0 0)
theorem yi.ok (a0:List GRaw)(r:List UInt8×Int)(h:yi a0=some r):ACalls qh 26 [.ds true (qe encGRaw a0) (qc a0) false] [] (fun r' _=>r'=.tup [.ds true (qe encB r.1) (qc r.1) false,.int .i64 r.2]):=by
 refine zf (rs:=[.tmp 2,.tmp 3]) tok Tryz.func26 rfl Tryz.ntmps26 rfl Tryz.call26 (by simp) ?_;refine zk [(0,.ds true (qe encGRaw a0) (qc a0) false)] ⟨rfl,trivial⟩ ?_;unfold yi at h;refine rgN [0] ?_
 refine za fun Z1 hZ1=>?_
 refine rgN [0,9,10,11] ?_;apply ze
 refine yP 0 fun hb4=>?_
 replace hb4:qc a0≤9223372036854775807:=hb4.1;refine zp (fun m L τ=>∃ (p4 q4:List GRaw) (x2:Int),m=qc q4∧L=[(0,.ds true (qe encGRaw a0) (qc a0) false),(9,.ds true (qe encGRaw a0) (qc a0) false),(10,.int .i64 (qc a0:Int)),(11,.int .i64 x2)]∧τ=[]∧a0=p4++q4∧x2=(qc p4:Int)∧yi.l4 a0 q4 x2=some r) _ ⟨[],a0,0,rfl,rfl,rfl,rfl,rfl,h⟩ .s ?_;rintro m L τ ⟨p4,q4,x2,rfl,rfl,rfl,hE4,hi4,h⟩
 rcases q4 with _|⟨y4,q4⟩
 · have hz4:=yl hE4 hi4;simp only[yi.l4] at h
   refine rg tok [0,9,10,11,12] fun K hK=>?_
   simp only[go_sem,qb,qa,reduceCtorEq,hz4];apply hK
   refine za fun Z5 hZ5=>?_
   refine zn rfl ?_;apply zr;apply hZ1;refine rgN [0,6] ?_
   refine za fun Z6 hZ6=>?_
   refine rgN [6,19,20,21] ?_;apply ze
   refine yP 19 fun hb11=>?_
   replace hb11:qc a0≤9223372036854775807:=hb11.1;refine zp (fun m L τ=>∃ (p11 q11:List GRaw) (x8:Int) (x7:List UInt8),m=qc q11∧L=[(6,.ds true (qe encB x7) (qc x7) false),(19,.ds true (qe encGRaw a0) (qc a0) false),(20,.int .i64 (qc a0:Int)),(21,.int .i64 x8)]∧τ=[]∧a0=p11++q11∧x8=(qc p11:Int)∧yi.l11 q11 x8 x7=some r) _ ⟨[],a0,0,([]:List UInt8),rfl,rfl,rfl,rfl,rfl,h⟩ (.t [] true) ?_;rintro m L τ ⟨p11,q11,x8,x7,rfl,rfl,rfl,hE11,hi11,h⟩
   rcases q11 with _|⟨y11,q11⟩
   · have hz11:=yl hE11 hi11;simp only[yi.l11] at h
     refine rg tok [6,19,20,21,22] fun K hK=>?_
     simp only[go_sem,qb,qa,hz11];apply hK
     refine za fun Z12 hZ12=>?_
     refine zn rfl ?_;apply zr;apply hZ6;refine rgN [2,3] ?_;cases h;exact rtA
   obtain⟨hz11,hw11,hx11,hE'11,hi'11⟩:=zV hE11 hi11 hb11;simp only[yi.l11] at h
   refine rg tok [6,19,20,21,22] fun K hK=>?_
   simp only[go_sem,qb,qa,hz11];apply hK
   refine za fun Z13 hZ13=>?_
   refine zo rfl ?_;apply zd;apply hZ13
   refine za fun Z14 hZ14=>?_
   apply ze;have f15:=E28.idxS hx11;have f16:=E28.loadS rfl rfl hx11
   refine rg tok [6,8,19,20,21] fun K hK=>?_
   simp only[go_sem,qb,qf,qa,qd,encGRaw,f15,f16];apply hK
   refine rc [6,19,20,21] fun K hK=>?_
   obtain⟨r17,hr17,h⟩:=bind_some h;refine rnN 2 ?_;refine clN rfl rfl rfl (ZZ.ev x7 y11 r17 hr17 _) ?_;refine rnN 4 ?_;refine nkN hK ?_;refine rgN [6,19,20,21,33] ?_;refine zq rfl (fun hc18=>?_) (fun hc18=>?_)
   · rw[if_pos hc18] at h;have t19:=eq_true hc18
     refine rg tok [2,3] fun K hK=>?_
     simp only[go_sem,qb,qa,t19];apply hK
     cases h;exact rtA
   rw[if_neg hc18] at h;have t20:=eq_false hc18;apply zd;apply hZ14
   refine rgE tok [6,19,20,21] fun K hK=>?_
   simp only[go_sem,qb,qa,hw11,t20];apply hK
   exact⟨_,_,_,qp q11.length,⟨p11++[y11],q11,x8+1,r17.1,rfl,rfl,rfl,hE'11,hi'11,h⟩,(.t [] false)⟩
 obtain⟨hz4,hw4,hx4,hE'4,hi'4⟩:=zV hE4 hi4 hb4;simp only[yi.l4] at h
 refine rg tok [0,9,10,11,12] fun K hK=>?_
 simp only[go_sem,qb,qa,reduceCtorEq,hz4];apply hK
 refine za fun Z21 hZ21=>?_
 refine zo rfl ?_;apply zd;apply hZ21
 refine za fun Z22 hZ22=>?_
 apply ze;have f23:=E28.idxS hx4;have f24:=E28.loadS rfl rfl hx4
 refine rg tok [0,5,9,10,11] fun K hK=>?_
 simp only[go_sem,qb,qf,qa,qd,reduceCtorEq,encGRaw,f23,f24];apply hK
 refine rc [0,9,10,11,17] fun K hK=>?_
 obtain⟨r25,hr25,h⟩:=zQ h;refine rnN 1 ?_;refine clN rfl rfl rfl (yv.ev y4 r25 hr25 _) ?_;refine rnN 1 ?_;refine nkN hK ?_;refine zm (b:=(!r25)) rfl (fun hc26=>?_) (fun hc26=>?_)
 · rw[if_pos hc26] at h;refine rgN [2,3] ?_;cases h;exact rtA
 rw[xQ hc26] at h;apply zd;apply hZ22
 refine rgE tok [0,9,10,11] fun K hK=>?_
 simp only[go_sem,qb,qa,reduceCtorEq,hw4];apply hK
 exact⟨_,_,_,qp q4.length,⟨p4++[y4],q4,x2+1,rfl,rfl,rfl,hE'4,hi'4,h⟩,(.t [] false)⟩
theorem yi.ev (a0:List GRaw)(r:List UInt8×Int)(h:yi a0=some r)(σ:Store):ACalls qh 26 [.ds true (qe encGRaw a0) (qc a0) false] σ (fun r' σ'=>r'=.tup [.ds true (qe encB r.1) (qc r.1) false,.int .i64 r.2]∧σ'=σ):=
 (yi.ok a0 r h).c σ
def xv.body (xa:GValueNode→Option (List UInt8×Int))(yn:Int→GValueValue→Option (GRaw×Int))(xj:GValueNode→Option (List GRaw×Int))(a0:GValueNode):Option (List UInt8×Int):=
 (xj a0).bind fun r1=>(if r1.2=0 then (yi r1.1).bind fun r6=>some (r6.1,r6.2) else some (([]:List UInt8),r1.2))
theorem xv.step (xa:GValueNode→Option (List UInt8×Int))(yn:Int→GValueValue→Option (GRaw×Int))(xj:GValueNode→Option (List GRaw×Int))(Zn:∀ (a0:GValueNode) (r:List UInt8×Int),xa a0=some r→ACalls qh 138 [.dp (encGValueNode a0) 0] [] (fun r' _=>r'=.tup [.ds true (qe encB r.1) (qc r.1) false,.int .i64 r.2]))(ZQ:∀ (a0:Int) (a1:GValueValue) (r:GRaw×Int),yn a0 a1=some r→ACalls qh 101 [.int .i64 a0,.agg (encGValueValue a1)] [] (fun r' _=>r'=.tup [.agg (encGRaw r.1),.int .i64 r.2]))(ZB:∀ (a0:GValueNode) (r:List GRaw×Int),xj a0=some r→ACalls qh 58 [.dp (encGValueNode a0) 0] [] (fun r' _=>r'=.tup [.ds true (qe encGRaw r.1) (qc r.1) false,.int .i64 r.2]))(a0:GValueNode)(r:List UInt8×Int)(h:xv.body xa yn xj a0=some r):ACalls qh 138 [.dp (encGValueNode a0) 0] [] (fun r' _=>r'=.tup [.ds true (qe encB r.1) (qc r.1) false,.int .i64 r.2]):=by
 have ev_encode_bytes:=fun a0 r h σ=>(Zn a0 r h).c σ
 have ev_encode_raw:=fun a0 a1 r h σ=>(ZQ a0 a1 r h).c σ
 have ev_encode_raws:=fun a0 r h σ=>(ZB a0 r h).c σ
 refine zf (rs:=[.tmp 2,.tmp 3]) tok Tryz.func138 rfl Tryz.ntmps138 rfl Tryz.call138 (by simp) ?_;refine zk [(0,.dp (encGValueNode a0) 0)] ⟨rfl,trivial⟩ ?_;unfold xv.body at h;refine rgN [0] ?_
 refine rc [4,5] fun K hK=>?_
 obtain⟨r1,hr1,h⟩:=bind_some h;refine rnN 1 ?_;refine clN rfl rfl rfl (ev_encode_raws a0 r1 hr1 _) ?_;refine rnN 5 ?_;refine nkN hK ?_
 refine za fun Z2 hZ2=>?_
 refine rgN [4,5,12] ?_;refine zq rfl (fun hc3=>?_) (fun hc3=>?_)
 · rw[if_neg hc3] at h;have t4:=eq_false hc3
   refine rg tok [2,3] fun K hK=>?_
   simp only[go_sem,qb,qa,t4];apply hK
   cases h;exact rtA
 rw[if_pos hc3] at h;have t5:=eq_true hc3;apply zd;apply hZ2
 refine rc [2,3] fun K hK=>?_
 obtain⟨r6,hr6,h⟩:=bind_some h;refine zi tok 1 ?_;simp only[go_sem,qb,qa,t5];refine clN rfl rfl rfl (yi.ev r1.1 r6 hr6 _) ?_;refine rnN 4 ?_;refine nkN hK ?_;cases h;exact rtA
def yR.j3 (m1_2:GRaw):Option (GRaw×Int):=
 (if 4096<(qc m1_2.fB:Int) then some ((⟨0,0,0,[]⟩:GRaw),4) else some (m1_2,0))
def yR.body (xa:GValueNode→Option (List UInt8×Int))(yn:Int→GValueValue→Option (GRaw×Int))(xj:GValueNode→Option (List GRaw×Int))(a0:Int)(a1:GValueValue):Option (GRaw×Int):=
 (wv a1).bind fun r8=>(match r8 with|.nil=>(yR.j3 (⟨a0,1,0,[]⟩:GRaw))|.num n9=>some ((⟨a0,0,n9,[]⟩:GRaw),0)|.str s9=>(yR.j3 (⟨a0,1,0,s9⟩:GRaw))|.node e9 r9=>(xa (⟨e9,r9⟩:GValueNode)).bind fun r10=>(if r10.2=0 then (yR.j3 (⟨a0,1,0,r10.1⟩:GRaw)) else some ((⟨0,0,0,[]⟩:GRaw),r10.2)))
theorem yR.step (xa:GValueNode→Option (List UInt8×Int))(yn:Int→GValueValue→Option (GRaw×Int))(xj:GValueNode→Option (List GRaw×Int))(Zn:∀ (a0:GValueNode) (r:List UInt8×Int),xa a0=some r→ACalls qh 138 [.dp (encGValueNode a0) 0] [] (fun r' _=>r'=.tup [.ds true (qe encB r.1) (qc r.1) false,.int .i64 r.2]))(ZQ:∀ (a0:Int) (a1:GValueValue) (r:GRaw×Int),yn a0 a1=some r→ACalls qh 101 [.int .i64 a0,.agg (encGValueValue a1)] [] (fun r' _=>r'=.tup [.agg (encGRaw r.1),.int .i64 r.2]))(ZB:∀ (a0:GValueNode) (r:List GRaw×Int),xj a0=some r→ACalls qh 58 [.dp (encGValueNode a0) 0] [] (fun r' _=>r'=.tup [.ds true (qe encGRaw r.1) (qc r.1) false,.int .i64 r.2]))(a0:Int)(a1:GValueValue)(r:GRaw×Int)(h:yR.body xa yn xj a0 a1=some r):ACalls qh 101 [.int .i64 a0,.agg (encGValueValue a1)] [] (fun r' _=>r'=.tup [.agg (encGRaw r.1),.int .i64 r.2]):=by
 have ev_encode_bytes:=fun a0 r h σ=>(Zn a0 r h).c σ
 have ev_encode_raw:=fun a0 a1 r h σ=>(ZQ a0 a1 r h).c σ
 have ev_encode_raws:=fun a0 r h σ=>(ZB a0 r h).c σ
 refine zf (rs:=[.cell 4 62,.tmp 5]) tok Tryz.func101 rfl Tryz.ntmps101 rfl Tryz.call101 (by simp) ?_;refine zk [(0,.int .i64 a0),(1,.agg (encGValueValue a1))] ⟨rfl,rfl,trivial⟩ ?_;unfold yR.body at h;have f1:=ZV a1;unfold AV.one at f1
 refine rg tok [0,3,4] fun K hK=>?_
 simp only[go_sem,qb,qa,reduceCtorEq,encGValueValue,f1];apply hK
 refine rgN [0,3,4,6] ?_;refine xG (fun L τ=>∃ (m1_2:GRaw),L=[(4,.op 0 0 0),(6,.op 1 0 0)]∧τ=[.cells 0 [.int .i64 0,.int .i64 0,.int .i64 0,.str []],.cells 0 [.int .i64 m1_2.fTag,.int .i64 m1_2.fWire,.int .i64 m1_2.fN,.str m1_2.fB]]∧yR.j3 m1_2=some r) ?_ ?_
 · refine rc [0,4,6,15] fun K hK=>?_
   obtain⟨r8,hr8,h⟩:=bind_some h;refine rnN 1 ?_;refine clN rfl rfl rfl (wv.ev a1 r8 hr8 _) ?_;refine nkN hK ?_;apply ze
   rcases r8 with _|n9|s9|⟨e9,r9⟩
   · dsimp only at h
     try simp only[anyV_nil]
     refine rg tok [0,4,6,15,17,18] fun K hK=>?_
     simp only[go_sem,qb,qa,qd,reduceCtorEq,wm,wr,TypeDesc.isIface];apply hK
     refine zn rfl ?_
     refine rg tok [4,6,15,23,24] fun K hK=>?_
     simp only[go_sem,qb,qa,qd,reduceCtorEq,wm,wr,TypeDesc.isIface];apply hK
     refine zn rfl ?_
     refine rg tok [4,6,28,29] fun K hK=>?_
     simp only[go_sem,qb,qa,qd,wm,wr,TypeDesc.isIface];apply hK
     refine zn rfl ?_;apply zd;exact⟨_,_,⟨(⟨a0,1,0,[]⟩:GRaw),rfl,rfl,h⟩,(.t [1,2] false)⟩
   · dsimp only at h
     try simp only[anyV_num]
     refine rg tok [0,4,6,15,17,18] fun K hK=>?_
     simp only[go_sem,qb,qa,qd,reduceCtorEq,wm,wr,TypeDesc.isIface];apply hK
     refine zo rfl ?_;refine rgN [0,4,7] ?_;refine rgN [4,5] ?_;cases h;exact rtA
   · dsimp only at h
     try simp only[anyV_str]
     refine rg tok [0,4,6,15,17,18] fun K hK=>?_
     simp only[go_sem,qb,qa,qd,reduceCtorEq,wm,wr,TypeDesc.isIface];apply hK
     refine zn rfl ?_
     refine rg tok [4,6,15,23,24] fun K hK=>?_
     simp only[go_sem,qb,qa,qd,reduceCtorEq,wm,wr,TypeDesc.isIface];apply hK
     refine zo rfl ?_;refine rgN [4,6,8] ?_
     refine rgE tok [4,6] fun K hK=>?_
     simp only[go_sem,qb,qf,qa,qd];apply hK
     exact⟨_,_,⟨(⟨a0,1,0,s9⟩:GRaw),rfl,rfl,h⟩,(.t [1,2] false)⟩
   dsimp only at h
   try simp only[anyV_node]
   refine rg tok [0,4,6,15,17,18] fun K hK=>?_
   simp only[go_sem,qb,qa,qd,reduceCtorEq,wm,wr,TypeDesc.isIface];apply hK
   refine zn rfl ?_
   refine rg tok [4,6,15,23,24] fun K hK=>?_
   simp only[go_sem,qb,qa,qd,reduceCtorEq,wm,wr,TypeDesc.isIface];apply hK
   refine zn rfl ?_
   refine rg tok [4,6,28,29] fun K hK=>?_
   simp only[go_sem,qb,qa,qd,wm,wr,TypeDesc.isIface];apply hK
   refine zo rfl ?_;refine rgN [4,6,9] ?_
   refine rc [4,6,10,11] fun K hK=>?_
   obtain⟨r10,hr10,h⟩:=bind_some h;refine rnN 1 ?_;refine clN rfl rfl rfl (ev_encode_bytes (⟨e9,r9⟩:GValueNode) r10 hr10 _) ?_;refine rnN 5 ?_;refine nkN hK ?_
   refine za fun Z11 hZ11=>?_
   refine rgN [4,6,10,11,36] ?_;refine zq rfl (fun hc12=>?_) (fun hc12=>?_)
   · rw[if_neg hc12] at h;have t13:=eq_false hc12
     refine rg tok [4,5] fun K hK=>?_
     simp only[go_sem,qb,qf,qa,qd,t13];apply hK
     cases h;exact rtA
   rw[if_pos hc12] at h;have t14:=eq_true hc12;apply zd;apply hZ11;have f15:=Xt (T:=tab) (src:=34) (dst:=9) rfl rfl rfl rfl rfl rfl r10.1
   refine rgE tok [4,6] fun K hK=>?_
   simp only[go_sem,qb,qf,qa,qd,t14,f15];apply hK
   exact⟨_,_,⟨(⟨a0,1,0,r10.1⟩:GRaw),rfl,rfl,h⟩,(.t [1,2] false)⟩
 rintro _ _ ⟨m1_2,rfl,rfl,h⟩;unfold yR.j3 at h
 refine za fun Z4 hZ4=>?_
 refine rgN [4,6,45] ?_;refine zq rfl (fun hc5=>?_) (fun hc5=>?_)
 · rw[if_pos hc5] at h;have t6:=eq_true hc5
   refine rg tok [4,5] fun K hK=>?_
   simp only[go_sem,qb,qf,qa,qd,t6];apply hK
   cases h;exact rtA
 rw[if_neg hc5] at h;have t7:=eq_false hc5;apply zd;apply hZ4
 refine rg tok [4,5] fun K hK=>?_
 simp only[go_sem,qb,qf,qa,qd,t7];apply hK
 cases h;exact rtA
def zT.l24 (yn:Int→GValueValue→Option (GRaw×Int))(x6:Int)(rec10:Int→List GRaw→Option (List GRaw×Int))(y10:Int):List GValueValue→Int→List GRaw→Option (List GRaw×Int)
 |[],x20,l18=>(rec10 (x6+1) l18)
 |y24::q24,x20,l18=>(yn y10 y24).bind fun r31=>(if r31.2=0 then (Yg (qc l18+1) 40).bind fun _u36=>((zT.l24 yn x6 rec10 y10 q24) (x20+1) (l18++[r31.1])) else some (([]:List GRaw),r31.2))
def zT.l10 (yn:Int→GValueValue→Option (GRaw×Int))(a0:GValueNode):List Int→Int→List GRaw→Option (List GRaw×Int)
 |[],x6,l4=>(zO l4).bind fun r12=>some (r12,0)
 |y10::q10,x6,l4=>(yD a0 y10).bind fun r17=>(zT.l24 yn x6 (zT.l10 yn a0 q10) y10 r17 0 l4)
def zT.body (xa:GValueNode→Option (List UInt8×Int))(yn:Int→GValueValue→Option (GRaw×Int))(xj:GValueNode→Option (List GRaw×Int))(a0:GValueNode):Option (List GRaw×Int):=
 (wX a0).bind fun r1=>(ye a0).bind fun r3=>(zT.l10 yn a0 r3 0 r1)
theorem zT.step (xa:GValueNode→Option (List UInt8×Int))(yn:Int→GValueValue→Option (GRaw×Int))(xj:GValueNode→Option (List GRaw×Int))(Zn:∀ (a0:GValueNode) (r:List UInt8×Int),xa a0=some r→ACalls qh 138 [.dp (encGValueNode a0) 0] [] (fun r' _=>r'=.tup [.ds true (qe encB r.1) (qc r.1) false,.int .i64 r.2]))(ZQ:∀ (a0:Int) (a1:GValueValue) (r:GRaw×Int),yn a0 a1=some r→ACalls qh 101 [.int .i64 a0,.agg (encGValueValue a1)] [] (fun r' _=>r'=.tup [.agg (encGRaw r.1),.int .i64 r.2]))(ZB:∀ (a0:GValueNode) (r:List GRaw×Int),xj a0=some r→ACalls qh 58 [.dp (encGValueNode a0) 0] [] (fun r' _=>r'=.tup [.ds true (qe encGRaw r.1) (qc r.1) false,.int .i64 r.2]))(a0:GValueNode)(r:List GRaw×Int)(h:zT.body xa yn xj a0=some r):ACalls qh 58 [.dp (encGValueNode a0) 0] [] (fun r' _=>r'=.tup [.ds true (qe encGRaw r.1) (qc r.1) false,.int .i64 r.2]):=by
 have ev_encode_bytes:=fun a0 r h σ=>(Zn a0 r h).c σ
 have ev_encode_raw:=fun a0 a1 r h σ=>(ZQ a0 a1 r h).c σ
 have ev_encode_raws:=fun a0 r h σ=>(ZB a0 r h).c σ
 refine zf (rs:=[.tmp 2,.tmp 3]) tok Tryz.func58 rfl Tryz.ntmps58 rfl Tryz.call58 (by simp) ?_;refine zk [(0,.dp (encGValueNode a0) 0)] ⟨rfl,trivial⟩ ?_;unfold zT.body at h;refine rgN [0] ?_
 refine rc [0,4] fun K hK=>?_
 obtain⟨r1,hr1,h⟩:=bind_some h;refine rnN 1 ?_;refine clN rfl rfl rfl (@id (ACalls qh 98 [.dp (encGValueNode a0) 0] [] (fun r' σ'=>r'=.os true 4 0 0 0 (qc r1) false∧σ'=[.cells 0 (qe encGRaw r1)])) ((wX.own a0 r1 hr1).ownAt0 (by simp only[push_cast]) (by simp only[push_cast]) _)) ?_;refine rnN 1 ?_;refine nkN hK ?_
 refine za fun Z2 hZ2=>?_
 refine rc [0,4,14,15,16] fun K hK=>?_
 obtain⟨r3,hr3,h⟩:=bind_some h;refine rnN 1 ?_;refine clN rfl rfl rfl (ye.ev a0 r3 hr3 _) ?_;refine rnN 2 ?_;refine nkN hK ?_;apply ze
 refine yP 14 fun hb10=>?_
 replace hb10:qc r3≤9223372036854775807:=hb10.1;refine zp (fun m L τ=>∃ (p10 q10:List Int) (x6:Int) (l4:List GRaw) (v5:Nat),m=qc q10∧L=[(0,.dp (encGValueNode a0) 0),(4,.os true 4 0 v5 0 (qc l4) false),(14,.ds true (qe encI r3) (qc r3) false),(15,.int .i64 (qc r3:Int)),(16,.int .i64 x6)]∧τ=[.cells v5 (qe encGRaw l4)]∧r3=p10++q10∧x6=(qc p10:Int)∧zT.l10 yn a0 q10 x6 l4=some r) _ ⟨[],r3,0,r1,0,rfl,rfl,rfl,rfl,rfl,h⟩ .s ?_;rintro m L τ ⟨p10,q10,x6,l4,v5,rfl,rfl,rfl,hE10,hi10,h⟩
 rcases q10 with _|⟨y10,q10⟩
 · have hz10:=yl hE10 hi10;simp only[zT.l10] at h
   refine rg tok [0,4,14,15,16,17] fun K hK=>?_
   simp only[go_sem,qb,qa,reduceCtorEq,hz10];apply hK
   refine za fun Z11 hZ11=>?_
   refine zn rfl ?_;apply zr;apply hZ2
   refine rc [2,3] fun K hK=>?_
   obtain⟨r12,hr12,h⟩:=bind_some h;refine rnN 1 ?_;refine Y0 (L:=[(43,.ds true (qe encGRaw l4) (qc l4) false)]) (τ:=[]) (.t [] false) ?_;refine clN rfl rfl rfl (zO.ev l4 r12 hr12 _) ?_;refine rnN 2 ?_;refine nkN hK ?_;cases h;exact rtA
 obtain⟨hz10,hw10,hx10,hE'10,hi'10⟩:=zV hE10 hi10 hb10;simp only[zT.l10] at h
 refine rg tok [0,4,14,15,16,17] fun K hK=>?_
 simp only[go_sem,qb,qa,reduceCtorEq,hz10];apply hK
 refine za fun Z13 hZ13=>?_
 refine zo rfl ?_;apply zd;apply hZ13
 refine za fun Z14 hZ14=>?_
 apply ze;have f15:=E45.idxS hx10;have f16:=E45.fldS0 (f:=3) rfl rfl hx10
 refine rg tok [0,4,6,14,15,16] fun K hK=>?_
 simp only[go_sem,qb,qa,reduceCtorEq,encI,f15,f16];apply hK
 refine rc [0,4,6,14,15,16,22,23,24] fun K hK=>?_
 obtain⟨r17,hr17,h⟩:=bind_some h;refine rnN 2 ?_;refine clN rfl rfl rfl (yD.ev a0 y10 r17 hr17 _) ?_;refine rnN 2 ?_;refine nkN hK ?_;apply ze
 refine yP 22 fun hb24=>?_
 replace hb24:qc r17≤9223372036854775807:=hb24.1;refine zp (fun m L τ=>∃ (p24 q24:List GValueValue) (x20:Int) (l18:List GRaw) (v19:Nat),m=qc q24∧L=[(0,.dp (encGValueNode a0) 0),(4,.os true 4 0 v19 0 (qc l18) false),(6,.int .i64 y10),(14,.ds true (qe encI r3) (qc r3) false),(15,.int .i64 (qc r3:Int)),(16,.int .i64 x6),(22,.ds true (qe encGValueValue r17) (qc r17) false),(23,.int .i64 (qc r17:Int)),(24,.int .i64 x20)]∧τ=[.cells v19 (qe encGRaw l18)]∧r17=p24++q24∧x20=(qc p24:Int)∧zT.l24 yn x6 (zT.l10 yn a0 q10) y10 q24 x20 l18=some r) _ ⟨[],r17,0,l4,v5,rfl,rfl,rfl,rfl,rfl,h⟩ .s ?_;rintro m L τ ⟨p24,q24,x20,l18,v19,rfl,rfl,rfl,hE24,hi24,h⟩
 rcases q24 with _|⟨y24,q24⟩
 · have hz24:=yl hE24 hi24;simp only[zT.l24] at h
   refine rg tok [0,4,6,14,15,16,22,23,24,25] fun K hK=>?_
   simp only[go_sem,qb,qa,reduceCtorEq,hz24];apply hK
   refine za fun Z25 hZ25=>?_
   refine zn rfl ?_;apply zr;apply hZ14
   refine rgE tok [0,4,14,15,16] fun K hK=>?_
   simp only[go_sem,qb,qa,reduceCtorEq,hw10];apply hK
   exact⟨_,_,_,qp q10.length,⟨p10++[y10],q10,x6+1,l18,v19,rfl,rfl,rfl,hE'10,hi'10,h⟩,.s⟩
 obtain⟨hz24,hw24,hx24,hE'24,hi'24⟩:=zV hE24 hi24 hb24;simp only[zT.l24] at h
 refine rg tok [0,4,6,14,15,16,22,23,24,25] fun K hK=>?_
 simp only[go_sem,qb,qa,reduceCtorEq,hz24];apply hK
 refine za fun Z26 hZ26=>?_
 refine zo rfl ?_;apply zd;apply hZ26
 refine za fun Z27 hZ27=>?_
 apply ze;have f28:=E156.idxS hx24;have f29:=E156.loadS rfl rfl hx24;have f30:=ZV y24;unfold AV.one at f30
 refine rg tok [0,4,6,8,14,15,16,22,23,24] fun K hK=>?_
 simp only[go_sem,qb,qf,qa,reduceCtorEq,encGValueValue,f28,f29,f30];apply hK
 refine rc [0,4,6,9,10,14,15,16,22,23,24] fun K hK=>?_
 obtain⟨r31,hr31,h⟩:=bind_some h;refine rnN 2 ?_;refine clN rfl rfl rfl (ev_encode_raw y10 y24 r31 hr31 _) ?_;refine zi tok 6 ?_;simp only[go_sem,qb,qf,qa,qd,reduceCtorEq,encGRaw];refine nkN hK ?_
 refine za fun Z32 hZ32=>?_
 refine rgN [0,4,6,9,10,14,15,16,22,23,24,35] ?_;refine zq rfl (fun hc33=>?_) (fun hc33=>?_)
 · rw[if_neg hc33] at h;have t34:=eq_false hc33
   refine rg tok [2,3] fun K hK=>?_
   simp only[go_sem,qb,qa,reduceCtorEq,t34];apply hK
   cases h;exact rtA
 rw[if_pos hc33] at h;have t35:=eq_true hc33;apply zd;apply hZ32;obtain⟨_u36,hu36,h⟩:=bind_some h;have gu36:=yf hu36;have f37:=(zt E28.len l18)
 refine rgE tok [0,4,6,14,15,16,22,23,24] fun K hK=>?_
 simp only[go_sem,qb,qf,qa,qd,qt,reduceCtorEq,zC,z7,q3,qT,true_and,ub,z6,zJ,ym,t35,gu36,f37,yJ,uc,qY,AV.one,qR,qx,qj,ql,qq,qH];apply hK
 apply hZ27
 refine rgE tok [0,4,6,14,15,16,22,23,24] fun K hK=>?_
 simp only[go_sem,qb,qa,reduceCtorEq,hw24];apply hK
 exact⟨_,_,_,qp q24.length,⟨p24++[y24],q24,x20+1,l18++[r31.1],v19+1,rfl,rfl,rfl,hE'24,hi'24,h⟩,(.t [0] false)⟩
mutual
def xv : Nat→GValueNode→Option (List UInt8×Int)
 |0,_=>none
 |k+1,a0=>xv.body (xv k) (yR k) (zT k) a0
def yR : Nat→Int→GValueValue→Option (GRaw×Int)
 |0,_,_=>none
 |k+1,a0,a1=>yR.body (xv k) (yR k) (zT k) a0 a1
def zT : Nat→GValueNode→Option (List GRaw×Int)
 |0,_=>none
 |k+1,a0=>zT.body (xv k) (yR k) (zT k) a0
end
theorem xv.all (k:Nat):(∀ (a0:GValueNode) (r:List UInt8×Int),xv k a0=some r→ACalls qh 138 [.dp (encGValueNode a0) 0] [] (fun r' _=>r'=.tup [.ds true (qe encB r.1) (qc r.1) false,.int .i64 r.2]))∧(∀ (a0:Int) (a1:GValueValue) (r:GRaw×Int),yR k a0 a1=some r→ACalls qh 101 [.int .i64 a0,.agg (encGValueValue a1)] [] (fun r' _=>r'=.tup [.agg (encGRaw r.1),.int .i64 r.2]))∧(∀ (a0:GValueNode) (r:List GRaw×Int),zT k a0=some r→ACalls qh 58 [.dp (encGValueNode a0) 0] [] (fun r' _=>r'=.tup [.ds true (qe encGRaw r.1) (qc r.1) false,.int .i64 r.2])):=by
 induction k with
 |zero=>exact⟨(fun a0 r h=>by simp only[xv] at h; cases h),(fun a0 a1 r h=>by simp only[yR] at h; cases h),(fun a0 r h=>by simp only[zT] at h; cases h)⟩
 |succ k ih=>exact⟨(fun a0 r h=>xv.step _ _ _ ih.1 ih.2.1 ih.2.2 a0 r (by simpa only [xv] using h)),(fun a0 a1 r h=>yR.step _ _ _ ih.1 ih.2.1 ih.2.2 a0 a1 r (by simpa only [yR] using h)),(fun a0 r h=>zT.step _ _ _ ih.1 ih.2.1 ih.2.2 a0 r (by simpa only [zT] using h))⟩
theorem zT.ev (k:Nat)(a0:GValueNode)(r:List GRaw×Int)(h:zT k a0=some r)(σ:Store):ACalls qh 58 [.dp (encGValueNode a0) 0] σ (fun r' σ'=>r'=.tup [.ds true (qe encGRaw r.1) (qc r.1) false,.int .i64 r.2]∧σ'=σ):=
 ((xv.all k).2.2 a0 r h).c σ
def wV (a0:GTree):Option (List GRaw×Int):=
 (Yc a0).bind fun r1=>(if ((!r1.2)||(!(decide (a0.fKind=3))))=true then some (([]:List GRaw),1) else (yM r1.1).bind fun r5=>(zT rounds r5).bind fun r6=>some (r6.1,r6.2))
theorem wV.ok (a0:GTree)(r:List GRaw×Int)(h:wV a0=some r):ACalls qh 37 [.agg (cellsGTree a0)] [] (fun r' _=>r'=.tup [.ds true (qe encGRaw r.1) (qc r.1) false,.int .i64 r.2]):=by
 refine zf (rs:=[.tmp 2,.tmp 3]) tok Tryz.func37 rfl Tryz.ntmps37 rfl Tryz.call37 (by simp) ?_;refine zk [(0,.agg (cellsGTree a0))] ⟨rfl,trivial⟩ ?_;unfold wV at h
 refine rg tok [1] fun K hK=>?_
 simp only[go_sem,qb,qa,qd,reduceCtorEq,cellsGTree];apply hK
 refine rc [1,4,5] fun K hK=>?_
 obtain⟨r1,hr1,h⟩:=bind_some h;refine rnN 1 ?_;refine clN rfl rfl rfl (Yc.ev a0 r1 hr1 _) ?_;have f2:=ZV r1.1;unfold AV.one at f2;refine zi tok 6 ?_;simp only[go_sem,qb,qf,qa,qd,encGValueValue,f2];refine nkN hK ?_
 refine za fun Z3 hZ3=>?_
 refine rc [4,17] fun K hK=>?_
 refine rnN 3 ?_;refine zh 4 (fun L τ=>L=[(4,.op 1 0 0),(17,.bool ((!r1.2)||(!(decide (a0.fKind=3)))))]∧τ=[.cells 0 (cellsGTree a0),.cells 0 [ifcV r1.1]]) ?_ ?_
 · refine zH (b:=(!r1.2)) 13 rfl (fun hg13=>?_) (fun hg13=>?_)
   · refine rnN 4 ?_;refine zb ⟨rfl,_,_,⟨rfl,rfl⟩,.b hg13⟩
   refine rnN 4 ?_;refine zb ⟨rfl,_,_,⟨rfl,rfl⟩,.b hg13⟩
 rintro _ _ ⟨rfl,rfl⟩;refine nkN hK ?_;refine zm (b:=((!r1.2)||(!(decide (a0.fKind=3))))) rfl (fun hc4=>?_) (fun hc4=>?_)
 · rw[if_pos hc4] at h;refine rgN [2,3] ?_;cases h;exact rtA
 rw[xQ hc4] at h;apply zd;apply hZ3
 refine rc [2,3] fun K hK=>?_
 obtain⟨r5,hr5,h⟩:=bind_some h;refine rnN 1 ?_;refine clN rfl rfl rfl (yM.ev r1.1 r5 hr5 _) ?_;obtain⟨r6,hr6,h⟩:=bind_some h;refine clN rfl rfl rfl (zT.ev rounds r5 r6 hr6 _) ?_;refine rnN 4 ?_;refine nkN hK ?_;cases h;exact rtA
theorem wV.ev (a0:GTree)(r:List GRaw×Int)(h:wV a0=some r)(σ:Store):ACalls qh 37 [.agg (cellsGTree a0)] σ (fun r' σ'=>r'=.tup [.ds true (qe encGRaw r.1) (qc r.1) false,.int .i64 r.2]∧σ'=σ):=
 (wV.ok a0 r h).c σ
def wd (a0:GTree):Option (List UInt8×Int):=
 (wV a0).bind fun r1=>(if r1.2=0 then (yi r1.1).bind fun r6=>some (r6.1,r6.2) else some (([]:List UInt8),r1.2))
theorem wd.ok (a0:GTree)(r:List UInt8×Int)(h:wd a0=some r):ACalls qh 14 [.agg (cellsGTree a0)] [] (fun r' _=>r'=.tup [.ds true (qe encB r.1) (qc r.1) false,.int .i64 r.2]):=by
 refine zf (rs:=[.tmp 2,.tmp 3]) tok Tryz.func14 rfl Tryz.ntmps14 rfl Tryz.call14 (by simp) ?_;refine zk [(0,.agg (cellsGTree a0))] ⟨rfl,trivial⟩ ?_;unfold wd at h
 refine rg tok [1] fun K hK=>?_
 simp only[go_sem,qb,qa,qd,reduceCtorEq,cellsGTree];apply hK
 refine rc [4,5] fun K hK=>?_
 obtain⟨r1,hr1,h⟩:=bind_some h;refine rnN 1 ?_;refine clN rfl rfl rfl (wV.ev a0 r1 hr1 _) ?_;refine rnN 5 ?_;refine nkN hK ?_
 refine za fun Z2 hZ2=>?_
 refine rgN [4,5,12] ?_;refine zq rfl (fun hc3=>?_) (fun hc3=>?_)
 · rw[if_neg hc3] at h;have t4:=eq_false hc3
   refine rg tok [2,3] fun K hK=>?_
   simp only[go_sem,qb,qa,t4];apply hK
   cases h;exact rtA
 rw[if_pos hc3] at h;have t5:=eq_true hc3;apply zd;apply hZ2
 refine rc [2,3] fun K hK=>?_
 obtain⟨r6,hr6,h⟩:=bind_some h;refine zi tok 1 ?_;simp only[go_sem,qb,qa,t5];refine clN rfl rfl rfl (yi.ev r1.1 r6 hr6 _) ?_;refine rnN 4 ?_;refine nkN hK ?_;cases h;exact rtA
theorem wd.ev (a0:GTree)(r:List UInt8×Int)(h:wd a0=some r)(σ:Store):ACalls qh 14 [.agg (cellsGTree a0)] σ (fun r' σ'=>r'=.tup [.ds true (qe encB r.1) (qc r.1) false,.int .i64 r.2]∧σ'=σ):=
 (wd.ok a0 r h).c σ
def wF (a0:List Int):Option (List Int):=
 (Yg (qc a0) 8).bind fun _u2=>some a0
theorem wF.own (a0:List Int)(r:List Int)(h:wF a0=some r):ACalls qh 42 [.ds true (qe encI a0) (qc a0) false] [] (fun r' σ'=>r'=.os true 1 0 0 0 (qc r) false∧σ'=[.cells 0 (qe encI r)]):=by
 refine ACalls.own0 (by simp only[push_cast]) ?_;refine ZM (rs:=[.tmp 2]) tok Tryz.func42 rfl Tryz.ntmps42 rfl Tryz.call42 (by simp) ?_;refine zk [(0,.ds true (qe encI a0) (qc a0) false)] ⟨rfl,trivial⟩ ?_;unfold wF at h;refine rgN [0] ?_
 have f1:=fun nl tt σ=>xU E45.len a0 nl tt σ
 obtain⟨_u2,hu2,h⟩:=bind_some h;have gu2:=yf hu2
 refine rg tok [2] fun K hK=>?_
 simp only[go_sem,qb,qa,reduceCtorEq,z6,zJ,ym,true_and,f1,gu2,Zu,qx,ql,qq];apply hK
 refine zU (L:=[(2,.os true 1 0 0 0 (qc a0) false)]) (τ:=[.cells 0 (qe encI a0)]) .s ?_;apply yz;cases h;simp only[ZL,yT,xd,xZ,exists_eq_left',go_sem];refine⟨0,0,by simp,?_,?_⟩
 · first|rfl|(simp only[go_sem,qb,qf,qa,qd,qt,qK,reduceIte,reduceCtorEq,push_cast,if_true,qC,qq,qE,qw,qD,qP,qZ,qV,qX,qQ,qy,zP]<;>rfl)
 first|rfl|(simp only[go_sem,push_cast,qw,zP]<;>rfl)
theorem wF.ok (a0:List Int)(r:List Int)(h:wF a0=some r):ACalls qh 42 [.ds true (qe encI a0) (qc a0) false] [] (fun r' _=>r'=.ds true (qe encI r) (qc r) false):=
 (wF.own a0 r h).ownData (zt E45.len r) (by simp only[push_cast])
theorem wF.ev (a0:List Int)(r:List Int)(h:wF a0=some r)(σ:Store):ACalls qh 42 [.ds true (qe encI a0) (qc a0) false] σ (fun r' σ'=>r'=.ds true (qe encI r) (qc r) false∧σ'=σ):=
 (wF.ok a0 r h).c σ
def yo.l19 (a0:GSchema)(l4:List GMessage):List GEnumeration→Int→List GEnumeration→Option GSchema
 |[],x15,l13=>some (⟨a0.fName,l4,l13,a0.fMethods⟩:GSchema)
 |y19::q19,x15,l13=>(Yg (qc y19.fValues) 24).bind fun _u28=>(Yg (qc l13+1) 40).bind fun _u29=>((yo.l19 a0 l4 q19) (x15+1) (l13++[(⟨y19.fName,y19.fValues⟩:GEnumeration)]))
def yo.l10 (a0:GSchema):List GMessage→Int→List GMessage→Option GSchema
 |[],x6,l4=>(yo.l19 a0 l4 a0.fEnums 0 ([]:List GEnumeration))
 |y10::q10,x6,l4=>(Yg (qc y10.fFields) 56).bind fun _u36=>(wF y10.fReserved).bind fun r37=>(Yg (qc l4+1) 64).bind fun _u38=>((yo.l10 a0 q10) (x6+1) (l4++[(⟨y10.fName,y10.fFields,r37⟩:GMessage)]))
def yo (a0:GSchema):Option GSchema:=
 (Yg (qc a0.fMethods) 48).bind fun _u2=>(yo.l10 a0 a0.fMessages 0 ([]:List GMessage))
theorem yo.ok (a0:GSchema)(r:GSchema)(h:yo a0=some r):ACalls qh 17 [.agg (encGSchema a0)] [] (fun r' _=>r'=.agg (encGSchema r)):=by
 refine zf (rs:=[.cell 2 26]) tok Tryz.func17 rfl Tryz.ntmps17 rfl Tryz.call17 (by simp) ?_;refine zk [(0,.agg (encGSchema a0))] ⟨rfl,trivial⟩ ?_;unfold yo at h
 refine rg tok [1,2] fun K hK=>?_
 simp only[go_sem,qb,qa,qd,reduceCtorEq,encGSchema];apply hK
 have f1:=fun nl tt σ=>xU E24.len a0.fMethods nl tt σ
 obtain⟨_u2,hu2,h⟩:=bind_some h;have gu2:=yf hu2
 refine rd [1,2,3] fun K hK=>?_
 refine DW.start (T:=tab) [.any,.own 2 [],.any,.at [],.eff,.any,.flt,.eff] [(2,[])] ?_;refine DW.runN tok 8 ?_;simp only[go_sem,qb,qf,qa,qd,z6,zJ,ym,true_and,encGSchema,f1,gu2,Zu,uc,qY,AV.one,qR,qx,qj,ql,qq,qH];refine DW.fin tok (by decide +kernel) rfl ?_;simp only[zj,upd,qa,reduceIte,yu,xe];apply hK
 refine Zq 3 1 3 rfl (by simp) rfl (L:=[(1,.op 0 0 0),(2,.op 1 0 0),(3,.op 3 0 0)]) (τ:=[.cells 0 (encGSchema a0),.cells 0 [.str [],.ds true [] 0 true,.ds true [] 0 true,.ds true [] 0 true],.cells 0 (qe encGMethod a0.fMethods),.cells 0 [.str a0.fName,.os true 3 4 0 0 (qc ([]:List GMessage)) false,.ds true [] 0 true,.os true 3 2 0 0 (qc a0.fMethods) false],.cells 0 (qe encGMessage ([]:List GMessage))]) .s ?_;refine Zq 3 2 2 rfl (by simp) rfl (L:=[(1,.op 0 0 0),(2,.op 1 0 0),(3,.op 3 0 0)]) (τ:=[.cells 0 (encGSchema a0),.cells 0 [.str [],.ds true [] 0 true,.ds true [] 0 true,.ds true [] 0 true],.cells 0 (qe encGMethod a0.fMethods),.cells 0 [.str a0.fName,.os true 3 4 0 0 (qc ([]:List GMessage)) false,.os true 2 5 0 0 (qc ([]:List GEnumeration)) false,.os true 3 2 0 0 (qc a0.fMethods) false],.cells 0 (qe encGMessage ([]:List GMessage)),.cells 0 (qe encGEnumeration ([]:List GEnumeration))]) .s ?_;refine zU (L:=[(1,.op 0 0 0),(2,.op 1 0 0),(3,.op 3 0 0)]) (τ:=[.cells 0 (encGSchema a0),.cells 0 [.str [],.ds true [] 0 true,.ds true [] 0 true,.ds true [] 0 true],.cells 0 (qe encGMethod a0.fMethods),.cells 0 [.str a0.fName,.os true 3 4 0 0 (qc ([]:List GMessage)) false,.os true 2 5 0 0 (qc ([]:List GEnumeration)) false,.os true 3 2 0 0 (qc a0.fMethods) false],.cells 0 (qe encGMessage ([]:List GMessage)),.cells 0 (qe encGEnumeration ([]:List GEnumeration))]) .s ?_
 refine za fun Z3 hZ3=>?_
 refine rgN [1,2,3,4] ?_;apply ze
 refine xh 0 rfl fun hb10=>?_
 replace hb10:qc a0.fMessages≤9223372036854775807:=hb10.2.1.1;refine zp (fun m L τ=>∃ (p10 q10:List GMessage) (x6:Int) (l4:List GMessage) (v5:Nat),m=qc q10∧L=[(1,.op 0 0 0),(2,.op 1 0 0),(3,.op 3 0 0),(4,.int .i64 x6)]∧τ=[.cells 0 (encGSchema a0),.cells 0 [.str [],.ds true [] 0 true,.ds true [] 0 true,.ds true [] 0 true],.cells 0 (qe encGMethod a0.fMethods),.cells 0 [.str a0.fName,.os true 3 4 v5 0 (qc l4) false,.os true 2 5 0 0 (qc ([]:List GEnumeration)) false,.os true 3 2 0 0 (qc a0.fMethods) false],.cells v5 (qe encGMessage l4),.cells 0 (qe encGEnumeration ([]:List GEnumeration))]∧a0.fMessages=p10++q10∧x6=(qc p10:Int)∧yo.l10 a0 q10 x6 l4=some r) _ ⟨[],a0.fMessages,0,([]:List GMessage),0,rfl,rfl,rfl,rfl,rfl,h⟩ .s ?_;rintro m L τ ⟨p10,q10,x6,l4,v5,rfl,rfl,rfl,hE10,hi10,h⟩
 rcases q10 with _|⟨y10,q10⟩
 · have hz10:=yl hE10 hi10;simp only[yo.l10] at h
   refine za fun Z11 hZ11=>?_
   refine rg tok [1,2,3,4,17] fun K hK=>?_
   simp only[go_sem,qb,qa,qd,hz10];apply hK
   refine zn rfl ?_;apply zr;apply hZ3
   refine za fun Z12 hZ12=>?_
   refine rgN [1,2,3,6] ?_;apply ze
   refine xh 0 rfl fun hb19=>?_
   replace hb19:qc a0.fEnums≤9223372036854775807:=hb19.2.2.1.1;refine zp (fun m L τ=>∃ (p19 q19:List GEnumeration) (x15:Int) (l13:List GEnumeration) (v14:Nat),m=qc q19∧L=[(1,.op 0 0 0),(2,.op 1 0 0),(3,.op 3 0 0),(6,.int .i64 x15)]∧τ=[.cells 0 (encGSchema a0),.cells 0 [.str [],.ds true [] 0 true,.ds true [] 0 true,.ds true [] 0 true],.cells 0 (qe encGMethod a0.fMethods),.cells 0 [.str a0.fName,.os true 3 4 v5 0 (qc l4) false,.os true 2 5 v14 0 (qc l13) false,.os true 3 2 0 0 (qc a0.fMethods) false],.cells v5 (qe encGMessage l4),.cells v14 (qe encGEnumeration l13)]∧a0.fEnums=p19++q19∧x15=(qc p19:Int)∧yo.l19 a0 l4 q19 x15 l13=some r) _ ⟨[],a0.fEnums,0,([]:List GEnumeration),0,rfl,rfl,rfl,rfl,rfl,h⟩ .s ?_;rintro m L τ ⟨p19,q19,x15,l13,v14,rfl,rfl,rfl,hE19,hi19,h⟩
   rcases q19 with _|⟨y19,q19⟩
   · have hz19:=yl hE19 hi19;simp only[yo.l19] at h
     refine za fun Z20 hZ20=>?_
     refine rg tok [1,2,3,6,43] fun K hK=>?_
     simp only[go_sem,qb,qa,qd,hz19];apply hK
     refine zn rfl ?_;apply zr;apply hZ12;refine rgN [2] ?_;cases h;exact rtA
   obtain⟨hz19,hw19,hx19,hE'19,hi'19⟩:=zV hE19 hi19 hb19;simp only[yo.l19] at h
   refine za fun Z21 hZ21=>?_
   refine rg tok [1,2,3,6,43] fun K hK=>?_
   simp only[go_sem,qb,qa,qd,hz19];apply hK
   refine zo rfl ?_;apply zd;apply hZ21
   refine za fun Z22 hZ22=>?_
   apply ze;have f23:=E23.idxS hx19;have f24:=E23.fldS0 (f:=9) rfl rfl hx19;have f25:=E23.idxS hx19;have f26:=E23.fldS (f:=82) rfl rfl hx19 (o:=1) (by decide)
   have f27:=fun nl tt σ=>xU E82.len y19.fValues nl tt σ
   obtain⟨_u28,hu28,h⟩:=bind_some h;have gu28:=yf hu28;obtain⟨_u29,hu29,h⟩:=bind_some h;have gu29:=yf hu29;have f30:=(zt E23.len l13)
   refine rdE [1,2,3,6] fun K hK=>?_
   refine DW.start (T:=tab) [.any,.own 2 [],.any,.own 1 [],.any,.any,.any,.own 1 [],.any,.at [],.any,.any,.any,.at [],.eff,.any,.eff,.eff,.any,.eff] [(2,[]),(1,[])] ?_;refine DW.runN tok 8 ?_;simp only[go_sem,qb,qa,qd,encGEnumeration,encGSchema,f23,f24,qj,ql,qq];refine DW.runN tok 8 ?_;simp only[go_sem,qb,qf,qa,qd,z6,zJ,ym,true_and,encGEnumeration,f23,f26,f27,gu28,Zu,uc,qY,AV.one,qR,qx,qj,ql,qq,qH];refine DW.runN tok 4 ?_;simp only[go_sem,qb,qf,qa,qd,qt,zC,z7,q3,qT,true_and,ub,z6,zJ,ym,gu29,f30,uc,qY,AV.one,qR,qx,qj,ql,qq,qH,yJ];refine DW.fin tok (by decide +kernel) rfl ?_;simp only[zj,upd,qa,reduceIte,yu,xe];apply hK
   apply hZ22
   refine rgE tok [1,2,3,6] fun K hK=>?_
   simp only[go_sem,qb,qa,hw19];apply hK
   exact⟨_,_,_,qp q19.length,⟨p19++[y19],q19,x15+1,l13++[(⟨y19.fName,y19.fValues⟩:GEnumeration)],v14+1,rfl,rfl,rfl,hE'19,hi'19,h⟩,(.t [0,1,2,3,4,5] false)⟩
 obtain⟨hz10,hw10,hx10,hE'10,hi'10⟩:=zV hE10 hi10 hb10;simp only[yo.l10] at h
 refine za fun Z31 hZ31=>?_
 refine rg tok [1,2,3,4,17] fun K hK=>?_
 simp only[go_sem,qb,qa,qd,hz10];apply hK
 refine zo rfl ?_;apply zd;apply hZ31
 refine za fun Z32 hZ32=>?_
 apply ze;have f33:=E22.idxS hx10;have f34:=E22.loadS rfl rfl hx10
 refine rg tok [1,2,3,4,5] fun K hK=>?_
 simp only[go_sem,qb,qf,qa,qd,encGMessage,f33,f34];apply hK
 have f35:=fun nl tt σ=>xU E47.len y10.fFields nl tt σ
 obtain⟨_u36,hu36,h⟩:=bind_some h;have gu36:=yf hu36;obtain⟨r37,hr37,h⟩:=bind_some h;obtain⟨_u38,hu38,h⟩:=bind_some h;have gu38:=yf hu38;have f39:=(zt E22.len l4)
 refine rdE [1,2,3,4] fun K hK=>?_
 refine DW.start (T:=tab) [.any,.own 3 [],.any,.own 2 [],.any,.at [],.eff,.any,.own 1 [],.eff,.any,.eff,.eff,.any,.eff] [(3,[]),(2,[]),(1,[])] ?_;refine DW.runN tok 8 ?_;simp only[go_sem,qb,qf,qa,qd,z6,zJ,ym,true_and,encGSchema,f35,gu36,Zu,un,qx,qj,ql,qq,qH];refine DW.runN tok 1 ?_;simp only[go_sem,qb,qa,qd,qj,ql,qq];refine DW.call rfl rfl rfl (wF.ev y10.fReserved r37 hr37 _) ?_;refine DW.runN tok 5 ?_;simp only[go_sem,qb,qf,qa,qd,qt,zC,z7,q3,qT,true_and,ub,z6,zJ,ym,gu38,f39,uc,qY,AV.one,qR,qx,qj,ql,qq,qH,yJ];refine DW.fin tok (by decide +kernel) rfl ?_;simp only[zj,upd,qa,reduceIte,yu,xe];apply hK
 apply hZ32
 refine rgE tok [1,2,3,4] fun K hK=>?_
 simp only[go_sem,qb,qa,hw10];apply hK
 exact⟨_,_,_,qp q10.length,⟨p10++[y10],q10,x6+1,l4++[(⟨y10.fName,y10.fFields,r37⟩:GMessage)],v5+1,rfl,rfl,rfl,hE'10,hi'10,h⟩,(.t [0,1,2,3,4,5] false)⟩
end
section
set_option maxRecDepth 4000
set_option maxHeartbeats 1000000
open AM
theorem yo.ev (a0:GSchema)(r:GSchema)(h:yo a0=some r)(σ:Store):ACalls qh 17 [.agg (encGSchema a0)] σ (fun r' σ'=>r'=.agg (encGSchema r)∧σ'=σ):=
 (yo.ok a0 r h).c σ
def xD (a0:Int):Bool:=
 ((((((decide (97≤a0))&&(decide (a0≤122)))||((decide (65≤a0))&&(decide (a0≤90))))||(decide (a0=95)))||((((decide (192≤a0))&&(decide (a0≤591)))&&(!(decide (a0=215))))&&(!(decide (a0=247)))))||(((decide (913≤a0))&&(decide (a0≤969)))&&(!(decide (a0=930)))))
theorem xD.ok (a0:Int)(r:Bool)(h:xD a0=r):ACalls qh 79 [.int .i32 a0] [] (fun r' _=>r'=.bool r):=by
 refine zf (rs:=[.tmp 2]) tok Tryz.func79 rfl Tryz.ntmps79 rfl Tryz.call79 (by simp) ?_;refine zk [(0,.int .i32 a0)] ⟨rfl,trivial⟩ ?_;unfold xD at h;refine rgN [0] ?_
 refine rc [2] fun K hK=>?_
 refine rnN 3 ?_;refine zh 3 (fun L τ=>L=[(0,.int .i32 a0),(8,.bool ((decide (97≤a0))&&(decide (a0≤122))))]∧τ=[]) ?_ ?_
 · refine yw 5 rfl (fun hg5=>?_) (fun hg5=>?_)
   · have t1:=eq_true hg5;refine rnN 3 ?_;refine zb ⟨rfl,_,_,⟨rfl,rfl⟩,.p t1⟩
   have t2:=eq_false hg5;refine rnN 3 ?_;refine zb ⟨rfl,_,_,⟨rfl,rfl⟩,.p t2⟩
 rintro _ _ ⟨rfl,rfl⟩;refine rnN 1 ?_;refine zh 7 (fun L τ=>L=[(0,.int .i32 a0),(16,.bool (((decide (97≤a0))&&(decide (a0≤122)))||((decide (65≤a0))&&(decide (a0≤90)))))]∧τ=[]) ?_ ?_
 · refine zH (b:=((decide (97≤a0))&&(decide (a0≤122)))) 9 rfl (fun hg9=>?_) (fun hg9=>?_)
   · refine rnN 7 ?_;refine zb ⟨rfl,_,_,⟨rfl,rfl⟩,.b hg9⟩
   refine rnN 3 ?_;refine zh 3 (fun L τ=>L=[(0,.int .i32 a0),(9,.bool false),(15,.bool ((decide (65≤a0))&&(decide (a0≤90))))]∧τ=[]) ?_ ?_
   · refine yw 12 rfl (fun hg12=>?_) (fun hg12=>?_)
     · have t3:=eq_true hg12;refine rnN 3 ?_;refine zb ⟨rfl,_,_,⟨rfl,rfl⟩,.p t3⟩
     have t4:=eq_false hg12;refine rnN 3 ?_;refine zb ⟨rfl,_,_,⟨rfl,rfl⟩,.p t4⟩
   rintro _ _ ⟨rfl,rfl⟩;refine rnN 1 ?_;refine zb ⟨rfl,_,_,⟨rfl,rfl⟩,.b hg9⟩
 rintro _ _ ⟨rfl,rfl⟩;refine rnN 1 ?_;refine zh 3 (fun L τ=>L=[(0,.int .i32 a0),(20,.bool ((((decide (97≤a0))&&(decide (a0≤122)))||((decide (65≤a0))&&(decide (a0≤90))))||(decide (a0=95))))]∧τ=[]) ?_ ?_
 · refine zH (b:=(((decide (97≤a0))&&(decide (a0≤122)))||((decide (65≤a0))&&(decide (a0≤90))))) 17 rfl (fun hg17=>?_) (fun hg17=>?_)
   · refine rnN 3 ?_;refine zb ⟨rfl,_,_,⟨rfl,rfl⟩,.b hg17⟩
   refine rnN 3 ?_;refine zb ⟨rfl,_,_,⟨rfl,rfl⟩,.b hg17⟩
 rintro _ _ ⟨rfl,rfl⟩;refine rnN 1 ?_;refine zh 15 (fun L τ=>L=[(0,.int .i32 a0),(36,.bool (((((decide (97≤a0))&&(decide (a0≤122)))||((decide (65≤a0))&&(decide (a0≤90))))||(decide (a0=95)))||((((decide (192≤a0))&&(decide (a0≤591)))&&(!(decide (a0=215))))&&(!(decide (a0=247))))))]∧τ=[]) ?_ ?_
 · refine zH (b:=((((decide (97≤a0))&&(decide (a0≤122)))||((decide (65≤a0))&&(decide (a0≤90))))||(decide (a0=95)))) 21 rfl (fun hg21=>?_) (fun hg21=>?_)
   · refine rnN 10 ?_;refine rnN 5 ?_;refine zb ⟨rfl,_,_,⟨rfl,rfl⟩,.b hg21⟩
   refine rnN 3 ?_;refine zh 3 (fun L τ=>L=[(0,.int .i32 a0),(21,.bool false),(27,.bool ((decide (192≤a0))&&(decide (a0≤591))))]∧τ=[]) ?_ ?_
   · refine yw 24 rfl (fun hg24=>?_) (fun hg24=>?_)
     · have t5:=eq_true hg24;refine rnN 3 ?_;refine zb ⟨rfl,_,_,⟨rfl,rfl⟩,.p t5⟩
     have t6:=eq_false hg24;refine rnN 3 ?_;refine zb ⟨rfl,_,_,⟨rfl,rfl⟩,.p t6⟩
   rintro _ _ ⟨rfl,rfl⟩;refine rnN 1 ?_;refine zh 3 (fun L τ=>L=[(0,.int .i32 a0),(21,.bool false),(31,.bool (((decide (192≤a0))&&(decide (a0≤591)))&&(!(decide (a0=215)))))]∧τ=[]) ?_ ?_
   · refine zH (b:=((decide (192≤a0))&&(decide (a0≤591)))) 28 rfl (fun hg28=>?_) (fun hg28=>?_)
     · refine rnN 3 ?_;refine zb ⟨rfl,_,_,⟨rfl,rfl⟩,.b hg28⟩
     refine rnN 3 ?_;refine zb ⟨rfl,_,_,⟨rfl,rfl⟩,.b hg28⟩
   rintro _ _ ⟨rfl,rfl⟩;refine rnN 1 ?_;refine zh 3 (fun L τ=>L=[(0,.int .i32 a0),(21,.bool false),(35,.bool ((((decide (192≤a0))&&(decide (a0≤591)))&&(!(decide (a0=215))))&&(!(decide (a0=247)))))]∧τ=[]) ?_ ?_
   · refine zH (b:=(((decide (192≤a0))&&(decide (a0≤591)))&&(!(decide (a0=215))))) 32 rfl (fun hg32=>?_) (fun hg32=>?_)
     · refine rnN 3 ?_;refine zb ⟨rfl,_,_,⟨rfl,rfl⟩,.b hg32⟩
     refine rnN 3 ?_;refine zb ⟨rfl,_,_,⟨rfl,rfl⟩,.b hg32⟩
   rintro _ _ ⟨rfl,rfl⟩;refine rnN 1 ?_;refine zb ⟨rfl,_,_,⟨rfl,rfl⟩,.b hg21⟩
 rintro _ _ ⟨rfl,rfl⟩;refine rnN 1 ?_;refine zh 11 (fun L τ=>L=[(48,.bool ((((((decide (97≤a0))&&(decide (a0≤122)))||((decide (65≤a0))&&(decide (a0≤90))))||(decide (a0=95)))||((((decide (192≤a0))&&(decide (a0≤591)))&&(!(decide (a0=215))))&&(!(decide (a0=247)))))||(((decide (913≤a0))&&(decide (a0≤969)))&&(!(decide (a0=930))))))]∧τ=[]) ?_ ?_
 · refine zH (b:=(((((decide (97≤a0))&&(decide (a0≤122)))||((decide (65≤a0))&&(decide (a0≤90))))||(decide (a0=95)))||((((decide (192≤a0))&&(decide (a0≤591)))&&(!(decide (a0=215))))&&(!(decide (a0=247)))))) 37 rfl (fun hg37=>?_) (fun hg37=>?_)
   · refine rnN 10 ?_;refine rnN 1 ?_;refine zb ⟨rfl,_,_,⟨rfl,rfl⟩,.b hg37⟩
   refine rnN 3 ?_;refine zh 3 (fun L τ=>L=[(0,.int .i32 a0),(37,.bool false),(43,.bool ((decide (913≤a0))&&(decide (a0≤969))))]∧τ=[]) ?_ ?_
   · refine yw 40 rfl (fun hg40=>?_) (fun hg40=>?_)
     · have t7:=eq_true hg40;refine rnN 3 ?_;refine zb ⟨rfl,_,_,⟨rfl,rfl⟩,.p t7⟩
     have t8:=eq_false hg40;refine rnN 3 ?_;refine zb ⟨rfl,_,_,⟨rfl,rfl⟩,.p t8⟩
   rintro _ _ ⟨rfl,rfl⟩;refine rnN 1 ?_;refine zh 3 (fun L τ=>L=[(37,.bool false),(47,.bool (((decide (913≤a0))&&(decide (a0≤969)))&&(!(decide (a0=930)))))]∧τ=[]) ?_ ?_
   · refine zH (b:=((decide (913≤a0))&&(decide (a0≤969)))) 44 rfl (fun hg44=>?_) (fun hg44=>?_)
     · refine rnN 3 ?_;refine zb ⟨rfl,_,_,⟨rfl,rfl⟩,.b hg44⟩
     refine rnN 3 ?_;refine zb ⟨rfl,_,_,⟨rfl,rfl⟩,.b hg44⟩
   rintro _ _ ⟨rfl,rfl⟩;refine rnN 1 ?_;refine zb ⟨rfl,_,_,⟨rfl,rfl⟩,.b hg37⟩
 rintro _ _ ⟨rfl,rfl⟩;refine rnN 1 ?_;refine nkN hK ?_;cases h;exact rtA
theorem xD.ev (a0:Int)(r:Bool)(h:xD a0=r)(σ:Store):ACalls qh 79 [.int .i32 a0] σ (fun r' σ'=>r'=.bool r∧σ'=σ):=
 (xD.ok a0 r h).c σ
def xu.j3 (x2:Bool):Bool:=
 (if x2=true then true else false)
def xu (a0:List UInt8):Bool:=
 (if a0=[115,99,104,101,109,97] then (xu.j3 (decide (a0=[115,99,104,101,109,97]))) else (if a0=[109,101,115,115,97,103,101] then (xu.j3 (decide (a0=[109,101,115,115,97,103,101]))) else (if a0=[101,110,117,109] then (xu.j3 (decide (a0=[101,110,117,109]))) else (if a0=[99,97,108,108] then (xu.j3 (decide (a0=[99,97,108,108]))) else (if a0=[114,101,116,117,114,110,115] then (xu.j3 (decide (a0=[114,101,116,117,114,110,115]))) else (if a0=[114,101,115,101,114,118,101,100] then (xu.j3 (decide (a0=[114,101,115,101,114,118,101,100]))) else (if a0=[111,112,116,105,111,110,97,108] then (xu.j3 (decide (a0=[111,112,116,105,111,110,97,108]))) else (if a0=[114,101,112,101,97,116,101,100] then (xu.j3 (decide (a0=[114,101,112,101,97,116,101,100]))) else (if a0=[105,110,116,51,50] then (xu.j3 (decide (a0=[105,110,116,51,50]))) else (if a0=[105,110,116,54,52] then (xu.j3 (decide (a0=[105,110,116,54,52]))) else (if a0=[98,111,111,108] then (xu.j3 (decide (a0=[98,111,111,108]))) else (if a0=[116,101,120,116] then (xu.j3 (decide (a0=[116,101,120,116]))) else (xu.j3 (decide (a0=[98,121,116,101,115])))))))))))))))
theorem xu.ok (a0:List UInt8)(r:Bool)(h:xu a0=r):ACalls qh 80 [.str a0] [] (fun r' _=>r'=.bool r):=by
 refine zf (rs:=[.tmp 2]) tok Tryz.func80 rfl Tryz.ntmps80 rfl Tryz.call80 (by simp) ?_;refine zk [(0,.str a0)] ⟨rfl,trivial⟩ ?_;unfold xu at h;refine rgN [0] ?_
 refine za fun Z1 hZ1=>?_
 refine rgN [3] ?_;apply ze;refine xG (fun L τ=>∃ (x2:Bool),L=[(4,.bool x2)]∧τ=[]∧xu.j3 x2=r) ?_ ?_
 · refine rgN [3,4] ?_;refine zq rfl (fun hc5=>?_) (fun hc5=>?_)
   · rw[if_pos hc5] at h;have t6:=eq_true hc5;apply zd;exact⟨_,_,⟨decide (a0=[115,99,104,101,109,97]),rfl,rfl,h⟩,.s⟩
   rw[if_neg hc5] at h;have t7:=eq_false hc5
   refine rg tok [3,4] fun K hK=>?_
   simp only[go_sem,qb,qa,t7];apply hK
   refine zq rfl (fun hc8=>?_) (fun hc8=>?_)
   · rw[if_pos hc8] at h;have t9:=eq_true hc8;apply zd;exact⟨_,_,⟨decide (a0=[109,101,115,115,97,103,101]),rfl,rfl,h⟩,.s⟩
   rw[if_neg hc8] at h;have t10:=eq_false hc8
   refine rg tok [3,4] fun K hK=>?_
   simp only[go_sem,qb,qa,t10];apply hK
   refine zq rfl (fun hc11=>?_) (fun hc11=>?_)
   · rw[if_pos hc11] at h;have t12:=eq_true hc11;apply zd;exact⟨_,_,⟨decide (a0=[101,110,117,109]),rfl,rfl,h⟩,.s⟩
   rw[if_neg hc11] at h;have t13:=eq_false hc11
   refine rg tok [3,4] fun K hK=>?_
   simp only[go_sem,qb,qa,t13];apply hK
   refine zq rfl (fun hc14=>?_) (fun hc14=>?_)
   · rw[if_pos hc14] at h;have t15:=eq_true hc14;apply zd;exact⟨_,_,⟨decide (a0=[99,97,108,108]),rfl,rfl,h⟩,.s⟩
   rw[if_neg hc14] at h;have t16:=eq_false hc14
   refine rg tok [3,4] fun K hK=>?_
   simp only[go_sem,qb,qa,t16];apply hK
   refine zq rfl (fun hc17=>?_) (fun hc17=>?_)
   · rw[if_pos hc17] at h;have t18:=eq_true hc17;apply zd;exact⟨_,_,⟨decide (a0=[114,101,116,117,114,110,115]),rfl,rfl,h⟩,.s⟩
   rw[if_neg hc17] at h;have t19:=eq_false hc17
   refine rg tok [3,4] fun K hK=>?_
   simp only[go_sem,qb,qa,t19];apply hK
   refine zq rfl (fun hc20=>?_) (fun hc20=>?_)
   · rw[if_pos hc20] at h;have t21:=eq_true hc20;apply zd;exact⟨_,_,⟨decide (a0=[114,101,115,101,114,118,101,100]),rfl,rfl,h⟩,.s⟩
   rw[if_neg hc20] at h;have t22:=eq_false hc20
   refine rg tok [3,4] fun K hK=>?_
   simp only[go_sem,qb,qa,t22];apply hK
   refine zq rfl (fun hc23=>?_) (fun hc23=>?_)
   · rw[if_pos hc23] at h;have t24:=eq_true hc23;apply zd;exact⟨_,_,⟨decide (a0=[111,112,116,105,111,110,97,108]),rfl,rfl,h⟩,.s⟩
   rw[if_neg hc23] at h;have t25:=eq_false hc23
   refine rg tok [3,4] fun K hK=>?_
   simp only[go_sem,qb,qa,t25];apply hK
   refine zq rfl (fun hc26=>?_) (fun hc26=>?_)
   · rw[if_pos hc26] at h;have t27:=eq_true hc26;apply zd;exact⟨_,_,⟨decide (a0=[114,101,112,101,97,116,101,100]),rfl,rfl,h⟩,.s⟩
   rw[if_neg hc26] at h;have t28:=eq_false hc26
   refine rg tok [3,4] fun K hK=>?_
   simp only[go_sem,qb,qa,t28];apply hK
   refine zq rfl (fun hc29=>?_) (fun hc29=>?_)
   · rw[if_pos hc29] at h;have t30:=eq_true hc29;apply zd;exact⟨_,_,⟨decide (a0=[105,110,116,51,50]),rfl,rfl,h⟩,.s⟩
   rw[if_neg hc29] at h;have t31:=eq_false hc29
   refine rg tok [3,4] fun K hK=>?_
   simp only[go_sem,qb,qa,t31];apply hK
   refine zq rfl (fun hc32=>?_) (fun hc32=>?_)
   · rw[if_pos hc32] at h;have t33:=eq_true hc32;apply zd;exact⟨_,_,⟨decide (a0=[105,110,116,54,52]),rfl,rfl,h⟩,.s⟩
   rw[if_neg hc32] at h;have t34:=eq_false hc32
   refine rg tok [3,4] fun K hK=>?_
   simp only[go_sem,qb,qa,t34];apply hK
   refine zq rfl (fun hc35=>?_) (fun hc35=>?_)
   · rw[if_pos hc35] at h;have t36:=eq_true hc35;apply zd;exact⟨_,_,⟨decide (a0=[98,111,111,108]),rfl,rfl,h⟩,.s⟩
   rw[if_neg hc35] at h;have t37:=eq_false hc35
   refine rg tok [3,4] fun K hK=>?_
   simp only[go_sem,qb,qa,t37];apply hK
   refine zq rfl (fun hc38=>?_) (fun hc38=>?_)
   · rw[if_pos hc38] at h;have t39:=eq_true hc38;apply zd;exact⟨_,_,⟨decide (a0=[116,101,120,116]),rfl,rfl,h⟩,.s⟩
   rw[if_neg hc38] at h;have t40:=eq_false hc38
   refine rgE tok [4] fun K hK=>?_
   simp only[go_sem,qb,qa,t40];apply hK
   exact⟨_,_,⟨decide (a0=[98,121,116,101,115]),rfl,rfl,h⟩,.s⟩
 rintro _ _ ⟨x2,rfl,rfl,h⟩;unfold xu.j3 at h;refine zm (b:=x2) rfl (fun hc4=>?_) (fun hc4=>?_)
 · rw[if_pos hc4] at h;refine rgN [2] ?_;cases h;exact rtA
 rw[xQ hc4] at h;apply zd;apply hZ1;refine rgN [2] ?_;cases h;exact rtA
theorem xu.ev (a0:List UInt8)(r:Bool)(h:xu a0=r)(σ:Store):ACalls qh 80 [.str a0] σ (fun r' σ'=>r'=.bool r∧σ'=σ):=
 (xu.ok a0 r h).c σ
def wu (a0:Int):Bool:=
 ((decide (48≤a0))&&(decide (a0≤57)))
theorem wu.ok (a0:Int)(r:Bool)(h:wu a0=r):ACalls qh 81 [.int .i32 a0] [] (fun r' _=>r'=.bool r):=by
 refine zf (rs:=[.tmp 2]) tok Tryz.func81 rfl Tryz.ntmps81 rfl Tryz.call81 (by simp) ?_;refine zk [(0,.int .i32 a0)] ⟨rfl,trivial⟩ ?_;unfold wu at h;refine rgN [0] ?_
 refine rc [2] fun K hK=>?_
 refine rnN 3 ?_;refine zh 3 (fun L τ=>L=[(8,.bool ((decide (48≤a0))&&(decide (a0≤57))))]∧τ=[]) ?_ ?_
 · refine yw 5 rfl (fun hg5=>?_) (fun hg5=>?_)
   · have t1:=eq_true hg5;refine rnN 3 ?_;refine zb ⟨rfl,_,_,⟨rfl,rfl⟩,.p t1⟩
   have t2:=eq_false hg5;refine rnN 3 ?_;refine zb ⟨rfl,_,_,⟨rfl,rfl⟩,.p t2⟩
 rintro _ _ ⟨rfl,rfl⟩;refine rnN 1 ?_;refine nkN hK ?_;cases h;exact rtA
theorem wu.ev (a0:Int)(r:Bool)(h:wu a0=r)(σ:Store):ACalls qh 81 [.int .i32 a0] σ (fun r' σ'=>r'=.bool r∧σ'=σ):=
 (wu.ok a0 r h).c σ
def xo.l14 (r1:List Int×Bool):Nat→Int→Option Bool
 |0,_=>none
 |k14+1,x12=>(if x12<(qc r1.1:Int) then (Zv r1.1 x12).bind fun y19=>bnd (xD y19) fun r22=>bnd (if (!r22)=true then bnd (wu y19) fun r25 => !r25 else false) fun c23=>(if c23=true then some false else ((xo.l14 r1 k14) (IntKind.i64.wrap (x12+1)))) else some true)
def xo (a0:List UInt8):Option Bool:=
 (xX a0).bind fun r1=>(if (((!r1.2)||(decide ((qc r1.1:Int)<1)))||(decide (20<(qc r1.1:Int))))=true then some true else (Zv r1.1 0).bind fun y3=>bnd (xD y3) fun r6=>some (!r6)).bind fun c3=>bnd (if c3=true then true else bnd (xu a0) fun r8=>r8) fun c8=>(if c8=true then some false else (xo.l14 r1 rounds 1))
theorem xo.ok (a0:List UInt8)(r:Bool)(h:xo a0=some r):ACalls qh 45 [.str a0] [] (fun r' _=>r'=.bool r):=by
 refine zf (rs:=[.tmp 2]) tok Tryz.func45 rfl Tryz.ntmps45 rfl Tryz.call45 (by simp) ?_;refine zk [(0,.str a0)] ⟨rfl,trivial⟩ ?_;unfold xo at h;refine rgN [0] ?_
 refine rc [0,3,4] fun K hK=>?_
 obtain⟨r1,hr1,h⟩:=bind_some h;refine rnN 1 ?_;refine clN rfl rfl rfl (xX.ev a0 r1 hr1 _) ?_;refine rnN 5 ?_;refine nkN hK ?_
 refine za fun Z2 hZ2=>?_
 refine rc [3,33] fun K hK=>?_
 refine rnN 3 ?_;refine zh 4 (fun L τ=>L=[(0,.str a0),(3,.ds true (qe (vcj .i32) r1.1) (qc r1.1) false),(17,.bool ((!r1.2)||(decide ((qc r1.1:Int)<1))))]∧τ=[]) ?_ ?_
 · refine zH (b:=(!r1.2)) 13 rfl (fun hg13=>?_) (fun hg13=>?_)
   · refine rnN 4 ?_;refine zb ⟨rfl,_,_,⟨rfl,rfl⟩,.b hg13⟩
   refine rnN 4 ?_;refine zb ⟨rfl,_,_,⟨rfl,rfl⟩,.b hg13⟩
 rintro _ _ ⟨rfl,rfl⟩;refine rnN 1 ?_;refine zh 4 (fun L τ=>L=[(0,.str a0),(3,.ds true (qe (vcj .i32) r1.1) (qc r1.1) false),(22,.bool (((!r1.2)||(decide ((qc r1.1:Int)<1)))||(decide (20<(qc r1.1:Int)))))]∧τ=[]) ?_ ?_
 · refine zH (b:=((!r1.2)||(decide ((qc r1.1:Int)<1)))) 18 rfl (fun hg18=>?_) (fun hg18=>?_)
   · refine rnN 4 ?_;refine zb ⟨rfl,_,_,⟨rfl,rfl⟩,.b hg18⟩
   refine rnN 4 ?_;refine zb ⟨rfl,_,_,⟨rfl,rfl⟩,.b hg18⟩
 rintro _ _ ⟨rfl,rfl⟩;refine rnN 1 ?_;obtain⟨c3,hc3,h⟩:=bind_some h;refine zh 6 (fun L τ=>L=[(0,.str a0),(3,.ds true (qe (vcj .i32) r1.1) (qc r1.1) false),(29,.bool c3)]∧τ=[]) ?_ ?_
 · refine zH (b:=(((!r1.2)||(decide ((qc r1.1:Int)<1)))||(decide (20<(qc r1.1:Int))))) 23 rfl (fun hg23=>?_) (fun hg23=>?_)
   · rw[if_pos hg23] at hc3;refine rnN 6 ?_;cases hc3;refine zb ⟨rfl,_,_,⟨rfl,rfl⟩,.b hg23⟩
   rw[xQ hg23] at hc3;obtain⟨y4,hy4,hc3⟩:=bind_some hc3;have f5:=E130.idxS hy4;have f6:=E130.fldS0 (f:=21) rfl rfl hy4;obtain⟨r7,hr7,hc3⟩:=zQ hc3;refine zi tok 3 ?_;simp only[go_sem,qb,qa,reduceCtorEq,vcj,f5,f6];refine clN rfl rfl rfl (xD.ev y4 r7 hr7 _) ?_;refine rnN 2 ?_;cases hc3;refine zb ⟨rfl,_,_,⟨rfl,rfl⟩,.b hg23⟩
 rintro _ _ ⟨rfl,rfl⟩;refine rnN 1 ?_;obtain⟨c8,hc8,h⟩:=zQ h;refine zh 3 (fun L τ=>L=[(3,.ds true (qe (vcj .i32) r1.1) (qc r1.1) false),(33,.bool c8)]∧τ=[]) ?_ ?_
 · refine zH (b:=c3) 30 rfl (fun hg30=>?_) (fun hg30=>?_)
   · rw[if_pos hg30] at hc8;refine rnN 3 ?_;subst hc8;refine zb ⟨rfl,_,_,⟨rfl,rfl⟩,.b hg30⟩
   rw[xQ hg30] at hc8;obtain⟨r9,hr9,hc8⟩:=zQ hc8;refine rnN 1 ?_;refine clN rfl rfl rfl (xu.ev a0 r9 hr9 _) ?_;refine rnN 1 ?_;subst hc8;refine zb ⟨rfl,_,_,⟨rfl,rfl⟩,.b hg30⟩
 rintro _ _ ⟨rfl,rfl⟩;refine nkN hK ?_;refine zm (b:=c8) rfl (fun hc10=>?_) (fun hc10=>?_)
 · rw[if_pos hc10] at h;refine rgN [2] ?_;cases h;exact rtA
 rw[xQ hc10] at h;apply zd;apply hZ2
 refine za fun Z11 hZ11=>?_
 refine rgN [3,5] ?_;apply ze;refine zp (fun m L τ=>∃ (k14:Nat) (x12:Int),m=0+k14∧L=[(3,.ds true (qe (vcj .i32) r1.1) (qc r1.1) false),(5,.int .i64 x12)]∧τ=[]∧xo.l14 r1 k14 x12=some r) _ ⟨rounds,1,rfl,rfl,rfl,h⟩ .s ?_;rintro m L τ ⟨k14,x12,rfl,rfl,rfl,h⟩
 rcases k14 with _|k14
 · cases h
 simp only[xo.l14] at h
 refine za fun Z15 hZ15=>?_
 refine rgN [3,5,37] ?_;refine zq rfl (fun hc16=>?_) (fun hc16=>?_)
 · rw[if_pos hc16] at h;have t17:=eq_true hc16;apply zd;apply hZ15
   refine za fun Z18 hZ18=>?_
   apply ze
   refine rc [3,5,53] fun K hK=>?_
   obtain⟨y19,hy19,h⟩:=bind_some h;have f20:=E130.idxS hy19;have f21:=E130.fldS0 (f:=21) rfl rfl hy19;obtain⟨r22,hr22,h⟩:=zQ h;refine zi tok 4 ?_;simp only[go_sem,qb,qa,vcj,t17,f20,f21];refine clN rfl rfl rfl (xD.ev y19 r22 hr22 _) ?_;refine rnN 2 ?_;obtain⟨c23,hc23,h⟩:=zQ h;refine zh 7 (fun L τ=>L=[(3,.ds true (qe (vcj .i32) r1.1) (qc r1.1) false),(5,.int .i64 x12),(53,.bool c23)]∧τ=[]) ?_ ?_
   · refine zH (b:=(!r22)) 46 rfl (fun hg46=>?_) (fun hg46=>?_)
     · rw[if_pos hg46] at hc23;have f24:=E130.idxS hy19;have f25:=E130.fldS0 (f:=21) rfl rfl hy19;obtain⟨r26,hr26,hc23⟩:=zQ hc23;refine zi tok 4 ?_;simp only[go_sem,qb,qa,vcj,f24,f25];refine clN rfl rfl rfl (wu.ev y19 r26 hr26 _) ?_;refine rnN 2 ?_;subst hc23;refine zb ⟨rfl,_,_,⟨rfl,rfl⟩,.b hg46⟩
     rw[xQ hg46] at hc23;refine rnN 7 ?_;subst hc23;refine zb ⟨rfl,_,_,⟨rfl,rfl⟩,.b hg46⟩
   rintro _ _ ⟨rfl,rfl⟩;refine nkN hK ?_;refine zm (b:=c23) rfl (fun hc27=>?_) (fun hc27=>?_)
   · rw[if_pos hc27] at h;refine rgN [2] ?_;cases h;exact rtA
   rw[xQ hc27] at h;apply zd;apply hZ18
   refine rgE tok [3,5] fun K hK=>?_
   simp only[go_sem,qb,qa];apply hK
   exact⟨_,_,_,qp (0+k14),⟨k14,IntKind.i64.wrap (x12+1),rfl,rfl,rfl,h⟩,.s⟩
 rw[if_neg hc16] at h;have t28:=eq_false hc16;apply zr;apply hZ11
 refine rg tok [2] fun K hK=>?_
 simp only[go_sem,qb,qa,t28];apply hK
 cases h;exact rtA
theorem xo.ev (a0:List UInt8)(r:Bool)(h:xo a0=some r)(σ:Store):ACalls qh 45 [.str a0] σ (fun r' σ'=>r'=.bool r∧σ'=σ):=
 (xo.ok a0 r h).c σ
def yy.l4 (a0:List UInt8):List (List UInt8)→Int→Option Bool
 |[],x2=>(xo a0).bind fun r6=>some r6
 |y4::q4,x2=>(if y4=a0 then some false else ((yy.l4 a0 q4) (x2+1)))
def yy (a0:List UInt8)(a1:List (List UInt8)):Option Bool:=
 (yy.l4 a0 a1 0)
theorem yy.ok (a0:List UInt8)(a1:List (List UInt8))(r:Bool)(h:yy a0 a1=some r):ACalls qh 47 [.str a0,.ds true (qe encS a1) (qc a1) false] [] (fun r' _=>r'=.bool r):=by
 refine zf (rs:=[.tmp 4]) tok Tryz.func47 rfl Tryz.ntmps47 rfl Tryz.call47 (by simp) ?_;refine zk [(0,.str a0),(1,.ds true (qe encS a1) (qc a1) false)] ⟨rfl,rfl,trivial⟩ ?_;unfold yy at h;refine rgN [0,1] ?_
 refine za fun Z1 hZ1=>?_
 refine rgN [0,1,5] ?_;apply ze
 refine yP 1 fun hb4=>?_
 replace hb4:qc a1≤9223372036854775807:=hb4.1;refine zp (fun m L τ=>∃ (p4 q4:List (List UInt8)) (x2:Int),m=qc q4∧L=[(0,.str a0),(1,.ds true (qe encS a1) (qc a1) false),(5,.int .i64 x2)]∧τ=[]∧a1=p4++q4∧x2=(qc p4:Int)∧yy.l4 a0 q4 x2=some r) _ ⟨[],a1,0,rfl,rfl,rfl,rfl,rfl,h⟩ .s ?_;rintro m L τ ⟨p4,q4,x2,rfl,rfl,rfl,hE4,hi4,h⟩
 rcases q4 with _|⟨y4,q4⟩
 · have hz4:=yl hE4 hi4;simp only[yy.l4] at h
   refine za fun Z5 hZ5=>?_
   refine rg tok [0,1,5,9] fun K hK=>?_
   simp only[go_sem,qb,qa,reduceCtorEq,hz4];apply hK
   refine zn rfl ?_;apply zr;apply hZ1
   refine rc [4] fun K hK=>?_
   obtain⟨r6,hr6,h⟩:=bind_some h;refine rnN 1 ?_;refine clN rfl rfl rfl (xo.ev a0 r6 hr6 _) ?_;refine rnN 1 ?_;refine nkN hK ?_;cases h;exact rtA
 obtain⟨hz4,hw4,hx4,hE'4,hi'4⟩:=zV hE4 hi4 hb4;simp only[yy.l4] at h
 refine za fun Z7 hZ7=>?_
 refine rg tok [0,1,5,9] fun K hK=>?_
 simp only[go_sem,qb,qa,reduceCtorEq,hz4];apply hK
 refine zo rfl ?_;apply zd;apply hZ7
 refine za fun Z8 hZ8=>?_
 apply ze;have f9:=E98.idxS hx4;have f10:=E98.fldS0 (f:=9) rfl rfl hx4
 refine rg tok [0,1,5,17] fun K hK=>?_
 simp only[go_sem,qb,qa,reduceCtorEq,encS,f9,f10];apply hK
 refine zq rfl (fun hc11=>?_) (fun hc11=>?_)
 · rw[if_pos hc11] at h;have t12:=eq_true hc11
   refine rg tok [4] fun K hK=>?_
   simp only[go_sem,qb,qa,reduceCtorEq,t12];apply hK
   cases h;exact rtA
 rw[if_neg hc11] at h;have t13:=eq_false hc11;apply zd;apply hZ8
 refine rgE tok [0,1,5] fun K hK=>?_
 simp only[go_sem,qb,qa,reduceCtorEq,hw4,t13];apply hK
 exact⟨_,_,_,qp q4.length,⟨p4++[y4],q4,x2+1,rfl,rfl,rfl,hE'4,hi'4,h⟩,.s⟩
def yA.l4 (a1:Int):List Int→Int→Bool
 |[],x2=>false
 |y4::q4,x2=>(if y4=a1 then true else ((yA.l4 a1 q4) (x2+1)))
def yA (a0:GMessage)(a1:Int):Bool:=
 (yA.l4 a1 a0.fReserved 0)
theorem yA.ok (a0:GMessage)(a1:Int)(r:Bool)(h:yA a0 a1=r):ACalls qh 121 [.agg (encGMessage a0),.int .i64 a1] [] (fun r' _=>r'=.bool r):=by
 refine zf (rs:=[.tmp 4]) tok Tryz.func121 rfl Tryz.ntmps121 rfl Tryz.call121 (by simp) ?_;refine zk [(0,.agg (encGMessage a0)),(1,.int .i64 a1)] ⟨rfl,rfl,trivial⟩ ?_;unfold yA at h
 refine rg tok [1,2] fun K hK=>?_
 simp only[go_sem,qb,qa,qd,reduceCtorEq,encGMessage];apply hK
 refine za fun Z1 hZ1=>?_
 refine rgN [1,2,5] ?_;apply ze
 refine xh 0 rfl fun hb4=>?_
 replace hb4:qc a0.fReserved≤9223372036854775807:=hb4.2.2.1.1;refine zp (fun m L τ=>∃ (p4 q4:List Int) (x2:Int),m=qc q4∧L=[(1,.int .i64 a1),(2,.op 0 0 0),(5,.int .i64 x2)]∧τ=[.cells 0 (encGMessage a0)]∧a0.fReserved=p4++q4∧x2=(qc p4:Int)∧yA.l4 a1 q4 x2=r) _ ⟨[],a0.fReserved,0,rfl,rfl,rfl,rfl,rfl,h⟩ .s ?_;rintro m L τ ⟨p4,q4,x2,rfl,rfl,rfl,hE4,hi4,h⟩
 rcases q4 with _|⟨y4,q4⟩
 · have hz4:=yl hE4 hi4;simp only[yA.l4] at h
   refine za fun Z5 hZ5=>?_
   refine rg tok [1,2,5,10] fun K hK=>?_
   simp only[go_sem,qb,qa,qd,hz4];apply hK
   refine zn rfl ?_;apply zr;apply hZ1;refine rgN [4] ?_;cases h;exact rtA
 obtain⟨hz4,hw4,hx4,hE'4,hi'4⟩:=zV hE4 hi4 hb4;simp only[yA.l4] at h
 refine za fun Z6 hZ6=>?_
 refine rg tok [1,2,5,10] fun K hK=>?_
 simp only[go_sem,qb,qa,qd,hz4];apply hK
 refine zo rfl ?_;apply zd;apply hZ6
 refine za fun Z7 hZ7=>?_
 apply ze;have f8:=E45.idxS hx4;have f9:=E45.fldS0 (f:=3) rfl rfl hx4
 refine rg tok [1,2,5,19] fun K hK=>?_
 simp only[go_sem,qb,qa,qd,encI,f8,f9];apply hK
 refine zq rfl (fun hc10=>?_) (fun hc10=>?_)
 · rw[if_pos hc10] at h;have t11:=eq_true hc10
   refine rg tok [4] fun K hK=>?_
   simp only[go_sem,qb,qa,t11];apply hK
   cases h;exact rtA
 rw[if_neg hc10] at h;have t12:=eq_false hc10;apply zd;apply hZ7
 refine rgE tok [1,2,5] fun K hK=>?_
 simp only[go_sem,qb,qa,hw4,t12];apply hK
 exact⟨_,_,_,qp q4.length,⟨p4++[y4],q4,x2+1,rfl,rfl,rfl,hE'4,hi'4,h⟩,.s⟩
theorem yA.ev (a0:GMessage)(a1:Int)(r:Bool)(h:yA a0 a1=r)(σ:Store):ACalls qh 121 [.agg (encGMessage a0),.int .i64 a1] σ (fun r' σ'=>r'=.bool r∧σ'=σ):=
 (yA.ok a0 a1 r h).c σ
def xW.l4 (a1:List UInt8):List GEnumeration→Int→GEnumeration×Bool
 |[],x2=>((⟨[],([]:List GNamed)⟩:GEnumeration),false)
 |y4::q4,x2=>(if y4.fName=a1 then (y4,true) else ((xW.l4 a1 q4) (x2+1)))
def xW (a0:GSchema)(a1:List UInt8):GEnumeration×Bool:=
 (xW.l4 a1 a0.fEnums 0)
theorem xW.ok (a0:GSchema)(a1:List UInt8)(r:GEnumeration×Bool)(h:xW a0 a1=r):ACalls qh 147 [.agg (encGSchema a0),.str a1] [] (fun r' _=>r'=.tup [.agg (encGEnumeration r.1),.bool r.2]):=by
 refine zf (rs:=[.cell 4 84,.tmp 5]) tok Tryz.func147 rfl Tryz.ntmps147 rfl Tryz.call147 (by simp) ?_;refine zk [(0,.agg (encGSchema a0)),(1,.str a1)] ⟨rfl,rfl,trivial⟩ ?_;unfold xW at h
 refine rg tok [1,2,4] fun K hK=>?_
 simp only[go_sem,qb,qa,qd,reduceCtorEq,encGSchema];apply hK
 refine za fun Z1 hZ1=>?_
 refine rgN [1,2,4,6] ?_;apply ze
 refine xh 0 rfl fun hb4=>?_
 replace hb4:qc a0.fEnums≤9223372036854775807:=hb4.2.2.1.1;refine zp (fun m L τ=>∃ (p4 q4:List GEnumeration) (x2:Int),m=qc q4∧L=[(1,.str a1),(2,.op 0 0 0),(4,.op 1 0 0),(6,.int .i64 x2)]∧τ=[.cells 0 (encGSchema a0),.cells 0 [.str [],.ds true [] 0 true]]∧a0.fEnums=p4++q4∧x2=(qc p4:Int)∧xW.l4 a1 q4 x2=r) _ ⟨[],a0.fEnums,0,rfl,rfl,rfl,rfl,rfl,h⟩ .s ?_;rintro m L τ ⟨p4,q4,x2,rfl,rfl,rfl,hE4,hi4,h⟩
 rcases q4 with _|⟨y4,q4⟩
 · have hz4:=yl hE4 hi4;simp only[xW.l4] at h
   refine za fun Z5 hZ5=>?_
   refine rg tok [1,2,4,6,11] fun K hK=>?_
   simp only[go_sem,qb,qa,qd,hz4];apply hK
   refine zn rfl ?_;apply zr;apply hZ1;refine rgN [4,5] ?_;cases h;exact rtA
 obtain⟨hz4,hw4,hx4,hE'4,hi'4⟩:=zV hE4 hi4 hb4;simp only[xW.l4] at h
 refine za fun Z6 hZ6=>?_
 refine rg tok [1,2,4,6,11] fun K hK=>?_
 simp only[go_sem,qb,qa,qd,hz4];apply hK
 refine zo rfl ?_;apply zd;apply hZ6
 refine za fun Z7 hZ7=>?_
 apply ze;have f8:=E23.idxS hx4;have f9:=E23.fldS0 (f:=9) rfl rfl hx4
 refine rg tok [1,2,4,6,21] fun K hK=>?_
 simp only[go_sem,qb,qa,qd,encGEnumeration,f8,f9];apply hK
 refine zq rfl (fun hc10=>?_) (fun hc10=>?_)
 · rw[if_pos hc10] at h;have t11:=eq_true hc10;have f12:=E23.idxS hx4;have f13:=E23.loadS rfl rfl hx4
   refine rg tok [4,5] fun K hK=>?_
   simp only[go_sem,qb,qf,qa,qd,encGEnumeration,t11,f12,f13];apply hK
   cases h;exact rtA
 rw[if_neg hc10] at h;have t14:=eq_false hc10;apply zd;apply hZ7
 refine rgE tok [1,2,4,6] fun K hK=>?_
 simp only[go_sem,qb,qa,hw4,t14];apply hK
 exact⟨_,_,_,qp q4.length,⟨p4++[y4],q4,x2+1,rfl,rfl,rfl,hE'4,hi'4,h⟩,.s⟩
theorem xW.ev (a0:GSchema)(a1:List UInt8)(r:GEnumeration×Bool)(h:xW a0 a1=r)(σ:Store):ACalls qh 147 [.agg (encGSchema a0),.str a1] σ (fun r' σ'=>r'=.tup [.agg (encGEnumeration r.1),.bool r.2]∧σ'=σ):=
 (xW.ok a0 a1 r h).c σ
def xf.j3 (a0:GSchema)(a1:GType)(x2:Bool):Bool:=
 (if x2=true then decide (a1.fName=[]) else (if a1.fKind=6 then bnd (xW a0 a1.fName) fun r7=>r7.2 else (if a1.fKind=7 then bnd (yd a0 a1.fName) fun r11=>r11.2 else false)))
def xf (a0:GSchema)(a1:GType):Bool:=
 (if a1.fKind=1 then (xf.j3 a0 a1 (decide (a1.fKind=1))) else (if a1.fKind=2 then (xf.j3 a0 a1 (decide (a1.fKind=2))) else (if a1.fKind=3 then (xf.j3 a0 a1 (decide (a1.fKind=3))) else (if a1.fKind=4 then (xf.j3 a0 a1 (decide (a1.fKind=4))) else (xf.j3 a0 a1 (decide (a1.fKind=5)))))))
theorem xf.ok (a0:GSchema)(a1:GType)(r:Bool)(h:xf a0 a1=r):ACalls qh 122 [.agg (encGSchema a0),.agg (encGType a1)] [] (fun r' _=>r'=.bool r):=by
 refine zf (rs:=[.tmp 4]) tok Tryz.func122 rfl Tryz.ntmps122 rfl Tryz.call122 (by simp) ?_;refine zk [(0,.agg (encGSchema a0)),(1,.agg (encGType a1))] ⟨rfl,rfl,trivial⟩ ?_;unfold xf at h
 refine rg tok [2,3] fun K hK=>?_
 simp only[go_sem,qb,qa,qd,reduceCtorEq,encGSchema,encGType];apply hK
 refine za fun Z1 hZ1=>?_
 refine rgN [2,3,10] ?_;apply ze;refine xG (fun L τ=>∃ (x2:Bool),L=[(2,.op 0 0 0),(3,.op 1 0 0),(10,.int .i64 a1.fKind),(11,.bool x2)]∧τ=[.cells 0 (encGSchema a0),.cells 0 [.int .i64 a1.fKind,.str a1.fName]]∧xf.j3 a0 a1 x2=r) ?_ ?_
 · refine rgN [2,3,10,11] ?_;refine zq rfl (fun hc13=>?_) (fun hc13=>?_)
   · rw[if_pos hc13] at h;have t14:=eq_true hc13;apply zd;exact⟨_,_,⟨decide (a1.fKind=1),rfl,rfl,h⟩,.s⟩
   rw[if_neg hc13] at h;have t15:=eq_false hc13
   refine rg tok [2,3,10,11] fun K hK=>?_
   simp only[go_sem,qb,qa,t15];apply hK
   refine zq rfl (fun hc16=>?_) (fun hc16=>?_)
   · rw[if_pos hc16] at h;have t17:=eq_true hc16;apply zd;exact⟨_,_,⟨decide (a1.fKind=2),rfl,rfl,h⟩,.s⟩
   rw[if_neg hc16] at h;have t18:=eq_false hc16
   refine rg tok [2,3,10,11] fun K hK=>?_
   simp only[go_sem,qb,qa,t18];apply hK
   refine zq rfl (fun hc19=>?_) (fun hc19=>?_)
   · rw[if_pos hc19] at h;have t20:=eq_true hc19;apply zd;exact⟨_,_,⟨decide (a1.fKind=3),rfl,rfl,h⟩,.s⟩
   rw[if_neg hc19] at h;have t21:=eq_false hc19
   refine rg tok [2,3,10,11] fun K hK=>?_
   simp only[go_sem,qb,qa,t21];apply hK
   refine zq rfl (fun hc22=>?_) (fun hc22=>?_)
   · rw[if_pos hc22] at h;have t23:=eq_true hc22;apply zd;exact⟨_,_,⟨decide (a1.fKind=4),rfl,rfl,h⟩,.s⟩
   rw[if_neg hc22] at h;have t24:=eq_false hc22
   refine rgE tok [2,3,10,11] fun K hK=>?_
   simp only[go_sem,qb,qa,t24];apply hK
   exact⟨_,_,⟨decide (a1.fKind=5),rfl,rfl,h⟩,.s⟩
 rintro _ _ ⟨x2,rfl,rfl,h⟩;unfold xf.j3 at h;refine zm (b:=x2) rfl (fun hc4=>?_) (fun hc4=>?_)
 · rw[if_pos hc4] at h;refine rgN [4] ?_;cases h;exact rtA
 rw[xQ hc4] at h;refine rgN [2,3,10,20] ?_;refine zq rfl (fun hc5=>?_) (fun hc5=>?_)
 · rw[if_pos hc5] at h;have t6:=eq_true hc5
   refine rc [6] fun K hK=>?_
   obtain⟨r7,hr7,h⟩:=zQ h;refine zi tok 3 ?_;simp only[go_sem,qb,qf,qa,qd,t6];refine clN rfl rfl rfl (xW.ev a0 a1.fName r7 hr7 _) ?_;refine zi tok 6 ?_;simp only[go_sem,qb,qf,qa,qd,encGEnumeration];refine nkN hK ?_;refine rgN [4] ?_;cases h;exact rtA
 rw[if_neg hc5] at h;have t8:=eq_false hc5
 refine rg tok [2,3,30] fun K hK=>?_
 simp only[go_sem,qb,qa,t8];apply hK
 refine zq rfl (fun hc9=>?_) (fun hc9=>?_)
 · rw[if_pos hc9] at h;have t10:=eq_true hc9
   refine rc [8] fun K hK=>?_
   obtain⟨r11,hr11,h⟩:=zQ h;refine zi tok 3 ?_;simp only[go_sem,qb,qf,qa,qd,t10];refine clN rfl rfl rfl (yd.ev a0 a1.fName r11 hr11 _) ?_;refine zi tok 6 ?_;simp only[go_sem,qb,qf,qa,qd,encGMessage];refine nkN hK ?_;refine rgN [4] ?_;cases h;exact rtA
 rw[if_neg hc9] at h;have t12:=eq_false hc9;apply zd;apply hZ1
 refine rg tok [4] fun K hK=>?_
 simp only[go_sem,qb,qa,t12];apply hK
 cases h;exact rtA
theorem xf.ev (a0:GSchema)(a1:GType)(r:Bool)(h:xf a0 a1=r)(σ:Store):ACalls qh 122 [.agg (encGSchema a0),.agg (encGType a1)] σ (fun r' σ'=>r'=.bool r∧σ'=σ):=
 (xf.ok a0 a1 r h).c σ
def zF.l17 (a0:GSchema)(a1:GMessage):List GField→Int→List (List UInt8)→Option Int
 |[],x13,l11=>some 0
 |y17::q17,x13,l11=>(yy y17.fName l11).bind fun r24=>(if (!r24)=true then some 6 else (Yg (qc l11+1) 16).bind fun _u26=>(grd ((0:Int)≤0∧0≤x13∧x13≤(qc a1.fFields:Int))).bind fun _u29=>bnd (yO (⟨[],Xc a1.fFields 0 x13,([]:List Int)⟩:GMessage) y17.fTag) fun r31=>bnd (if ((r31.2||(decide (y17.fTag<1)))||(decide (500<y17.fTag)))=true then true else bnd (yA a1 y17.fTag) fun r32=>r32) fun c32=>(if c32=true then some 7 else bnd (if ((decide (y17.fLabel<1))||(decide (3<y17.fLabel)))=true then true else bnd (xf a0 y17.fType) fun r37 => !r37) fun c37=>(if c37=true then some 8 else ((zF.l17 a0 a1 q17) (x13+1) (l11++[y17.fName])))))
def zF.j43 (x6:Int)(rec8:Int→Option Int)(x42:Bool):Option Int:=
 (if x42=true then some 7 else (rec8 (x6+1)))
def zF.l8 (a0:GSchema)(a1:GMessage):List Int→Int→Option Int
 |[],x6=>(zF.l17 a0 a1 a1.fFields 0 ([]:List (List UInt8)))
 |y8::q8,x6=>(if y8<1 then (zF.j43 x6 (zF.l8 a0 a1 q8) true) else (if 500<y8 then (zF.j43 x6 (zF.l8 a0 a1 q8) true) else (grd ((0:Int)≤0∧0≤x6∧x6≤(qc a1.fReserved:Int))).bind fun _u53=>bnd (yA (⟨[],([]:List GField),Xc a1.fReserved 0 x6⟩:GMessage) y8) fun r57=>(zF.j43 x6 (zF.l8 a0 a1 q8) r57)))
def zF (a0:GSchema)(a1:GMessage):Option Int:=
 (if ((decide (16<(qc a1.fFields:Int)))||(decide (32<(qc a1.fReserved:Int))))=true then some 4 else (zF.l8 a0 a1 a1.fReserved 0))
theorem zF.ok (a0:GSchema)(a1:GMessage)(r:Int)(h:zF a0 a1=some r):ACalls qh 82 [.agg (encGSchema a0),.agg (encGMessage a1)] [] (fun r' _=>r'=.int .i64 r):=by
 refine zf (rs:=[.tmp 4]) tok Tryz.func82 rfl Tryz.ntmps82 rfl Tryz.call82 (by simp) ?_;refine zk [(0,.agg (encGSchema a0)),(1,.agg (encGMessage a1))] ⟨rfl,rfl,trivial⟩ ?_;unfold zF at h
 refine rg tok [2,3] fun K hK=>?_
 simp only[go_sem,qb,qa,qd,reduceCtorEq,encGMessage,encGSchema];apply hK
 refine za fun Z1 hZ1=>?_
 refine rc [2,3,20] fun K hK=>?_
 refine rnN 5 ?_;refine zh 5 (fun L τ=>L=[(2,.op 0 0 0),(3,.op 1 0 0),(20,.bool ((decide (16<(qc a1.fFields:Int)))||(decide (32<(qc a1.fReserved:Int)))))]∧τ=[.cells 0 (encGSchema a0),.cells 0 (encGMessage a1)]) ?_ ?_
 · refine yw 15 rfl (fun hg15=>?_) (fun hg15=>?_)
   · have t2:=eq_true hg15;refine rnN 5 ?_;refine zb ⟨rfl,_,_,⟨rfl,rfl⟩,.p t2⟩
   have t3:=eq_false hg15;refine rnN 5 ?_;refine zb ⟨rfl,_,_,⟨rfl,rfl⟩,.p t3⟩
 rintro _ _ ⟨rfl,rfl⟩;refine nkN hK ?_;refine zm (b:=((decide (16<(qc a1.fFields:Int)))||(decide (32<(qc a1.fReserved:Int))))) rfl (fun hc4=>?_) (fun hc4=>?_)
 · rw[if_pos hc4] at h;refine rgN [4] ?_;cases h;exact rtA
 rw[xQ hc4] at h;apply zd;apply hZ1
 refine za fun Z5 hZ5=>?_
 refine rgN [2,3,5] ?_;apply ze
 refine xh 1 rfl fun hb8=>?_
 replace hb8:qc a1.fReserved≤9223372036854775807:=hb8.2.2.1.1;refine zp (fun m L τ=>∃ (p8 q8:List Int) (x6:Int),m=qc q8∧L=[(2,.op 0 0 0),(3,.op 1 0 0),(5,.int .i64 x6)]∧τ=[.cells 0 (encGSchema a0),.cells 0 (encGMessage a1)]∧a1.fReserved=p8++q8∧x6=(qc p8:Int)∧zF.l8 a0 a1 q8 x6=some r) _ ⟨[],a1.fReserved,0,rfl,rfl,rfl,rfl,rfl,h⟩ .s ?_;rintro m L τ ⟨p8,q8,x6,rfl,rfl,rfl,hE8,hi8,h⟩
 rcases q8 with _|⟨y8,q8⟩
 · have hz8:=yl hE8 hi8;simp only[zF.l8] at h
   refine za fun Z9 hZ9=>?_
   refine rg tok [2,3,5,25] fun K hK=>?_
   simp only[go_sem,qb,qa,qd,hz8];apply hK
   refine zn rfl ?_;apply zr;apply hZ5;refine rgN [2,3,6] ?_;refine wN 6 1 rfl ?_;refine zU (L:=[(2,.op 0 0 0),(3,.op 1 0 0),(6,.os true 1 2 0 0 (qc ([]:List (List UInt8))) false)]) (τ:=[.cells 0 (encGSchema a0),.cells 0 (encGMessage a1),.cells 0 (qe encS ([]:List (List UInt8)))]) .s ?_
   refine za fun Z10 hZ10=>?_
   refine rgN [2,3,6,7] ?_;apply ze
   refine xh 1 rfl fun hb17=>?_
   replace hb17:qc a1.fFields≤9223372036854775807:=hb17.2.1.1;refine zp (fun m L τ=>∃ (p17 q17:List GField) (x13:Int) (l11:List (List UInt8)) (v12:Nat),m=qc q17∧L=[(2,.op 0 0 0),(3,.op 1 0 0),(6,.os true 1 2 v12 0 (qc l11) false),(7,.int .i64 x13)]∧τ=[.cells 0 (encGSchema a0),.cells 0 (encGMessage a1),.cells v12 (qe encS l11)]∧a1.fFields=p17++q17∧x13=(qc p17:Int)∧zF.l17 a0 a1 q17 x13 l11=some r) _ ⟨[],a1.fFields,0,([]:List (List UInt8)),0,rfl,rfl,rfl,rfl,rfl,h⟩ .s ?_;rintro m L τ ⟨p17,q17,x13,l11,v12,rfl,rfl,rfl,hE17,hi17,h⟩
   rcases q17 with _|⟨y17,q17⟩
   · have hz17:=yl hE17 hi17;simp only[zF.l17] at h
     refine za fun Z18 hZ18=>?_
     refine rg tok [2,3,6,7,59] fun K hK=>?_
     simp only[go_sem,qb,qa,qd,hz17];apply hK
     refine zn rfl ?_;apply zr;apply hZ10;refine rgN [4] ?_;cases h;exact rtA
   obtain⟨hz17,hw17,hx17,hE'17,hi'17⟩:=zV hE17 hi17 hb17;simp only[zF.l17] at h
   refine za fun Z19 hZ19=>?_
   refine rg tok [2,3,6,7,59] fun K hK=>?_
   simp only[go_sem,qb,qa,qd,hz17];apply hK
   refine zo rfl ?_;apply zd;apply hZ19
   refine za fun Z20 hZ20=>?_
   apply ze;have f21:=E47.idxS hx17;have f22:=E47.loadS rfl rfl hx17
   refine rg tok [2,3,6,7,8] fun K hK=>?_
   simp only[go_sem,qb,qf,qa,qd,encGField,f21,f22];apply hK
   refine za fun Z23 hZ23=>?_
   refine rc [2,3,6,7,8,71] fun K hK=>?_
   obtain⟨r24,hr24,h⟩:=bind_some h;refine rnN 3 ?_;refine clN rfl rfl rfl (yy.ok y17.fName l11 r24 hr24).ld ?_;refine rnN 1 ?_;refine nkN hK ?_;refine zm (b:=(!r24)) rfl (fun hc25=>?_) (fun hc25=>?_)
   · rw[if_pos hc25] at h;refine rgN [4] ?_;cases h;exact rtA
   rw[xQ hc25] at h;apply zd;apply hZ23;obtain⟨_u26,hu26,h⟩:=bind_some h;have gu26:=yf hu26;have f27:=(zt E98.len l11)
   refine rg tok [2,3,6,7,8] fun K hK=>?_
   simp only[go_sem,qb,qf,qa,qd,qt,zC,z7,q3,qT,true_and,ub,z6,zJ,ym,gu26,f27,yJ,uc,qY,AV.one,qR,qx,qj,ql,qq,qH];apply hK
   refine zU (L:=[(2,.op 0 0 0),(3,.op 1 0 0),(6,.os true 1 2 (v12+1) 0 (qc (l11++[y17.fName])) false),(7,.int .i64 x13),(8,.op 3 0 0)]) (τ:=[.cells 0 (encGSchema a0),.cells 0 (encGMessage a1),.cells (v12+1) (qe encS (l11++[y17.fName])),.cells 0 (encGField y17),.cells 0 [.str y17.fName]]) .s ?_
   refine za fun Z28 hZ28=>?_
   obtain⟨_u29,hu29,h⟩:=bind_some h;have gu29:=wq hu29;have f30:=E47.sl_hi gu29;obtain⟨r31,hr31,h⟩:=zQ h
   refine rd [2,3,6,7,8,10] fun K hK=>?_
   refine DW.start (T:=tab) [.any,.at [],.any,.any,.any,.any,.at [],.eff,.any,.any,.any,.flt,.eff,.any] [] ?_;refine DW.runN tok 7 ?_;simp only[go_sem,qb,qf,qa,qd,f30];refine DW.call rfl rfl rfl (ACalls.loose (yO.ev (⟨[],Xc a1.fFields 0 x13,([]:List Int)⟩:GMessage) y17.fTag r31 hr31 _)) ?_;refine DW.runN tok 6 ?_;simp only[go_sem,qb,qf,qa,qd,encGField];refine DW.fin tok (by decide +kernel) rfl ?_;simp only[zj,upd,qa,reduceIte,yu,xe];apply hK
   refine rc [2,3,6,7,8,104] fun K hK=>?_
   refine rnN 2 ?_;refine zh 4 (fun L τ=>L=[(2,.op 0 0 0),(3,.op 1 0 0),(6,.os true 1 2 (v12+1) 0 (qc (l11++[y17.fName])) false),(7,.int .i64 x13),(8,.op 3 0 0),(93,.bool (r31.2||(decide (y17.fTag<1))))]∧τ=[.cells 0 (encGSchema a0),.cells 0 (encGMessage a1),.cells (v12+1) (qe encS (l11++[y17.fName])),.cells 0 (encGField y17),.cells 0 [.str y17.fName],.cells 0 (encGField r31.1)]) ?_ ?_
   · refine zH (b:=r31.2) 89 rfl (fun hg89=>?_) (fun hg89=>?_)
     · refine rnN 4 ?_;refine zb ⟨rfl,_,_,⟨rfl,rfl⟩,.b hg89⟩
     refine rnN 4 ?_;refine zb ⟨rfl,_,_,⟨rfl,rfl⟩,.b hg89⟩
   rintro _ _ ⟨rfl,rfl⟩;refine rnN 1 ?_;refine zh 4 (fun L τ=>L=[(2,.op 0 0 0),(3,.op 1 0 0),(6,.os true 1 2 (v12+1) 0 (qc (l11++[y17.fName])) false),(7,.int .i64 x13),(8,.op 3 0 0),(98,.bool ((r31.2||(decide (y17.fTag<1)))||(decide (500<y17.fTag))))]∧τ=[.cells 0 (encGSchema a0),.cells 0 (encGMessage a1),.cells (v12+1) (qe encS (l11++[y17.fName])),.cells 0 (encGField y17),.cells 0 [.str y17.fName],.cells 0 (encGField r31.1)]) ?_ ?_
   · refine zH (b:=(r31.2||(decide (y17.fTag<1)))) 94 rfl (fun hg94=>?_) (fun hg94=>?_)
     · refine rnN 4 ?_;refine zb ⟨rfl,_,_,⟨rfl,rfl⟩,.b hg94⟩
     refine rnN 4 ?_;refine zb ⟨rfl,_,_,⟨rfl,rfl⟩,.b hg94⟩
   rintro _ _ ⟨rfl,rfl⟩;refine rnN 1 ?_;obtain⟨c32,hc32,h⟩:=zQ h;refine zh 5 (fun L τ=>L=[(2,.op 0 0 0),(3,.op 1 0 0),(6,.os true 1 2 (v12+1) 0 (qc (l11++[y17.fName])) false),(7,.int .i64 x13),(8,.op 3 0 0),(104,.bool c32)]∧τ=[.cells 0 (encGSchema a0),.cells 0 (encGMessage a1),.cells (v12+1) (qe encS (l11++[y17.fName])),.cells 0 (encGField y17),.cells 0 [.str y17.fName],.cells 0 (encGField r31.1)]) ?_ ?_
   · refine zH (b:=((r31.2||(decide (y17.fTag<1)))||(decide (500<y17.fTag)))) 99 rfl (fun hg99=>?_) (fun hg99=>?_)
     · rw[if_pos hg99] at hc32;refine rnN 5 ?_;subst hc32;refine zb ⟨rfl,_,_,⟨rfl,rfl⟩,.b hg99⟩
     rw[xQ hg99] at hc32;obtain⟨r33,hr33,hc32⟩:=zQ hc32;refine rnN 3 ?_;refine clN rfl rfl rfl (yA.ev a1 y17.fTag r33 hr33 _) ?_;refine rnN 1 ?_;subst hc32;refine zb ⟨rfl,_,_,⟨rfl,rfl⟩,.b hg99⟩
   rintro _ _ ⟨rfl,rfl⟩;refine nkN hK ?_;refine zm (b:=c32) rfl (fun hc34=>?_) (fun hc34=>?_)
   · rw[if_pos hc34] at h;refine rgN [4] ?_;cases h;exact rtA
   rw[xQ hc34] at h;apply zd;apply hZ28
   refine rc [2,3,6,7,119] fun K hK=>?_
   refine rnN 4 ?_;refine zh 4 (fun L τ=>L=[(2,.op 0 0 0),(3,.op 1 0 0),(6,.os true 1 2 (v12+1) 0 (qc (l11++[y17.fName])) false),(7,.int .i64 x13),(8,.op 3 0 0),(112,.bool ((decide (y17.fLabel<1))||(decide (3<y17.fLabel))))]∧τ=[.cells 0 (encGSchema a0),.cells 0 (encGMessage a1),.cells (v12+1) (qe encS (l11++[y17.fName])),.cells 0 (encGField y17),.cells 0 [.str y17.fName],.cells 0 (encGField r31.1)]) ?_ ?_
   · refine yw 108 rfl (fun hg108=>?_) (fun hg108=>?_)
     · have t35:=eq_true hg108;refine rnN 4 ?_;refine zb ⟨rfl,_,_,⟨rfl,rfl⟩,.p t35⟩
     have t36:=eq_false hg108;refine rnN 4 ?_;refine zb ⟨rfl,_,_,⟨rfl,rfl⟩,.p t36⟩
   rintro _ _ ⟨rfl,rfl⟩;refine rnN 1 ?_;obtain⟨c37,hc37,h⟩:=zQ h;refine zh 6 (fun L τ=>L=[(2,.op 0 0 0),(3,.op 1 0 0),(6,.os true 1 2 (v12+1) 0 (qc (l11++[y17.fName])) false),(7,.int .i64 x13),(119,.bool c37)]∧τ=[.cells 0 (encGSchema a0),.cells 0 (encGMessage a1),.cells (v12+1) (qe encS (l11++[y17.fName])),.cells 0 (encGField y17),.cells 0 [.str y17.fName],.cells 0 (encGField r31.1)]) ?_ ?_
   · refine zH (b:=((decide (y17.fLabel<1))||(decide (3<y17.fLabel)))) 113 rfl (fun hg113=>?_) (fun hg113=>?_)
     · rw[if_pos hg113] at hc37;refine rnN 6 ?_;subst hc37;refine zb ⟨rfl,_,_,⟨rfl,rfl⟩,.b hg113⟩
     rw[xQ hg113] at hc37;obtain⟨r38,hr38,hc37⟩:=zQ hc37;refine rnN 3 ?_;refine clN rfl rfl rfl (xf.ev a0 y17.fType r38 hr38 _) ?_;refine rnN 2 ?_;subst hc37;refine zb ⟨rfl,_,_,⟨rfl,rfl⟩,.b hg113⟩
   rintro _ _ ⟨rfl,rfl⟩;refine nkN hK ?_;refine zm (b:=c37) rfl (fun hc39=>?_) (fun hc39=>?_)
   · rw[if_pos hc39] at h;refine rgN [4] ?_;cases h;exact rtA
   rw[xQ hc39] at h;apply zd;apply hZ20
   refine rgE tok [2,3,6,7] fun K hK=>?_
   simp only[go_sem,qb,qa,hw17];apply hK
   exact⟨_,_,_,qp q17.length,⟨p17++[y17],q17,x13+1,l11++[y17.fName],v12+1,rfl,rfl,rfl,hE'17,hi'17,h⟩,(.t [0,1,2] false)⟩
 obtain⟨hz8,hw8,hx8,hE'8,hi'8⟩:=zV hE8 hi8 hb8;simp only[zF.l8] at h
 refine za fun Z40 hZ40=>?_
 refine rg tok [2,3,5,25] fun K hK=>?_
 simp only[go_sem,qb,qa,qd,hz8];apply hK
 refine zo rfl ?_;apply zd;apply hZ40
 refine za fun Z41 hZ41=>?_
 apply ze;refine xG (fun L τ=>∃ (x42:Bool),L=[(2,.op 0 0 0),(3,.op 1 0 0),(5,.int .i64 x6),(54,.bool x42)]∧τ=[.cells 0 (encGSchema a0),.cells 0 (encGMessage a1)]∧zF.j43 x6 (zF.l8 a0 a1 q8) x42=some r) ?_ ?_
 · refine rdE [2,3,5,54] fun K hK=>?_
   refine DW.start (T:=tab) [.any,.at [],.any,.any,.at [],.any,.any,.any,.at [],.any,.any,.at [],.any,.any,.any,.any,.at [],.any,.any,.any,.any,.at [],.any,.any,.at [],.eff,.any] [] ?_;have f45:=E45.idxS hx8;have f46:=E45.fldS0 (f:=3) rfl rfl hx8;refine DW.runN tok 7 ?_;simp only[go_sem,qb,qa,qd,encI,f45,f46]
   refine DW.if 34 rfl (fun hg34=>?_) (fun hg34=>?_)
   · rw[if_pos hg34] at h;have t47:=eq_true hg34;refine DW.runN tok 8 ?_;simp only[go_sem,qb,qa,t47];refine DW.runN tok 8 ?_;simp only[go_sem,qb,qa];refine DW.runN tok 4 ?_;simp only[go_sem,qb,qa];refine DW.fin tok (by decide +kernel) rfl ?_;simp only[zj,upd,qa,reduceIte,yu,xe];apply hK
     exact⟨_,_,⟨true,rfl,rfl,h⟩,.s⟩
   rw[if_neg hg34] at h;have t48:=eq_false hg34;have f49:=E45.idxS hx8;have f50:=E45.fldS0 (f:=3) rfl rfl hx8;refine DW.runN tok 8 ?_;simp only[go_sem,qb,qa,qd,encI,t48,f49,f50]
   refine DW.if 42 rfl (fun hg42=>?_) (fun hg42=>?_)
   · rw[if_pos hg42] at h;have t51:=eq_true hg42;refine DW.runN tok 8 ?_;simp only[go_sem,qb,qa,t51];refine DW.runN tok 4 ?_;simp only[go_sem,qb,qa];refine DW.fin tok (by decide +kernel) rfl ?_;simp only[zj,upd,qa,reduceIte,yu,xe];apply hK
     exact⟨_,_,⟨true,rfl,rfl,h⟩,.s⟩
   rw[if_neg hg42] at h;have t52:=eq_false hg42;obtain⟨_u53,hu53,h⟩:=bind_some h;have gu53:=wq hu53;have f54:=E45.sl_hi gu53;have f55:=E45.idxS hx8;have f56:=E45.fldS0 (f:=3) rfl rfl hx8;obtain⟨r57,hr57,h⟩:=zQ h;refine DW.runN tok 8 ?_;simp only[go_sem,qb,qf,qa,qd,t52,f54];refine DW.runN tok 2 ?_;simp only[go_sem,qb,qa,encI,f55,f56];refine DW.call rfl rfl rfl (ACalls.loose (yA.ev (⟨[],([]:List GField),Xc a1.fReserved 0 x6⟩:GMessage) y8 r57 hr57 _)) ?_;refine DW.runN tok 1 ?_;simp only[go_sem,qb,qa];refine DW.fin tok (by decide +kernel) rfl ?_;simp only[zj,upd,qa,reduceIte,yu,xe];apply hK
   exact⟨_,_,⟨r57,rfl,rfl,h⟩,.s⟩
 rintro _ _ ⟨x42,rfl,rfl,h⟩;unfold zF.j43 at h;refine zm (b:=x42) rfl (fun hc44=>?_) (fun hc44=>?_)
 · rw[if_pos hc44] at h;refine rgN [4] ?_;cases h;exact rtA
 rw[xQ hc44] at h;apply zd;apply hZ41
 refine rgE tok [2,3,5] fun K hK=>?_
 simp only[go_sem,qb,qa,hw8];apply hK
 exact⟨_,_,_,qp q8.length,⟨p8++[y8],q8,x6+1,rfl,rfl,rfl,hE'8,hi'8,h⟩,.s⟩
end
end Go.Proofs.YtaddlmlpeghonaaGreatDoor
