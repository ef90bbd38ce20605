/- Parts of the proof, cut down to what it needs. -/
import Derived.Test.YtaddlmlpeghonaaGreatDoorHDc
import Derived.Test.YtaddlmlpeghonaaGreatDoorHFB
set_option linter.constructorNameAsVariable false
set_option linter.unusedSimpArgs false
set_option linter.unusedVariables false
namespace Go.Proofs.YtaddlmlpeghonaaGreatDoor
open _root_.List renaming length → qc, flatMap → qe, length_append → qi, length_cons → qj, length_nil → ql, mem_cons_of_mem → qm, mem_cons_self → qn, append_assoc → qs, getD_eq_getElem?_getD → qu, map_nil → qw, nil_append → qx, append_nil → qz, mem_cons → qB, drop_zero → qC, map_append → qD, map_cons → qE, length_singleton → qG, cons_append → qH, length_eq_zero_iff → qJ, getElem?_append_left → qL, replicate → qN, flatMap_cons → qO, flatMap_append → qS, range_zero → qT, getElem?_set_ne → qW, all_cons → qY, getElem?_eq_getElem → q1, mem_append_right → q2, range_succ → q3, length_map → q7, getElem?_eq_some_iff → q9, all_nil → uc, mem_map → ud, all_eq_true → uf, mem_append → ug, take_length → ui, set_cons_zero → uk, take_of_length_le → ul, getElem?_append_right → um, flatMap_nil → un, mem_append_left → uo, mem_singleton → ut, take_append_drop → uu, set_cons_succ → uv, pairwise_cons → uw, getElem?_set_self → uz, nodup_cons → uA, getElem?_eq_none → uB, length_set → uD, filter_cons → uG, range → uI, getElem?_cons_zero → uK, getElem?_cons_succ → uL, length_take → uM, drop_eq_getElem_cons → uO, length_drop → uQ, getD_cons_zero → uX, getD_cons_succ → uY, reverse_cons → u3, set → u4, eq_nil_of_length_eq_zero → u6, drop_drop → ve
open _root_.Option renaming bind_some → qg, map_some → uF, getD_some → uR
open _root_.Nat renaming reduceEqDiff → qa, reduceLT → qb, reduceAdd → qd, reduceLeDiff → qf, lt_succ_self → qp, zero_add → qq, reduceMul → qt, le_refl → qv, reduceSub → qK, mul_le_mul_right → q5, reduceMod → ub, lt_of_lt_of_le → uj, zero_le → uq, le_trans → ux, zero_mul → uH, sub_self → uN, sub_zero → uP, succ_mul → uU, add_zero → uV, add_mul → uZ, lt_or_ge → u5, add_assoc → u7
open _root_.Bool renaming and_eq_true → qo, not_false → qy, or_eq_true → qI, or_true → qP, not_true → qQ, and_self → qR, and_true → qV, and_false → qX, or_false → qZ, false_eq_true → ue, false_ne_true → uy, true_and → uC, false_or → uJ, not_eq_true' → uS
open _root_.Int renaming toNat → qF, toNat_natCast → qU, reduceEq → uW, le_refl → u9
open _root_.BitVec renaming ofInt → qA, toNat → ur
open _root_.Array renaming length_toList → uh, getD_eq_getD_getElem? → uE, getElem?_eq_getElem → uT, getElem?_setIfInBounds_ne → u0, getElem?_modify → vg
open _root_.UInt8 renaming ofNat → ua
open Result renaming andThen_ok → qk
open Sem renaming run_bind → qr, run_pure → qM
open _root_.Go.Proofs.Tryz renaming prog → qh
section
set_option maxRecDepth 4000
set_option maxHeartbeats 1000000
open AM
theorem zF.ev (a0:GSchema)(a1:GMessage)(r:Int)(h:zF a0 a1=some r)(σ:Store):ACalls qh 82 [.agg (encGSchema a0),.agg (encGMessage a1)] σ (fun r' σ'=>r'=.int .i64 r∧σ'=σ):=
 (zF.ok a0 a1 r h).c σ
def yb.l38 (a0:GEnumeration)(x17:Int)(l15:List (List UInt8))(rec21:Int→List (List UInt8)→Option Int)(y21:GNamed):Nat→Int→Option Int
 |0,_=>none
 |k38+1,x36=>(if x36<x17 then (Zv a0.fValues x36).bind fun y43=>(if y43.fN=y21.fN then some 11 else ((yb.l38 a0 x17 l15 rec21 y21 k38) (IntKind.i64.wrap (x36+1)))) else (rec21 (x17+1) (l15++[y21.fName])))
def yb.l21 (a0:GEnumeration):List GNamed→Int→List (List UInt8)→Option Int
 |[],x17,l15=>some 0
 |y21::q21,x17,l15=>(yy y21.fName l15).bind fun r28=>(if (!r28)=true then some 6 else (Yg (qc l15+1) 16).bind fun _u30=>(if ((decide (y21.fN<0))||(decide (2147483647<y21.fN)))=true then some 11 else (yb.l38 a0 x17 l15 (yb.l21 a0 q21) y21 rounds 0)))
def yb.l10 (a0:GEnumeration):List GNamed→Int→Bool→Option Int
 |[],x7,x6=>(if (!x6)=true then some 12 else (yb.l21 a0 a0.fValues 0 ([]:List (List UInt8))))
 |y10::q10,x7,x6=>((yb.l10 a0 q10) (x7+1) (x6||(decide (y10.fN=0))))
def yb (a0:GEnumeration):Option Int:=
 (if 16<(qc a0.fValues:Int) then some 4 else (yb.l10 a0 a0.fValues 0 false))
theorem yb.ok (a0:GEnumeration)(r:Int)(h:yb a0=some r):ACalls qh 83 [.agg (encGEnumeration a0)] [] (fun r' _=>r'=.int .i64 r):=by
 refine zf (rs:=[.tmp 2]) tok Tryz.func83 rfl Tryz.ntmps83 rfl Tryz.call83 (by simp) ?_;refine zk [(0,.agg (encGEnumeration a0))] ⟨rfl,trivial⟩ ?_;unfold yb at h
 refine rg tok [1] fun K hK=>?_
 simp only[go_sem,qb,qa,qd,reduceCtorEq,encGEnumeration];apply hK
 refine za fun Z1 hZ1=>?_
 refine rgN [1,12] ?_;refine zq rfl (fun hc2=>?_) (fun hc2=>?_)
 · rw[if_pos hc2] at h;have t3:=eq_true hc2
   refine rg tok [2] fun K hK=>?_
   simp only[go_sem,qb,qa,t3];apply hK
   cases h;exact rtA
 rw[if_neg hc2] at h;have t4:=eq_false hc2;apply zd;apply hZ1
 refine rg tok [1,3] fun K hK=>?_
 simp only[go_sem,qb,qa,t4];apply hK
 refine za fun Z5 hZ5=>?_
 refine rgN [1,3,4] ?_;apply ze
 refine xh 0 rfl fun hb10=>?_
 replace hb10:qc a0.fValues≤9223372036854775807:=hb10.2.1.1;refine zp (fun m L τ=>∃ (p10 q10:List GNamed) (x7:Int) (x6:Bool),m=qc q10∧L=[(1,.op 0 0 0),(3,.bool x6),(4,.int .i64 x7)]∧τ=[.cells 0 (encGEnumeration a0)]∧a0.fValues=p10++q10∧x7=(qc p10:Int)∧yb.l10 a0 q10 x7 x6=some r) _ ⟨[],a0.fValues,0,false,rfl,rfl,rfl,rfl,rfl,h⟩ .s ?_;rintro m L τ ⟨p10,q10,x7,x6,rfl,rfl,rfl,hE10,hi10,h⟩
 rcases q10 with _|⟨y10,q10⟩
 · have hz10:=yl hE10 hi10;simp only[yb.l10] at h
   refine za fun Z11 hZ11=>?_
   refine rg tok [1,3,4,17] fun K hK=>?_
   simp only[go_sem,qb,qa,qd,hz10];apply hK
   refine zn rfl ?_;apply zr;apply hZ5
   refine za fun Z12 hZ12=>?_
   refine rgN [1,31] ?_;refine zm (b:=(!x6)) rfl (fun hc13=>?_) (fun hc13=>?_)
   · rw[if_pos hc13] at h;refine rgN [2] ?_;cases h;exact rtA
   rw[xQ hc13] at h;apply zd;apply hZ12;refine rgN [1,5] ?_;refine wN 5 1 rfl ?_;refine zU (L:=[(1,.op 0 0 0),(5,.os true 1 1 0 0 (qc ([]:List (List UInt8))) false)]) (τ:=[.cells 0 (encGEnumeration a0),.cells 0 (qe encS ([]:List (List UInt8)))]) .s ?_
   refine za fun Z14 hZ14=>?_
   refine rgN [1,5,6] ?_;apply ze
   refine xh 0 rfl fun hb21=>?_
   replace hb21:qc a0.fValues≤9223372036854775807:=hb21.2.1.1;refine zp (fun m L τ=>∃ (p21 q21:List GNamed) (x17:Int) (l15:List (List UInt8)) (v16:Nat),m=qc q21∧L=[(1,.op 0 0 0),(5,.os true 1 1 v16 0 (qc l15) false),(6,.int .i64 x17)]∧τ=[.cells 0 (encGEnumeration a0),.cells v16 (qe encS l15)]∧a0.fValues=p21++q21∧x17=(qc p21:Int)∧yb.l21 a0 q21 x17 l15=some r) _ ⟨[],a0.fValues,0,([]:List (List UInt8)),0,rfl,rfl,rfl,rfl,rfl,h⟩ .s ?_;rintro m L τ ⟨p21,q21,x17,l15,v16,rfl,rfl,rfl,hE21,hi21,h⟩
   rcases q21 with _|⟨y21,q21⟩
   · have hz21:=yl hE21 hi21;simp only[yb.l21] at h
     refine za fun Z22 hZ22=>?_
     refine rg tok [1,5,6,36] fun K hK=>?_
     simp only[go_sem,qb,qa,qd,hz21];apply hK
     refine zn rfl ?_;apply zr;apply hZ14;refine rgN [2] ?_;cases h;exact rtA
   obtain⟨hz21,hw21,hx21,hE'21,hi'21⟩:=zV hE21 hi21 hb21;simp only[yb.l21] at h
   refine za fun Z23 hZ23=>?_
   refine rg tok [1,5,6,36] fun K hK=>?_
   simp only[go_sem,qb,qa,qd,hz21];apply hK
   refine zo rfl ?_;apply zd;apply hZ23
   refine za fun Z24 hZ24=>?_
   apply ze;have f25:=E82.idxS hx21;have f26:=E82.loadS rfl rfl hx21
   refine rg tok [1,5,6,7] fun K hK=>?_
   simp only[go_sem,qb,qf,qa,qd,encGNamed,f25,f26];apply hK
   refine za fun Z27 hZ27=>?_
   refine rc [1,5,6,7,48] fun K hK=>?_
   obtain⟨r28,hr28,h⟩:=bind_some h;refine rnN 3 ?_;refine clN rfl rfl rfl (yy.ok y21.fName l15 r28 hr28).ld ?_;refine rnN 1 ?_;refine nkN hK ?_;refine zm (b:=(!r28)) rfl (fun hc29=>?_) (fun hc29=>?_)
   · rw[if_pos hc29] at h;refine rgN [2] ?_;cases h;exact rtA
   rw[xQ hc29] at h;apply zd;apply hZ27;obtain⟨_u30,hu30,h⟩:=bind_some h;have gu30:=yf hu30;have f31:=(zt E98.len l15)
   refine rg tok [1,5,6,7] fun K hK=>?_
   simp only[go_sem,qb,qf,qa,qd,qt,zC,z7,q3,qT,true_and,ub,z6,zJ,ym,gu30,f31,yJ,uc,qY,AV.one,qR,qx,qj,ql,qq,qH];apply hK
   refine zU (L:=[(1,.op 0 0 0),(5,.os true 1 1 (v16+1) 0 (qc (l15++[y21.fName])) false),(6,.int .i64 x17),(7,.op 2 0 0)]) (τ:=[.cells 0 (encGEnumeration a0),.cells (v16+1) (qe encS (l15++[y21.fName])),.cells 0 [.str y21.fName,.int .i64 y21.fN],.cells 0 [.str y21.fName]]) .s ?_
   refine za fun Z32 hZ32=>?_
   refine rc [1,5,6,7,61] fun K hK=>?_
   refine rnN 4 ?_;refine zh 4 (fun L τ=>L=[(1,.op 0 0 0),(5,.os true 1 1 (v16+1) 0 (qc (l15++[y21.fName])) false),(6,.int .i64 x17),(7,.op 2 0 0),(61,.bool ((decide (y21.fN<0))||(decide (2147483647<y21.fN))))]∧τ=[.cells 0 (encGEnumeration a0),.cells (v16+1) (qe encS (l15++[y21.fName])),.cells 0 [.str y21.fName,.int .i64 y21.fN],.cells 0 [.str y21.fName]]) ?_ ?_
   · refine yw 57 rfl (fun hg57=>?_) (fun hg57=>?_)
     · have t33:=eq_true hg57;refine rnN 4 ?_;refine zb ⟨rfl,_,_,⟨rfl,rfl⟩,.p t33⟩
     have t34:=eq_false hg57;refine rnN 4 ?_;refine zb ⟨rfl,_,_,⟨rfl,rfl⟩,.p t34⟩
   rintro _ _ ⟨rfl,rfl⟩;refine nkN hK ?_;refine zm (b:=((decide (y21.fN<0))||(decide (2147483647<y21.fN)))) rfl (fun hc35=>?_) (fun hc35=>?_)
   · rw[if_pos hc35] at h;refine rgN [2] ?_;cases h;exact rtA
   rw[xQ hc35] at h;apply zd;apply hZ32;refine rgN [1,5,6,7,8] ?_;apply ze;refine zp (fun m L τ=>∃ (k38:Nat) (x36:Int),m=0+k38∧L=[(1,.op 0 0 0),(5,.os true 1 1 (v16+1) 0 (qc (l15++[y21.fName])) false),(6,.int .i64 x17),(7,.op 2 0 0),(8,.int .i64 x36)]∧τ=[.cells 0 (encGEnumeration a0),.cells (v16+1) (qe encS (l15++[y21.fName])),.cells 0 [.str y21.fName,.int .i64 y21.fN]]∧yb.l38 a0 x17 l15 (yb.l21 a0 q21) y21 k38 x36=some r) _ ⟨rounds,0,rfl,rfl,rfl,h⟩ (.t [0,1,2] false) ?_;rintro m L τ ⟨k38,x36,rfl,rfl,rfl,h⟩
   rcases k38 with _|k38
   · cases h
   simp only[yb.l38] at h
   refine za fun Z39 hZ39=>?_
   refine rgN [1,5,6,7,8,64] ?_;refine zq rfl (fun hc40=>?_) (fun hc40=>?_)
   · rw[if_pos hc40] at h;have t41:=eq_true hc40;apply zd;apply hZ39
     refine za fun Z42 hZ42=>?_
     apply ze;obtain⟨y43,hy43,h⟩:=bind_some h;have f44:=E82.idxS hy43;have f45:=E82.fldS (f:=3) rfl rfl hy43 (o:=1) (by decide)
     refine rd [1,5,6,7,8,75] fun K hK=>?_
     refine DW.start (T:=tab) [.any,.at [],.any,.any,.any,.at [],.any,.at [],.any] [] ?_;refine DW.runN tok 8 ?_;simp only[go_sem,qb,qa,qd,encGNamed,t41,f44,f45];refine DW.runN tok 1 ?_;simp only[go_sem,qb,qa];refine DW.fin tok (by decide +kernel) rfl ?_;simp only[zj,upd,qa,reduceIte,yu,xe];apply hK
     refine zq rfl (fun hc46=>?_) (fun hc46=>?_)
     · rw[if_pos hc46] at h;have t47:=eq_true hc46
       refine rg tok [2] fun K hK=>?_
       simp only[go_sem,qb,qa,t47];apply hK
       cases h;exact rtA
     rw[if_neg hc46] at h;have t48:=eq_false hc46;apply zd;apply hZ42
     refine rgE tok [1,5,6,7,8] fun K hK=>?_
     simp only[go_sem,qb,qa,t48];apply hK
     exact⟨_,_,_,qp (0+k38),⟨k38,IntKind.i64.wrap (x36+1),rfl,rfl,rfl,h⟩,.s⟩
   rw[if_neg hc40] at h;have t49:=eq_false hc40;apply zr;apply hZ24
   refine rgE tok [1,5,6] fun K hK=>?_
   simp only[go_sem,qb,qa,hw21,t49];apply hK
   exact⟨_,_,_,qp q21.length,⟨p21++[y21],q21,x17+1,l15++[y21.fName],v16+1,rfl,rfl,rfl,hE'21,hi'21,h⟩,(.t [0,1] false)⟩
 obtain⟨hz10,hw10,hx10,hE'10,hi'10⟩:=zV hE10 hi10 hb10;simp only[yb.l10] at h
 refine za fun Z50 hZ50=>?_
 refine rg tok [1,3,4,17] fun K hK=>?_
 simp only[go_sem,qb,qa,qd,hz10];apply hK
 refine zo rfl ?_;apply zd;apply hZ50
 refine za fun Z51 hZ51=>?_
 apply ze
 refine rcE [1,3,4] fun K hK=>?_
 refine rnN 2 ?_;refine zh 8 (fun L τ=>L=[(1,.op 0 0 0),(3,.bool x6),(4,.int .i64 x7),(29,.bool (x6||(decide (y10.fN=0))))]∧τ=[.cells 0 (encGEnumeration a0)]) ?_ ?_
 · refine zH (b:=x6) 21 rfl (fun hg21=>?_) (fun hg21=>?_)
   · refine rnN 8 ?_;refine zb ⟨rfl,_,_,⟨rfl,rfl⟩,.b hg21⟩
   have f52:=E82.idxS hx10;have f53:=E82.fldS (f:=3) rfl rfl hx10 (o:=1) (by decide);refine zi tok 8 ?_;simp only[go_sem,qb,qa,qd,encGNamed,f52,f53];refine zb ⟨rfl,_,_,⟨rfl,rfl⟩,.b hg21⟩
 rintro _ _ ⟨rfl,rfl⟩;refine rnN 1 ?_;refine nkN hK ?_;apply hZ51
 refine rgE tok [1,3,4] fun K hK=>?_
 simp only[go_sem,qb,qa,hw10];apply hK
 exact⟨_,_,_,qp q10.length,⟨p10++[y10],q10,x7+1,(x6||(decide (y10.fN=0))),rfl,rfl,rfl,hE'10,hi'10,h⟩,.s⟩
theorem yb.ev (a0:GEnumeration)(r:Int)(h:yb a0=some r)(σ:Store):ACalls qh 83 [.agg (encGEnumeration a0)] σ (fun r' σ'=>r'=.int .i64 r∧σ'=σ):=
 (yb.ok a0 r h).c σ
def yI.l17 : List GEnumeration→Int→List (List UInt8)→Option Int
 |[],x13,l11=>some 0
 |y17::q17,x13,l11=>(yy y17.fName l11).bind fun r24=>(if (!r24)=true then some 6 else (Yg (qc l11+1) 16).bind fun _u28=>(yb y17).bind fun r32=>(if r32=0 then ((yI.l17 q17) (x13+1) (l11++[y17.fName])) else some r32))
def yI.l8 (a0:GSchema):List GMessage→Int→List (List UInt8)→Option Int
 |[],x4,l2=>(yI.l17 a0.fEnums 0 l2)
 |y8::q8,x4,l2=>(yy y8.fName l2).bind fun r41=>(if (!r41)=true then some 6 else (Yg (qc l2+1) 16).bind fun _u45=>(zF a0 y8).bind fun r49=>(if r49=0 then ((yI.l8 a0 q8) (x4+1) (l2++[y8.fName])) else some r49))
def yI (a0:GSchema):Option Int:=
 (yI.l8 a0 a0.fMessages 0 ([]:List (List UInt8)))
theorem yI.ok (a0:GSchema)(r:Int)(h:yI a0=some r):ACalls qh 46 [.agg (encGSchema a0)] [] (fun r' _=>r'=.int .i64 r):=by
 refine zf (rs:=[.tmp 2]) tok Tryz.func46 rfl Tryz.ntmps46 rfl Tryz.call46 (by simp) ?_;refine zk [(0,.agg (encGSchema a0))] ⟨rfl,trivial⟩ ?_;unfold yI at h
 refine rg tok [1] fun K hK=>?_
 simp only[go_sem,qb,qa,qd,reduceCtorEq,encGSchema];apply hK
 refine rgN [1,3] ?_;refine wN 3 1 rfl ?_;refine zU (L:=[(1,.op 0 0 0),(3,.os true 1 1 0 0 (qc ([]:List (List UInt8))) false)]) (τ:=[.cells 0 (encGSchema a0),.cells 0 (qe encS ([]:List (List UInt8)))]) .s ?_
 refine za fun Z1 hZ1=>?_
 refine rgN [1,3,4] ?_;apply ze
 refine xh 0 rfl fun hb8=>?_
 replace hb8:qc a0.fMessages≤9223372036854775807:=hb8.2.1.1;refine zp (fun m L τ=>∃ (p8 q8:List GMessage) (x4:Int) (l2:List (List UInt8)) (v3:Nat),m=qc q8∧L=[(1,.op 0 0 0),(3,.os true 1 1 v3 0 (qc l2) false),(4,.int .i64 x4)]∧τ=[.cells 0 (encGSchema a0),.cells v3 (qe encS l2)]∧a0.fMessages=p8++q8∧x4=(qc p8:Int)∧yI.l8 a0 q8 x4 l2=some r) _ ⟨[],a0.fMessages,0,([]:List (List UInt8)),0,rfl,rfl,rfl,rfl,rfl,h⟩ .s ?_;rintro m L τ ⟨p8,q8,x4,l2,v3,rfl,rfl,rfl,hE8,hi8,h⟩
 rcases q8 with _|⟨y8,q8⟩
 · have hz8:=yl hE8 hi8;simp only[yI.l8] at h
   refine za fun Z9 hZ9=>?_
   refine rg tok [1,3,4,12] fun K hK=>?_
   simp only[go_sem,qb,qa,qd,hz8];apply hK
   refine zn rfl ?_;apply zr;apply hZ1
   refine za fun Z10 hZ10=>?_
   refine rgN [1,3,6] ?_;apply ze
   refine xh 0 rfl fun hb17=>?_
   replace hb17:qc a0.fEnums≤9223372036854775807:=hb17.2.2.1.1;refine zp (fun m L τ=>∃ (p17 q17:List GEnumeration) (x13:Int) (l11:List (List UInt8)) (v12:Nat),m=qc q17∧L=[(1,.op 0 0 0),(3,.os true 1 1 v12 0 (qc l11) false),(6,.int .i64 x13)]∧τ=[.cells 0 (encGSchema a0),.cells v12 (qe encS l11)]∧a0.fEnums=p17++q17∧x13=(qc p17:Int)∧yI.l17 q17 x13 l11=some r) _ ⟨[],a0.fEnums,0,l2,v3,rfl,rfl,rfl,rfl,rfl,h⟩ .s ?_;rintro m L τ ⟨p17,q17,x13,l11,v12,rfl,rfl,rfl,hE17,hi17,h⟩
   rcases q17 with _|⟨y17,q17⟩
   · have hz17:=yl hE17 hi17;simp only[yI.l17] at h
     refine za fun Z18 hZ18=>?_
     refine rg tok [1,3,6,47] fun K hK=>?_
     simp only[go_sem,qb,qa,qd,hz17];apply hK
     refine zn rfl ?_;apply zr;apply hZ10;refine rgN [2] ?_;cases h;exact rtA
   obtain⟨hz17,hw17,hx17,hE'17,hi'17⟩:=zV hE17 hi17 hb17;simp only[yI.l17] at h
   refine za fun Z19 hZ19=>?_
   refine rg tok [1,3,6,47] fun K hK=>?_
   simp only[go_sem,qb,qa,qd,hz17];apply hK
   refine zo rfl ?_;apply zd;apply hZ19
   refine za fun Z20 hZ20=>?_
   apply ze
   refine za fun Z21 hZ21=>?_
   refine rc [1,3,6,58] fun K hK=>?_
   have f22:=E23.idxS hx17;have f23:=E23.fldS0 (f:=9) rfl rfl hx17;obtain⟨r24,hr24,h⟩:=bind_some h;refine zi tok 7 ?_;simp only[go_sem,qb,qa,qd,encGEnumeration,f22,f23];refine clN rfl rfl rfl (yy.ok y17.fName l11 r24 hr24).ld ?_;refine rnN 1 ?_;refine nkN hK ?_;refine zm (b:=(!r24)) rfl (fun hc25=>?_) (fun hc25=>?_)
   · rw[if_pos hc25] at h;refine rgN [2] ?_;cases h;exact rtA
   rw[xQ hc25] at h;apply zd;apply hZ21;have f26:=E23.idxS hx17;have f27:=E23.fldS0 (f:=9) rfl rfl hx17;obtain⟨_u28,hu28,h⟩:=bind_some h;have gu28:=yf hu28;have f29:=(zt E98.len l11)
   refine rg tok [1,3,6] fun K hK=>?_
   simp only[go_sem,qb,qf,qa,qd,qt,zC,z7,q3,qT,true_and,ub,z6,zJ,ym,encGEnumeration,f26,f27,gu28,f29,yJ,uc,qY,AV.one,qR,qx,qj,ql,qq,qH];apply hK
   refine zU (L:=[(1,.op 0 0 0),(3,.os true 1 1 (v12+1) 0 (qc (l11++[y17.fName])) false),(6,.int .i64 x13)]) (τ:=[.cells 0 (encGSchema a0),.cells (v12+1) (qe encS (l11++[y17.fName])),.cells 0 [.str y17.fName]]) .s ?_
   refine rc [1,3,6,7] fun K hK=>?_
   have f30:=E23.idxS hx17;have f31:=E23.loadS rfl rfl hx17;obtain⟨r32,hr32,h⟩:=bind_some h;refine zi tok 5 ?_;simp only[go_sem,qb,qa,qd,encGEnumeration,f30,f31];refine clN rfl rfl rfl (yb.ev y17 r32 hr32 _) ?_;refine rnN 1 ?_;refine nkN hK ?_;refine rgN [1,3,6,7,75] ?_;refine zq rfl (fun hc33=>?_) (fun hc33=>?_)
   · rw[if_neg hc33] at h;have t34:=eq_false hc33
     refine rg tok [2] fun K hK=>?_
     simp only[go_sem,qb,qa,t34];apply hK
     cases h;exact rtA
   rw[if_pos hc33] at h;have t35:=eq_true hc33;apply zd;apply hZ20
   refine rgE tok [1,3,6] fun K hK=>?_
   simp only[go_sem,qb,qa,hw17,t35];apply hK
   exact⟨_,_,_,qp q17.length,⟨p17++[y17],q17,x13+1,l11++[y17.fName],v12+1,rfl,rfl,rfl,hE'17,hi'17,h⟩,(.t [0,1] false)⟩
 obtain⟨hz8,hw8,hx8,hE'8,hi'8⟩:=zV hE8 hi8 hb8;simp only[yI.l8] at h
 refine za fun Z36 hZ36=>?_
 refine rg tok [1,3,4,12] fun K hK=>?_
 simp only[go_sem,qb,qa,qd,hz8];apply hK
 refine zo rfl ?_;apply zd;apply hZ36
 refine za fun Z37 hZ37=>?_
 apply ze
 refine za fun Z38 hZ38=>?_
 refine rc [1,3,4,23] fun K hK=>?_
 have f39:=E22.idxS hx8;have f40:=E22.fldS0 (f:=9) rfl rfl hx8;obtain⟨r41,hr41,h⟩:=bind_some h;refine zi tok 7 ?_;simp only[go_sem,qb,qa,qd,encGMessage,f39,f40];refine clN rfl rfl rfl (yy.ok y8.fName l2 r41 hr41).ld ?_;refine rnN 1 ?_;refine nkN hK ?_;refine zm (b:=(!r41)) rfl (fun hc42=>?_) (fun hc42=>?_)
 · rw[if_pos hc42] at h;refine rgN [2] ?_;cases h;exact rtA
 rw[xQ hc42] at h;apply zd;apply hZ38;have f43:=E22.idxS hx8;have f44:=E22.fldS0 (f:=9) rfl rfl hx8;obtain⟨_u45,hu45,h⟩:=bind_some h;have gu45:=yf hu45;have f46:=(zt E98.len l2)
 refine rg tok [1,3,4] fun K hK=>?_
 simp only[go_sem,qb,qf,qa,qd,qt,zC,z7,q3,qT,true_and,ub,z6,zJ,ym,encGMessage,f43,f44,gu45,f46,yJ,uc,qY,AV.one,qR,qx,qj,ql,qq,qH];apply hK
 refine zU (L:=[(1,.op 0 0 0),(3,.os true 1 1 (v3+1) 0 (qc (l2++[y8.fName])) false),(4,.int .i64 x4)]) (τ:=[.cells 0 (encGSchema a0),.cells (v3+1) (qe encS (l2++[y8.fName])),.cells 0 [.str y8.fName]]) .s ?_;have f47:=E22.idxS hx8;have f48:=E22.loadS rfl rfl hx8;obtain⟨r49,hr49,h⟩:=bind_some h
 refine rd [1,3,4,5] fun K hK=>?_
 refine DW.start (T:=tab) [.at [],.any,.at [],.any,.any,.at [],.eff,.any] [] ?_;refine DW.runN tok 6 ?_;simp only[go_sem,qb,qf,qa,qd,encGMessage,f47,f48];refine DW.call rfl rfl rfl (zF.ev a0 y8 r49 hr49 _) ?_;refine DW.runN tok 1 ?_;simp only[go_sem,qb,qa];refine DW.fin tok (by decide +kernel) rfl ?_;simp only[zj,upd,qa,reduceIte,yu,xe];apply hK
 refine rgN [1,3,4,5,41] ?_;refine zq rfl (fun hc50=>?_) (fun hc50=>?_)
 · rw[if_neg hc50] at h;have t51:=eq_false hc50
   refine rg tok [2] fun K hK=>?_
   simp only[go_sem,qb,qa,t51];apply hK
   cases h;exact rtA
 rw[if_pos hc50] at h;have t52:=eq_true hc50;apply zd;apply hZ37
 refine rgE tok [1,3,4] fun K hK=>?_
 simp only[go_sem,qb,qa,hw8,t52];apply hK
 exact⟨_,_,_,qp q8.length,⟨p8++[y8],q8,x4+1,l2++[y8.fName],v3+1,rfl,rfl,rfl,hE'8,hi'8,h⟩,(.t [0,1] false)⟩
theorem yI.ev (a0:GSchema)(r:Int)(h:yI a0=some r)(σ:Store):ACalls qh 46 [.agg (encGSchema a0)] σ (fun r' σ'=>r'=.int .i64 r∧σ'=σ):=
 (yI.ok a0 r h).c σ
def yZ.l22 (a0:GSchema):List GMethod→Int→List (List UInt8)→Option Int
 |[],x18,l16=>some 0
 |y22::q22,x18,l16=>(yy y22.fName l16).bind fun r29=>(if (!r29)=true then some 6 else (Yg (qc l16+1) 16).bind fun _u31=>bnd (yd a0 y22.fIn) fun r33=>bnd (yd a0 y22.fOut) fun r34=>(if ((!r33.2)||(!r34.2))=true then some 8 else ((yZ.l22 a0 q22) (x18+1) (l16++[y22.fName]))))
def yZ (a0:GSchema):Option Int:=
 (xo a0.fName).bind fun r2=>(if (!r2)=true then some 6 else (if (qc a0.fMessages:Int)=0 then some 12 else (if (((decide (10<(qc a0.fMessages:Int)))||(decide (6<(qc a0.fEnums:Int))))||(decide (6<(qc a0.fMethods:Int))))=true then some 4 else (yI a0).bind fun r11=>(if r11=0 then (yZ.l22 a0 a0.fMethods 0 ([]:List (List UInt8))) else some r11))))
theorem yZ.ok (a0:GSchema)(r:Int)(h:yZ a0=some r):ACalls qh 21 [.agg (encGSchema a0)] [] (fun r' _=>r'=.int .i64 r):=by
 refine zf (rs:=[.tmp 2]) tok Tryz.func21 rfl Tryz.ntmps21 rfl Tryz.call21 (by simp) ?_;refine zk [(0,.agg (encGSchema a0))] ⟨rfl,trivial⟩ ?_;unfold yZ at h
 refine rg tok [1] fun K hK=>?_
 simp only[go_sem,qb,qa,qd,reduceCtorEq,encGSchema];apply hK
 refine za fun Z1 hZ1=>?_
 apply ze
 refine rc [1,11] fun K hK=>?_
 obtain⟨r2,hr2,h⟩:=bind_some h;refine rnN 2 ?_;refine clN rfl rfl rfl (xo.ev a0.fName r2 hr2 _) ?_;refine rnN 2 ?_;refine nkN hK ?_;refine zm (b:=(!r2)) rfl (fun hc3=>?_) (fun hc3=>?_)
 · rw[if_pos hc3] at h;refine rgN [2] ?_;cases h;exact rtA
 rw[xQ hc3] at h;refine rgN [1,16] ?_;refine zq rfl (fun hc4=>?_) (fun hc4=>?_)
 · rw[if_pos hc4] at h;have t5:=eq_true hc4
   refine rg tok [2] fun K hK=>?_
   simp only[go_sem,qb,qa,t5];apply hK
   cases h;exact rtA
 rw[if_neg hc4] at h;have t6:=eq_false hc4
 refine rc [1,21] fun K hK=>?_
 refine zi tok 5 ?_;simp only[go_sem,qb,qa,qd,t6];refine zh 5 (fun L τ=>L=[(1,.op 0 0 0),(31,.bool ((decide (10<(qc a0.fMessages:Int)))||(decide (6<(qc a0.fEnums:Int)))))]∧τ=[.cells 0 (encGSchema a0)]) ?_ ?_
 · refine yw 26 rfl (fun hg26=>?_) (fun hg26=>?_)
   · have t7:=eq_true hg26;refine rnN 5 ?_;refine zb ⟨rfl,_,_,⟨rfl,rfl⟩,.p t7⟩
   have t8:=eq_false hg26;refine rnN 5 ?_;refine zb ⟨rfl,_,_,⟨rfl,rfl⟩,.p t8⟩
 rintro _ _ ⟨rfl,rfl⟩;refine rnN 1 ?_;refine zh 5 (fun L τ=>L=[(1,.op 0 0 0),(37,.bool (((decide (10<(qc a0.fMessages:Int)))||(decide (6<(qc a0.fEnums:Int))))||(decide (6<(qc a0.fMethods:Int)))))]∧τ=[.cells 0 (encGSchema a0)]) ?_ ?_
 · refine zH (b:=((decide (10<(qc a0.fMessages:Int)))||(decide (6<(qc a0.fEnums:Int))))) 32 rfl (fun hg32=>?_) (fun hg32=>?_)
   · refine rnN 5 ?_;refine zb ⟨rfl,_,_,⟨rfl,rfl⟩,.b hg32⟩
   refine rnN 5 ?_;refine zb ⟨rfl,_,_,⟨rfl,rfl⟩,.b hg32⟩
 rintro _ _ ⟨rfl,rfl⟩;refine rnN 1 ?_;refine nkN hK ?_;refine zm (b:=(((decide (10<(qc a0.fMessages:Int)))||(decide (6<(qc a0.fEnums:Int))))||(decide (6<(qc a0.fMethods:Int))))) rfl (fun hc9=>?_) (fun hc9=>?_)
 · rw[if_pos hc9] at h;refine rgN [2] ?_;cases h;exact rtA
 rw[xQ hc9] at h;apply zd;apply hZ1
 refine za fun Z10 hZ10=>?_
 refine rc [1,3] fun K hK=>?_
 obtain⟨r11,hr11,h⟩:=bind_some h;refine rnN 1 ?_;refine clN rfl rfl rfl (yI.ev a0 r11 hr11 _) ?_;refine rnN 1 ?_;refine nkN hK ?_;refine rgN [1,3,41] ?_;refine zq rfl (fun hc12=>?_) (fun hc12=>?_)
 · rw[if_neg hc12] at h;have t13:=eq_false hc12
   refine rg tok [2] fun K hK=>?_
   simp only[go_sem,qb,qa,t13];apply hK
   cases h;exact rtA
 rw[if_pos hc12] at h;have t14:=eq_true hc12;apply zd;apply hZ10
 refine rg tok [1,4] fun K hK=>?_
 simp only[go_sem,qb,qa,t14];apply hK
 refine wN 4 1 rfl ?_;refine zU (L:=[(1,.op 0 0 0),(4,.os true 1 1 0 0 (qc ([]:List (List UInt8))) false)]) (τ:=[.cells 0 (encGSchema a0),.cells 0 (qe encS ([]:List (List UInt8)))]) .s ?_
 refine za fun Z15 hZ15=>?_
 refine rgN [1,4,5] ?_;apply ze
 refine xh 0 rfl fun hb22=>?_
 replace hb22:qc a0.fMethods≤9223372036854775807:=hb22.2.2.2.1.1;refine zp (fun m L τ=>∃ (p22 q22:List GMethod) (x18:Int) (l16:List (List UInt8)) (v17:Nat),m=qc q22∧L=[(1,.op 0 0 0),(4,.os true 1 1 v17 0 (qc l16) false),(5,.int .i64 x18)]∧τ=[.cells 0 (encGSchema a0),.cells v17 (qe encS l16)]∧a0.fMethods=p22++q22∧x18=(qc p22:Int)∧yZ.l22 a0 q22 x18 l16=some r) _ ⟨[],a0.fMethods,0,([]:List (List UInt8)),0,rfl,rfl,rfl,rfl,rfl,h⟩ .s ?_;rintro m L τ ⟨p22,q22,x18,l16,v17,rfl,rfl,rfl,hE22,hi22,h⟩
 rcases q22 with _|⟨y22,q22⟩
 · have hz22:=yl hE22 hi22;simp only[yZ.l22] at h
   refine za fun Z23 hZ23=>?_
   refine rg tok [1,4,5,47] fun K hK=>?_
   simp only[go_sem,qb,qa,qd,hz22];apply hK
   refine zn rfl ?_;apply zr;apply hZ15;refine rgN [2] ?_;cases h;exact rtA
 obtain⟨hz22,hw22,hx22,hE'22,hi'22⟩:=zV hE22 hi22 hb22;simp only[yZ.l22] at h
 refine za fun Z24 hZ24=>?_
 refine rg tok [1,4,5,47] fun K hK=>?_
 simp only[go_sem,qb,qa,qd,hz22];apply hK
 refine zo rfl ?_;apply zd;apply hZ24
 refine za fun Z25 hZ25=>?_
 apply ze;have f26:=E24.idxS hx22;have f27:=E24.loadS rfl rfl hx22
 refine rg tok [1,4,5,6] fun K hK=>?_
 simp only[go_sem,qb,qf,qa,qd,encGMethod,f26,f27];apply hK
 refine za fun Z28 hZ28=>?_
 refine rc [1,4,5,6,59] fun K hK=>?_
 obtain⟨r29,hr29,h⟩:=bind_some h;refine rnN 3 ?_;refine clN rfl rfl rfl (yy.ok y22.fName l16 r29 hr29).ld ?_;refine rnN 1 ?_;refine nkN hK ?_;refine zm (b:=(!r29)) rfl (fun hc30=>?_) (fun hc30=>?_)
 · rw[if_pos hc30] at h;refine rgN [2] ?_;cases h;exact rtA
 rw[xQ hc30] at h;apply zd;apply hZ28;obtain⟨_u31,hu31,h⟩:=bind_some h;have gu31:=yf hu31;have f32:=(zt E98.len l16)
 refine rg tok [1,4,5,6] fun K hK=>?_
 simp only[go_sem,qb,qf,qa,qd,qt,zC,z7,q3,qT,true_and,ub,z6,zJ,ym,gu31,f32,yJ,uc,qY,AV.one,qR,qx,qj,ql,qq,qH];apply hK
 refine zU (L:=[(1,.op 0 0 0),(4,.os true 1 1 (v17+1) 0 (qc (l16++[y22.fName])) false),(5,.int .i64 x18),(6,.op 2 0 0)]) (τ:=[.cells 0 (encGSchema a0),.cells (v17+1) (qe encS (l16++[y22.fName])),.cells 0 [.str y22.fName,.str y22.fIn,.str y22.fOut],.cells 0 [.str y22.fName]]) .s ?_
 refine rc [1,4,5,6,8] fun K hK=>?_
 obtain⟨r33,hr33,h⟩:=zQ h;refine rnN 3 ?_;refine clN rfl rfl rfl (yd.ev a0 y22.fIn r33 hr33 _) ?_;refine zi tok 6 ?_;simp only[go_sem,qb,qf,qa,qd,encGMessage];refine nkN hK ?_
 refine rc [1,4,5,8,10] fun K hK=>?_
 obtain⟨r34,hr34,h⟩:=zQ h;refine rnN 3 ?_;refine clN rfl rfl rfl (yd.ev a0 y22.fOut r34 hr34 _) ?_;refine zi tok 6 ?_;simp only[go_sem,qb,qf,qa,qd,encGMessage];refine nkN hK ?_
 refine rc [1,4,5,84] fun K hK=>?_
 refine rnN 3 ?_;refine zh 3 (fun L τ=>L=[(1,.op 0 0 0),(4,.os true 1 1 (v17+1) 0 (qc (l16++[y22.fName])) false),(5,.int .i64 x18),(84,.bool ((!r33.2)||(!r34.2)))]∧τ=[.cells 0 (encGSchema a0),.cells (v17+1) (qe encS (l16++[y22.fName])),.cells 0 [.str y22.fName,.str y22.fIn,.str y22.fOut],.cells 0 [.str y22.fName],.cells 0 (encGMessage r33.1),.cells 0 (encGMessage r34.1)]) ?_ ?_
 · refine zH (b:=(!r33.2)) 81 rfl (fun hg81=>?_) (fun hg81=>?_)
   · refine rnN 3 ?_;refine zb ⟨rfl,_,_,⟨rfl,rfl⟩,.b hg81⟩
   refine rnN 3 ?_;refine zb ⟨rfl,_,_,⟨rfl,rfl⟩,.b hg81⟩
 rintro _ _ ⟨rfl,rfl⟩;refine nkN hK ?_;refine zm (b:=((!r33.2)||(!r34.2))) rfl (fun hc35=>?_) (fun hc35=>?_)
 · rw[if_pos hc35] at h;refine rgN [2] ?_;cases h;exact rtA
 rw[xQ hc35] at h;apply zd;apply hZ25
 refine rgE tok [1,4,5] fun K hK=>?_
 simp only[go_sem,qb,qa,hw22];apply hK
 exact⟨_,_,_,qp q22.length,⟨p22++[y22],q22,x18+1,l16++[y22.fName],v17+1,rfl,rfl,rfl,hE'22,hi'22,h⟩,(.t [0,1] false)⟩
theorem yZ.ev (a0:GSchema)(r:Int)(h:yZ a0=some r)(σ:Store):ACalls qh 21 [.agg (encGSchema a0)] σ (fun r' σ'=>r'=.int .i64 r∧σ'=σ):=
 (yZ.ok a0 r h).c σ
def wy (a0:GSchema)(a1:List UInt8)(a2:List UInt8):Option (GTree×Int):=
 (yZ a0).bind fun r2=>(if r2=0 then bnd (yd a0 a1) fun r6=>(if (!r6.2)=true then some ((⟨0,0,[],([]:List GEntry),([]:List GRaw)⟩:GTree),14) else (zL rounds a0 r6.1 a2 1).bind fun r9=>some (r9.1,r9.2)) else some ((⟨0,0,[],([]:List GEntry),([]:List GRaw)⟩:GTree),1))
theorem wy.ok (a0:GSchema)(a1:List UInt8)(a2:List UInt8)(r:GTree×Int)(h:wy a0 a1 a2=some r):ACalls qh 19 [.agg (encGSchema a0),.str a1,.ds true (qe encB a2) (qc a2) false] [] (fun r' _=>r'=.tup [.agg (cellsGTree r.1),.int .i64 r.2]):=by
 refine zf (rs:=[.cell 6 30,.tmp 7]) tok Tryz.func19 rfl Tryz.ntmps19 rfl Tryz.call19 (by simp) ?_;refine zk [(0,.agg (encGSchema a0)),(1,.str a1),(2,.ds true (qe encB a2) (qc a2) false)] ⟨rfl,rfl,rfl,trivial⟩ ?_;unfold wy at h
 refine rg tok [1,2,3,6] fun K hK=>?_
 simp only[go_sem,qb,qa,qd,reduceCtorEq,encGSchema];apply hK
 refine za fun Z1 hZ1=>?_
 refine rc [1,2,3,6,12] fun K hK=>?_
 obtain⟨r2,hr2,h⟩:=bind_some h;refine rnN 1 ?_;refine clN rfl rfl rfl (yZ.ev a0 r2 hr2 _) ?_;refine rnN 1 ?_;refine nkN hK ?_;refine zq rfl (fun hc3=>?_) (fun hc3=>?_)
 · rw[if_neg hc3] at h;have t4:=eq_false hc3
   refine rg tok [6,7] fun K hK=>?_
   simp only[go_sem,qb,qf,qa,qd,t4];apply hK
   cases h;exact rtA
 rw[if_pos hc3] at h;have t5:=eq_true hc3;apply zd;apply hZ1
 refine rc [2,3,6,8,9] fun K hK=>?_
 obtain⟨r6,hr6,h⟩:=zQ h;refine zi tok 2 ?_;simp only[go_sem,qb,qf,qa,qd,t5];refine clN rfl rfl rfl (yd.ev a0 a1 r6 hr6 _) ?_;refine zi tok 6 ?_;simp only[go_sem,qb,qf,qa,qd,encGMessage];refine nkN hK ?_
 refine za fun Z7 hZ7=>?_
 refine rgN [2,3,6,8,21] ?_;refine zm (b:=(!r6.2)) rfl (fun hc8=>?_) (fun hc8=>?_)
 · rw[if_pos hc8] at h;refine rgN [6,7] ?_;cases h;exact rtA
 rw[xQ hc8] at h;apply zd;apply hZ7
 refine rc [6,7] fun K hK=>?_
 obtain⟨r9,hr9,h⟩:=bind_some h;refine rnN 3 ?_;refine clN rfl rfl rfl (zL.ev rounds a0 r6.1 a2 1 r9 hr9 _) ?_;refine zi tok 4 ?_;simp only[go_sem,qb,qf,qa,qd,cellsGTree];refine nkN hK ?_;cases h;exact rtA
theorem wy.ev (a0:GSchema)(a1:List UInt8)(a2:List UInt8)(r:GTree×Int)(h:wy a0 a1 a2=some r)(σ:Store):ACalls qh 19 [.agg (encGSchema a0),.str a1,.ds true (qe encB a2) (qc a2) false] σ (fun r' σ'=>r'=.tup [.agg (cellsGTree r.1),.int .i64 r.2]∧σ'=σ):=
 (wy.ok a0 a1 a2 r h).c σ
def zX.l18 (y7:GTree→Int→Option Int)(a1:Int)(x7:Int)(rec10:Int→Int→Option Int):List GTree→Int→Int→Option Int
 |[],x15,x14=>(rec10 (x7+1) x14)
 |y18::q18,x15,x14=>(y7 y18 (IntKind.i64.wrap (a1+1))).bind fun r30=>((zX.l18 y7 a1 x7 rec10 q18) (x15+1) (if x14<r30 then r30 else x14))
def zX.l10 (y7:GTree→Int→Option Int)(a1:Int):List GEntry→Int→Int→Option Int
 |[],x7,x6=>some (if 101<IntKind.i64.wrap (x6+1) then 101 else IntKind.i64.wrap (x6+1))
 |y10::q10,x7,x6=>(zX.l18 y7 a1 x7 (zX.l10 y7 a1 q10) y10.fTrees 0 x6)
def zX.body (y7:GTree→Int→Option Int)(a0:GTree)(a1:Int):Option Int:=
 (if ((!(decide (a0.fKind=3)))||(decide (100<a1)))=true then some 0 else (zX.l10 y7 a1 a0.fEntries 0 0))
theorem zX.step (y7:GTree→Int→Option Int)(ih_ref09_depth:∀ (a0:GTree) (a1:Int) (r:Int),y7 a0 a1=some r→ACalls qh 123 [.agg (cellsGTree a0),.int .i64 a1] [] (fun r' _=>r'=.int .i64 r))(a0:GTree)(a1:Int)(r:Int)(h:zX.body y7 a0 a1=some r):ACalls qh 123 [.agg (cellsGTree a0),.int .i64 a1] [] (fun r' _=>r'=.int .i64 r):=by
 have ev_ref09_depth:=fun a0 a1 r h σ=>(ih_ref09_depth a0 a1 r h).c σ
 refine zf (rs:=[.tmp 4]) tok Tryz.func123 rfl Tryz.ntmps123 rfl Tryz.call123 (by simp) ?_;refine zk [(0,.agg (cellsGTree a0)),(1,.int .i64 a1)] ⟨rfl,rfl,trivial⟩ ?_;unfold zX.body at h
 refine rg tok [1,2] fun K hK=>?_
 simp only[go_sem,qb,qa,qd,reduceCtorEq,cellsGTree];apply hK
 refine za fun Z1 hZ1=>?_
 refine rc [1,2,14] fun K hK=>?_
 refine rnN 4 ?_;refine zh 3 (fun L τ=>L=[(1,.int .i64 a1),(2,.op 0 0 0),(14,.bool ((!(decide (a0.fKind=3)))||(decide (100<a1))))]∧τ=[.cells 0 (cellsGTree a0)]) ?_ ?_
 · refine yw 11 rfl (fun hg11=>?_) (fun hg11=>?_)
   · have t2:=eq_false hg11;refine rnN 3 ?_;refine zb ⟨rfl,_,_,⟨rfl,rfl⟩,.p t2⟩
   have t3:=eq_true hg11;refine rnN 3 ?_;refine zb ⟨rfl,_,_,⟨rfl,rfl⟩,.p t3⟩
 rintro _ _ ⟨rfl,rfl⟩;refine nkN hK ?_;refine zm (b:=((!(decide (a0.fKind=3)))||(decide (100<a1)))) rfl (fun hc4=>?_) (fun hc4=>?_)
 · rw[if_pos hc4] at h;refine rgN [4] ?_;cases h;exact rtA
 rw[xQ hc4] at h;apply zd;apply hZ1;refine rgN [1,2,5] ?_
 refine za fun Z5 hZ5=>?_
 refine rgN [1,2,5,6] ?_;apply ze
 refine xh 0 rfl fun hb10=>?_
 replace hb10:qc a0.fEntries≤9223372036854775807:=hb10.2.2.2.1.1;refine zp (fun m L τ=>∃ (p10 q10:List GEntry) (x7:Int) (x6:Int),m=qc q10∧L=[(1,.int .i64 a1),(2,.op 0 0 0),(5,.int .i64 x6),(6,.int .i64 x7)]∧τ=[.cells 0 (cellsGTree a0)]∧a0.fEntries=p10++q10∧x7=(qc p10:Int)∧zX.l10 y7 a1 q10 x7 x6=some r) _ ⟨[],a0.fEntries,0,0,rfl,rfl,rfl,rfl,rfl,h⟩ .s ?_;rintro m L τ ⟨p10,q10,x7,x6,rfl,rfl,rfl,hE10,hi10,h⟩
 rcases q10 with _|⟨y10,q10⟩
 · have hz10:=yl hE10 hi10;simp only[zX.l10] at h
   refine za fun Z11 hZ11=>?_
   refine rg tok [1,2,5,6,19] fun K hK=>?_
   simp only[go_sem,qb,qa,qd,hz10];apply hK
   refine zn rfl ?_;apply zr;apply hZ5
   refine rg tok [4] fun K hK=>?_
   simp only[go_sem,qb,qa,vaB,foldO,vcb];apply hK
   cases h;exact rtA
 obtain⟨hz10,hw10,hx10,hE'10,hi'10⟩:=zV hE10 hi10 hb10;simp only[zX.l10] at h
 refine za fun Z12 hZ12=>?_
 refine rg tok [1,2,5,6,19] fun K hK=>?_
 simp only[go_sem,qb,qa,qd,hz10];apply hK
 refine zo rfl ?_;apply zd;apply hZ12
 refine za fun Z13 hZ13=>?_
 apply ze;refine rgN [1,2,5,6,7] ?_;apply ze
 refine xh 0 rfl fun hb18=>?_
 replace hb18:=XU hb18.2.2.2.1.2 hx10;rw[zS] at hb18;replace hb18:qc y10.fTrees≤9223372036854775807:=hb18.2.1.1;refine zp (fun m L τ=>∃ (p18 q18:List GTree) (x15:Int) (x14:Int),m=qc q18∧L=[(1,.int .i64 a1),(2,.op 0 0 0),(5,.int .i64 x14),(6,.int .i64 x7),(7,.int .i64 x15)]∧τ=[.cells 0 (cellsGTree a0)]∧y10.fTrees=p18++q18∧x15=(qc p18:Int)∧zX.l18 y7 a1 x7 (zX.l10 y7 a1 q10) q18 x15 x14=some r) _ ⟨[],y10.fTrees,0,x6,rfl,rfl,rfl,rfl,rfl,h⟩ .s ?_;rintro m L τ ⟨p18,q18,x15,x14,rfl,rfl,rfl,hE18,hi18,h⟩
 rcases q18 with _|⟨y18,q18⟩
 · have hz18:=yl hE18 hi18;simp only[zX.l18] at h
   refine za fun Z19 hZ19=>?_
   have f20:=E27.idxS hx10;have f21:=E27.fldS (f:=90) rfl rfl hx10 (o:=1) (by decide)
   refine rg tok [1,2,5,6,7,30] fun K hK=>?_
   simp only[go_sem,qb,qa,qd,cellsGEntry,zS,hz18,f20,f21];apply hK
   refine zn rfl ?_;apply zr;apply hZ13
   refine rgE tok [1,2,5,6] fun K hK=>?_
   simp only[go_sem,qb,qa,hw10];apply hK
   exact⟨_,_,_,qp q10.length,⟨p10++[y10],q10,x7+1,x14,rfl,rfl,rfl,hE'10,hi'10,h⟩,.s⟩
 obtain⟨hz18,hw18,hx18,hE'18,hi'18⟩:=zV hE18 hi18 hb18;simp only[zX.l18] at h
 refine za fun Z22 hZ22=>?_
 have f23:=E27.idxS hx10;have f24:=E27.fldS (f:=90) rfl rfl hx10 (o:=1) (by decide)
 refine rg tok [1,2,5,6,7,30] fun K hK=>?_
 simp only[go_sem,qb,qa,qd,cellsGEntry,zS,hz18,f23,f24];apply hK
 refine zo rfl ?_;apply zd;apply hZ22
 refine za fun Z25 hZ25=>?_
 apply ze
 refine rcE [1,2,5,6,7] fun K hK=>?_
 have f26:=E27.idxS hx10;have f27:=E27.fldS (f:=90) rfl rfl hx10 (o:=1) (by decide);have f28:=E90.idxS hx18;have f29:=E90.loadS rfl rfl hx18;obtain⟨r30,hr30,h⟩:=bind_some h;refine zi tok 10 ?_;simp only[go_sem,qb,qa,qd,cellsGEntry,cellsGTree,zS,yU,f26,f27,f28,f29];refine rnN 2 ?_;refine clN rfl rfl rfl (ev_ref09_depth y18 (IntKind.i64.wrap (a1+1)) r30 hr30 _) ?_;refine zi tok 2 ?_;simp only[go_sem,qb,qa,vaB,foldO,vcc];refine nkN hK ?_;apply hZ25
 refine rgE tok [1,2,5,6,7] fun K hK=>?_
 simp only[go_sem,qb,qa,hw18];apply hK
 exact⟨_,_,_,qp q18.length,⟨p18++[y18],q18,x15+1,(if x14<r30 then r30 else x14),rfl,rfl,rfl,hE'18,hi'18,h⟩,.s⟩
end
section
set_option maxRecDepth 4000
set_option maxHeartbeats 1000000
open AM
def zX : Nat→GTree→Int→Option Int
 |0,_,_=>none
 |k+1,a0,a1=>zX.body (zX k) a0 a1
theorem zX.all (k:Nat):(∀ (a0:GTree) (a1:Int) (r:Int),zX k a0 a1=some r→ACalls qh 123 [.agg (cellsGTree a0),.int .i64 a1] [] (fun r' _=>r'=.int .i64 r)):=by
 induction k with
 |zero=>exact (fun a0 a1 r h=>by simp only[zX] at h; cases h)
 |succ k ih=>exact (fun a0 a1 r h=>zX.step _ ih a0 a1 r (by simpa only [zX] using h))
theorem zX.ev (k:Nat)(a0:GTree)(a1:Int)(r:Int)(h:zX k a0 a1=some r)(σ:Store):ACalls qh 123 [.agg (cellsGTree a0),.int .i64 a1] σ (fun r' σ'=>r'=.int .i64 r∧σ'=σ):=
 ((zX.all k) a0 a1 r h).c σ
def wR (a0:GTree):Option Int:=
 (zX rounds a0 0).bind fun r1=>some r1
theorem wR.ok (a0:GTree)(r:Int)(h:wR a0=some r):ACalls qh 87 [.agg (cellsGTree a0)] [] (fun r' _=>r'=.int .i64 r):=by
 refine zf (rs:=[.tmp 2]) tok Tryz.func87 rfl Tryz.ntmps87 rfl Tryz.call87 (by simp) ?_;refine zk [(0,.agg (cellsGTree a0))] ⟨rfl,trivial⟩ ?_;unfold wR at h
 refine rg tok [1] fun K hK=>?_
 simp only[go_sem,qb,qa,qd,reduceCtorEq,cellsGTree];apply hK
 refine rc [2] fun K hK=>?_
 obtain⟨r1,hr1,h⟩:=bind_some h;refine rnN 1 ?_;refine clN rfl rfl rfl (zX.ev rounds a0 0 r1 hr1 _) ?_;refine rnN 1 ?_;refine nkN hK ?_;cases h;exact rtA
theorem wR.ev (a0:GTree)(r:Int)(h:wR a0=some r)(σ:Store):ACalls qh 87 [.agg (cellsGTree a0)] σ (fun r' σ'=>r'=.int .i64 r∧σ'=σ):=
 (wR.ok a0 r h).c σ
def wt (a0:GRaw):Bool:=
 (if ((decide (a0.fTag<1))||(decide (500<a0.fTag)))=true then false else (if a0.fWire=0 then decide (a0.fB=[]) else (((decide (a0.fWire=1))&&(decide (a0.fN=0)))&&(decide ((qc a0.fB:Int)≤4096)))))
theorem wt.ok (a0:GRaw)(r:Bool)(h:wt a0=r):ACalls qh 126 [.agg (encGRaw a0)] [] (fun r' _=>r'=.bool r):=by
 refine zf (rs:=[.tmp 2]) tok Tryz.func126 rfl Tryz.ntmps126 rfl Tryz.call126 (by simp) ?_;refine zk [(0,.agg (encGRaw a0))] ⟨rfl,trivial⟩ ?_;unfold wt at h
 refine rg tok [1] fun K hK=>?_
 simp only[go_sem,qb,qa,qd,reduceCtorEq,encGRaw];apply hK
 refine za fun Z1 hZ1=>?_
 refine rc [1,10] fun K hK=>?_
 refine rnN 4 ?_;refine zh 4 (fun L τ=>L=[(1,.op 0 0 0),(10,.bool ((decide (a0.fTag<1))||(decide (500<a0.fTag))))]∧τ=[.cells 0 [.int .i64 a0.fTag,.int .i64 a0.fWire,.int .i64 a0.fN,.str a0.fB]]) ?_ ?_
 · refine yw 6 rfl (fun hg6=>?_) (fun hg6=>?_)
   · have t2:=eq_true hg6;refine rnN 4 ?_;refine zb ⟨rfl,_,_,⟨rfl,rfl⟩,.p t2⟩
   have t3:=eq_false hg6;refine rnN 4 ?_;refine zb ⟨rfl,_,_,⟨rfl,rfl⟩,.p t3⟩
 rintro _ _ ⟨rfl,rfl⟩;refine nkN hK ?_;refine zm (b:=((decide (a0.fTag<1))||(decide (500<a0.fTag)))) rfl (fun hc4=>?_) (fun hc4=>?_)
 · rw[if_pos hc4] at h;refine rgN [2] ?_;cases h;exact rtA
 rw[xQ hc4] at h;apply zd;apply hZ1
 refine za fun Z5 hZ5=>?_
 refine rgN [1,13] ?_;refine zq rfl (fun hc6=>?_) (fun hc6=>?_)
 · rw[if_pos hc6] at h;have t7:=eq_true hc6
   refine rg tok [2] fun K hK=>?_
   simp only[go_sem,qb,qa,qd,t7];apply hK
   cases h;exact rtA
 rw[if_neg hc6] at h;have t8:=eq_false hc6;apply zd;apply hZ5
 refine rc [2] fun K hK=>?_
 refine zi tok 4 ?_;simp only[go_sem,qb,qa,qd,t8];refine zh 4 (fun L τ=>L=[(1,.op 0 0 0),(24,.bool ((decide (a0.fWire=1))&&(decide (a0.fN=0))))]∧τ=[.cells 0 [.int .i64 a0.fTag,.int .i64 a0.fWire,.int .i64 a0.fN,.str a0.fB]]) ?_ ?_
 · refine yw 20 rfl (fun hg20=>?_) (fun hg20=>?_)
   · have t9:=eq_true hg20;refine rnN 4 ?_;refine zb ⟨rfl,_,_,⟨rfl,rfl⟩,.p t9⟩
   have t10:=eq_false hg20;refine rnN 4 ?_;refine zb ⟨rfl,_,_,⟨rfl,rfl⟩,.p t10⟩
 rintro _ _ ⟨rfl,rfl⟩;refine rnN 1 ?_;refine zh 5 (fun L τ=>L=[(30,.bool (((decide (a0.fWire=1))&&(decide (a0.fN=0)))&&(decide ((qc a0.fB:Int)≤4096))))]∧τ=[.cells 0 [.int .i64 a0.fTag,.int .i64 a0.fWire,.int .i64 a0.fN,.str a0.fB]]) ?_ ?_
 · refine zH (b:=((decide (a0.fWire=1))&&(decide (a0.fN=0)))) 25 rfl (fun hg25=>?_) (fun hg25=>?_)
   · refine rnN 5 ?_;refine zb ⟨rfl,_,_,⟨rfl,rfl⟩,.b hg25⟩
   refine rnN 5 ?_;refine zb ⟨rfl,_,_,⟨rfl,rfl⟩,.b hg25⟩
 rintro _ _ ⟨rfl,rfl⟩;refine rnN 1 ?_;refine nkN hK ?_;cases h;exact rtA
theorem wt.ev (a0:GRaw)(r:Bool)(h:wt a0=r)(σ:Store):ACalls qh 126 [.agg (encGRaw a0)] σ (fun r' σ'=>r'=.bool r∧σ'=σ):=
 (wt.ok a0 r h).c σ
def wo.l4 (a1:Int):List GEntry→Int→Bool
 |[],x2=>false
 |y4::q4,x2=>(if y4.fTag=a1 then true else ((wo.l4 a1 q4) (x2+1)))
def wo (a0:GTree)(a1:Int):Bool:=
 (wo.l4 a1 a0.fEntries 0)
theorem wo.ok (a0:GTree)(a1:Int)(r:Bool)(h:wo a0 a1=r):ACalls qh 148 [.agg (cellsGTree a0),.int .i64 a1] [] (fun r' _=>r'=.bool r):=by
 refine zf (rs:=[.tmp 4]) tok Tryz.func148 rfl Tryz.ntmps148 rfl Tryz.call148 (by simp) ?_;refine zk [(0,.agg (cellsGTree a0)),(1,.int .i64 a1)] ⟨rfl,rfl,trivial⟩ ?_;unfold wo at h
 refine rg tok [1,2] fun K hK=>?_
 simp only[go_sem,qb,qa,qd,reduceCtorEq,cellsGTree];apply hK
 refine za fun Z1 hZ1=>?_
 refine rgN [1,2,5] ?_;apply ze
 refine xh 0 rfl fun hb4=>?_
 replace hb4:qc a0.fEntries≤9223372036854775807:=hb4.2.2.2.1.1;refine zp (fun m L τ=>∃ (p4 q4:List GEntry) (x2:Int),m=qc q4∧L=[(1,.int .i64 a1),(2,.op 0 0 0),(5,.int .i64 x2)]∧τ=[.cells 0 (cellsGTree a0)]∧a0.fEntries=p4++q4∧x2=(qc p4:Int)∧wo.l4 a1 q4 x2=r) _ ⟨[],a0.fEntries,0,rfl,rfl,rfl,rfl,rfl,h⟩ .s ?_;rintro m L τ ⟨p4,q4,x2,rfl,rfl,rfl,hE4,hi4,h⟩
 rcases q4 with _|⟨y4,q4⟩
 · have hz4:=yl hE4 hi4;simp only[wo.l4] at h
   refine za fun Z5 hZ5=>?_
   refine rg tok [1,2,5,10] fun K hK=>?_
   simp only[go_sem,qb,qa,qd,hz4];apply hK
   refine zn rfl ?_;apply zr;apply hZ1;refine rgN [4] ?_;cases h;exact rtA
 obtain⟨hz4,hw4,hx4,hE'4,hi'4⟩:=zV hE4 hi4 hb4;simp only[wo.l4] at h
 refine za fun Z6 hZ6=>?_
 refine rg tok [1,2,5,10] fun K hK=>?_
 simp only[go_sem,qb,qa,qd,hz4];apply hK
 refine zo rfl ?_;apply zd;apply hZ6
 refine za fun Z7 hZ7=>?_
 apply ze;have f8:=E27.idxS hx4;have f9:=E27.fldS0 (f:=3) rfl rfl hx4
 refine rg tok [1,2,5,20] fun K hK=>?_
 simp only[go_sem,qb,qa,qd,cellsGEntry,zS,f8,f9];apply hK
 refine zq rfl (fun hc10=>?_) (fun hc10=>?_)
 · rw[if_pos hc10] at h;have t11:=eq_true hc10
   refine rg tok [4] fun K hK=>?_
   simp only[go_sem,qb,qa,t11];apply hK
   cases h;exact rtA
 rw[if_neg hc10] at h;have t12:=eq_false hc10;apply zd;apply hZ7
 refine rgE tok [1,2,5] fun K hK=>?_
 simp only[go_sem,qb,qa,hw4,t12];apply hK
 exact⟨_,_,_,qp q4.length,⟨p4++[y4],q4,x2+1,rfl,rfl,rfl,hE'4,hi'4,h⟩,.s⟩
theorem wo.ev (a0:GTree)(a1:Int)(r:Bool)(h:wo a0 a1=r)(σ:Store):ACalls qh 148 [.agg (cellsGTree a0),.int .i64 a1] σ (fun r' σ'=>r'=.bool r∧σ'=σ):=
 (wo.ok a0 a1 r h).c σ
def xC.l4 (a0:List GRaw):Nat→Int→Option Bool
 |0,_=>none
 |k4+1,x2=>(if x2<(qc a0:Int) then (Zv a0 x2).bind fun y9=>(Zv a0 (IntKind.i64.wrap (x2-1))).bind fun y12=>(if y9.fTag<y12.fTag then some false else ((xC.l4 a0 k4) (IntKind.i64.wrap (x2+1)))) else some true)
def xC (a0:List GRaw):Option Bool:=
 (xC.l4 a0 rounds 1)
theorem xC.ok (a0:List GRaw)(r:Bool)(h:xC a0=some r):ACalls qh 149 [.ds true (qe encGRaw a0) (qc a0) false] [] (fun r' _=>r'=.bool r):=by
 refine zf (rs:=[.tmp 2]) tok Tryz.func149 rfl Tryz.ntmps149 rfl Tryz.call149 (by simp) ?_;refine zk [(0,.ds true (qe encGRaw a0) (qc a0) false)] ⟨rfl,trivial⟩ ?_;unfold xC at h;refine rgN [0] ?_
 refine za fun Z1 hZ1=>?_
 refine rgN [0,3] ?_;apply ze;refine zp (fun m L τ=>∃ (k4:Nat) (x2:Int),m=0+k4∧L=[(0,.ds true (qe encGRaw a0) (qc a0) false),(3,.int .i64 x2)]∧τ=[]∧xC.l4 a0 k4 x2=some r) _ ⟨rounds,1,rfl,rfl,rfl,h⟩ .s ?_;rintro m L τ ⟨k4,x2,rfl,rfl,rfl,h⟩
 rcases k4 with _|k4
 · cases h
 simp only[xC.l4] at h
 refine za fun Z5 hZ5=>?_
 refine rgN [0,3,7] ?_;refine zq rfl (fun hc6=>?_) (fun hc6=>?_)
 · rw[if_pos hc6] at h;have t7:=eq_true hc6;apply zd;apply hZ5
   refine za fun Z8 hZ8=>?_
   apply ze;obtain⟨y9,hy9,h⟩:=bind_some h;have f10:=E28.idxS hy9;have f11:=E28.fldS0 (f:=3) rfl rfl hy9;obtain⟨y12,hy12,h⟩:=bind_some h;have f13:=E28.idxS hy12;have f14:=E28.fldS0 (f:=3) rfl rfl hy12
   refine rd [0,3,21] fun K hK=>?_
   refine DW.start (T:=tab) [.any,.any,.any,.any,.at [],.any,.any,.any,.any,.any,.at [],.any] [] ?_;refine DW.runN tok 8 ?_;simp only[go_sem,qb,qa,reduceCtorEq,encGRaw,t7,f10,f11];refine DW.runN tok 4 ?_;simp only[go_sem,qb,qa,reduceCtorEq,encGRaw,f13,f14];refine DW.fin tok (by decide +kernel) rfl ?_;simp only[zj,upd,qa,reduceIte,yu,xe];apply hK
   refine zq rfl (fun hc15=>?_) (fun hc15=>?_)
   · rw[if_pos hc15] at h;have t16:=eq_true hc15
     refine rg tok [2] fun K hK=>?_
     simp only[go_sem,qb,qa,reduceCtorEq,t16];apply hK
     cases h;exact rtA
   rw[if_neg hc15] at h;have t17:=eq_false hc15;apply zd;apply hZ8
   refine rgE tok [0,3] fun K hK=>?_
   simp only[go_sem,qb,qa,reduceCtorEq,t17];apply hK
   exact⟨_,_,_,qp (0+k4),⟨k4,IntKind.i64.wrap (x2+1),rfl,rfl,rfl,h⟩,.s⟩
 rw[if_neg hc6] at h;have t18:=eq_false hc6;apply zr;apply hZ1
 refine rg tok [2] fun K hK=>?_
 simp only[go_sem,qb,qa,reduceCtorEq,t18];apply hK
 cases h;exact rtA
theorem xC.ev (a0:List GRaw)(r:Bool)(h:xC a0=some r)(σ:Store):ACalls qh 149 [.ds true (qe encGRaw a0) (qc a0) false] σ (fun r' σ'=>r'=.bool r∧σ'=σ):=
 (xC.ok a0 r h).c σ
def yV.j10 (x2:Int)(rec4:Int→Option Bool)(x9:Bool):Option Bool:=
 (if x9=true then some false else (rec4 (x2+1)))
def yV.l4 (a0:GTree):List GRaw→Int→Option Bool
 |[],x2=>(xC a0.fRest).bind fun r6=>some r6
 |y4::q4,x2=>bnd (wt y4) fun r14=>(if (!r14)=true then (yV.j10 x2 (yV.l4 a0 q4) true) else bnd (wo a0 y4.fTag) fun r17=>(yV.j10 x2 (yV.l4 a0 q4) r17))
def yV (a0:GTree):Option Bool:=
 (yV.l4 a0 a0.fRest 0)
theorem yV.ok (a0:GTree)(r:Bool)(h:yV a0=some r):ACalls qh 125 [.agg (cellsGTree a0)] [] (fun r' _=>r'=.bool r):=by
 refine zf (rs:=[.tmp 2]) tok Tryz.func125 rfl Tryz.ntmps125 rfl Tryz.call125 (by simp) ?_;refine zk [(0,.agg (cellsGTree a0))] ⟨rfl,trivial⟩ ?_;unfold yV at h
 refine rg tok [1] fun K hK=>?_
 simp only[go_sem,qb,qa,qd,reduceCtorEq,cellsGTree];apply hK
 refine za fun Z1 hZ1=>?_
 refine rgN [1,3] ?_;apply ze
 refine xh 0 rfl fun hb4=>?_
 replace hb4:qc a0.fRest≤9223372036854775807:=hb4.2.2.2.2.1.1;refine zp (fun m L τ=>∃ (p4 q4:List GRaw) (x2:Int),m=qc q4∧L=[(1,.op 0 0 0),(3,.int .i64 x2)]∧τ=[.cells 0 (cellsGTree a0)]∧a0.fRest=p4++q4∧x2=(qc p4:Int)∧yV.l4 a0 q4 x2=some r) _ ⟨[],a0.fRest,0,rfl,rfl,rfl,rfl,rfl,h⟩ .s ?_;rintro m L τ ⟨p4,q4,x2,rfl,rfl,rfl,hE4,hi4,h⟩
 rcases q4 with _|⟨y4,q4⟩
 · have hz4:=yl hE4 hi4;simp only[yV.l4] at h
   refine za fun Z5 hZ5=>?_
   refine rg tok [1,3,8] fun K hK=>?_
   simp only[go_sem,qb,qa,qd,hz4];apply hK
   refine zn rfl ?_;apply zr;apply hZ1
   refine rc [2] fun K hK=>?_
   obtain⟨r6,hr6,h⟩:=bind_some h;refine rnN 2 ?_;refine clN rfl rfl rfl (xC.ev a0.fRest r6 hr6 _) ?_;refine rnN 1 ?_;refine nkN hK ?_;cases h;exact rtA
 obtain⟨hz4,hw4,hx4,hE'4,hi'4⟩:=zV hE4 hi4 hb4;simp only[yV.l4] at h
 refine za fun Z7 hZ7=>?_
 refine rg tok [1,3,8] fun K hK=>?_
 simp only[go_sem,qb,qa,qd,hz4];apply hK
 refine zo rfl ?_;apply zd;apply hZ7
 refine za fun Z8 hZ8=>?_
 apply ze;refine xG (fun L τ=>∃ (x9:Bool),L=[(1,.op 0 0 0),(3,.int .i64 x2),(27,.bool x9)]∧τ=[.cells 0 (cellsGTree a0)]∧yV.j10 x2 (yV.l4 a0 q4) x9=some r) ?_ ?_
 · refine rdE [1,3,27] fun K hK=>?_
   refine DW.start (T:=tab) [.any,.at [],.any,.any,.at [],.eff,.any,.any,.at [],.any,.at [],.any,.any,.any,.at [],.eff,.any] [] ?_;have f12:=E28.idxS hx4;have f13:=E28.loadS rfl rfl hx4;obtain⟨r14,hr14,h⟩:=zQ h;refine DW.runN tok 5 ?_;simp only[go_sem,qb,qa,qd,encGRaw,f12,f13];refine DW.call rfl rfl rfl (wt.ev y4 r14 hr14 _) ?_;refine DW.runN tok 2 ?_;simp only[go_sem,qb,qa];refine DW.at (b:=(!r14)) 18 rfl (fun hg18=>?_) (fun hg18=>?_)
   · rw[if_pos hg18] at h;refine DW.runN tok 8 ?_;simp only[go_sem,qb,qa];refine DW.runN tok 1 ?_;simp only[go_sem,qb,qa];refine DW.fin tok (by decide +kernel) rfl ?_;simp only[zj,upd,qa,reduceIte,yu,xe];apply hK
     exact⟨_,_,⟨true,rfl,rfl,h⟩,.s⟩
   rw[xQ hg18] at h;have f15:=E28.idxS hx4;have f16:=E28.fldS0 (f:=3) rfl rfl hx4;obtain⟨r17,hr17,h⟩:=zQ h;refine DW.runN tok 7 ?_;simp only[go_sem,qb,qf,qa,qd,encGRaw,f15,f16];refine DW.call rfl rfl rfl (wo.ev a0 y4.fTag r17 hr17 _) ?_;refine DW.runN tok 1 ?_;simp only[go_sem,qb,qa];refine DW.fin tok (by decide +kernel) rfl ?_;simp only[zj,upd,qa,reduceIte,yu,xe];apply hK
   exact⟨_,_,⟨r17,rfl,rfl,h⟩,.s⟩
 rintro _ _ ⟨x9,rfl,rfl,h⟩;unfold yV.j10 at h;refine zm (b:=x9) rfl (fun hc11=>?_) (fun hc11=>?_)
 · rw[if_pos hc11] at h;refine rgN [2] ?_;cases h;exact rtA
 rw[xQ hc11] at h;apply zd;apply hZ8
 refine rgE tok [1,3] fun K hK=>?_
 simp only[go_sem,qb,qa,hw4];apply hK
 exact⟨_,_,_,qp q4.length,⟨p4++[y4],q4,x2+1,rfl,rfl,rfl,hE'4,hi'4,h⟩,.s⟩
theorem yV.ev (a0:GTree)(r:Bool)(h:yV a0=some r)(σ:Store):ACalls qh 125 [.agg (cellsGTree a0)] σ (fun r' σ'=>r'=.bool r∧σ'=σ):=
 (yV.ok a0 r h).c σ
def yY.body (yh:GTree→Option Bool)(xP:(List GEntry)→Option Bool)(a0:GTree):Option Bool:=
 (if a0.fKind=1 then some (((decide (a0.fS=[]))&&(decide ((qc a0.fEntries:Int)=0)))&&(decide ((qc a0.fRest:Int)=0))) else (if a0.fKind=2 then some (((decide (a0.fN=0))&&(decide ((qc a0.fEntries:Int)=0)))&&(decide ((qc a0.fRest:Int)=0))) else (if a0.fKind=3 then (if ((decide (a0.fN=0))&&(decide (a0.fS=[])))=true then (xP a0.fEntries).bind fun r16=>some r16 else some false).bind fun c16=>(if c16=true then (yV a0).bind fun r18=>some r18 else some false).bind fun c18=>some c18 else some false)))
theorem yY.step (yh:GTree→Option Bool)(xP:(List GEntry)→Option Bool)(YM:∀ (a0:GTree) (r:Bool),yh a0=some r→ACalls qh 88 [.agg (cellsGTree a0)] [] (fun r' _=>r'=.bool r))(Yi:∀ (a0:List GEntry) (r:Bool),xP a0=some r→ACalls qh 124 [.ds true (qe encGEntry a0) (qc a0) false] [] (fun r' _=>r'=.bool r))(a0:GTree)(r:Bool)(h:yY.body yh xP a0=some r):ACalls qh 88 [.agg (cellsGTree a0)] [] (fun r' _=>r'=.bool r):=by
 have ev_ref09_check:=fun a0 r h σ=>(YM a0 r h).c σ
 have ev_ref09_entries:=fun a0 r h σ=>(Yi a0 r h).c σ
 refine zf (rs:=[.tmp 2]) tok Tryz.func88 rfl Tryz.ntmps88 rfl Tryz.call88 (by simp) ?_;refine zk [(0,.agg (cellsGTree a0))] ⟨rfl,trivial⟩ ?_;unfold yY.body at h
 refine rg tok [1] fun K hK=>?_
 simp only[go_sem,qb,qa,qd,reduceCtorEq,cellsGTree];apply hK
 refine za fun Z1 hZ1=>?_
 refine rgN [1,4] ?_;apply ze;refine rgN [1,4,5] ?_;refine zq rfl (fun hc2=>?_) (fun hc2=>?_)
 · rw[if_pos hc2] at h;have t3:=eq_true hc2
   refine rc [2] fun K hK=>?_
   refine zi tok 4 ?_;simp only[go_sem,qb,qa,qd,t3];refine zh 5 (fun L τ=>L=[(1,.op 0 0 0),(15,.bool ((decide (a0.fS=[]))&&(decide ((qc a0.fEntries:Int)=0))))]∧τ=[.cells 0 (cellsGTree a0)]) ?_ ?_
   · refine yw 10 rfl (fun hg10=>?_) (fun hg10=>?_)
     · have t4:=eq_true hg10;refine rnN 5 ?_;refine zb ⟨rfl,_,_,⟨rfl,rfl⟩,.p t4⟩
     have t5:=eq_false hg10;refine rnN 5 ?_;refine zb ⟨rfl,_,_,⟨rfl,rfl⟩,.p t5⟩
   rintro _ _ ⟨rfl,rfl⟩;refine rnN 1 ?_;refine zh 5 (fun L τ=>L=[(21,.bool (((decide (a0.fS=[]))&&(decide ((qc a0.fEntries:Int)=0)))&&(decide ((qc a0.fRest:Int)=0))))]∧τ=[.cells 0 (cellsGTree a0)]) ?_ ?_
   · refine zH (b:=((decide (a0.fS=[]))&&(decide ((qc a0.fEntries:Int)=0)))) 16 rfl (fun hg16=>?_) (fun hg16=>?_)
     · refine rnN 5 ?_;refine zb ⟨rfl,_,_,⟨rfl,rfl⟩,.b hg16⟩
     refine rnN 5 ?_;refine zb ⟨rfl,_,_,⟨rfl,rfl⟩,.b hg16⟩
   rintro _ _ ⟨rfl,rfl⟩;refine rnN 1 ?_;refine nkN hK ?_;cases h;exact rtA
 rw[if_neg hc2] at h;have t6:=eq_false hc2
 refine rg tok [1,4,22] fun K hK=>?_
 simp only[go_sem,qb,qa,t6];apply hK
 refine zq rfl (fun hc7=>?_) (fun hc7=>?_)
 · rw[if_pos hc7] at h;have t8:=eq_true hc7
   refine rc [2] fun K hK=>?_
   refine zi tok 4 ?_;simp only[go_sem,qb,qa,qd,t8];refine zh 5 (fun L τ=>L=[(1,.op 0 0 0),(32,.bool ((decide (a0.fN=0))&&(decide ((qc a0.fEntries:Int)=0))))]∧τ=[.cells 0 (cellsGTree a0)]) ?_ ?_
   · refine yw 27 rfl (fun hg27=>?_) (fun hg27=>?_)
     · have t9:=eq_true hg27;refine rnN 5 ?_;refine zb ⟨rfl,_,_,⟨rfl,rfl⟩,.p t9⟩
     have t10:=eq_false hg27;refine rnN 5 ?_;refine zb ⟨rfl,_,_,⟨rfl,rfl⟩,.p t10⟩
   rintro _ _ ⟨rfl,rfl⟩;refine rnN 1 ?_;refine zh 5 (fun L τ=>L=[(38,.bool (((decide (a0.fN=0))&&(decide ((qc a0.fEntries:Int)=0)))&&(decide ((qc a0.fRest:Int)=0))))]∧τ=[.cells 0 (cellsGTree a0)]) ?_ ?_
   · refine zH (b:=((decide (a0.fN=0))&&(decide ((qc a0.fEntries:Int)=0)))) 33 rfl (fun hg33=>?_) (fun hg33=>?_)
     · refine rnN 5 ?_;refine zb ⟨rfl,_,_,⟨rfl,rfl⟩,.b hg33⟩
     refine rnN 5 ?_;refine zb ⟨rfl,_,_,⟨rfl,rfl⟩,.b hg33⟩
   rintro _ _ ⟨rfl,rfl⟩;refine rnN 1 ?_;refine nkN hK ?_;cases h;exact rtA
 rw[if_neg hc7] at h;have t11:=eq_false hc7
 refine rg tok [1,39] fun K hK=>?_
 simp only[go_sem,qb,qa,t11];apply hK
 refine zq rfl (fun hc12=>?_) (fun hc12=>?_)
 · rw[if_pos hc12] at h;have t13:=eq_true hc12
   refine rc [2] fun K hK=>?_
   refine zi tok 4 ?_;simp only[go_sem,qb,qa,qd,t13];refine zh 4 (fun L τ=>L=[(1,.op 0 0 0),(48,.bool ((decide (a0.fN=0))&&(decide (a0.fS=[]))))]∧τ=[.cells 0 (cellsGTree a0)]) ?_ ?_
   · refine yw 44 rfl (fun hg44=>?_) (fun hg44=>?_)
     · have t14:=eq_true hg44;refine rnN 4 ?_;refine zb ⟨rfl,_,_,⟨rfl,rfl⟩,.p t14⟩
     have t15:=eq_false hg44;refine rnN 4 ?_;refine zb ⟨rfl,_,_,⟨rfl,rfl⟩,.p t15⟩
   rintro _ _ ⟨rfl,rfl⟩;refine rnN 1 ?_;obtain⟨c16,hc16,h⟩:=bind_some h;refine zh 4 (fun L τ=>L=[(1,.op 0 0 0),(53,.bool c16)]∧τ=[.cells 0 (cellsGTree a0)]) ?_ ?_
   · refine zH (b:=((decide (a0.fN=0))&&(decide (a0.fS=[])))) 49 rfl (fun hg49=>?_) (fun hg49=>?_)
     · rw[if_pos hg49] at hc16;obtain⟨r17,hr17,hc16⟩:=bind_some hc16;refine rnN 2 ?_;refine clN rfl rfl rfl (ev_ref09_entries a0.fEntries r17 hr17 _) ?_;refine rnN 1 ?_;cases hc16;refine zb ⟨rfl,_,_,⟨rfl,rfl⟩,.b hg49⟩
     rw[xQ hg49] at hc16;refine rnN 4 ?_;cases hc16;refine zb ⟨rfl,_,_,⟨rfl,rfl⟩,.b hg49⟩
   rintro _ _ ⟨rfl,rfl⟩;refine rnN 1 ?_;obtain⟨c18,hc18,h⟩:=bind_some h;refine zh 3 (fun L τ=>L=[(57,.bool c18)]∧τ=[.cells 0 (cellsGTree a0)]) ?_ ?_
   · refine zH (b:=c16) 54 rfl (fun hg54=>?_) (fun hg54=>?_)
     · rw[if_pos hg54] at hc18;obtain⟨r19,hr19,hc18⟩:=bind_some hc18;refine rnN 1 ?_;refine clN rfl rfl rfl (yV.ev a0 r19 hr19 _) ?_;refine rnN 1 ?_;cases hc18;refine zb ⟨rfl,_,_,⟨rfl,rfl⟩,.b hg54⟩
     rw[xQ hg54] at hc18;refine rnN 3 ?_;cases hc18;refine zb ⟨rfl,_,_,⟨rfl,rfl⟩,.b hg54⟩
   rintro _ _ ⟨rfl,rfl⟩;refine rnN 1 ?_;refine nkN hK ?_;cases h;exact rtA
 rw[if_neg hc12] at h;have t20:=eq_false hc12;apply zd;apply hZ1
 refine rg tok [2] fun K hK=>?_
 simp only[go_sem,qb,qa,t20];apply hK
 cases h;exact rtA
def zA.j23 (x16:Int)(rec18:Int→Option Bool)(x22:Bool):Option Bool:=
 (if x22=true then some false else (rec18 (x16+1)))
def zA.l18 (yh:GTree→Option Bool)(x3:Int)(rec6:Int→Int→Option Bool)(y6:GEntry):List GTree→Int→Option Bool
 |[],x16=>(rec6 (x3+1) y6.fTag)
 |y18::q18,x16=>(Zv y6.fTrees 0).bind fun y27=>(if y18.fKind=y27.fKind then (yh y18).bind fun r34=>(zA.j23 x16 (zA.l18 yh x3 rec6 y6 q18) (!r34)) else (zA.j23 x16 (zA.l18 yh x3 rec6 y6 q18) true))
def zA.l6 (yh:GTree→Option Bool):List GEntry→Int→Int→Option Bool
 |[],x3,x2=>some true
 |y6::q6,x3,x2=>(if ((((decide (y6.fTag≤x2))||(decide (500<y6.fTag)))||(decide ((qc y6.fTrees:Int)<1)))||(decide (64<(qc y6.fTrees:Int))))=true then some false else (zA.l18 yh x3 (zA.l6 yh q6) y6 y6.fTrees 0))
def zA.body (yh:GTree→Option Bool)(xP:(List GEntry)→Option Bool)(a0:List GEntry):Option Bool:=
 (zA.l6 yh a0 0 0)
theorem zA.step (yh:GTree→Option Bool)(xP:(List GEntry)→Option Bool)(YM:∀ (a0:GTree) (r:Bool),yh a0=some r→ACalls qh 88 [.agg (cellsGTree a0)] [] (fun r' _=>r'=.bool r))(Yi:∀ (a0:List GEntry) (r:Bool),xP a0=some r→ACalls qh 124 [.ds true (qe encGEntry a0) (qc a0) false] [] (fun r' _=>r'=.bool r))(a0:List GEntry)(r:Bool)(h:zA.body yh xP a0=some r):ACalls qh 124 [.ds true (qe encGEntry a0) (qc a0) false] [] (fun r' _=>r'=.bool r):=by
 have ev_ref09_check:=fun a0 r h σ=>(YM a0 r h).c σ
 have ev_ref09_entries:=fun a0 r h σ=>(Yi a0 r h).c σ
 refine zf (rs:=[.tmp 2]) tok Tryz.func124 rfl Tryz.ntmps124 rfl Tryz.call124 (by simp) ?_;refine zk [(0,.ds true (qe encGEntry a0) (qc a0) false)] ⟨rfl,trivial⟩ ?_;unfold zA.body at h;refine rgN [0] ?_;refine rgN [0,3] ?_
 refine za fun Z1 hZ1=>?_
 refine rgN [0,3,4] ?_;apply ze
 refine yP 0 fun hb6=>?_
 replace hb6:qc a0≤9223372036854775807:=hb6.1;refine zp (fun m L τ=>∃ (p6 q6:List GEntry) (x3:Int) (x2:Int),m=qc q6∧L=[(0,.ds true (qe encGEntry a0) (qc a0) false),(3,.int .i64 x2),(4,.int .i64 x3)]∧τ=[]∧a0=p6++q6∧x3=(qc p6:Int)∧zA.l6 yh q6 x3 x2=some r) _ ⟨[],a0,0,0,rfl,rfl,rfl,rfl,rfl,h⟩ .s ?_;rintro m L τ ⟨p6,q6,x3,x2,rfl,rfl,rfl,hE6,hi6,h⟩
 rcases q6 with _|⟨y6,q6⟩
 · have hz6:=yl hE6 hi6;simp only[zA.l6] at h
   refine za fun Z7 hZ7=>?_
   refine rg tok [0,3,4,10] fun K hK=>?_
   simp only[go_sem,qb,qa,reduceCtorEq,hz6];apply hK
   refine zn rfl ?_;apply zr;apply hZ1;refine rgN [2] ?_;cases h;exact rtA
 obtain⟨hz6,hw6,hx6,hE'6,hi'6⟩:=zV hE6 hi6 hb6;simp only[zA.l6] at h
 refine za fun Z8 hZ8=>?_
 refine rg tok [0,3,4,10] fun K hK=>?_
 simp only[go_sem,qb,qa,reduceCtorEq,hz6];apply hK
 refine zo rfl ?_;apply zd;apply hZ8
 refine za fun Z9 hZ9=>?_
 apply ze;have f10:=E27.idxS hx6;have f11:=E27.loadS rfl rfl hx6
 refine rg tok [0,3,4,5] fun K hK=>?_
 simp only[go_sem,qb,qf,qa,qd,reduceCtorEq,cellsGEntry,zS,f10,f11];apply hK
 refine za fun Z12 hZ12=>?_
 refine rc [0,4,5,37] fun K hK=>?_
 refine rnN 5 ?_;refine zh 4 (fun L τ=>L=[(0,.ds true (qe encGEntry a0) (qc a0) false),(4,.int .i64 x3),(5,.op 0 0 0),(25,.bool ((decide (y6.fTag≤x2))||(decide (500<y6.fTag))))]∧τ=[.cells 0 (cellsGEntry y6)]) ?_ ?_
 · refine yw 21 rfl (fun hg21=>?_) (fun hg21=>?_)
   · have t13:=eq_true hg21;refine rnN 4 ?_;refine zb ⟨rfl,_,_,⟨rfl,rfl⟩,.p t13⟩
   have t14:=eq_false hg21;refine rnN 4 ?_;refine zb ⟨rfl,_,_,⟨rfl,rfl⟩,.p t14⟩
 rintro _ _ ⟨rfl,rfl⟩;refine rnN 1 ?_;refine zh 5 (fun L τ=>L=[(0,.ds true (qe encGEntry a0) (qc a0) false),(4,.int .i64 x3),(5,.op 0 0 0),(31,.bool (((decide (y6.fTag≤x2))||(decide (500<y6.fTag)))||(decide ((qc y6.fTrees:Int)<1))))]∧τ=[.cells 0 (cellsGEntry y6)]) ?_ ?_
 · refine zH (b:=((decide (y6.fTag≤x2))||(decide (500<y6.fTag)))) 26 rfl (fun hg26=>?_) (fun hg26=>?_)
   · refine rnN 5 ?_;refine zb ⟨rfl,_,_,⟨rfl,rfl⟩,.b hg26⟩
   refine rnN 5 ?_;refine zb ⟨rfl,_,_,⟨rfl,rfl⟩,.b hg26⟩
 rintro _ _ ⟨rfl,rfl⟩;refine rnN 1 ?_;refine zh 5 (fun L τ=>L=[(0,.ds true (qe encGEntry a0) (qc a0) false),(4,.int .i64 x3),(5,.op 0 0 0),(37,.bool ((((decide (y6.fTag≤x2))||(decide (500<y6.fTag)))||(decide ((qc y6.fTrees:Int)<1)))||(decide (64<(qc y6.fTrees:Int)))))]∧τ=[.cells 0 (cellsGEntry y6)]) ?_ ?_
 · refine zH (b:=(((decide (y6.fTag≤x2))||(decide (500<y6.fTag)))||(decide ((qc y6.fTrees:Int)<1)))) 32 rfl (fun hg32=>?_) (fun hg32=>?_)
   · refine rnN 5 ?_;refine zb ⟨rfl,_,_,⟨rfl,rfl⟩,.b hg32⟩
   refine rnN 5 ?_;refine zb ⟨rfl,_,_,⟨rfl,rfl⟩,.b hg32⟩
 rintro _ _ ⟨rfl,rfl⟩;refine nkN hK ?_;refine zm (b:=((((decide (y6.fTag≤x2))||(decide (500<y6.fTag)))||(decide ((qc y6.fTrees:Int)<1)))||(decide (64<(qc y6.fTrees:Int))))) rfl (fun hc15=>?_) (fun hc15=>?_)
 · rw[if_pos hc15] at h;refine rgN [2] ?_;cases h;exact rtA
 rw[xQ hc15] at h;apply zd;apply hZ12;refine rgN [0,3,4,5] ?_;refine rgN [0,3,4,5,6] ?_;apply ze
 refine xh 0 rfl fun hb18=>?_
 replace hb18:qc y6.fTrees≤9223372036854775807:=hb18.2.1.1;refine zp (fun m L τ=>∃ (p18 q18:List GTree) (x16:Int),m=qc q18∧L=[(0,.ds true (qe encGEntry a0) (qc a0) false),(3,.int .i64 y6.fTag),(4,.int .i64 x3),(5,.op 0 0 0),(6,.int .i64 x16)]∧τ=[.cells 0 (cellsGEntry y6)]∧y6.fTrees=p18++q18∧x16=(qc p18:Int)∧zA.l18 yh x3 (zA.l6 yh q6) y6 q18 x16=some r) _ ⟨[],y6.fTrees,0,rfl,rfl,rfl,rfl,rfl,h⟩ .s ?_;rintro m L τ ⟨p18,q18,x16,rfl,rfl,rfl,hE18,hi18,h⟩
 rcases q18 with _|⟨y18,q18⟩
 · have hz18:=yl hE18 hi18;simp only[zA.l18] at h
   refine za fun Z19 hZ19=>?_
   refine rg tok [0,3,4,5,6,44] fun K hK=>?_
   simp only[go_sem,qb,qa,qd,reduceCtorEq,hz18];apply hK
   refine zn rfl ?_;apply zr;apply hZ9
   refine rgE tok [0,3,4] fun K hK=>?_
   simp only[go_sem,qb,qa,reduceCtorEq,hw6];apply hK
   exact⟨_,_,_,qp q6.length,⟨p6++[y6],q6,x3+1,y6.fTag,rfl,rfl,rfl,hE'6,hi'6,h⟩,(.t [] false)⟩
 obtain⟨hz18,hw18,hx18,hE'18,hi'18⟩:=zV hE18 hi18 hb18;simp only[zA.l18] at h
 refine za fun Z20 hZ20=>?_
 refine rg tok [0,3,4,5,6,44] fun K hK=>?_
 simp only[go_sem,qb,qa,qd,reduceCtorEq,hz18];apply hK
 refine zo rfl ?_;apply zd;apply hZ20
 refine za fun Z21 hZ21=>?_
 apply ze;refine xG (fun L τ=>∃ (x22:Bool),L=[(0,.ds true (qe encGEntry a0) (qc a0) false),(3,.int .i64 y6.fTag),(4,.int .i64 x3),(5,.op 0 0 0),(6,.int .i64 x16),(67,.bool x22)]∧τ=[.cells 0 (cellsGEntry y6)]∧zA.j23 x16 (zA.l18 yh x3 (zA.l6 yh q6) y6 q18) x22=some r) ?_ ?_
 · refine rdE [0,3,4,5,6,67] fun K hK=>?_
   refine DW.start (T:=tab) [.any,.at [],.any,.any,.any,.at [],.any,.at [],.any,.any,.at [],.any,.any,.any,.at [],.any,.any,.at [],.eff,.any,.any] [] ?_;have f25:=E90.idxS hx18;have f26:=E90.fldS0 (f:=3) rfl rfl hx18;obtain⟨y27,hy27,h⟩:=bind_some h;have f28:=E90.idxS hy27;have f29:=E90.fldS0 (f:=3) rfl rfl hy27;refine DW.runN tok 8 ?_;simp only[go_sem,qb,qa,qd,reduceCtorEq,cellsGTree,yU,f25,f26];refine DW.runN tok 5 ?_;simp only[go_sem,qb,qa,reduceCtorEq,cellsGTree,yU,f28,f29]
   refine DW.if 59 rfl (fun hg59=>?_) (fun hg59=>?_)
   · rw[if_neg hg59] at h;have t30:=eq_false hg59;refine DW.runN tok 8 ?_;simp only[go_sem,qb,qa,reduceCtorEq,t30];refine DW.fin tok (by decide +kernel) rfl ?_;simp only[zj,upd,qa,reduceIte,yu,xe];apply hK
     exact⟨_,_,⟨true,rfl,rfl,h⟩,.s⟩
   rw[if_pos hg59] at h;have t31:=eq_true hg59;have f32:=E90.idxS hx18;have f33:=E90.loadS rfl rfl hx18;obtain⟨r34,hr34,h⟩:=bind_some h;refine DW.runN tok 5 ?_;simp only[go_sem,qb,qa,qd,reduceCtorEq,cellsGTree,yU,t31,f32,f33];refine DW.call rfl rfl rfl (ev_ref09_check y18 r34 hr34 _) ?_;refine DW.runN tok 2 ?_;simp only[go_sem,qb,qa,reduceCtorEq];refine DW.fin tok (by decide +kernel) rfl ?_;simp only[zj,upd,qa,reduceIte,yu,xe];apply hK
   exact⟨_,_,⟨!r34,rfl,rfl,h⟩,.s⟩
 rintro _ _ ⟨x22,rfl,rfl,h⟩;unfold zA.j23 at h;refine zm (b:=x22) rfl (fun hc24=>?_) (fun hc24=>?_)
 · rw[if_pos hc24] at h;refine rgN [2] ?_;cases h;exact rtA
 rw[xQ hc24] at h;apply zd;apply hZ21
 refine rgE tok [0,3,4,5,6] fun K hK=>?_
 simp only[go_sem,qb,qa,reduceCtorEq,hw18];apply hK
 exact⟨_,_,_,qp q18.length,⟨p18++[y18],q18,x16+1,rfl,rfl,rfl,hE'18,hi'18,h⟩,.s⟩
mutual
def yY : Nat→GTree→Option Bool
 |0,_=>none
 |k+1,a0=>yY.body (yY k) (zA k) a0
def zA : Nat→(List GEntry)→Option Bool
 |0,_=>none
 |k+1,a0=>zA.body (yY k) (zA k) a0
end
theorem yY.all (k:Nat):(∀ (a0:GTree) (r:Bool),yY k a0=some r→ACalls qh 88 [.agg (cellsGTree a0)] [] (fun r' _=>r'=.bool r))∧(∀ (a0:List GEntry) (r:Bool),zA k a0=some r→ACalls qh 124 [.ds true (qe encGEntry a0) (qc a0) false] [] (fun r' _=>r'=.bool r)):=by
 induction k with
 |zero=>exact⟨(fun a0 r h=>by simp only[yY] at h; cases h),(fun a0 r h=>by simp only[zA] at h; cases h)⟩
 |succ k ih=>exact⟨(fun a0 r h=>yY.step _ _ ih.1 ih.2 a0 r (by simpa only [yY] using h)),(fun a0 r h=>zA.step _ _ ih.1 ih.2 a0 r (by simpa only [zA] using h))⟩
theorem yY.ev (k:Nat)(a0:GTree)(r:Bool)(h:yY k a0=some r)(σ:Store):ACalls qh 88 [.agg (cellsGTree a0)] σ (fun r' σ'=>r'=.bool r∧σ'=σ):=
 ((yY.all k).1 a0 r h).c σ
def wS (a0:GTree):Option Bool:=
 (wR a0).bind fun r1=>(if r1≤10 then (yY rounds a0).bind fun r2=>some r2 else some false).bind fun c2=>some c2
theorem wS.ok (a0:GTree)(r:Bool)(h:wS a0=some r):ACalls qh 49 [.agg (cellsGTree a0)] [] (fun r' _=>r'=.bool r):=by
 refine zf (rs:=[.tmp 2]) tok Tryz.func49 rfl Tryz.ntmps49 rfl Tryz.call49 (by simp) ?_;refine zk [(0,.agg (cellsGTree a0))] ⟨rfl,trivial⟩ ?_;unfold wS at h
 refine rg tok [1] fun K hK=>?_
 simp only[go_sem,qb,qa,qd,reduceCtorEq,cellsGTree];apply hK
 refine rc [2] fun K hK=>?_
 obtain⟨r1,hr1,h⟩:=bind_some h;refine rnN 1 ?_;refine clN rfl rfl rfl (wR.ev a0 r1 hr1 _) ?_;refine rnN 2 ?_;obtain⟨c2,hc2,h⟩:=bind_some h;refine zh 3 (fun L τ=>L=[(9,.bool c2)]∧τ=[.cells 0 (cellsGTree a0)]) ?_ ?_
 · refine yw 6 rfl (fun hg6=>?_) (fun hg6=>?_)
   · have t3:=eq_true hg6;rw[if_pos hg6] at hc2;obtain⟨r4,hr4,hc2⟩:=bind_some hc2;refine rnN 1 ?_;refine clN rfl rfl rfl (yY.ev rounds a0 r4 hr4 _) ?_;refine rnN 1 ?_;cases hc2;refine zb ⟨rfl,_,_,⟨rfl,rfl⟩,.p t3⟩
   have t5:=eq_false hg6;rw[if_neg hg6] at hc2;refine rnN 3 ?_;cases hc2;refine zb ⟨rfl,_,_,⟨rfl,rfl⟩,.p t5⟩
 rintro _ _ ⟨rfl,rfl⟩;refine rnN 1 ?_;refine nkN hK ?_;cases h;exact rtA
theorem wS.ev (a0:GTree)(r:Bool)(h:wS a0=some r)(σ:Store):ACalls qh 49 [.agg (cellsGTree a0)] σ (fun r' σ'=>r'=.bool r∧σ'=σ):=
 (wS.ok a0 r h).c σ
def xg.l8 : Nat→List UInt8→Int→Option (List UInt8)
 |0,_,_=>none
 |k8+1,l2,x4=>(if 128≤x4 then (Yg (qc l2+1) 1).bind fun _u13=>((xg.l8 k8) (l2++[ua (qF (IntKind.u8.wrap ((IntKind.u8.wrap ((x4).tmod 128))+128)))]) (IntKind.u64.wrap ((x4).tdiv 128))) else (Yg (qc l2+1) 1).bind fun _u17=>some (l2++[ua (qF (IntKind.u8.wrap x4))]))
def xg (a0:Int):Option (List UInt8):=
 (xg.l8 rounds ([]:List UInt8) a0)
theorem xg.own (a0:Int)(r:List UInt8)(h:xg a0=some r):ACalls qh 150 [.int .u64 a0] [] (fun r' σ'=>r'=.os true 1 0 0 0 (qc r) false∧σ'=[.cells 0 (qe encB r)]):=by
 refine ACalls.own0 (by simp only[push_cast]) ?_;refine ZM (rs:=[.tmp 2]) tok Tryz.func150 rfl Tryz.ntmps150 rfl Tryz.call150 (by simp) ?_;refine zk [(0,.int .u64 a0)] ⟨rfl,trivial⟩ ?_;unfold xg at h;refine rgN [0] ?_;refine rgN [0,3] ?_;refine wN 3 1 rfl ?_;refine zU (L:=[(0,.int .u64 a0),(3,.os true 1 0 0 0 (qc ([]:List UInt8)) false)]) (τ:=[.cells 0 (qe encB ([]:List UInt8))]) .s ?_
 refine za fun Z1 hZ1=>?_
 apply ze;refine zp (fun m L τ=>∃ (k8:Nat) (l2:List UInt8) (x4:Int) (v3:Nat),m=0+k8∧L=[(0,.int .u64 x4),(3,.os true 1 0 v3 0 (qc l2) false)]∧τ=[.cells v3 (qe encB l2)]∧xg.l8 k8 l2 x4=some r) _ ⟨rounds,([]:List UInt8),a0,0,rfl,rfl,rfl,h⟩ .s ?_;rintro m L τ ⟨k8,l2,x4,v3,rfl,rfl,rfl,h⟩
 rcases k8 with _|k8
 · cases h
 simp only[xg.l8] at h
 refine za fun Z9 hZ9=>?_
 refine rgN [0,3,5] ?_;refine zq rfl (fun hc10=>?_) (fun hc10=>?_)
 · rw[if_pos hc10] at h;have t11:=eq_true hc10;apply zd;apply hZ9;apply ze;have f12:=yW (T:=tab) (src:=140) (dst:=5) rfl rfl rfl;obtain⟨_u13,hu13,h⟩:=bind_some h;have gu13:=yf hu13;have f14:=(zt E34.len l2)
   refine rg tok [0,3] fun K hK=>?_
   simp only[go_sem,qb,qf,qa,qt,reduceCtorEq,zC,z7,q3,qT,true_and,ub,z6,zJ,ym,t11,f12,gu13,f14,uW,yJ,uc,qY,AV.one,qR,qx,qj,ql,qq,qH];apply hK
   refine zU (L:=[(0,.int .u64 x4),(3,.os true 1 0 (v3+1) 0 (qc (l2++[ua (qF (IntKind.u8.wrap ((IntKind.u8.wrap ((x4).tmod 128))+128)))])) false)]) (τ:=[.cells (v3+1) (qe encB (l2++[ua (qF (IntKind.u8.wrap ((IntKind.u8.wrap ((x4).tmod 128))+128)))])),.cells 0 [.int .u8 (IntKind.u8.wrap ((IntKind.u8.wrap ((x4).tmod 128))+128))]]) (.same (by first|exact⟨rfl,rfl,trivial⟩|rfl|(simp only[go_sem,reduceCtorEq,Fits,qi,qj,ql,qq,and_self]<;>rfl)) (by first|exact⟨rfl,rfl,trivial⟩|rfl|(simp only[go_sem,encB,qS,qO,un,qz,vaN]<;>rfl))) ?_
   refine rgE tok [0,3] fun K hK=>?_
   simp only[go_sem,qb,qa,reduceCtorEq,uW];apply hK
   exact⟨_,_,_,qp (0+k8),⟨k8,l2++[ua (qF (IntKind.u8.wrap ((IntKind.u8.wrap ((x4).tmod 128))+128)))],IntKind.u64.wrap ((x4).tdiv 128),v3+1,rfl,rfl,rfl,h⟩,(.t [0] false)⟩
 rw[if_neg hc10] at h;have t15:=eq_false hc10;apply zr;apply hZ1;have f16:=yW (T:=tab) (src:=140) (dst:=5) rfl rfl rfl;obtain⟨_u17,hu17,h⟩:=bind_some h;have gu17:=yf hu17;have f18:=(zt E34.len l2)
 refine rg tok [2] fun K hK=>?_
 simp only[go_sem,qb,qf,qa,qt,reduceCtorEq,zC,z7,q3,qT,true_and,ub,z6,zJ,ym,t15,f16,gu17,f18,yJ,uc,qY,AV.one,qR,qx,qj,ql,qq,qH];apply hK
 refine zU (L:=[(2,.os true 1 0 (v3+1) 0 (qc (l2++[ua (qF (IntKind.u8.wrap x4))])) false)]) (τ:=[.cells (v3+1) (qe encB (l2++[ua (qF (IntKind.u8.wrap x4))])),.cells 0 [.int .u8 (IntKind.u8.wrap x4)]]) (.same (by first|exact⟨rfl,trivial⟩|rfl|(simp only[go_sem,Fits,qi,qj,ql,qq,and_self]<;>rfl)) (by first|exact⟨rfl,trivial⟩|rfl|(simp only[go_sem,encB,qS,qO,un,qz,vaN]<;>rfl))) ?_;apply yz;cases h;simp only[ZL,yT,xd,xZ,exists_eq_left',go_sem,qd];refine⟨0,v3+1,by simp,?_,?_⟩
 · first|rfl|(simp only[go_sem,qb,qf,qa,qd,qt,qK,reduceIte,reduceCtorEq,push_cast,if_true,qC,qq,qE,qw,qD,qP,qZ,qV,qX,qQ,qy,zP]<;>rfl)
 first|rfl|(simp only[go_sem,push_cast,qw,zP]<;>rfl)
theorem xg.ok (a0:Int)(r:List UInt8)(h:xg a0=some r):ACalls qh 150 [.int .u64 a0] [] (fun r' _=>r'=.ds true (qe encB r) (qc r) false):=
 (xg.own a0 r h).ownData (zt E34.len r) (by simp only[push_cast])
theorem xg.ev (a0:Int)(r:List UInt8)(h:xg a0=some r)(σ:Store):ACalls qh 150 [.int .u64 a0] σ (fun r' σ'=>r'=.ds true (qe encB r) (qc r) false∧σ'=σ):=
 (xg.ok a0 r h).c σ
def Zz (a0:Int):Int:=
 (if 0≤a0 then IntKind.u64.wrap (2*(IntKind.u64.wrap a0)) else IntKind.u64.wrap ((IntKind.u64.wrap (2*(IntKind.u64.wrap (IntKind.i64.wrap (0-(IntKind.i64.wrap (a0+1)))))))+1))
end
section
set_option maxRecDepth 4000
set_option maxHeartbeats 1000000
open AM
theorem Zz.ok (a0:Int)(r:Int)(h:Zz a0=r):ACalls qh 151 [.int .i64 a0] [] (fun r' _=>r'=.int .u64 r):=by
 refine zf (rs:=[.tmp 2]) tok Tryz.func151 rfl Tryz.ntmps151 rfl Tryz.call151 (by simp) ?_;refine zk [(0,.int .i64 a0)] ⟨rfl,trivial⟩ ?_;unfold Zz at h;refine rgN [0] ?_
 refine za fun Z1 hZ1=>?_
 refine rgN [0,4] ?_;refine zq rfl (fun hc2=>?_) (fun hc2=>?_)
 · rw[if_pos hc2] at h;have t3:=eq_true hc2;have f4:=yW (T:=tab) (src:=3) (dst:=140) rfl rfl rfl
   refine rg tok [2] fun K hK=>?_
   simp only[go_sem,qb,qa,reduceCtorEq,t3,f4];apply hK
   cases h;exact rtA
 rw[if_neg hc2] at h;have t5:=eq_false hc2;apply zd;apply hZ1;have f6:=yW (T:=tab) (src:=3) (dst:=140) rfl rfl rfl
 refine rg tok [2] fun K hK=>?_
 simp only[go_sem,qb,qa,reduceCtorEq,t5,f6];apply hK
 cases h;exact rtA
theorem Zz.ev (a0:Int)(r:Int)(h:Zz a0=r)(σ:Store):ACalls qh 151 [.int .i64 a0] σ (fun r' σ'=>r'=.int .u64 r∧σ'=σ):=
 (Zz.ok a0 r h).c σ
def wZ (a0:GRaw):Option (List UInt8):=
 (xg (IntKind.u64.wrap (IntKind.i64.wrap ((IntKind.i64.wrap (2*a0.fTag))+a0.fWire)))).bind fun r2=>(if a0.fWire=0 then bnd (Zz a0.fN) fun r6=>(xg r6).bind fun r7=>(Yg (qc r2+qc r7) 1).bind fun _u9=>some (r2++r7) else (xg (IntKind.u64.wrap (qc a0.fB:Int))).bind fun r13=>(Yg (qc r2+qc r13) 1).bind fun _u15=>(Yg (qc (r2++r13)+qc a0.fB) 1).bind fun _u17=>some ((r2++r13)++a0.fB))
theorem wZ.own (a0:GRaw)(r:List UInt8)(h:wZ a0=some r):ACalls qh 127 [.agg (encGRaw a0)] [] (fun r' σ'=>r'=.os true 1 0 0 0 (qc r) false∧σ'=[.cells 0 (qe encB r)]):=by
 refine ACalls.own0 (by simp only[push_cast]) ?_;refine ZM (rs:=[.tmp 2]) tok Tryz.func127 rfl Tryz.ntmps127 rfl Tryz.call127 (by simp) ?_;refine zk [(0,.agg (encGRaw a0))] ⟨rfl,trivial⟩ ?_;unfold wZ at h
 refine rg tok [1] fun K hK=>?_
 simp only[go_sem,qb,qa,qd,reduceCtorEq,encGRaw];apply hK
 refine rc [1,3] fun K hK=>?_
 have f1:=yW (T:=tab) (src:=3) (dst:=140) rfl rfl rfl;obtain⟨r2,hr2,h⟩:=bind_some h;refine zi tok 7 ?_;simp only[go_sem,qb,qa,qd,f1];refine clN rfl rfl rfl (@id (ACalls qh 150 [.int .u64 (IntKind.u64.wrap (IntKind.i64.wrap ((IntKind.i64.wrap (2*a0.fTag))+a0.fWire)))] [.cells 0 [.int .i64 a0.fTag,.int .i64 a0.fWire,.int .i64 a0.fN,.str a0.fB]] (fun r' σ'=>r'=.os true 1 1 0 0 (qc r2) false∧σ'=[.cells 0 [.int .i64 a0.fTag,.int .i64 a0.fWire,.int .i64 a0.fN,.str a0.fB],.cells 0 (qe encB r2)])) ((xg.own (IntKind.u64.wrap (IntKind.i64.wrap ((IntKind.i64.wrap (2*a0.fTag))+a0.fWire))) r2 hr2).ownAt0 (by simp only[push_cast]) (by simp only[push_cast]) _)) ?_;refine rnN 1 ?_;refine nkN hK ?_
 refine za fun Z3 hZ3=>?_
 refine rgN [1,3,14] ?_;refine zq rfl (fun hc4=>?_) (fun hc4=>?_)
 · rw[if_pos hc4] at h;have t5:=eq_true hc4
   refine rc [2] fun K hK=>?_
   obtain⟨r6,hr6,h⟩:=zQ h;refine zi tok 3 ?_;simp only[go_sem,qb,qa,qd,t5];refine clN rfl rfl rfl (Zz.ev a0.fN r6 hr6 _) ?_;obtain⟨r7,hr7,h⟩:=bind_some h;refine clN rfl rfl rfl (xg.ev r6 r7 hr7 _) ?_
   have f8:=fun nl tt σ=>xU E34.len r7 nl tt σ
   obtain⟨_u9,hu9,h⟩:=bind_some h;have gu9:=yf hu9;have f10:=(zt E34.len r2);refine zi tok 2 ?_;simp only[go_sem,qb,qa,z6,zJ,ym,true_and,f8,gu9,f10,Zu,qq];refine nkN hK ?_;refine zU (L:=[(2,.os true 1 1 (0+1) 0 (qc (r2++r7)) false)]) (τ:=[.cells 0 [.int .i64 a0.fTag,.int .i64 a0.fWire,.int .i64 a0.fN,.str a0.fB],.cells (0+1) (qe encB (r2++r7))]) .s ?_;apply yz;cases h;simp only[ZL,yT,xd,xZ,exists_eq_left',go_sem,qd];refine⟨1,0+1,by simp,?_,?_⟩
   · first|rfl|(simp only[go_sem,qb,qf,qa,qd,qt,qK,reduceIte,reduceCtorEq,push_cast,if_true,qC,qq,qE,qw,qD,qP,qZ,qV,qX,qQ,qy,zP]<;>rfl)
   first|rfl|(simp only[go_sem,push_cast,qq,qw,zP]<;>rfl)
 rw[if_neg hc4] at h;have t11:=eq_false hc4;apply zd;apply hZ3
 refine rc [1,3] fun K hK=>?_
 have f12:=yW (T:=tab) (src:=3) (dst:=140) rfl rfl rfl;obtain⟨r13,hr13,h⟩:=bind_some h;refine zi tok 5 ?_;simp only[go_sem,qb,qa,qd,t11,f12];refine clN rfl rfl rfl (xg.ev (IntKind.u64.wrap (qc a0.fB:Int)) r13 hr13 _) ?_
 have f14:=fun nl tt σ=>xU E34.len r13 nl tt σ
 obtain⟨_u15,hu15,h⟩:=bind_some h;have gu15:=yf hu15;have f16:=(zt E34.len r2);refine zi tok 2 ?_;simp only[go_sem,qb,qa,z6,zJ,ym,true_and,f14,gu15,f16,Zu,qq];refine nkN hK ?_;refine zU (L:=[(1,.op 0 0 0),(3,.os true 1 1 (0+1) 0 (qc (r2++r13)) false)]) (τ:=[.cells 0 [.int .i64 a0.fTag,.int .i64 a0.fWire,.int .i64 a0.fN,.str a0.fB],.cells (0+1) (qe encB (r2++r13))]) .s ?_;obtain⟨_u17,hu17,h⟩:=bind_some h;have gu17:=yf hu17
 first|simp only[qi] at gu17|skip
 have f18:=(zt E34.len (r2++r13));simp only[qS,qi] at f18
 refine rg tok [2] fun K hK=>?_
 simp only[go_sem,qb,qa,qd,z6,zJ,ym,true_and,gu17,f18,srcCells_s,Xu,Zu,qS,qi,qj,ql,qq,qs];apply hK
 refine zU (L:=[(2,.os true 1 1 (0+1+1) 0 (qc ((r2++r13)++a0.fB)) false)]) (τ:=[.cells 0 [.int .i64 a0.fTag,.int .i64 a0.fWire,.int .i64 a0.fN,.str a0.fB],.cells (0+1+1) (qe encB ((r2++r13)++a0.fB))]) .s ?_;apply yz;cases h;simp only[ZL,yT,xd,xZ,exists_eq_left',go_sem,qd];refine⟨1,0+1+1,by simp,?_,?_⟩
 · first|rfl|(simp only[go_sem,qb,qf,qa,qd,qt,qK,reduceIte,reduceCtorEq,push_cast,if_true,qC,qq,qE,qw,qD,qP,qZ,qV,qX,qQ,qy,zP]<;>rfl)
 first|rfl|(simp only[go_sem,qd,push_cast,qq,qw,zP]<;>rfl)
theorem wZ.ok (a0:GRaw)(r:List UInt8)(h:wZ a0=some r):ACalls qh 127 [.agg (encGRaw a0)] [] (fun r' _=>r'=.ds true (qe encB r) (qc r) false):=
 (wZ.own a0 r h).ownData (zt E34.len r) (by simp only[push_cast])
theorem wZ.ev (a0:GRaw)(r:List UInt8)(h:wZ a0=some r)(σ:Store):ACalls qh 127 [.agg (encGRaw a0)] σ (fun r' σ'=>r'=.ds true (qe encB r) (qc r) false∧σ'=σ):=
 (wZ.ok a0 r h).c σ
def yk.l13 : List GRaw→Int→List UInt8→Option (List UInt8×Int)
 |[],x9,l7=>some (l7,0)
 |y13::q13,x9,l7=>(wZ y13).bind fun r19=>(Yg (qc l7+qc r19) 1).bind fun _u21=>(if 4096<(qc (l7++r19):Int) then some (([]:List UInt8),4) else ((yk.l13 q13) (x9+1) (l7++r19)))
def yk.l4 (a0:List GRaw):List GRaw→Int→Option (List UInt8×Int)
 |[],x2=>(yk.l13 a0 0 ([]:List UInt8))
 |y4::q4,x2=>bnd (wt y4) fun r30=>(if (!r30)=true then some (([]:List UInt8),1) else ((yk.l4 a0 q4) (x2+1)))
def yk (a0:List GRaw):Option (List UInt8×Int):=
 (yk.l4 a0 a0 0)
theorem yk.ok (a0:List GRaw)(r:List UInt8×Int)(h:yk a0=some r):ACalls qh 91 [.ds true (qe encGRaw a0) (qc a0) false] [] (fun r' _=>r'=.tup [.ds true (qe encB r.1) (qc r.1) false,.int .i64 r.2]):=by
 refine zf (rs:=[.tmp 2,.tmp 3]) tok Tryz.func91 rfl Tryz.ntmps91 rfl Tryz.call91 (by simp) ?_;refine zk [(0,.ds true (qe encGRaw a0) (qc a0) false)] ⟨rfl,trivial⟩ ?_;unfold yk at h;refine rgN [0] ?_;refine rgN [0,4] ?_;refine wN 4 1 rfl ?_;refine zU (L:=[(0,.ds true (qe encGRaw a0) (qc a0) false),(4,.os true 1 0 0 0 (qc ([]:List UInt8)) false)]) (τ:=[.cells 0 (qe encB ([]:List UInt8))]) .s ?_
 refine za fun Z1 hZ1=>?_
 refine rgN [0,4,5] ?_;apply ze
 refine yP 0 fun hb4=>?_
 replace hb4:qc a0≤9223372036854775807:=hb4.1;refine zp (fun m L τ=>∃ (p4 q4:List GRaw) (x2:Int),m=qc q4∧L=[(0,.ds true (qe encGRaw a0) (qc a0) false),(4,.os true 1 0 0 0 (qc ([]:List UInt8)) false),(5,.int .i64 x2)]∧τ=[.cells 0 (qe encB ([]:List UInt8))]∧a0=p4++q4∧x2=(qc p4:Int)∧yk.l4 a0 q4 x2=some r) _ ⟨[],a0,0,rfl,rfl,rfl,rfl,rfl,h⟩ .s ?_;rintro m L τ ⟨p4,q4,x2,rfl,rfl,rfl,hE4,hi4,h⟩
 rcases q4 with _|⟨y4,q4⟩
 · have hz4:=yl hE4 hi4;simp only[yk.l4] at h
   refine za fun Z5 hZ5=>?_
   refine rg tok [0,4,5,10] fun K hK=>?_
   simp only[go_sem,qb,qa,reduceCtorEq,hz4];apply hK
   refine zn rfl ?_;apply zr;apply hZ1
   refine za fun Z6 hZ6=>?_
   refine rgN [0,4,6] ?_;apply ze
   refine yP 0 fun hb13=>?_
   replace hb13:qc a0≤9223372036854775807:=hb13.1;refine zp (fun m L τ=>∃ (p13 q13:List GRaw) (x9:Int) (l7:List UInt8) (v8:Nat),m=qc q13∧L=[(0,.ds true (qe encGRaw a0) (qc a0) false),(4,.os true 1 0 v8 0 (qc l7) false),(6,.int .i64 x9)]∧τ=[.cells v8 (qe encB l7)]∧a0=p13++q13∧x9=(qc p13:Int)∧yk.l13 q13 x9 l7=some r) _ ⟨[],a0,0,([]:List UInt8),0,rfl,rfl,rfl,rfl,rfl,h⟩ .s ?_;rintro m L τ ⟨p13,q13,x9,l7,v8,rfl,rfl,rfl,hE13,hi13,h⟩
   rcases q13 with _|⟨y13,q13⟩
   · have hz13:=yl hE13 hi13;simp only[yk.l13] at h
     refine za fun Z14 hZ14=>?_
     refine rg tok [0,4,6,22] fun K hK=>?_
     simp only[go_sem,qb,qa,reduceCtorEq,hz13];apply hK
     refine zn rfl ?_;apply zr;apply hZ6;refine rgN [2,3] ?_;cases h;exact rtA
   obtain⟨hz13,hw13,hx13,hE'13,hi'13⟩:=zV hE13 hi13 hb13;simp only[yk.l13] at h
   refine za fun Z15 hZ15=>?_
   refine rg tok [0,4,6,22] fun K hK=>?_
   simp only[go_sem,qb,qa,reduceCtorEq,hz13];apply hK
   refine zo rfl ?_;apply zd;apply hZ15
   refine za fun Z16 hZ16=>?_
   apply ze
   refine rc [0,4,6] fun K hK=>?_
   have f17:=E28.idxS hx13;have f18:=E28.loadS rfl rfl hx13;obtain⟨r19,hr19,h⟩:=bind_some h;refine zi tok 5 ?_;simp only[go_sem,qb,qa,reduceCtorEq,encGRaw,f17,f18];refine clN rfl rfl rfl (wZ.ev y13 r19 hr19 _) ?_
   have f20:=fun nl tt σ=>xU E34.len r19 nl tt σ
   obtain⟨_u21,hu21,h⟩:=bind_some h;have gu21:=yf hu21;have f22:=(zt E34.len l7);refine zi tok 2 ?_;simp only[go_sem,qb,qa,reduceCtorEq,z6,zJ,ym,true_and,f20,gu21,f22,Zu];refine nkN hK ?_;refine zU (L:=[(0,.ds true (qe encGRaw a0) (qc a0) false),(4,.os true 1 0 (v8+1) 0 (qc (l7++r19)) false),(6,.int .i64 x9)]) (τ:=[.cells (v8+1) (qe encB (l7++r19))]) .s ?_;refine rgN [0,4,6,34] ?_;refine zq rfl (fun hc23=>?_) (fun hc23=>?_)
   · rw[if_pos hc23] at h;have t24:=eq_true hc23
     refine rg tok [2,3] fun K hK=>?_
     simp only[go_sem,qb,qa,reduceCtorEq,t24];apply hK
     cases h;exact rtA
   rw[if_neg hc23] at h;have t25:=eq_false hc23;apply zd;apply hZ16
   refine rgE tok [0,4,6] fun K hK=>?_
   simp only[go_sem,qb,qa,reduceCtorEq,hw13,t25];apply hK
   exact⟨_,_,_,qp q13.length,⟨p13++[y13],q13,x9+1,l7++r19,v8+1,rfl,rfl,rfl,hE'13,hi'13,h⟩,.s⟩
 obtain⟨hz4,hw4,hx4,hE'4,hi'4⟩:=zV hE4 hi4 hb4;simp only[yk.l4] at h
 refine za fun Z26 hZ26=>?_
 refine rg tok [0,4,5,10] fun K hK=>?_
 simp only[go_sem,qb,qa,reduceCtorEq,hz4];apply hK
 refine zo rfl ?_;apply zd;apply hZ26
 refine za fun Z27 hZ27=>?_
 apply ze
 refine rc [0,4,5,18] fun K hK=>?_
 have f28:=E28.idxS hx4;have f29:=E28.loadS rfl rfl hx4;obtain⟨r30,hr30,h⟩:=zQ h;refine zi tok 4 ?_;simp only[go_sem,qb,qa,reduceCtorEq,encGRaw,f28,f29];refine clN rfl rfl rfl (wt.ev y4 r30 hr30 _) ?_;refine rnN 1 ?_;refine nkN hK ?_;refine zm (b:=(!r30)) rfl (fun hc31=>?_) (fun hc31=>?_)
 · rw[if_pos hc31] at h;refine rgN [2,3] ?_;cases h;exact rtA
 rw[xQ hc31] at h;apply zd;apply hZ27
 refine rgE tok [0,4,5] fun K hK=>?_
 simp only[go_sem,qb,qa,reduceCtorEq,hw4];apply hK
 exact⟨_,_,_,qp q4.length,⟨p4++[y4],q4,x2+1,rfl,rfl,rfl,hE'4,hi'4,h⟩,.s⟩
theorem yk.ev (a0:List GRaw)(r:List UInt8×Int)(h:yk a0=some r)(σ:Store):ACalls qh 91 [.ds true (qe encGRaw a0) (qc a0) false] σ (fun r' σ'=>r'=.tup [.ds true (qe encB r.1) (qc r.1) false,.int .i64 r.2]∧σ'=σ):=
 (yk.ok a0 r h).c σ
def yQ.body (zZ:GTree→Option (List UInt8×Int))(wn:GTree→Option (List GRaw×Int))(a0:GTree):Option (List UInt8×Int):=
 (wn a0).bind fun r1=>(if r1.2=0 then (yk r1.1).bind fun r6=>some (r6.1,r6.2) else some (([]:List UInt8),r1.2))
theorem yQ.step (zZ:GTree→Option (List UInt8×Int))(wn:GTree→Option (List GRaw×Int))(Yx:∀ (a0:GTree) (r:List UInt8×Int),zZ a0=some r→ACalls qh 54 [.agg (cellsGTree a0)] [] (fun r' _=>r'=.tup [.ds true (qe encB r.1) (qc r.1) false,.int .i64 r.2]))(Xm:∀ (a0:GTree) (r:List GRaw×Int),wn a0=some r→ACalls qh 50 [.agg (cellsGTree a0)] [] (fun r' _=>r'=.tup [.ds true (qe encGRaw r.1) (qc r.1) false,.int .i64 r.2]))(a0:GTree)(r:List UInt8×Int)(h:yQ.body zZ wn a0=some r):ACalls qh 54 [.agg (cellsGTree a0)] [] (fun r' _=>r'=.tup [.ds true (qe encB r.1) (qc r.1) false,.int .i64 r.2]):=by
 have ev_ref11_encode:=fun a0 r h σ=>(Yx a0 r h).c σ
 have ev_ref11_raws:=fun a0 r h σ=>(Xm a0 r h).c σ
 refine zf (rs:=[.tmp 2,.tmp 3]) tok Tryz.func54 rfl Tryz.ntmps54 rfl Tryz.call54 (by simp) ?_;refine zk [(0,.agg (cellsGTree a0))] ⟨rfl,trivial⟩ ?_;unfold yQ.body at h
 refine rg tok [1] fun K hK=>?_
 simp only[go_sem,qb,qa,qd,reduceCtorEq,cellsGTree];apply hK
 refine rc [4,5] fun K hK=>?_
 obtain⟨r1,hr1,h⟩:=bind_some h;refine rnN 1 ?_;refine clN rfl rfl rfl (ev_ref11_raws a0 r1 hr1 _) ?_;refine rnN 5 ?_;refine nkN hK ?_
 refine za fun Z2 hZ2=>?_
 refine rgN [4,5,12] ?_;refine zq rfl (fun hc3=>?_) (fun hc3=>?_)
 · rw[if_neg hc3] at h;have t4:=eq_false hc3
   refine rg tok [2,3] fun K hK=>?_
   simp only[go_sem,qb,qa,t4];apply hK
   cases h;exact rtA
 rw[if_pos hc3] at h;have t5:=eq_true hc3;apply zd;apply hZ2
 refine rc [2,3] fun K hK=>?_
 obtain⟨r6,hr6,h⟩:=bind_some h;refine zi tok 1 ?_;simp only[go_sem,qb,qa,t5];refine clN rfl rfl rfl (yk.ev r1.1 r6 hr6 _) ?_;refine rnN 4 ?_;refine nkN hK ?_;cases h;exact rtA
def zW.j37 (x18:Int)(l16:List GRaw)(rec22:Int→List GRaw→Option (List GRaw×Int))(m2_36:GRaw):Option (List GRaw×Int):=
 (if 4096<(qc m2_36.fB:Int) then some (([]:List GRaw),4) else (Yg (qc l16+1) 40).bind fun _u42=>(rec22 (x18+1) (l16++[m2_36])))
def zW.l22 (zZ:GTree→Option (List UInt8×Int))(x4:Int)(rec8:Int→List GRaw→Option (List GRaw×Int))(y8:GEntry):List GTree→Int→List GRaw→Option (List GRaw×Int)
 |[],x18,l16=>(rec8 (x4+1) l16)
 |y22::q22,x18,l16=>(if y22.fKind=1 then (zW.j37 x18 l16 (zW.l22 zZ x4 rec8 y8 q22) (⟨y8.fTag,0,y22.fN,[]⟩:GRaw)) else (if y22.fKind=2 then (zW.j37 x18 l16 (zW.l22 zZ x4 rec8 y8 q22) (⟨y8.fTag,1,0,y22.fS⟩:GRaw)) else (zZ y22).bind fun r50=>(if r50.2=0 then (zW.j37 x18 l16 (zW.l22 zZ x4 rec8 y8 q22) (⟨y8.fTag,1,0,r50.1⟩:GRaw)) else some (([]:List GRaw),r50.2))))
def zW.l8 (zZ:GTree→Option (List UInt8×Int))(a0:GTree):List GEntry→Int→List GRaw→Option (List GRaw×Int)
 |[],x4,l2=>(Yg (qc l2+qc a0.fRest) 40).bind fun _u11=>(zB (l2++a0.fRest)).bind fun r13=>some (r13,0)
 |y8::q8,x4,l2=>(zW.l22 zZ x4 (zW.l8 zZ a0 q8) y8 y8.fTrees 0 l2)
def zW.body (zZ:GTree→Option (List UInt8×Int))(wn:GTree→Option (List GRaw×Int))(a0:GTree):Option (List GRaw×Int):=
 (zW.l8 zZ a0 a0.fEntries 0 ([]:List GRaw))
theorem zW.step (zZ:GTree→Option (List UInt8×Int))(wn:GTree→Option (List GRaw×Int))(Yx:∀ (a0:GTree) (r:List UInt8×Int),zZ a0=some r→ACalls qh 54 [.agg (cellsGTree a0)] [] (fun r' _=>r'=.tup [.ds true (qe encB r.1) (qc r.1) false,.int .i64 r.2]))(Xm:∀ (a0:GTree) (r:List GRaw×Int),wn a0=some r→ACalls qh 50 [.agg (cellsGTree a0)] [] (fun r' _=>r'=.tup [.ds true (qe encGRaw r.1) (qc r.1) false,.int .i64 r.2]))(a0:GTree)(r:List GRaw×Int)(h:zW.body zZ wn a0=some r):ACalls qh 50 [.agg (cellsGTree a0)] [] (fun r' _=>r'=.tup [.ds true (qe encGRaw r.1) (qc r.1) false,.int .i64 r.2]):=by
 have ev_ref11_encode:=fun a0 r h σ=>(Yx a0 r h).c σ
 have ev_ref11_raws:=fun a0 r h σ=>(Xm a0 r h).c σ
 refine zf (rs:=[.tmp 2,.tmp 3]) tok Tryz.func50 rfl Tryz.ntmps50 rfl Tryz.call50 (by simp) ?_;refine zk [(0,.agg (cellsGTree a0))] ⟨rfl,trivial⟩ ?_;unfold zW.body at h
 refine rg tok [1] fun K hK=>?_
 simp only[go_sem,qb,qa,qd,reduceCtorEq,cellsGTree];apply hK
 refine rgN [1,4] ?_;refine wN 4 4 rfl ?_;refine zU (L:=[(1,.op 0 0 0),(4,.os true 4 1 0 0 (qc ([]:List GRaw)) false)]) (τ:=[.cells 0 (cellsGTree a0),.cells 0 (qe encGRaw ([]:List GRaw))]) .s ?_
 refine za fun Z1 hZ1=>?_
 refine rgN [1,4,5] ?_;apply ze
 refine xh 0 rfl fun hb8=>?_
 replace hb8:qc a0.fEntries≤9223372036854775807:=hb8.2.2.2.1.1;refine zp (fun m L τ=>∃ (p8 q8:List GEntry) (x4:Int) (l2:List GRaw) (v3:Nat),m=qc q8∧L=[(1,.op 0 0 0),(4,.os true 4 1 v3 0 (qc l2) false),(5,.int .i64 x4)]∧τ=[.cells 0 (cellsGTree a0),.cells v3 (qe encGRaw l2)]∧a0.fEntries=p8++q8∧x4=(qc p8:Int)∧zW.l8 zZ a0 q8 x4 l2=some r) _ ⟨[],a0.fEntries,0,([]:List GRaw),0,rfl,rfl,rfl,rfl,rfl,h⟩ .s ?_;rintro m L τ ⟨p8,q8,x4,l2,v3,rfl,rfl,rfl,hE8,hi8,h⟩
 rcases q8 with _|⟨y8,q8⟩
 · have hz8:=yl hE8 hi8;simp only[zW.l8] at h
   refine za fun Z9 hZ9=>?_
   refine rg tok [1,4,5,15] fun K hK=>?_
   simp only[go_sem,qb,qa,qd,hz8];apply hK
   refine zn rfl ?_;apply zr;apply hZ1
   refine rc [2,3] fun K hK=>?_
   have f10:=fun nl tt σ=>xU E28.len a0.fRest nl tt σ
   obtain⟨_u11,hu11,h⟩:=bind_some h;have gu11:=yf hu11;have f12:=(zt E28.len l2);obtain⟨r13,hr13,h⟩:=bind_some h;refine zi tok 4 ?_;simp only[go_sem,qb,qa,qd,z6,zJ,ym,true_and,f10,gu11,f12,Zu,qj,ql,qq];refine Y0 (L:=[(80,.ds true (qe encGRaw (l2++a0.fRest)) (qc (l2++a0.fRest)) false)]) (τ:=[]) (.t [] false) ?_;refine clN rfl rfl rfl (zB.ev (l2++a0.fRest) r13 hr13 _) ?_;refine rnN 2 ?_;refine nkN hK ?_;refine zU (L:=[(2,.ds true (qe encGRaw r13) (qc r13) false),(3,.int .i64 0)]) (τ:=[]) .s ?_;cases h;exact rtA
 obtain⟨hz8,hw8,hx8,hE'8,hi'8⟩:=zV hE8 hi8 hb8;simp only[zW.l8] at h
 refine za fun Z14 hZ14=>?_
 refine rg tok [1,4,5,15] fun K hK=>?_
 simp only[go_sem,qb,qa,qd,hz8];apply hK
 refine zo rfl ?_;apply zd;apply hZ14
 refine za fun Z15 hZ15=>?_
 apply ze;refine rgN [1,4,5,6] ?_;apply ze
 refine xh 0 rfl fun hb22=>?_
 replace hb22:=XU hb22.2.2.2.1.2 hx8;rw[zS] at hb22;replace hb22:qc y8.fTrees≤9223372036854775807:=hb22.2.1.1;refine zp (fun m L τ=>∃ (p22 q22:List GTree) (x18:Int) (l16:List GRaw) (v17:Nat),m=qc q22∧L=[(1,.op 0 0 0),(4,.os true 4 1 v17 0 (qc l16) false),(5,.int .i64 x4),(6,.int .i64 x18)]∧τ=[.cells 0 (cellsGTree a0),.cells v17 (qe encGRaw l16)]∧y8.fTrees=p22++q22∧x18=(qc p22:Int)∧zW.l22 zZ x4 (zW.l8 zZ a0 q8) y8 q22 x18 l16=some r) _ ⟨[],y8.fTrees,0,l2,v3,rfl,rfl,rfl,rfl,rfl,h⟩ .s ?_;rintro m L τ ⟨p22,q22,x18,l16,v17,rfl,rfl,rfl,hE22,hi22,h⟩
 rcases q22 with _|⟨y22,q22⟩
 · have hz22:=yl hE22 hi22;simp only[zW.l22] at h
   refine za fun Z23 hZ23=>?_
   have f24:=E27.idxS hx8;have f25:=E27.fldS (f:=90) rfl rfl hx8 (o:=1) (by decide)
   refine rg tok [1,4,5,6,26] fun K hK=>?_
   simp only[go_sem,qb,qa,qd,cellsGEntry,zS,hz22,f24,f25];apply hK
   refine zn rfl ?_;apply zr;apply hZ15
   refine rgE tok [1,4,5] fun K hK=>?_
   simp only[go_sem,qb,qa,hw8];apply hK
   exact⟨_,_,_,qp q8.length,⟨p8++[y8],q8,x4+1,l16,v17,rfl,rfl,rfl,hE'8,hi'8,h⟩,.s⟩
 obtain⟨hz22,hw22,hx22,hE'22,hi'22⟩:=zV hE22 hi22 hb22;simp only[zW.l22] at h
 refine za fun Z26 hZ26=>?_
 have f27:=E27.idxS hx8;have f28:=E27.fldS (f:=90) rfl rfl hx8 (o:=1) (by decide)
 refine rg tok [1,4,5,6,26] fun K hK=>?_
 simp only[go_sem,qb,qa,qd,cellsGEntry,zS,hz22,f27,f28];apply hK
 refine zo rfl ?_;apply zd;apply hZ26
 refine za fun Z29 hZ29=>?_
 apply ze;have f30:=E27.idxS hx8;have f31:=E27.fldS (f:=90) rfl rfl hx8 (o:=1) (by decide);have f32:=E90.idxS hx22;have f33:=E90.loadS rfl rfl hx22
 refine rg tok [1,4,5,6,7] fun K hK=>?_
 simp only[go_sem,qb,qf,qa,qd,cellsGEntry,cellsGTree,zS,yU,f30,f31,f32,f33];apply hK
 have f34:=E27.idxS hx8;have f35:=E27.fldS0 (f:=3) rfl rfl hx8
 refine rg tok [1,4,5,6,7,8] fun K hK=>?_
 simp only[go_sem,qb,qf,qa,qd,cellsGEntry,zS,f34,f35];apply hK
 refine xG (fun L τ=>∃ (m2_36:GRaw),L=[(1,.op 0 0 0),(4,.os true 4 1 v17 0 (qc l16) false),(5,.int .i64 x4),(6,.int .i64 x18),(8,.op 2 0 0)]∧τ=[.cells 0 (cellsGTree a0),.cells v17 (qe encGRaw l16),.cells 0 [.int .i64 m2_36.fTag,.int .i64 m2_36.fWire,.int .i64 m2_36.fN,.str m2_36.fB]]∧zW.j37 x18 l16 (zW.l22 zZ x4 (zW.l8 zZ a0 q8) y8 q22) m2_36=some r) ?_ ?_
 · refine rgN [1,4,5,6,7,8,46] ?_;apply ze;refine rgN [1,4,5,6,7,8,46,58] ?_;refine zq rfl (fun hc44=>?_) (fun hc44=>?_)
   · rw[if_pos hc44] at h;have t45:=eq_true hc44
     refine rg tok [1,4,5,6,7,8] fun K hK=>?_
     simp only[go_sem,qb,qf,qa,qd,t45];apply hK
     refine rgE tok [1,4,5,6,8] fun K hK=>?_
     simp only[go_sem,qb,qf,qa,qd];apply hK
     exact⟨_,_,⟨(⟨y8.fTag,0,y22.fN,[]⟩:GRaw),rfl,rfl,h⟩,(.t [0,1,3] false)⟩
   rw[if_neg hc44] at h;have t46:=eq_false hc44
   refine rg tok [1,4,5,6,7,8,64] fun K hK=>?_
   simp only[go_sem,qb,qa,t46];apply hK
   refine zq rfl (fun hc47=>?_) (fun hc47=>?_)
   · rw[if_pos hc47] at h;have t48:=eq_true hc47
     refine rgE tok [1,4,5,6,8] fun K hK=>?_
     simp only[go_sem,qb,qf,qa,qd,t48];apply hK
     exact⟨_,_,⟨(⟨y8.fTag,1,0,y22.fS⟩:GRaw),rfl,rfl,h⟩,(.t [0,1,3] false)⟩
   rw[if_neg hc47] at h;have t49:=eq_false hc47
   refine rc [1,4,5,6,8,9,10] fun K hK=>?_
   obtain⟨r50,hr50,h⟩:=bind_some h;refine zi tok 1 ?_;simp only[go_sem,qb,qf,qa,qd,t49];refine clN rfl rfl rfl (ev_ref11_encode y22 r50 hr50 _) ?_;refine rnN 5 ?_;refine nkN hK ?_
   refine za fun Z51 hZ51=>?_
   refine rgN [1,4,5,6,8,9,10,53] ?_;refine zq rfl (fun hc52=>?_) (fun hc52=>?_)
   · rw[if_neg hc52] at h;have t53:=eq_false hc52
     refine rg tok [2,3] fun K hK=>?_
     simp only[go_sem,qb,qa,t53];apply hK
     cases h;exact rtA
   rw[if_pos hc52] at h;have t54:=eq_true hc52;apply zd;apply hZ51;have f55:=Xt (T:=tab) (src:=34) (dst:=9) rfl rfl rfl rfl rfl rfl r50.1
   refine rgE tok [1,4,5,6,8] fun K hK=>?_
   simp only[go_sem,qb,qf,qa,qd,t54,f55];apply hK
   exact⟨_,_,⟨(⟨y8.fTag,1,0,r50.1⟩:GRaw),rfl,rfl,h⟩,(.t [0,1,3] false)⟩
 rintro _ _ ⟨m2_36,rfl,rfl,h⟩;unfold zW.j37 at h
 refine za fun Z38 hZ38=>?_
 refine rgN [1,4,5,6,8,72] ?_;refine zq rfl (fun hc39=>?_) (fun hc39=>?_)
 · rw[if_pos hc39] at h;have t40:=eq_true hc39
   refine rg tok [2,3] fun K hK=>?_
   simp only[go_sem,qb,qa,t40];apply hK
   cases h;exact rtA
 rw[if_neg hc39] at h;have t41:=eq_false hc39;apply zd;apply hZ38;obtain⟨_u42,hu42,h⟩:=bind_some h;have gu42:=yf hu42;have f43:=(zt E28.len l16)
 refine rgE tok [1,4,5,6] fun K hK=>?_
 simp only[go_sem,qb,qf,qa,qd,qt,zC,z7,q3,qT,true_and,ub,z6,zJ,ym,t41,gu42,f43,yJ,uc,qY,AV.one,qR,qx,qj,ql,qq,qH];apply hK
 apply hZ29
 refine rgE tok [1,4,5,6] fun K hK=>?_
 simp only[go_sem,qb,qa,hw22];apply hK
 exact⟨_,_,_,qp q22.length,⟨p22++[y22],q22,x18+1,l16++[m2_36],v17+1,rfl,rfl,rfl,hE'22,hi'22,h⟩,(.t [0,1] false)⟩
mutual
def yQ : Nat→GTree→Option (List UInt8×Int)
 |0,_=>none
 |k+1,a0=>yQ.body (yQ k) (zW k) a0
def zW : Nat→GTree→Option (List GRaw×Int)
 |0,_=>none
 |k+1,a0=>zW.body (yQ k) (zW k) a0
end
theorem yQ.all (k:Nat):(∀ (a0:GTree) (r:List UInt8×Int),yQ k a0=some r→ACalls qh 54 [.agg (cellsGTree a0)] [] (fun r' _=>r'=.tup [.ds true (qe encB r.1) (qc r.1) false,.int .i64 r.2]))∧(∀ (a0:GTree) (r:List GRaw×Int),zW k a0=some r→ACalls qh 50 [.agg (cellsGTree a0)] [] (fun r' _=>r'=.tup [.ds true (qe encGRaw r.1) (qc r.1) false,.int .i64 r.2])):=by
 induction k with
 |zero=>exact⟨(fun a0 r h=>by simp only[yQ] at h; cases h),(fun a0 r h=>by simp only[zW] at h; cases h)⟩
 |succ k ih=>exact⟨(fun a0 r h=>yQ.step _ _ ih.1 ih.2 a0 r (by simpa only [yQ] using h)),(fun a0 r h=>zW.step _ _ ih.1 ih.2 a0 r (by simpa only [zW] using h))⟩
theorem yQ.ev (k:Nat)(a0:GTree)(r:List UInt8×Int)(h:yQ k a0=some r)(σ:Store):ACalls qh 54 [.agg (cellsGTree a0)] σ (fun r' σ'=>r'=.tup [.ds true (qe encB r.1) (qc r.1) false,.int .i64 r.2]∧σ'=σ):=
 ((yQ.all k).1 a0 r h).c σ
def xi.l4 (a1:List UInt8):List GMethod→Int→GMethod×Bool
 |[],x2=>((⟨[],[],[]⟩:GMethod),false)
 |y4::q4,x2=>(if y4.fName=a1 then (y4,true) else ((xi.l4 a1 q4) (x2+1)))
def xi (a0:GSchema)(a1:List UInt8):GMethod×Bool:=
 (xi.l4 a1 a0.fMethods 0)
theorem xi.ok (a0:GSchema)(a1:List UInt8)(r:GMethod×Bool)(h:xi a0 a1=r):ACalls qh 53 [.agg (encGSchema a0),.str a1] [] (fun r' _=>r'=.tup [.agg (encGMethod r.1),.bool r.2]):=by
 refine zf (rs:=[.cell 4 75,.tmp 5]) tok Tryz.func53 rfl Tryz.ntmps53 rfl Tryz.call53 (by simp) ?_;refine zk [(0,.agg (encGSchema a0)),(1,.str a1)] ⟨rfl,rfl,trivial⟩ ?_;unfold xi at h
 refine rg tok [1,2,4] fun K hK=>?_
 simp only[go_sem,qb,qa,qd,reduceCtorEq,encGSchema];apply hK
 refine za fun Z1 hZ1=>?_
 refine rgN [1,4,9,10,11] ?_;apply ze
 refine yP 9 fun hb4=>?_
 replace hb4:qc a0.fMethods≤9223372036854775807:=hb4.1;refine zp (fun m L τ=>∃ (p4 q4:List GMethod) (x2:Int),m=qc q4∧L=[(1,.str a1),(4,.op 0 0 0),(9,.ds true (qe encGMethod a0.fMethods) (qc a0.fMethods) false),(10,.int .i64 (qc a0.fMethods:Int)),(11,.int .i64 x2)]∧τ=[.cells 0 [.str [],.str [],.str []]]∧a0.fMethods=p4++q4∧x2=(qc p4:Int)∧xi.l4 a1 q4 x2=r) _ ⟨[],a0.fMethods,0,rfl,rfl,rfl,rfl,rfl,h⟩ (.t [1] false) ?_;rintro m L τ ⟨p4,q4,x2,rfl,rfl,rfl,hE4,hi4,h⟩
 rcases q4 with _|⟨y4,q4⟩
 · have hz4:=yl hE4 hi4;simp only[xi.l4] at h
   refine rg tok [1,4,9,10,11,12] fun K hK=>?_
   simp only[go_sem,qb,qa,hz4];apply hK
   refine za fun Z5 hZ5=>?_
   refine zn rfl ?_;apply zr;apply hZ1;refine rgN [4,5] ?_;cases h;exact rtA
 obtain⟨hz4,hw4,hx4,hE'4,hi'4⟩:=zV hE4 hi4 hb4;simp only[xi.l4] at h
 refine rg tok [1,4,9,10,11,12] fun K hK=>?_
 simp only[go_sem,qb,qa,hz4];apply hK
 refine za fun Z6 hZ6=>?_
 refine zo rfl ?_;apply zd;apply hZ6
 refine za fun Z7 hZ7=>?_
 apply ze;have f8:=E24.idxS hx4;have f9:=E24.loadS rfl rfl hx4
 refine rg tok [1,4,7,9,10,11] fun K hK=>?_
 simp only[go_sem,qb,qf,qa,qd,encGMethod,f8,f9];apply hK
 refine rgN [1,4,7,9,10,11,18] ?_;refine zq rfl (fun hc10=>?_) (fun hc10=>?_)
 · rw[if_pos hc10] at h;have t11:=eq_true hc10
   refine rg tok [4,5] fun K hK=>?_
   simp only[go_sem,qb,qf,qa,qd,t11];apply hK
   cases h;exact rtA
 rw[if_neg hc10] at h;have t12:=eq_false hc10;apply zd;apply hZ7
 refine rgE tok [1,4,9,10,11] fun K hK=>?_
 simp only[go_sem,qb,qa,hw4,t12];apply hK
 exact⟨_,_,_,qp q4.length,⟨p4++[y4],q4,x2+1,rfl,rfl,rfl,hE'4,hi'4,h⟩,(.t [0] false)⟩
theorem xi.ev (a0:GSchema)(a1:List UInt8)(r:GMethod×Bool)(h:xi a0 a1=r)(σ:Store):ACalls qh 53 [.agg (encGSchema a0),.str a1] σ (fun r' σ'=>r'=.tup [.agg (encGMethod r.1),.bool r.2]∧σ'=σ):=
 (xi.ok a0 a1 r h).c σ
def yL.j8 (a0:GSchema)(a1:GPacket)(x7:List UInt8):Option (GPacket×Bool):=
 (grd (qc a1.fBody≤9223372036854775807)).bind fun _u9=>(xw a0 x7 a1.fBody).bind fun r11=>(if r11.2=0 then (wd r11.1).bind fun r16=>(if r16.2=0 then some ((⟨a1.fKind,a1.fFrom,a1.fTo,a1.fID,a1.fVersion,a1.fMethod,a1.fErr,r16.1⟩:GPacket),true) else some ((⟨0,0,0,0,0,[],0,[]⟩:GPacket),false)) else some ((⟨0,0,0,0,0,[],0,[]⟩:GPacket),false))
def yL.j23 (a0:GSchema)(a1:GPacket)(r6:GMethod×Bool)(x22:Bool):Option (GPacket×Bool):=
 (if x22=true then some (a1,true) else (if a1.fKind=4 then (yL.j8 a0 a1 r6.1.fOut) else (yL.j8 a0 a1 r6.1.fIn)))
def yL (a0:GSchema)(a1:GPacket):Option (GPacket×Bool):=
 (zx a0).bind fun r2=>(if r2=0 then bnd (xi a0 a1.fMethod) fun r6=>(if (!r6.2)=true then (yL.j23 a0 a1 r6 (!r6.2)) else (yL.j23 a0 a1 r6 ((!(decide (a1.fKind=3)))&&((!(decide (a1.fKind=4)))||(!(decide (a1.fErr=0))))))) else some ((⟨0,0,0,0,0,[],0,[]⟩:GPacket),false))
theorem yL.ok (a0:GSchema)(a1:GPacket)(r:GPacket×Bool)(h:yL a0 a1=some r):ACalls qh 28 [.agg (encGSchema a0),.agg (encGPacket a1)] [] (fun r' _=>r'=.tup [.agg (encGPacket r.1),.bool r.2]):=by
 refine zf (rs:=[.cell 4 66,.tmp 5]) tok Tryz.func28 rfl Tryz.ntmps28 rfl Tryz.call28 (by simp) ?_;refine zk [(0,.agg (encGSchema a0)),(1,.agg (encGPacket a1))] ⟨rfl,rfl,trivial⟩ ?_;unfold yL at h
 refine rg tok [2,3,4] fun K hK=>?_
 simp only[go_sem,qb,qa,qd,reduceCtorEq,encGPacket,encGSchema];apply hK
 refine za fun Z1 hZ1=>?_
 refine rc [2,3,4,14] fun K hK=>?_
 obtain⟨r2,hr2,h⟩:=bind_some h;refine rnN 1 ?_;refine clN rfl rfl rfl (zx.ev a0 r2 hr2 _) ?_;refine rnN 1 ?_;refine nkN hK ?_;refine zq rfl (fun hc3=>?_) (fun hc3=>?_)
 · rw[if_neg hc3] at h;have t4:=eq_false hc3
   refine rg tok [4,5] fun K hK=>?_
   simp only[go_sem,qb,qf,qa,qd,t4];apply hK
   cases h;exact rtA
 rw[if_pos hc3] at h;have t5:=eq_true hc3;apply zd;apply hZ1
 refine rc [2,3,4,6,7] fun K hK=>?_
 obtain⟨r6,hr6,h⟩:=zQ h;refine zi tok 3 ?_;simp only[go_sem,qb,qf,qa,qd,t5];refine clN rfl rfl rfl (xi.ev a0 a1.fMethod r6 hr6 _) ?_;refine zi tok 6 ?_;simp only[go_sem,qb,qf,qa,qd,encGMethod];refine nkN hK ?_;refine rgN [2,3,4,6,7,8] ?_;refine xG (fun L τ=>∃ (x7:List UInt8),L=[(2,.op 0 0 0),(3,.op 1 0 0),(4,.op 2 0 0),(8,.str x7)]∧τ=[.cells 0 (encGSchema a0),.cells 0 (encGPacket a1),.cells 0 [.int .i64 0,.int .i64 0,.int .i64 0,.int .i64 0,.int .i64 0,.str [],.int .i64 0,.str []]]∧yL.j8 a0 a1 x7=some r) ?_ ?_
 · apply ze;refine xG (fun L τ=>∃ (x22:Bool),L=[(2,.op 0 0 0),(3,.op 1 0 0),(4,.op 2 0 0),(6,.op 3 0 0),(8,.str r6.1.fIn),(25,.bool x22)]∧τ=[.cells 0 (encGSchema a0),.cells 0 (encGPacket a1),.cells 0 [.int .i64 0,.int .i64 0,.int .i64 0,.int .i64 0,.int .i64 0,.str [],.int .i64 0,.str []],.cells 0 [.str r6.1.fName,.str r6.1.fIn,.str r6.1.fOut]]∧yL.j23 a0 a1 r6 x22=some r) ?_ ?_
   · refine rgN [2,3,4,6,8,25] ?_;refine zm (b:=(!r6.2)) rfl (fun hc28=>?_) (fun hc28=>?_)
     · rw[if_pos hc28] at h;apply zd;exact⟨_,_,⟨!r6.2,rfl,rfl,h⟩,.s⟩
     rw[xQ hc28] at h
     refine rcE [2,3,4,6,8,25] fun K hK=>?_
     refine rnN 4 ?_;refine zh 9 (fun L τ=>L=[(2,.op 0 0 0),(3,.op 1 0 0),(4,.op 2 0 0),(6,.op 3 0 0),(8,.str r6.1.fIn),(25,.bool (!r6.2)),(40,.bool ((!(decide (a1.fKind=3)))&&((!(decide (a1.fKind=4)))||(!(decide (a1.fErr=0))))))]∧τ=[.cells 0 (encGSchema a0),.cells 0 (encGPacket a1),.cells 0 [.int .i64 0,.int .i64 0,.int .i64 0,.int .i64 0,.int .i64 0,.str [],.int .i64 0,.str []],.cells 0 [.str r6.1.fName,.str r6.1.fIn,.str r6.1.fOut]]) ?_ ?_
     · refine yw 31 rfl (fun hg31=>?_) (fun hg31=>?_)
       · have t29:=eq_false hg31;refine rnN 4 ?_;refine zh 4 (fun L τ=>L=[(2,.op 0 0 0),(3,.op 1 0 0),(4,.op 2 0 0),(6,.op 3 0 0),(8,.str r6.1.fIn),(25,.bool (!r6.2)),(31,.bool true),(39,.bool ((!(decide (a1.fKind=4)))||(!(decide (a1.fErr=0)))))]∧τ=[.cells 0 (encGSchema a0),.cells 0 (encGPacket a1),.cells 0 [.int .i64 0,.int .i64 0,.int .i64 0,.int .i64 0,.int .i64 0,.str [],.int .i64 0,.str []],.cells 0 [.str r6.1.fName,.str r6.1.fIn,.str r6.1.fOut]]) ?_ ?_
         · refine yw 35 rfl (fun hg35=>?_) (fun hg35=>?_)
           · have t30:=eq_false hg35;refine rnN 4 ?_;refine zb ⟨rfl,_,_,⟨rfl,rfl⟩,.p t30⟩
           have t31:=eq_true hg35;refine rnN 4 ?_;refine zb ⟨rfl,_,_,⟨rfl,rfl⟩,.p t31⟩
         rintro _ _ ⟨rfl,rfl⟩;refine rnN 1 ?_;refine zb ⟨rfl,_,_,⟨rfl,rfl⟩,.p t29⟩
       have t32:=eq_true hg31;refine rnN 9 ?_;refine zb ⟨rfl,_,_,⟨rfl,rfl⟩,.p t32⟩
     rintro _ _ ⟨rfl,rfl⟩;refine rnN 1 ?_;refine nkN hK ?_;exact⟨_,_,⟨((!(decide (a1.fKind=3)))&&((!(decide (a1.fKind=4)))||(!(decide (a1.fErr=0))))),rfl,rfl,h⟩,.s⟩
   rintro _ _ ⟨x22,rfl,rfl,h⟩;unfold yL.j23 at h;refine zm (b:=x22) rfl (fun hc24=>?_) (fun hc24=>?_)
   · rw[if_pos hc24] at h;refine rgN [4,5] ?_;cases h;exact rtA
   rw[xQ hc24] at h;refine rgN [2,3,4,6,8,42] ?_;refine zq rfl (fun hc25=>?_) (fun hc25=>?_)
   · rw[if_pos hc25] at h;have t26:=eq_true hc25
     refine rgE tok [2,3,4,8] fun K hK=>?_
     simp only[go_sem,qb,qa,qd,t26];apply hK
     exact⟨_,_,⟨r6.1.fOut,rfl,rfl,h⟩,(.t [0,1,2] false)⟩
   rw[if_neg hc25] at h;have t27:=eq_false hc25;apply zd;exact⟨_,_,⟨r6.1.fIn,rfl,rfl,h⟩,(.t [0,1,2] false)⟩
 rintro _ _ ⟨x7,rfl,rfl,h⟩;unfold yL.j8 at h
 refine rc [3,4,9,10] fun K hK=>?_
 obtain⟨_u9,hu9,h⟩:=bind_some h;have gu9:=wq hu9;have gu9t:=eq_true gu9;have f10:=vbB (T:=tab) (src:=9) (dst:=34) rfl rfl rfl rfl rfl rfl (wq hu9);obtain⟨r11,hr11,h⟩:=bind_some h;refine zi tok 5 ?_;simp only[go_sem,qb,qf,qa,qd,f10];refine Y0 (L:=[(3,.op 0 0 0),(4,.op 1 0 0),(49,.agg (encGSchema a0)),(50,.str x7),(53,.ds true (qe encB a1.fBody) (qc a1.fBody) false)]) (τ:=[.cells 0 (encGPacket a1),.cells 0 [.int .i64 0,.int .i64 0,.int .i64 0,.int .i64 0,.int .i64 0,.str [],.int .i64 0,.str []]]) (.t [1,2] false) ?_;refine clN rfl rfl rfl (xw.ev a0 x7 a1.fBody r11 hr11 _) ?_;refine zi tok 6 ?_;simp only[go_sem,qb,qf,qa,qd,cellsGTree,encGSchema];refine nkN hK ?_
 refine za fun Z12 hZ12=>?_
 refine rgN [3,4,9,58] ?_;refine zq rfl (fun hc13=>?_) (fun hc13=>?_)
 · rw[if_neg hc13] at h;have t14:=eq_false hc13
   refine rg tok [4,5] fun K hK=>?_
   simp only[go_sem,qb,qf,qa,qd,t14];apply hK
   cases h;exact rtA
 rw[if_pos hc13] at h;have t15:=eq_true hc13;apply zd;apply hZ12
 refine rc [3,4,10,11] fun K hK=>?_
 obtain⟨r16,hr16,h⟩:=bind_some h;refine zi tok 1 ?_;simp only[go_sem,qb,qf,qa,qd,t15];refine clN rfl rfl rfl (wd.ev r11.1 r16 hr16 _) ?_;refine rnN 5 ?_;refine nkN hK ?_
 refine za fun Z17 hZ17=>?_
 refine rgN [3,4,11,66] ?_;refine zq rfl (fun hc18=>?_) (fun hc18=>?_)
 · rw[if_neg hc18] at h;have t19:=eq_false hc18
   refine rg tok [4,5] fun K hK=>?_
   simp only[go_sem,qb,qf,qa,qd,t19];apply hK
   cases h;exact rtA
 rw[if_pos hc18] at h;have t20:=eq_true hc18;apply zd;apply hZ17;have f21:=Xt (T:=tab) (src:=34) (dst:=9) rfl rfl rfl rfl rfl rfl r16.1
 refine rg tok [3,4] fun K hK=>?_
 simp only[go_sem,qb,qf,qa,qd,t20,f21];apply hK
 refine rgN [4,5] ?_;cases h;exact rtA
theorem yL.ev (a0:GSchema)(a1:GPacket)(r:GPacket×Bool)(h:yL a0 a1=some r)(σ:Store):ACalls qh 28 [.agg (encGSchema a0),.agg (encGPacket a1)] σ (fun r' σ'=>r'=.tup [.agg (encGPacket r.1),.bool r.2]∧σ'=σ):=
 (yL.ok a0 a1 r h).c σ
def xR  : Option Bool:=
 (yL (⟨[97],[(⟨[109],([]:List GField),([]:List Int)⟩:GMessage)],([]:List GEnumeration),[(⟨[99],[109],[109]⟩:GMethod)]⟩:GSchema) (⟨1,0,0,0,0,[],0,[1]⟩:GPacket)).bind fun r1=>(yL (⟨[97],[(⟨[109],([]:List GField),([]:List Int)⟩:GMessage)],([]:List GEnumeration),[(⟨[99],[109],[109]⟩:GMethod)]⟩:GSchema) (⟨3,0,0,0,0,[99],0,[4,2,2,2]⟩:GPacket)).bind fun r2=>some (((r1.2&&r2.2)&&(decide (r1.1.fBody=[1])))&&(decide (r2.1.fBody=[2,2,4,2])))
theorem xR.ok  (r:Bool)(h:xR=some r):ACalls qh 27 [] [] (fun r' _=>r'=.bool r):=by
 refine zf (rs:=[.tmp 0]) tok Tryz.func27 rfl Tryz.ntmps27 rfl Tryz.call27 (by simp) ?_;refine zk [] trivial ?_;unfold xR at h;refine rgN [] ?_
 refine rg tok [1] fun K hK=>?_
 simp only[go_sem,qb,qf,qa,qd,qt,zC,z7,q3,qT,true_and,ub];apply hK
 refine rc [1,2,3] fun K hK=>?_
 obtain⟨r1,hr1,h⟩:=bind_some h;refine rnN 2 ?_;refine clN rfl rfl rfl (yL.ok (⟨[97],[(⟨[109],([]:List GField),([]:List Int)⟩:GMessage)],([]:List GEnumeration),[(⟨[99],[109],[109]⟩:GMethod)]⟩:GSchema) (⟨1,0,0,0,0,[],0,[1]⟩:GPacket) r1 hr1).ld ?_;refine zi tok 6 ?_;simp only[go_sem,qb,qf,qa,qd,encGPacket];refine nkN hK ?_
 refine rc [2,3,4,5] fun K hK=>?_
 obtain⟨r2,hr2,h⟩:=bind_some h;refine rnN 2 ?_;refine clN rfl rfl rfl (yL.ok (⟨[97],[(⟨[109],([]:List GField),([]:List Int)⟩:GMessage)],([]:List GEnumeration),[(⟨[99],[109],[109]⟩:GMethod)]⟩:GSchema) (⟨3,0,0,0,0,[99],0,[4,2,2,2]⟩:GPacket) r2 hr2).ld ?_;refine zi tok 6 ?_;simp only[go_sem,qb,qf,qa,qd,encGPacket];refine nkN hK ?_
 refine rc [0] fun K hK=>?_
 refine rnN 2 ?_;refine zh 2 (fun L τ=>L=[(2,.op 3 0 0),(4,.op 4 0 0),(26,.bool (r1.2&&r2.2))]∧τ=[.cells 0 [.str [109],.ds true [] 0 true,.ds true [] 0 true],.cells 0 [.str [99],.str [109],.str [109]],.cells 0 [.str [97],.os true 3 0 0 0 1 true,.ds true [] 0 true,.os true 3 1 0 0 1 true],.cells 0 (encGPacket r1.1),.cells 0 (encGPacket r2.1)]) ?_ ?_
 · refine zH (b:=r1.2) 24 rfl (fun hg24=>?_) (fun hg24=>?_)
   · refine rnN 2 ?_;refine zb ⟨rfl,_,_,⟨rfl,rfl⟩,.b hg24⟩
   refine rnN 2 ?_;refine zb ⟨rfl,_,_,⟨rfl,rfl⟩,.b hg24⟩
 rintro _ _ ⟨rfl,rfl⟩;refine rnN 1 ?_;refine zh 4 (fun L τ=>L=[(4,.op 4 0 0),(31,.bool ((r1.2&&r2.2)&&(decide (r1.1.fBody=[1]))))]∧τ=[.cells 0 [.str [109],.ds true [] 0 true,.ds true [] 0 true],.cells 0 [.str [99],.str [109],.str [109]],.cells 0 [.str [97],.os true 3 0 0 0 1 true,.ds true [] 0 true,.os true 3 1 0 0 1 true],.cells 0 (encGPacket r1.1),.cells 0 (encGPacket r2.1)]) ?_ ?_
 · refine zH (b:=(r1.2&&r2.2)) 27 rfl (fun hg27=>?_) (fun hg27=>?_)
   · refine rnN 4 ?_;refine zb ⟨rfl,_,_,⟨rfl,rfl⟩,.b hg27⟩
   refine rnN 4 ?_;refine zb ⟨rfl,_,_,⟨rfl,rfl⟩,.b hg27⟩
 rintro _ _ ⟨rfl,rfl⟩;refine rnN 1 ?_;refine zh 4 (fun L τ=>L=[(36,.bool (((r1.2&&r2.2)&&(decide (r1.1.fBody=[1])))&&(decide (r2.1.fBody=[2,2,4,2]))))]∧τ=[.cells 0 [.str [109],.ds true [] 0 true,.ds true [] 0 true],.cells 0 [.str [99],.str [109],.str [109]],.cells 0 [.str [97],.os true 3 0 0 0 1 true,.ds true [] 0 true,.os true 3 1 0 0 1 true],.cells 0 (encGPacket r1.1),.cells 0 (encGPacket r2.1)]) ?_ ?_
 · refine zH (b:=((r1.2&&r2.2)&&(decide (r1.1.fBody=[1])))) 32 rfl (fun hg32=>?_) (fun hg32=>?_)
   · refine rnN 4 ?_;refine zb ⟨rfl,_,_,⟨rfl,rfl⟩,.b hg32⟩
   refine rnN 4 ?_;refine zb ⟨rfl,_,_,⟨rfl,rfl⟩,.b hg32⟩
 rintro _ _ ⟨rfl,rfl⟩;refine rnN 1 ?_;refine nkN hK ?_;cases h;exact rtA
end
section
set_option maxRecDepth 4000
set_option maxHeartbeats 1000000
open AM
theorem xR.ev  (r:Bool)(h:xR=some r)(σ:Store):ACalls qh 27 [] σ (fun r' σ'=>r'=.bool r∧σ'=σ):=
 (xR.ok  r h).c σ
def xq.l4 (a1:List UInt8):List GMethod→Int→GMethod×Bool
 |[],x2=>((⟨[],[],[]⟩:GMethod),false)
 |y4::q4,x2=>(if y4.fName=a1 then (y4,true) else ((xq.l4 a1 q4) (x2+1)))
def xq (a0:GSchema)(a1:List UInt8):GMethod×Bool:=
 (xq.l4 a1 a0.fMethods 0)
theorem xq.ok (a0:GSchema)(a1:List UInt8)(r:GMethod×Bool)(h:xq a0 a1=r):ACalls qh 34 [.agg (encGSchema a0),.str a1] [] (fun r' _=>r'=.tup [.agg (encGMethod r.1),.bool r.2]):=by
 refine zf (rs:=[.cell 4 75,.tmp 5]) tok Tryz.func34 rfl Tryz.ntmps34 rfl Tryz.call34 (by simp) ?_;refine zk [(0,.agg (encGSchema a0)),(1,.str a1)] ⟨rfl,rfl,trivial⟩ ?_;unfold xq at h
 refine rg tok [1,2,4] fun K hK=>?_
 simp only[go_sem,qb,qa,qd,reduceCtorEq,encGSchema];apply hK
 refine za fun Z1 hZ1=>?_
 refine rgN [1,2,4,6] ?_;apply ze
 refine xh 0 rfl fun hb4=>?_
 replace hb4:qc a0.fMethods≤9223372036854775807:=hb4.2.2.2.1.1;refine zp (fun m L τ=>∃ (p4 q4:List GMethod) (x2:Int),m=qc q4∧L=[(1,.str a1),(2,.op 0 0 0),(4,.op 1 0 0),(6,.int .i64 x2)]∧τ=[.cells 0 (encGSchema a0),.cells 0 [.str [],.str [],.str []]]∧a0.fMethods=p4++q4∧x2=(qc p4:Int)∧xq.l4 a1 q4 x2=r) _ ⟨[],a0.fMethods,0,rfl,rfl,rfl,rfl,rfl,h⟩ .s ?_;rintro m L τ ⟨p4,q4,x2,rfl,rfl,rfl,hE4,hi4,h⟩
 rcases q4 with _|⟨y4,q4⟩
 · have hz4:=yl hE4 hi4;simp only[xq.l4] at h
   refine za fun Z5 hZ5=>?_
   refine rg tok [1,2,4,6,11] fun K hK=>?_
   simp only[go_sem,qb,qa,qd,hz4];apply hK
   refine zn rfl ?_;apply zr;apply hZ1;refine rgN [4,5] ?_;cases h;exact rtA
 obtain⟨hz4,hw4,hx4,hE'4,hi'4⟩:=zV hE4 hi4 hb4;simp only[xq.l4] at h
 refine za fun Z6 hZ6=>?_
 refine rg tok [1,2,4,6,11] fun K hK=>?_
 simp only[go_sem,qb,qa,qd,hz4];apply hK
 refine zo rfl ?_;apply zd;apply hZ6
 refine za fun Z7 hZ7=>?_
 apply ze;have f8:=E24.idxS hx4;have f9:=E24.fldS0 (f:=9) rfl rfl hx4
 refine rg tok [1,2,4,6,21] fun K hK=>?_
 simp only[go_sem,qb,qa,qd,encGMethod,f8,f9];apply hK
 refine zq rfl (fun hc10=>?_) (fun hc10=>?_)
 · rw[if_pos hc10] at h;have t11:=eq_true hc10;have f12:=E24.idxS hx4;have f13:=E24.loadS rfl rfl hx4
   refine rg tok [4,5] fun K hK=>?_
   simp only[go_sem,qb,qf,qa,qd,encGMethod,t11,f12,f13];apply hK
   cases h;exact rtA
 rw[if_neg hc10] at h;have t14:=eq_false hc10;apply zd;apply hZ7
 refine rgE tok [1,2,4,6] fun K hK=>?_
 simp only[go_sem,qb,qa,hw4,t14];apply hK
 exact⟨_,_,_,qp q4.length,⟨p4++[y4],q4,x2+1,rfl,rfl,rfl,hE'4,hi'4,h⟩,.s⟩
theorem xq.ev (a0:GSchema)(a1:List UInt8)(r:GMethod×Bool)(h:xq a0 a1=r)(σ:Store):ACalls qh 34 [.agg (encGSchema a0),.str a1] σ (fun r' σ'=>r'=.tup [.agg (encGMethod r.1),.bool r.2]∧σ'=σ):=
 (xq.ok a0 a1 r h).c σ
def xV (a0:GTree):Option (List UInt8×Int):=
 (if a0.fKind=3 then (wS a0).bind fun r2=>some (!r2) else some true).bind fun c2=>(if c2=true then some (([]:List UInt8),1) else (yQ rounds a0).bind fun r7=>some (r7.1,r7.2))
theorem xV.ok (a0:GTree)(r:List UInt8×Int)(h:xV a0=some r):ACalls qh 30 [.agg (cellsGTree a0)] [] (fun r' _=>r'=.tup [.ds true (qe encB r.1) (qc r.1) false,.int .i64 r.2]):=by
 refine zf (rs:=[.tmp 2,.tmp 3]) tok Tryz.func30 rfl Tryz.ntmps30 rfl Tryz.call30 (by simp) ?_;refine zk [(0,.agg (cellsGTree a0))] ⟨rfl,trivial⟩ ?_;unfold xV at h
 refine rg tok [1] fun K hK=>?_
 simp only[go_sem,qb,qa,qd,reduceCtorEq,cellsGTree];apply hK
 refine za fun Z1 hZ1=>?_
 refine rc [1,11] fun K hK=>?_
 refine rnN 4 ?_;obtain⟨c2,hc2,h⟩:=bind_some h;refine zh 4 (fun L τ=>L=[(1,.op 0 0 0),(11,.bool c2)]∧τ=[.cells 0 (cellsGTree a0)]) ?_ ?_
 · refine yw 7 rfl (fun hg7=>?_) (fun hg7=>?_)
   · have t3:=eq_false hg7;rw[if_neg hg7] at hc2;refine rnN 4 ?_;cases hc2;refine zb ⟨rfl,_,_,⟨rfl,rfl⟩,.p t3⟩
   have t4:=eq_true hg7;rw[if_pos hg7] at hc2;obtain⟨r5,hr5,hc2⟩:=bind_some hc2;refine rnN 1 ?_;refine clN rfl rfl rfl (wS.ev a0 r5 hr5 _) ?_;refine rnN 2 ?_;cases hc2;refine zb ⟨rfl,_,_,⟨rfl,rfl⟩,.p t4⟩
 rintro _ _ ⟨rfl,rfl⟩;refine nkN hK ?_;refine zm (b:=c2) rfl (fun hc6=>?_) (fun hc6=>?_)
 · rw[if_pos hc6] at h;refine rgN [2,3] ?_;cases h;exact rtA
 rw[xQ hc6] at h;apply zd;apply hZ1
 refine rc [2,3] fun K hK=>?_
 obtain⟨r7,hr7,h⟩:=bind_some h;refine rnN 1 ?_;refine clN rfl rfl rfl (yQ.ev rounds a0 r7 hr7 _) ?_;refine rnN 4 ?_;refine nkN hK ?_;cases h;exact rtA
theorem xV.ev (a0:GTree)(r:List UInt8×Int)(h:xV a0=some r)(σ:Store):ACalls qh 30 [.agg (cellsGTree a0)] σ (fun r' σ'=>r'=.tup [.ds true (qe encB r.1) (qc r.1) false,.int .i64 r.2]∧σ'=σ):=
 (xV.ok a0 r h).c σ
def xB.j8 (a0:GSchema)(a1:GPacket)(r6:GMethod×Bool)(x7:List UInt8):Option (GPacket×Bool):=
 (if ((!r6.2)||((!(decide (a1.fKind=3)))&&((!(decide (a1.fKind=4)))||(!(decide (a1.fErr=0))))))=true then some (a1,true) else (grd (qc a1.fBody≤9223372036854775807)).bind fun _u15=>(wy a0 x7 a1.fBody).bind fun r17=>(if r17.2=0 then (xV r17.1).bind fun r22=>(if r22.2=0 then some ((⟨a1.fKind,a1.fFrom,a1.fTo,a1.fID,a1.fVersion,a1.fMethod,a1.fErr,r22.1⟩:GPacket),true) else some ((⟨0,0,0,0,0,[],0,[]⟩:GPacket),false)) else some ((⟨0,0,0,0,0,[],0,[]⟩:GPacket),false)))
def xB (a0:GSchema)(a1:GPacket):Option (GPacket×Bool):=
 (yZ a0).bind fun r2=>(if r2=0 then bnd (xq a0 a1.fMethod) fun r6=>(if a1.fKind=4 then (xB.j8 a0 a1 r6 r6.1.fOut) else (xB.j8 a0 a1 r6 r6.1.fIn)) else some ((⟨0,0,0,0,0,[],0,[]⟩:GPacket),false))
theorem xB.ok (a0:GSchema)(a1:GPacket)(r:GPacket×Bool)(h:xB a0 a1=some r):ACalls qh 29 [.agg (encGSchema a0),.agg (encGPacket a1)] [] (fun r' _=>r'=.tup [.agg (encGPacket r.1),.bool r.2]):=by
 refine zf (rs:=[.cell 4 66,.tmp 5]) tok Tryz.func29 rfl Tryz.ntmps29 rfl Tryz.call29 (by simp) ?_;refine zk [(0,.agg (encGSchema a0)),(1,.agg (encGPacket a1))] ⟨rfl,rfl,trivial⟩ ?_;unfold xB at h
 refine rg tok [2,3,4] fun K hK=>?_
 simp only[go_sem,qb,qa,qd,reduceCtorEq,encGPacket,encGSchema];apply hK
 refine za fun Z1 hZ1=>?_
 refine rc [2,3,4,14] fun K hK=>?_
 obtain⟨r2,hr2,h⟩:=bind_some h;refine rnN 1 ?_;refine clN rfl rfl rfl (yZ.ev a0 r2 hr2 _) ?_;refine rnN 1 ?_;refine nkN hK ?_;refine zq rfl (fun hc3=>?_) (fun hc3=>?_)
 · rw[if_neg hc3] at h;have t4:=eq_false hc3
   refine rg tok [4,5] fun K hK=>?_
   simp only[go_sem,qb,qf,qa,qd,t4];apply hK
   cases h;exact rtA
 rw[if_pos hc3] at h;have t5:=eq_true hc3;apply zd;apply hZ1
 refine rc [2,3,4,6,7] fun K hK=>?_
 obtain⟨r6,hr6,h⟩:=zQ h;refine zi tok 3 ?_;simp only[go_sem,qb,qf,qa,qd,t5];refine clN rfl rfl rfl (xq.ev a0 a1.fMethod r6 hr6 _) ?_;refine zi tok 6 ?_;simp only[go_sem,qb,qf,qa,qd,encGMethod];refine nkN hK ?_;refine rgN [2,3,4,6,7,8] ?_;refine xG (fun L τ=>∃ (x7:List UInt8),L=[(2,.op 0 0 0),(3,.op 1 0 0),(4,.op 2 0 0),(7,.bool r6.2),(8,.str x7)]∧τ=[.cells 0 (encGSchema a0),.cells 0 (encGPacket a1),.cells 0 [.int .i64 0,.int .i64 0,.int .i64 0,.int .i64 0,.int .i64 0,.str [],.int .i64 0,.str []]]∧xB.j8 a0 a1 r6 x7=some r) ?_ ?_
 · refine rgN [2,3,4,6,7,8,27] ?_;refine zq rfl (fun hc28=>?_) (fun hc28=>?_)
   · rw[if_pos hc28] at h;have t29:=eq_true hc28
     refine rgE tok [2,3,4,7,8] fun K hK=>?_
     simp only[go_sem,qb,qa,qd,t29];apply hK
     exact⟨_,_,⟨r6.1.fOut,rfl,rfl,h⟩,(.t [0,1,2] false)⟩
   rw[if_neg hc28] at h;have t30:=eq_false hc28;apply zd;exact⟨_,_,⟨r6.1.fIn,rfl,rfl,h⟩,(.t [0,1,2] false)⟩
 rintro _ _ ⟨x7,rfl,rfl,h⟩;unfold xB.j8 at h
 refine za fun Z9 hZ9=>?_
 refine rc [2,3,4,8,46] fun K hK=>?_
 refine rnN 3 ?_;refine zh 14 (fun L τ=>L=[(2,.op 0 0 0),(3,.op 1 0 0),(4,.op 2 0 0),(8,.str x7),(46,.bool ((!r6.2)||((!(decide (a1.fKind=3)))&&((!(decide (a1.fKind=4)))||(!(decide (a1.fErr=0)))))))]∧τ=[.cells 0 (encGSchema a0),.cells 0 (encGPacket a1),.cells 0 [.int .i64 0,.int .i64 0,.int .i64 0,.int .i64 0,.int .i64 0,.str [],.int .i64 0,.str []]]) ?_ ?_
 · refine zH (b:=(!r6.2)) 32 rfl (fun hg32=>?_) (fun hg32=>?_)
   · refine rnN 10 ?_;refine rnN 4 ?_;refine zb ⟨rfl,_,_,⟨rfl,rfl⟩,.b hg32⟩
   refine rnN 4 ?_;refine zh 9 (fun L τ=>L=[(2,.op 0 0 0),(3,.op 1 0 0),(4,.op 2 0 0),(8,.str x7),(32,.bool false),(45,.bool ((!(decide (a1.fKind=3)))&&((!(decide (a1.fKind=4)))||(!(decide (a1.fErr=0))))))]∧τ=[.cells 0 (encGSchema a0),.cells 0 (encGPacket a1),.cells 0 [.int .i64 0,.int .i64 0,.int .i64 0,.int .i64 0,.int .i64 0,.str [],.int .i64 0,.str []]]) ?_ ?_
   · refine yw 36 rfl (fun hg36=>?_) (fun hg36=>?_)
     · have t10:=eq_false hg36;refine rnN 4 ?_;refine zh 4 (fun L τ=>L=[(2,.op 0 0 0),(3,.op 1 0 0),(4,.op 2 0 0),(8,.str x7),(32,.bool false),(36,.bool true),(44,.bool ((!(decide (a1.fKind=4)))||(!(decide (a1.fErr=0)))))]∧τ=[.cells 0 (encGSchema a0),.cells 0 (encGPacket a1),.cells 0 [.int .i64 0,.int .i64 0,.int .i64 0,.int .i64 0,.int .i64 0,.str [],.int .i64 0,.str []]]) ?_ ?_
       · refine yw 40 rfl (fun hg40=>?_) (fun hg40=>?_)
         · have t11:=eq_false hg40;refine rnN 4 ?_;refine zb ⟨rfl,_,_,⟨rfl,rfl⟩,.p t11⟩
         have t12:=eq_true hg40;refine rnN 4 ?_;refine zb ⟨rfl,_,_,⟨rfl,rfl⟩,.p t12⟩
       rintro _ _ ⟨rfl,rfl⟩;refine rnN 1 ?_;refine zb ⟨rfl,_,_,⟨rfl,rfl⟩,.p t10⟩
     have t13:=eq_true hg36;refine rnN 9 ?_;refine zb ⟨rfl,_,_,⟨rfl,rfl⟩,.p t13⟩
   rintro _ _ ⟨rfl,rfl⟩;refine rnN 1 ?_;refine zb ⟨rfl,_,_,⟨rfl,rfl⟩,.b hg32⟩
 rintro _ _ ⟨rfl,rfl⟩;refine nkN hK ?_;refine zm (b:=((!r6.2)||((!(decide (a1.fKind=3)))&&((!(decide (a1.fKind=4)))||(!(decide (a1.fErr=0))))))) rfl (fun hc14=>?_) (fun hc14=>?_)
 · rw[if_pos hc14] at h;refine rgN [4,5] ?_;cases h;exact rtA
 rw[xQ hc14] at h;apply zd;apply hZ9
 refine rc [3,4,9,10] fun K hK=>?_
 obtain⟨_u15,hu15,h⟩:=bind_some h;have gu15:=wq hu15;have gu15t:=eq_true gu15;have f16:=vbB (T:=tab) (src:=9) (dst:=34) rfl rfl rfl rfl rfl rfl (wq hu15);obtain⟨r17,hr17,h⟩:=bind_some h;refine zi tok 5 ?_;simp only[go_sem,qb,qf,qa,qd,f16];refine Y0 (L:=[(3,.op 0 0 0),(4,.op 1 0 0),(49,.agg (encGSchema a0)),(50,.str x7),(53,.ds true (qe encB a1.fBody) (qc a1.fBody) false)]) (τ:=[.cells 0 (encGPacket a1),.cells 0 [.int .i64 0,.int .i64 0,.int .i64 0,.int .i64 0,.int .i64 0,.str [],.int .i64 0,.str []]]) (.t [1,2] false) ?_;refine clN rfl rfl rfl (wy.ev a0 x7 a1.fBody r17 hr17 _) ?_;refine zi tok 6 ?_;simp only[go_sem,qb,qf,qa,qd,cellsGTree,encGSchema];refine nkN hK ?_
 refine za fun Z18 hZ18=>?_
 refine rgN [3,4,9,58] ?_;refine zq rfl (fun hc19=>?_) (fun hc19=>?_)
 · rw[if_neg hc19] at h;have t20:=eq_false hc19
   refine rg tok [4,5] fun K hK=>?_
   simp only[go_sem,qb,qf,qa,qd,t20];apply hK
   cases h;exact rtA
 rw[if_pos hc19] at h;have t21:=eq_true hc19;apply zd;apply hZ18
 refine rc [3,4,10,11] fun K hK=>?_
 obtain⟨r22,hr22,h⟩:=bind_some h;refine zi tok 1 ?_;simp only[go_sem,qb,qf,qa,qd,t21];refine clN rfl rfl rfl (xV.ev r17.1 r22 hr22 _) ?_;refine rnN 5 ?_;refine nkN hK ?_
 refine za fun Z23 hZ23=>?_
 refine rgN [3,4,11,66] ?_;refine zq rfl (fun hc24=>?_) (fun hc24=>?_)
 · rw[if_neg hc24] at h;have t25:=eq_false hc24
   refine rg tok [4,5] fun K hK=>?_
   simp only[go_sem,qb,qf,qa,qd,t25];apply hK
   cases h;exact rtA
 rw[if_pos hc24] at h;have t26:=eq_true hc24;apply zd;apply hZ23;have f27:=Xt (T:=tab) (src:=34) (dst:=9) rfl rfl rfl rfl rfl rfl r22.1
 refine rg tok [3,4] fun K hK=>?_
 simp only[go_sem,qb,qf,qa,qd,t26,f27];apply hK
 refine rgN [4,5] ?_;cases h;exact rtA
theorem xB.ev (a0:GSchema)(a1:GPacket)(r:GPacket×Bool)(h:xB a0 a1=some r)(σ:Store):ACalls qh 29 [.agg (encGSchema a0),.agg (encGPacket a1)] σ (fun r' σ'=>r'=.tup [.agg (encGPacket r.1),.bool r.2]∧σ'=σ):=
 (xB.ok a0 a1 r h).c σ
def yE.l8 : List GSchema→Int→List GSchema→Option (List GSchema)
 |[],x4,l2=>some l2
 |y8::q8,x4,l2=>(yo y8).bind fun r14=>(Yg (qc l2+1) 88).bind fun _u15=>((yE.l8 q8) (x4+1) (l2++[r14]))
def yE (a0:List GSchema):Option (List GSchema):=
 (yE.l8 a0 0 ([]:List GSchema))
theorem yE.own (a0:List GSchema)(r:List GSchema)(h:yE a0=some r):ACalls qh 32 [.ds true (qe encGSchema a0) (qc a0) false] [] (fun r' σ'=>r'=.os true 4 0 0 0 (qc r) false∧σ'=[.cells 0 (qe encGSchema r)]):=by
 refine ACalls.own0 (by simp only[push_cast]) ?_;refine ZM (rs:=[.tmp 2]) tok Tryz.func32 rfl Tryz.ntmps32 rfl Tryz.call32 (by simp) ?_;refine zk [(0,.ds true (qe encGSchema a0) (qc a0) false)] ⟨rfl,trivial⟩ ?_;unfold yE at h;refine rgN [0] ?_;refine rgN [0,3] ?_;refine wN 3 4 rfl ?_;refine zU (L:=[(0,.ds true (qe encGSchema a0) (qc a0) false),(3,.os true 4 0 0 0 (qc ([]:List GSchema)) false)]) (τ:=[.cells 0 (qe encGSchema ([]:List GSchema))]) .s ?_
 refine za fun Z1 hZ1=>?_
 refine rgN [0,3,4] ?_;apply ze
 refine yP 0 fun hb8=>?_
 replace hb8:qc a0≤9223372036854775807:=hb8.1;refine zp (fun m L τ=>∃ (p8 q8:List GSchema) (x4:Int) (l2:List GSchema) (v3:Nat),m=qc q8∧L=[(0,.ds true (qe encGSchema a0) (qc a0) false),(3,.os true 4 0 v3 0 (qc l2) false),(4,.int .i64 x4)]∧τ=[.cells v3 (qe encGSchema l2)]∧a0=p8++q8∧x4=(qc p8:Int)∧yE.l8 q8 x4 l2=some r) _ ⟨[],a0,0,([]:List GSchema),0,rfl,rfl,rfl,rfl,rfl,h⟩ .s ?_;rintro m L τ ⟨p8,q8,x4,l2,v3,rfl,rfl,rfl,hE8,hi8,h⟩
 rcases q8 with _|⟨y8,q8⟩
 · have hz8:=yl hE8 hi8;simp only[yE.l8] at h
   refine za fun Z9 hZ9=>?_
   refine rg tok [0,3,4,8] fun K hK=>?_
   simp only[go_sem,qb,qa,reduceCtorEq,hz8];apply hK
   refine zn rfl ?_;apply zr;apply hZ1;refine rgN [2] ?_;apply yz;cases h;simp only[ZL,yT,xd,xZ,exists_eq_left',go_sem];refine⟨0,v3,by simp,?_,?_⟩
   · first|rfl|(simp only[go_sem,qb,qf,qa,qd,qt,qK,reduceIte,reduceCtorEq,push_cast,if_true,qC,qq,qE,qw,qD,qP,qZ,qV,qX,qQ,qy,zP,encGSchema]<;>rfl)
   first|rfl|(simp only[go_sem,push_cast,qw,zP]<;>rfl)
 obtain⟨hz8,hw8,hx8,hE'8,hi'8⟩:=zV hE8 hi8 hb8;simp only[yE.l8] at h
 refine za fun Z10 hZ10=>?_
 refine rg tok [0,3,4,8] fun K hK=>?_
 simp only[go_sem,qb,qa,reduceCtorEq,hz8];apply hK
 refine zo rfl ?_;apply zd;apply hZ10
 refine za fun Z11 hZ11=>?_
 apply ze
 refine rcE [0,3,4] fun K hK=>?_
 have f12:=E70.idxS hx8;have f13:=E70.loadS rfl rfl hx8;obtain⟨r14,hr14,h⟩:=bind_some h;refine zi tok 5 ?_;simp only[go_sem,qb,qa,reduceCtorEq,encGSchema,f12,f13];refine clN rfl rfl rfl (yo.ev y8 r14 hr14 _) ?_;obtain⟨_u15,hu15,h⟩:=bind_some h;have gu15:=yf hu15;have f16:=(zt E70.len l2);refine zi tok 3 ?_;simp only[go_sem,qb,qf,qa,qd,qt,reduceCtorEq,zC,z7,q3,qT,true_and,ub,z6,zJ,ym,encGSchema,gu15,f16,yJ,uc,qY,AV.one,qR,qx,qj,ql,qq,qH];refine nkN hK ?_;apply hZ11
 refine rgE tok [0,3,4] fun K hK=>?_
 simp only[go_sem,qb,qa,reduceCtorEq,hw8];apply hK
 exact⟨_,_,_,qp q8.length,⟨p8++[y8],q8,x4+1,l2++[r14],v3+1,rfl,rfl,rfl,hE'8,hi'8,h⟩,(.t [0] false)⟩
theorem yE.ok (a0:List GSchema)(r:List GSchema)(h:yE a0=some r):ACalls qh 32 [.ds true (qe encGSchema a0) (qc a0) false] [] (fun r' _=>r'=.ds true (qe encGSchema r) (qc r) false):=
 (yE.own a0 r h).ownData (zt E70.len r) (by simp only[push_cast])
theorem yE.ev (a0:List GSchema)(r:List GSchema)(h:yE a0=some r)(σ:Store):ACalls qh 32 [.ds true (qe encGSchema a0) (qc a0) false] σ (fun r' σ'=>r'=.ds true (qe encGSchema r) (qc r) false∧σ'=σ):=
 (yE.ok a0 r h).c σ
def y0.j3 (m0_1:GPacket)(x2:Bool):Option (GPacket×Bool):=
 some (m0_1,x2)
def y0.l10 : List GSchema→Int→GPacket→Bool→Option (GPacket×Bool)
 |[],x6,m0_4,x5=>(y0.j3 m0_4 x5)
 |y10::q10,x6,m0_4,x5=>(yL y10 m0_4).bind fun r16=>(if (!r16.2)=true then (y0.j3 r16.1 r16.2) else ((y0.l10 q10) (x6+1) r16.1 r16.2))
def y0 (a0:List GSchema)(a1:GPacket):Option (GPacket×Bool):=
 (y0.l10 a0 0 a1 true)
theorem y0.ok (a0:List GSchema)(a1:GPacket)(r:GPacket×Bool)(h:y0 a0 a1=some r):ACalls qh 31 [.ds true (qe encGSchema a0) (qc a0) false,.agg (encGPacket a1)] [] (fun r' _=>r'=.tup [.agg (encGPacket r.1),.bool r.2]):=by
 refine zf (rs:=[.cell 4 66,.tmp 5]) tok Tryz.func31 rfl Tryz.ntmps31 rfl Tryz.call31 (by simp) ?_;refine zk [(0,.ds true (qe encGSchema a0) (qc a0) false),(1,.agg (encGPacket a1))] ⟨rfl,rfl,trivial⟩ ?_;unfold y0 at h
 refine rg tok [0,3,4] fun K hK=>?_
 simp only[go_sem,qb,qa,qd,reduceCtorEq,encGPacket];apply hK
 refine awp_scope ?_;refine rgN [0,3,4,6] ?_
 refine za fun K hK=>awp_label ?_
 apply hK
 refine xG (fun L τ=>∃ (m0_1:GPacket) (x2:Bool),L=[(3,.op 0 0 0),(4,.op 1 0 0),(6,.bool x2)]∧τ=[.cells 0 (encGPacket m0_1),.cells 0 [.int .i64 0,.int .i64 0,.int .i64 0,.int .i64 0,.int .i64 0,.str [],.int .i64 0,.str []]]∧y0.j3 m0_1 x2=some r) ?_ ?_
 · refine rgN [3,4,6,9,10,11] ?_;apply ze
   refine yP 9 fun hb10=>?_
   replace hb10:qc a0≤9223372036854775807:=hb10.1;refine zp (fun m L τ=>∃ (p10 q10:List GSchema) (x6:Int) (m0_4:GPacket) (x5:Bool),m=qc q10∧L=[(3,.op 0 0 0),(4,.op 1 0 0),(6,.bool x5),(9,.ds true (qe encGSchema a0) (qc a0) false),(10,.int .i64 (qc a0:Int)),(11,.int .i64 x6)]∧τ=[.cells 0 (encGPacket m0_4),.cells 0 [.int .i64 0,.int .i64 0,.int .i64 0,.int .i64 0,.int .i64 0,.str [],.int .i64 0,.str []]]∧a0=p10++q10∧x6=(qc p10:Int)∧y0.l10 q10 x6 m0_4 x5=some r) _ ⟨[],a0,0,a1,true,rfl,rfl,rfl,rfl,rfl,h⟩ .s ?_;rintro m L τ ⟨p10,q10,x6,m0_4,x5,rfl,rfl,rfl,hE10,hi10,h⟩
   rcases q10 with _|⟨y10,q10⟩
   · have hz10:=yl hE10 hi10;simp only[y0.l10] at h
     refine rg tok [3,4,6,9,10,11,12] fun K hK=>?_
     simp only[go_sem,qb,qa,hz10];apply hK
     refine za fun Z11 hZ11=>?_
     refine zn rfl ?_;apply zr;exact⟨_,_,⟨m0_4,x5,rfl,rfl,h⟩,.s⟩
   obtain⟨hz10,hw10,hx10,hE'10,hi'10⟩:=zV hE10 hi10 hb10;simp only[y0.l10] at h
   refine rg tok [3,4,6,9,10,11,12] fun K hK=>?_
   simp only[go_sem,qb,qa,hz10];apply hK
   refine za fun Z12 hZ12=>?_
   refine zo rfl ?_;apply zd;apply hZ12
   refine za fun Z13 hZ13=>?_
   apply ze;have f14:=E70.idxS hx10;have f15:=E70.loadS rfl rfl hx10
   refine rg tok [3,4,8,9,10,11] fun K hK=>?_
   simp only[go_sem,qb,qf,qa,qd,encGSchema,f14,f15];apply hK
   refine rc [3,4,6,9,10,11] fun K hK=>?_
   obtain⟨r16,hr16,h⟩:=bind_some h;refine zi tok 2 ?_;simp only[go_sem,qb,qf,qa,qd,encGPacket];refine clN rfl rfl rfl (yL.ev y10 m0_4 r16 hr16 _) ?_;refine zi tok 5 ?_;simp only[go_sem,qb,qf,qa,qd,encGPacket];refine nkN hK ?_;refine rgN [3,4,6,9,10,11,22] ?_;refine zm (b:=(!r16.2)) rfl (fun hc17=>?_) (fun hc17=>?_)
   · rw[if_pos hc17] at h;apply zr;exact⟨_,_,⟨r16.1,r16.2,rfl,rfl,h⟩,(.t [0,1] false)⟩
   rw[xQ hc17] at h;apply zd;apply hZ13
   refine rgE tok [3,4,6,9,10,11] fun K hK=>?_
   simp only[go_sem,qb,qa,hw10];apply hK
   exact⟨_,_,_,qp q10.length,⟨p10++[y10],q10,x6+1,r16.1,r16.2,rfl,rfl,rfl,hE'10,hi'10,h⟩,(.t [0,1] false)⟩
 rintro _ _ ⟨m0_1,x2,rfl,rfl,h⟩;unfold y0.j3 at h;refine rgN [4,5] ?_;cases h;exact rtA
theorem y0.ev (a0:List GSchema)(a1:GPacket)(r:GPacket×Bool)(h:y0 a0 a1=some r)(σ:Store):ACalls qh 31 [.ds true (qe encGSchema a0) (qc a0) false,.agg (encGPacket a1)] σ (fun r' σ'=>r'=.tup [.agg (encGPacket r.1),.bool r.2]∧σ'=σ):=
 (y0.ok a0 a1 r h).c σ
def law25_ProxyTrees.l24 (r18:GPacket×Bool):List GSchema→Int→GPacket→Option Bool
 |[],x21,m0_20=>(if (r18.2&&(decide (r18.1.fKind=m0_20.fKind)&&(decide (r18.1.fFrom=m0_20.fFrom)&&(decide (r18.1.fTo=m0_20.fTo)&&(decide (r18.1.fID=m0_20.fID)&&(decide (r18.1.fVersion=m0_20.fVersion)&&(decide (r18.1.fMethod=m0_20.fMethod)&&(decide (r18.1.fErr=m0_20.fErr)&&decide (r18.1.fBody=m0_20.fBody)))))))))=true then (xR).bind fun r26=>some r26 else some false).bind fun c26=>some c26
 |y24::q24,x21,m0_20=>(xB y24 m0_20).bind fun r32=>(if (!r32.2)=true then (if ((!r18.2)&&(decide (r18.1.fKind=0)&&(decide (r18.1.fFrom=0)&&(decide (r18.1.fTo=0)&&(decide (r18.1.fID=0)&&(decide (r18.1.fVersion=0)&&(decide (r18.1.fMethod=[])&&(decide (r18.1.fErr=0)&&decide (r18.1.fBody=[])))))))))=true then (xR).bind fun r35=>some r35 else some false).bind fun c35=>some c35 else ((law25_ProxyTrees.l24 r18 q24) (x21+1) r32.1))
def law25_ProxyTrees.j16 (a0:List GSchema)(m0_15:GPacket):Option Bool:=
 (yE a0).bind fun r17=>(y0 r17 m0_15).bind fun r18=>(law25_ProxyTrees.l24 r18 a0 0 m0_15)
def law25_ProxyTrees.l11 (a0:List GSchema)(a1:List UInt8)(a2:Bool)(a3:GTree):List GSchema→Int→Option Bool
 |[],x9=>(xV a3).bind fun r13=>(if a2=true then (law25_ProxyTrees.j16 a0 (⟨4,0,0,0,0,a1,0,r13.1⟩:GPacket)) else (law25_ProxyTrees.j16 a0 (⟨3,0,0,0,0,a1,0,r13.1⟩:GPacket)))
 |y11::q11,x9=>(zK y11).bind fun r42=>(if (!r42)=true then (xR).bind fun r44=>some r44 else ((law25_ProxyTrees.l11 a0 a1 a2 a3 q11) (x9+1)))
def law25_ProxyTrees (a0:List GSchema)(a1:List UInt8)(a2:Bool)(a3:GTree):Option Bool:=
 (if 5<(qc a0:Int) then some true else (wU a3).bind fun r2=>some (!r2)).bind fun c2=>(if c2=true then (xR).bind fun r7=>some r7 else (law25_ProxyTrees.l11 a0 a1 a2 a3 a0 0))
theorem law25_ProxyTrees.ok (a0:List GSchema)(a1:List UInt8)(a2:Bool)(a3:GTree)(r:Bool)(h:law25_ProxyTrees a0 a1 a2 a3=some r):ACalls qh 8 [.ds true (qe encGSchema a0) (qc a0) false,.str a1,.bool a2,.agg (cellsGTree a3)] [] (fun r' _=>r'=.bool r):=by
 refine zf (rs:=[.tmp 8]) tok Tryz.func8 rfl Tryz.ntmps8 rfl Tryz.call8 (by simp) ?_;refine zk [(0,.ds true (qe encGSchema a0) (qc a0) false),(1,.str a1),(2,.bool a2),(3,.agg (cellsGTree a3))] ⟨rfl,rfl,rfl,rfl,trivial⟩ ?_;unfold law25_ProxyTrees at h
 refine rg tok [0,1,2,7] fun K hK=>?_
 simp only[go_sem,qb,qa,qd,reduceCtorEq,cellsGTree];apply hK
 refine za fun Z1 hZ1=>?_
 refine rc [0,1,2,7,25] fun K hK=>?_
 refine rnN 4 ?_;obtain⟨c2,hc2,h⟩:=bind_some h;refine zh 4 (fun L τ=>L=[(0,.ds true (qe encGSchema a0) (qc a0) false),(1,.str a1),(2,.bool a2),(7,.op 0 0 0),(25,.bool c2)]∧τ=[.cells 0 (cellsGTree a3)]) ?_ ?_
 · refine yw 21 rfl (fun hg21=>?_) (fun hg21=>?_)
   · have t3:=eq_true hg21;rw[if_pos hg21] at hc2;refine rnN 4 ?_;cases hc2;refine zb ⟨rfl,_,_,⟨rfl,rfl⟩,.p t3⟩
   have t4:=eq_false hg21;rw[if_neg hg21] at hc2;obtain⟨r5,hr5,hc2⟩:=bind_some hc2;refine rnN 1 ?_;refine clN rfl rfl rfl (wU.ev a3 r5 hr5 _) ?_;refine rnN 2 ?_;cases hc2;refine zb ⟨rfl,_,_,⟨rfl,rfl⟩,.p t4⟩
 rintro _ _ ⟨rfl,rfl⟩;refine nkN hK ?_;refine zm (b:=c2) rfl (fun hc6=>?_) (fun hc6=>?_)
 · rw[if_pos hc6] at h
   refine rc [8] fun K hK=>?_
   obtain⟨r7,hr7,h⟩:=bind_some h;refine clN rfl rfl rfl (xR.ev  r7 hr7 _) ?_;refine rnN 1 ?_;refine nkN hK ?_;cases h;exact rtA
 rw[xQ hc6] at h;apply zd;apply hZ1
 refine za fun Z8 hZ8=>?_
 refine rgN [0,1,2,7,9] ?_;apply ze
 refine yP 0 fun hb11=>?_
 replace hb11:qc a0≤9223372036854775807:=hb11.1;refine zp (fun m L τ=>∃ (p11 q11:List GSchema) (x9:Int),m=qc q11∧L=[(0,.ds true (qe encGSchema a0) (qc a0) false),(1,.str a1),(2,.bool a2),(7,.op 0 0 0),(9,.int .i64 x9)]∧τ=[.cells 0 (cellsGTree a3)]∧a0=p11++q11∧x9=(qc p11:Int)∧law25_ProxyTrees.l11 a0 a1 a2 a3 q11 x9=some r) _ ⟨[],a0,0,rfl,rfl,rfl,rfl,rfl,h⟩ .s ?_;rintro m L τ ⟨p11,q11,x9,rfl,rfl,rfl,hE11,hi11,h⟩
 rcases q11 with _|⟨y11,q11⟩
 · have hz11:=yl hE11 hi11;simp only[law25_ProxyTrees.l11] at h
   refine za fun Z12 hZ12=>?_
   refine rg tok [0,1,2,7,9,30] fun K hK=>?_
   simp only[go_sem,qb,qa,reduceCtorEq,hz11];apply hK
   refine zn rfl ?_;apply zr;apply hZ8
   refine rc [0,1,2,10] fun K hK=>?_
   obtain⟨r13,hr13,h⟩:=bind_some h;refine rnN 1 ?_;refine clN rfl rfl rfl (xV.ev a3 r13 hr13 _) ?_;refine rnN 5 ?_;refine nkN hK ?_;have f14:=Xt (T:=tab) (src:=34) (dst:=9) rfl rfl rfl rfl rfl rfl r13.1
   refine rg tok [0,2,12] fun K hK=>?_
   simp only[go_sem,qb,qf,qa,qd,reduceCtorEq,f14];apply hK
   refine xG (fun L τ=>∃ (m0_15:GPacket),L=[(0,.ds true (qe encGSchema a0) (qc a0) false),(12,.op 0 0 0)]∧τ=[.cells 0 (encGPacket m0_15)]∧law25_ProxyTrees.j16 a0 m0_15=some r) ?_ ?_
   · refine rgN [0,12,49] ?_;refine zm (b:=a2) rfl (fun hc37=>?_) (fun hc37=>?_)
     · rw[if_pos hc37] at h
       refine rgE tok [0,12] fun K hK=>?_
       simp only[go_sem,qb,qf,qa,qd,reduceCtorEq];apply hK
       exact⟨_,_,⟨(⟨4,0,0,0,0,a1,0,r13.1⟩:GPacket),rfl,rfl,h⟩,(.t [1] false)⟩
     rw[xQ hc37] at h;apply zd;exact⟨_,_,⟨(⟨3,0,0,0,0,a1,0,r13.1⟩:GPacket),rfl,rfl,h⟩,(.t [1] false)⟩
   rintro _ _ ⟨m0_15,rfl,rfl,h⟩;unfold law25_ProxyTrees.j16 at h;obtain⟨r17,hr17,h⟩:=bind_some h;obtain⟨r18,hr18,h⟩:=bind_some h
   refine rd [0,12,13,14] fun K hK=>?_
   refine DW.start (T:=tab) [.any,.eff,.own 1 [],.eff,.any,.any,.any,.flt,.eff,.any] [(1,[])] ?_;refine DW.runN tok 1 ?_;simp only[go_sem,qb,reduceCtorEq];refine DW.call rfl rfl rfl (yE.ev a0 r17 hr17 _) ?_;refine DW.runN tok 1 ?_;simp only[go_sem,qb,qf,qa,qd,reduceCtorEq];refine DW.call rfl rfl rfl (y0.ev r17 m0_15 r18 hr18 _) ?_;refine DW.runN tok 6 ?_;simp only[go_sem,qb,qf,qa,qd,reduceCtorEq,encGPacket];refine DW.fin tok (by decide +kernel) rfl ?_;simp only[zj,upd,qa,reduceIte,yu,xe];apply hK
   refine za fun Z19 hZ19=>?_
   refine rgN [0,12,13,14,15] ?_;apply ze
   refine yP 0 fun hb24=>?_
   replace hb24:qc a0≤9223372036854775807:=hb24.1;refine zp (fun m L τ=>∃ (p24 q24:List GSchema) (x21:Int) (m0_20:GPacket),m=qc q24∧L=[(0,.ds true (qe encGSchema a0) (qc a0) false),(12,.op 0 0 0),(13,.op 1 0 0),(14,.bool r18.2),(15,.int .i64 x21)]∧τ=[.cells 0 (encGPacket m0_20),.cells 0 (encGPacket r18.1)]∧a0=p24++q24∧x21=(qc p24:Int)∧law25_ProxyTrees.l24 r18 q24 x21 m0_20=some r) _ ⟨[],a0,0,m0_15,rfl,rfl,rfl,rfl,rfl,h⟩ .s ?_;rintro m L τ ⟨p24,q24,x21,m0_20,rfl,rfl,rfl,hE24,hi24,h⟩
   rcases q24 with _|⟨y24,q24⟩
   · have hz24:=yl hE24 hi24;simp only[law25_ProxyTrees.l24] at h
     refine za fun Z25 hZ25=>?_
     refine rg tok [0,12,13,14,15,61] fun K hK=>?_
     simp only[go_sem,qb,qa,reduceCtorEq,hz24];apply hK
     refine zn rfl ?_;apply zr;apply hZ19
     refine rc [8] fun K hK=>?_
     refine rnN 2 ?_;refine zh 4 (fun L τ=>L=[(91,.bool (r18.2&&(decide (r18.1.fKind=m0_20.fKind)&&(decide (r18.1.fFrom=m0_20.fFrom)&&(decide (r18.1.fTo=m0_20.fTo)&&(decide (r18.1.fID=m0_20.fID)&&(decide (r18.1.fVersion=m0_20.fVersion)&&(decide (r18.1.fMethod=m0_20.fMethod)&&(decide (r18.1.fErr=m0_20.fErr)&&decide (r18.1.fBody=m0_20.fBody))))))))))]∧τ=[.cells 0 (encGPacket m0_20),.cells 0 (encGPacket r18.1)]) ?_ ?_
     · refine zH (b:=r18.2) 87 rfl (fun hg87=>?_) (fun hg87=>?_)
       · refine zi tok 4 ?_;simp only[go_sem,qb,qf,qa,qd,reduceCtorEq,evEqA,ceqL,ceq];refine zb ⟨rfl,_,_,⟨rfl,rfl⟩,.b hg87⟩
       refine rnN 4 ?_;refine zb ⟨rfl,_,_,⟨rfl,rfl⟩,.b hg87⟩
     rintro _ _ ⟨rfl,rfl⟩;refine rnN 1 ?_;obtain⟨c26,hc26,h⟩:=bind_some h;refine zh 2 (fun L τ=>L=[(94,.bool c26)]∧τ=[.cells 0 (encGPacket m0_20),.cells 0 (encGPacket r18.1)]) ?_ ?_
     · refine zH (b:=(r18.2&&(decide (r18.1.fKind=m0_20.fKind)&&(decide (r18.1.fFrom=m0_20.fFrom)&&(decide (r18.1.fTo=m0_20.fTo)&&(decide (r18.1.fID=m0_20.fID)&&(decide (r18.1.fVersion=m0_20.fVersion)&&(decide (r18.1.fMethod=m0_20.fMethod)&&(decide (r18.1.fErr=m0_20.fErr)&&decide (r18.1.fBody=m0_20.fBody)))))))))) 92 rfl (fun hg92=>?_) (fun hg92=>?_)
       · rw[if_pos hg92] at hc26;obtain⟨r27,hr27,hc26⟩:=bind_some hc26;refine clN rfl rfl rfl (xR.ev  r27 hr27 _) ?_;refine rnN 1 ?_;cases hc26;refine zb ⟨rfl,_,_,⟨rfl,rfl⟩,.b hg92⟩
       rw[xQ hg92] at hc26;refine rnN 2 ?_;cases hc26;refine zb ⟨rfl,_,_,⟨rfl,rfl⟩,.b hg92⟩
     rintro _ _ ⟨rfl,rfl⟩;refine rnN 1 ?_;refine nkN hK ?_;cases h;exact rtA
   obtain⟨hz24,hw24,hx24,hE'24,hi'24⟩:=zV hE24 hi24 hb24;simp only[law25_ProxyTrees.l24] at h
   refine za fun Z28 hZ28=>?_
   refine rg tok [0,12,13,14,15,61] fun K hK=>?_
   simp only[go_sem,qb,qa,reduceCtorEq,hz24];apply hK
   refine zo rfl ?_;apply zd;apply hZ28
   refine za fun Z29 hZ29=>?_
   apply ze;have f30:=E70.idxS hx24;have f31:=E70.loadS rfl rfl hx24;obtain⟨r32,hr32,h⟩:=bind_some h
   refine rd [0,12,13,14,15,16,17] fun K hK=>?_
   refine DW.start (T:=tab) [.any,.any,.any,.at [],.at [],.eff,.any,.any,.any,.flt,.eff,.any] [] ?_;refine DW.runN tok 5 ?_;simp only[go_sem,qb,qf,qa,qd,reduceCtorEq,encGSchema,f30,f31];refine DW.call rfl rfl rfl (xB.ev y24 m0_20 r32 hr32 _) ?_;refine DW.runN tok 6 ?_;simp only[go_sem,qb,qf,qa,qd,reduceCtorEq,encGPacket];refine DW.fin tok (by decide +kernel) rfl ?_;simp only[zj,upd,qa,reduceIte,yu,xe];apply hK
   refine za fun Z33 hZ33=>?_
   refine rgN [0,12,13,14,15,16,74] ?_;refine zm (b:=(!r32.2)) rfl (fun hc34=>?_) (fun hc34=>?_)
   · rw[if_pos hc34] at h
     refine rc [8] fun K hK=>?_
     refine rnN 3 ?_;refine zh 4 (fun L τ=>L=[(81,.bool ((!r18.2)&&(decide (r18.1.fKind=0)&&(decide (r18.1.fFrom=0)&&(decide (r18.1.fTo=0)&&(decide (r18.1.fID=0)&&(decide (r18.1.fVersion=0)&&(decide (r18.1.fMethod=[])&&(decide (r18.1.fErr=0)&&decide (r18.1.fBody=[]))))))))))]∧τ=[.cells 0 (encGPacket m0_20),.cells 0 (encGPacket r18.1),.cells 0 (encGPacket r32.1)]) ?_ ?_
     · refine zH (b:=(!r18.2)) 77 rfl (fun hg77=>?_) (fun hg77=>?_)
       · refine zi tok 4 ?_;simp only[go_sem,qb,qf,qa,qd,reduceCtorEq,evEqA,ceqL,ceq];refine zb ⟨rfl,_,_,⟨rfl,rfl⟩,.b hg77⟩
       refine rnN 4 ?_;refine zb ⟨rfl,_,_,⟨rfl,rfl⟩,.b hg77⟩
     rintro _ _ ⟨rfl,rfl⟩;refine rnN 1 ?_;obtain⟨c35,hc35,h⟩:=bind_some h;refine zh 2 (fun L τ=>L=[(84,.bool c35)]∧τ=[.cells 0 (encGPacket m0_20),.cells 0 (encGPacket r18.1),.cells 0 (encGPacket r32.1)]) ?_ ?_
     · refine zH (b:=((!r18.2)&&(decide (r18.1.fKind=0)&&(decide (r18.1.fFrom=0)&&(decide (r18.1.fTo=0)&&(decide (r18.1.fID=0)&&(decide (r18.1.fVersion=0)&&(decide (r18.1.fMethod=[])&&(decide (r18.1.fErr=0)&&decide (r18.1.fBody=[])))))))))) 82 rfl (fun hg82=>?_) (fun hg82=>?_)
       · rw[if_pos hg82] at hc35;obtain⟨r36,hr36,hc35⟩:=bind_some hc35;refine clN rfl rfl rfl (xR.ev  r36 hr36 _) ?_;refine rnN 1 ?_;cases hc35;refine zb ⟨rfl,_,_,⟨rfl,rfl⟩,.b hg82⟩
       rw[xQ hg82] at hc35;refine rnN 2 ?_;cases hc35;refine zb ⟨rfl,_,_,⟨rfl,rfl⟩,.b hg82⟩
     rintro _ _ ⟨rfl,rfl⟩;refine rnN 1 ?_;refine nkN hK ?_;cases h;exact rtA
   rw[xQ hc34] at h;apply zd;apply hZ33
   refine rgE tok [0,12,13,14,15] fun K hK=>?_
   simp only[go_sem,qb,qf,qa,qd,reduceCtorEq];apply hK
   apply hZ29
   refine rgE tok [0,12,13,14,15] fun K hK=>?_
   simp only[go_sem,qb,qa,reduceCtorEq,hw24];apply hK
   exact⟨_,_,_,qp q24.length,⟨p24++[y24],q24,x21+1,r32.1,rfl,rfl,rfl,hE'24,hi'24,h⟩,(.t [0,1] false)⟩
 obtain⟨hz11,hw11,hx11,hE'11,hi'11⟩:=zV hE11 hi11 hb11;simp only[law25_ProxyTrees.l11] at h
 refine za fun Z38 hZ38=>?_
 refine rg tok [0,1,2,7,9,30] fun K hK=>?_
 simp only[go_sem,qb,qa,reduceCtorEq,hz11];apply hK
 refine zo rfl ?_;apply zd;apply hZ38
 refine za fun Z39 hZ39=>?_
 apply ze
 refine rc [0,1,2,7,9,38] fun K hK=>?_
 have f40:=E70.idxS hx11;have f41:=E70.loadS rfl rfl hx11;obtain⟨r42,hr42,h⟩:=bind_some h;refine zi tok 4 ?_;simp only[go_sem,qb,qa,reduceCtorEq,encGSchema,f40,f41];refine clN rfl rfl rfl (zK.ev y11 r42 hr42 _) ?_;refine rnN 1 ?_;refine nkN hK ?_;refine zm (b:=(!r42)) rfl (fun hc43=>?_) (fun hc43=>?_)
 · rw[if_pos hc43] at h
   refine rc [8] fun K hK=>?_
   obtain⟨r44,hr44,h⟩:=bind_some h;refine clN rfl rfl rfl (xR.ev  r44 hr44 _) ?_;refine rnN 1 ?_;refine nkN hK ?_;cases h;exact rtA
 rw[xQ hc43] at h;apply zd;apply hZ39
 refine rgE tok [0,1,2,7,9] fun K hK=>?_
 simp only[go_sem,qb,qa,reduceCtorEq,hw11];apply hK
 exact⟨_,_,_,qp q11.length,⟨p11++[y11],q11,x9+1,rfl,rfl,rfl,hE'11,hi'11,h⟩,.s⟩
end
section
set_option maxRecDepth 4000
open AM
def vb (n:Nat):List UInt8:=if h:n<128 then [ua n] else ua (n % 128+128)::vb (n / 128)
termination_by n
decreasing_by omega
theorem vb_lt {n:Nat}(h:n<128):vb n=[ua n]:=by rw[vb,dif_pos h]
theorem vb_ge {n:Nat}(h:¬ n<128):vb n=ua (n % 128+128)::vb (n / 128):=by rw[vb,dif_neg h]
theorem vb_pos (n:Nat):0<(vb n).length:=by
 by_cases h:n<128
 · rw[vb_lt h]; exact Nat.one_pos
 rw[vb_ge h,qj]; omega
theorem vb_len : ∀ (k n:Nat),n<2^(7*(k+1))→(vb n).length≤k+1
 |0,n,h=>by rw[vb_lt (by simpa using h)]; exact qv _
 |k+1,n,h=>by
  by_cases h1:n<128
  · rw[vb_lt h1,qj,ql]; omega
  rw[vb_ge h1,qj]
  have:=vb_len k (n / 128) (by
   have e:2^(7*(k+1+1))=128*2^(7*(k+1)):=by rw[show 7*(k+1+1)=7+7*(k+1) by omega,Nat.pow_add]
   rw[e] at h
   exact Nat.div_lt_of_lt_mul h)
  omega
theorem Yb {n:Nat}(h:n<2^64):(vb n).length≤10:=vb_len 9 n (uj h (by decide))
theorem Y4 {p:Prop} [Decidable p](h:p):grd p=some ():=if_pos h
theorem xK {n b:Nat}(h:n*b≤140737488355328):Yg n b=some ():=if_pos h
theorem u64w {n:Nat}(h:n<2^64):IntKind.u64.wrap (n:Int)=(n:Int):=by rw[IntKind.wrap_u64]; omega
theorem u64i {x:Int}(h:0≤x)(h':x<18446744073709551616):IntKind.u64.wrap x=x:=by rw[IntKind.wrap_u64]; omega
theorem u8w (n:Nat):IntKind.u8.wrap (n:Int)=((n % 256:Nat):Int):=by
 simp only[IntKind.wrap,IntKind.bits,IntKind.signed,Bool.false_and]
 simp
theorem vbb (n:Nat)(h:n<256):(ua n).toNat=n:=by
 rw[UInt8.toNat_ofNat']; omega
theorem or128 : ∀ m:Fin 256,(qA 8 ((m.val:Nat):Int) ||| qA 8 128).toNat=m.val % 128+128:=by decide
theorem and127 : ∀ m:Fin 256,(qA 8 ((m.val:Nat):Int) &&& ~~~(qA 8 128)).toNat=m.val % 128:=by decide
theorem moreByte (n:Nat):ua (qF (IntKind.u8.wrap ((ur (qA 8 (IntKind.u8.wrap (n:Int)) ||| qA 8 128):Nat):Int)))=ua (n % 128+128):=by
 have h:=or128 ⟨n % 256,Nat.mod_lt _ (by decide)⟩;simp only at h;rw[u8w n,h,u8w (n % 256 % 128+128),qU]
 congr 1
 have:=Nat.mod_mod_of_dvd n (show 128 ∣ 256 by decide)
 omega
theorem lastByte (n:Nat)(h:n<128):ua (qF (IntKind.u8.wrap (n:Int)))=ua n:=by
 rw[u8w,qU]; congr 1; omega
theorem shr7 (n:Nat):Int.fdiv (n:Int) (2^(min (qF 7) 64))=((n / 128:Nat):Int):=by
 rw[show ((2:Int)^(min (qF 7) 64))=128 from by decide,Int.fdiv_eq_ediv_of_nonneg _ (by decide)]
 omega
theorem vint_Put_l : ∀ (k n:Nat) (l:List UInt8),n<2^(7*k)→l.length+k≤140737488355328→xz.l9 k l (n:Int)=some (l++vb n)∨k=0
 |0,_,_,_,_=>Or.inr rfl
 |k+1,n,l,h,hl=>by
  left
  by_cases h1:n<128
  · rw[xz.l9,if_neg (by omega),xK (by omega),qg,lastByte n h1,vb_lt h1]
  rw[xz.l9,if_pos (by omega),xK (by omega),qg,moreByte,shr7,vb_ge h1]
  have hk:n / 128<2^(7*k):=by
   have e:2^(7*(k+1))=128*2^(7*k):=by rw[show 7*(k+1)=7+7*k by omega,Nat.pow_add]
   rw[e] at h; exact Nat.div_lt_of_lt_mul h
  rcases vint_Put_l k (n / 128) (l++[ua (n % 128+128)]) hk (by rw[qi,qG]; omega) with e|e
  · rw[e,qs]; rfl
  exfalso; subst e; simp at hk; omega
theorem vint_Put_m : ∀ (k j n:Nat) (l r:List UInt8),xz.l9 k l (n:Int)=some r→xz.l9 (k+j) l (n:Int)=some r
 |0,_,_,_,_,h=>by cases h
 |k+1,j,n,l,r,h=>by
  rw[Nat.succ_add_eq_add_succ,Nat.add_succ]
  by_cases h1:(128:Int)≤(n:Int)
  · rw[xz.l9,if_pos h1] at h ⊢
    cases hr:Yg (qc l+1) 1 with
    |none=>rw[hr] at h; cases h
    |some u=>
     rw[hr,qg,shr7] at h
     rw[qg,shr7]; exact vint_Put_m k j _ _ _ h
  rw[xz.l9,if_neg h1] at h ⊢; exact h
theorem vad (a:List UInt8){n:Nat}(h:n<2^64)(ha:a.length≤140737488355000):xz a (n:Int)=some (a++vb n):=by
 by_cases h1:n<128
 · rw[xz,if_neg (by omega),xK (by omega),qg,lastByte n h1,vb_lt h1]
 rw[xz,if_pos (by omega),xK (by omega),qg,moreByte,shr7,vb_ge h1]
 rcases vint_Put_l 10 (n / 128) (a++[ua (n % 128+128)]) (by omega) (by rw[qi,qG]; omega) with e|e
 · have:=vint_Put_m 10 999999999999999999990 _ _ _ e;rw[show 10+999999999999999999990=rounds from rfl] at this
   rw[this,qs]; rfl
 cases e
theorem orAdd {i acc d:Nat}(h:acc<2^i):acc ||| d*2^i=acc+d*2^i:=by
 rw[Nat.or_comm,Nat.mul_comm,← Nat.two_pow_add_eq_or_of_lt h]; omega
theorem bv64 {n:Nat}(h:n<2^64):(qA 64 (n:Int)).toNat=n:=by
 rw[BitVec.ofInt_natCast,BitVec.toNat_ofNat]; exact Nat.mod_eq_of_lt h
theorem stepv {acc i:Nat}{y:UInt8}(hi:i≤9)(ha:acc<2^(7*i))(h9:i=9→y.toNat≤1):IntKind.u64.wrap ((ur (qA 64 (acc:Int) ||| qA 64 (IntKind.u64.wrap ((IntKind.u64.wrap (IntKind.u8.wrap ((ur (qA 8 (y.toNat:Int) &&& ~~~(qA 8 128)):Nat):Int)))*2^(min (qF (IntKind.i64.wrap (7*(i:Int)))) 64)))):Nat):Int)=((acc+(y.toNat % 128)*2^(7*i):Nat):Int)∧acc+(y.toNat % 128)*2^(7*i)<2^64∧(i<9→acc+(y.toNat % 128)*2^(7*i)<2^(7*(i+1))):=by
 have hy:y.toNat<256:=y.toNat_lt;have h:=and127 ⟨y.toNat,hy⟩;simp only at h
 have e:IntKind.i64.wrap (7*(i:Int))=((7*i:Nat):Int):=by rw[yq (by omega) (by omega)]; omega
 have hm:min (7*i) 64=7*i:=by omega
 have hd:y.toNat % 128<128:=Nat.mod_lt _ (by decide)
 have hp:2^(7*(i+1))=128*2^(7*i):=by rw[show 7*(i+1)=7+7*i by omega,Nat.pow_add]
 have hs:i<9→acc+(y.toNat % 128)*2^(7*i)<2^(7*(i+1)):=by
  intro _
  rw[hp];have:(y.toNat % 128)*2^(7*i)≤127*2^(7*i):=q5 _ (by omega)
  omega
 have hb:acc+(y.toNat % 128)*2^(7*i)<2^64:=by
  by_cases h8:i<9
  · have:=hs h8;have h2:2^(7*(i+1))≤2^63:=Nat.pow_le_pow_right (by decide) (by omega)
    omega
  have hi9:i=9:=by omega
  have h1:=h9 hi9;subst hi9
  have:y.toNat % 128≤1:=by omega
  have h2:(y.toNat % 128)*2^(7*9)≤1*2^(7*9):=q5 _ this
  omega
 refine⟨?_,hb,hs⟩;rw[h,u8w,Nat.mod_eq_of_lt (show y.toNat % 128<256 by omega),e,qU,hm]
 have hc:((((y.toNat % 128:Nat):Int))*2^(7*i))=(((y.toNat % 128)*2^(7*i):Nat):Int):=by
  rw[Int.natCast_mul,Int.natCast_pow]; rfl
 have hu:IntKind.u64.wrap ((y.toNat % 128:Nat):Int)=((y.toNat % 128:Nat):Int):=u64w (by omega);rw[hu,hc,u64w (n:=y.toNat % 128*2^(7*i)) (by omega),BitVec.toNat_or,bv64 (by omega),bv64 (by omega),orAdd ha,u64w hb]
theorem vbH (a:Nat)(hA:a≤4611686018427387904):∀ (q post:List UInt8) (v i acc:Nat),q=vb v++post→i≤9→acc<2^(7*i)→v*2^(7*i)<2^64→(0<i→v≠0)→
 xA.l12 (a:Int) q (i:Int) (acc:Int)=some (((acc+v*2^(7*i):Nat):Int),((a+i+(vb v).length:Nat):Int),0)
 |[],post,v,i,acc,h,_,_,_,_=>by
  have:=vb_pos v;have h2:=congrArg qc h
  rw[qi,ql] at h2; omega
 |y::q,post,v,i,acc,h,hi,ha,hv,h0=>by
  by_cases h1:v<128
  · rw[vb_lt h1] at h ⊢
    obtain⟨rfl,rfl⟩:y=ua v∧q=post:=by injection h with h2 h3; exact⟨h2,h3⟩
    have hy:(ua v).toNat=v:=vbb v (by omega)
    have h9:i=9→v≤1:=by
     intro e; subst e
     apply Nat.le_of_not_lt; intro hc
     have:2*2^(7*9)≤v*2^(7*9):=q5 _ hc
     omega
    have st:=(stepv (y:=ua v) hi ha (by rw[hy]; exact h9)).1;have hw1:IntKind.i64.wrap (7*(i:Int))=7*(i:Int):=yq (by omega) (by omega);rw[xA.l12,st,hy];rw[if_neg (by simp only[qo,decide_eq_true_eq,not_and]; intro e; have:=h9 (by omega); omega),Y4 (by rw[yq (by omega) (by omega)]; omega),qg,if_neg (by omega),if_neg (by simp only[qo,decide_eq_true_eq,not_and]; intro e e2; exact h0 (by omega) (by omega))];rw[Nat.mod_eq_of_lt h1,yq (x:=(a:Int)+(i:Int)) (by omega) (by omega),yq (x:=(a:Int)+(i:Int)+1) (by omega) (by omega),qG];simp only[Int.natCast_add,Int.natCast_one]
  rw[vb_ge h1] at h ⊢
  obtain⟨rfl,rfl⟩:y=ua (v % 128+128)∧q=vb (v / 128)++post:=by injection h with h2 h3; exact⟨h2,h3⟩
  have hy:(ua (v % 128+128)).toNat=v % 128+128:=vbb _ (by omega)
  have hi8:i<9:=by
   apply Nat.lt_of_not_le; intro hc
   have:i=9:=by omega
   subst this;have:128*2^(7*9)≤v*2^(7*9):=q5 _ (by omega)
   omega
  obtain⟨st,sb,sn⟩:=stepv (y:=ua (v % 128+128)) hi ha (by intro e; omega);rw[xA.l12,st,hy,if_neg (by simp only[qo,decide_eq_true_eq,not_and]; intro e; omega),Y4 (by rw[yq (by omega) (by omega)]; omega),qg,if_pos (by omega)];rw[hy] at sn
  have hm:(v % 128+128) % 128=v % 128:=by omega
  rw[hm] at sn ⊢
  have hp:2^(7*(i+1))=128*2^(7*i):=by rw[show 7*(i+1)=7+7*i by omega,Nat.pow_add]
  have hvd:v=128*(v / 128)+v % 128:=(Nat.div_add_mod v 128).symm
  have hmul:v*2^(7*i)=(v / 128)*2^(7*(i+1))+(v % 128)*2^(7*i):=by
   rw[hp]
   calc v*2^(7*i)=(128*(v / 128)+v % 128)*2^(7*i):=by rw[← hvd]
    _=_:=by rw[uZ,Nat.mul_comm 128,Nat.mul_assoc]
  have ih:=vbH a hA (vb (v / 128)++post) post (v / 128) (i+1) (acc+v % 128*2^(7*i)) rfl (by omega) (sn hi8) (by rw[hmul] at hv; omega) (by intro _; omega);rw[show ((i:Int)+1)=((i+1:Nat):Int) by omega,ih,hmul,qj]
  congr 2
  · congr 1; omega
  congr 2; omega
theorem vbG (a:Nat)(hA:a≤4611686018427387904):∀ (q:List UInt8) (i acc:Nat),i+q.length≤10→acc<2^(7*i)→∃ r,xA.l12 (a:Int) q (i:Int) (acc:Int)=some r∧
 (r.2.2=0→∃ v post,q=vb v++post∧v*2^(7*i)<2^64∧(0<i→v≠0))∧0≤r.2.2
 |[],i,acc,_,_=>⟨_,rfl,(by intro h; cases h),by decide⟩
 |y::q,i,acc,hl,ha=>by
  rw[qj] at hl;rw[xA.l12]
  by_cases h9:((decide ((i:Int)=9))&&(decide (1<(y.toNat:Int))))=true
  · rw[if_pos h9]; exact⟨_,rfl,(by intro h; cases h),by decide⟩
  rw[if_neg h9]
  have h9':i=9→y.toNat≤1:=by
   intro e
   simp only[qo,decide_eq_true_eq,not_and] at h9
   have:=h9 (by omega); omega
  obtain⟨st,sb,sn⟩:=stepv (y:=y) (show i≤9 by omega) ha h9';rw[st,Y4 (by rw[yq (by omega) (by omega)]; omega),qg];have hy:y.toNat<256:=y.toNat_lt
  by_cases h1:(128:Int)≤(y.toNat:Int)
  · rw[if_pos h1]
    have hi8:i<9:=by
     apply Nat.lt_of_not_le; intro hc
     have:=h9' (by omega); omega
    obtain⟨r,e,hr,h0⟩:=vbG a hA q (i+1) (acc+y.toNat % 128*2^(7*i)) (by omega) (sn hi8);rw[show ((i:Int)+1)=((i+1:Nat):Int) by omega];refine⟨r,e,?_,h0⟩
    intro hz
    obtain⟨v,post,hq,hv,hn⟩:=hr hz
    have hp:2^(7*(i+1))=128*2^(7*i):=by rw[show 7*(i+1)=7+7*i by omega,Nat.pow_add]
    have hvn:=hn (by omega)
    have hw:¬ (v*128+y.toNat % 128)<128:=by omega
    refine⟨v*128+y.toNat % 128,post,?_,?_,by intro _; omega⟩
    · rw[vb_ge hw,show (v*128+y.toNat % 128) % 128+128=y.toNat by omega,show (v*128+y.toNat % 128) / 128=v by omega,UInt8.ofNat_toNat,hq]; rfl
    rw[hp] at hv
    have hmul:(v*128+y.toNat % 128)*2^(7*i)=v*(128*2^(7*i))+y.toNat % 128*2^(7*i):=by rw[uZ,Nat.mul_assoc]
    rw[hmul]
    by_cases hi7:i<9
    · have hd:y.toNat % 128*2^(7*i)<128*2^(7*i):=Nat.mul_lt_mul_of_pos_right (by omega) (Nat.pow_pos (by decide))
      have h64:128*2^(7*i) ∣ 2^64:=by rw[← hp]; exact Nat.pow_dvd_pow 2 (by omega)
      obtain⟨c,hc⟩:=h64;rw[hc] at hv ⊢
      have hvc:v<c:=by
       apply Nat.lt_of_not_le; intro hle
       have:=q5 (128*2^(7*i)) hle
       rw[Nat.mul_comm c] at this; omega
      have h3:(v+1)*(128*2^(7*i))≤c*(128*2^(7*i)):=q5 _ hvc;rw[uZ,Nat.one_mul] at h3
      rw[Nat.mul_comm (128*2^(7*i)) c]; omega
    omega
  rw[if_neg h1]
  by_cases h2:((decide ((y.toNat:Int)=0))&&(decide (0<(i:Int))))=true
  · rw[if_pos h2]; exact⟨_,rfl,(by intro h; cases h),by decide⟩
  rw[if_neg h2];refine⟨_,rfl,?_,u9 0⟩
  intro _
  refine⟨y.toNat,q,?_,?_,?_⟩
  · rw[vb_lt (by omega),UInt8.ofNat_toNat]; rfl
  · rw[Nat.mod_eq_of_lt (by omega)] at sb; omega
  intro hi e
  apply h2
  simp only[qo,decide_eq_true_eq]; omega
theorem vby {b:List UInt8}{n:Nat}(hb:b.length≤4096)(hn:n≤b.length):xA b (n:Int)=xA.l12 (n:Int) ((b.drop n).take 10) 0 0:=by
 have e1:IntKind.i64.wrap ((qc b:Int)-(n:Int))=((b.length-n:Nat):Int):=by rw[yq (by omega) (by omega)]; omega
 rw[xA,if_neg (by simp only[qI,decide_eq_true_eq]; omega),e1]
 by_cases h:(10:Int)<((b.length-n:Nat):Int)
 · rw[if_pos h]
   have e2:IntKind.i64.wrap ((n:Int)+10)=((n+10:Nat):Int):=by rw[yq (by omega) (by omega)]; omega
   rw[e2,Y4 (by omega),qg,Xc,qU,qU,show n+10-n=10 by omega]
 rw[if_neg h]
 have e2:IntKind.i64.wrap ((n:Int)+((b.length-n:Nat):Int))=(b.length:Int):=by rw[yq (by omega) (by omega)]; omega
 rw[e2,Y4 (by omega),qg,Xc,qU,qU,ul (by rw[uQ]; exact qv _),ul (by rw[uQ]; omega)]
theorem get_ok {b post:List UInt8}{n v:Nat}(hb:b.length≤4096)(hn:n≤b.length)(h:b.drop n=vb v++post)(hv:v<2^64):xA b (n:Int)=some ((v:Int),((n+(vb v).length:Nat):Int),0):=by
 have:=vbH n (by omega) ((b.drop n).take 10) (post.take (10-(vb v).length)) v 0 0 (by rw[h,List.take_append,ul (Yb hv)]) (by omega) (by decide) (by omega) (by omega);rw[vby hb hn]
 simpa using this
theorem get_inv {b:List UInt8}{n:Nat}(hb:b.length≤4096)(hn:n≤b.length):∃ r,xA b (n:Int)=some r∧(r.2.2=0→∃ v post,b.drop n=vb v++post∧v<2^64∧r=((v:Int),((n+(vb v).length:Nat):Int),0))∧0≤r.2.2:=by
 obtain⟨r,e,hr,h0⟩:=vbG n (by omega) ((b.drop n).take 10) 0 0 (by rw[uM]; omega) (by decide);rw[vby hb hn];refine⟨r,e,?_,h0⟩
 intro hz
 obtain⟨v,post,hq,hv,_⟩:=hr hz
 have hv':v<2^64:=by omega
 have hd:b.drop n=vb v++(post++(b.drop n).drop 10):=by
  rw[← qs,← hq,uu]
 refine⟨v,_,hd,hv',?_⟩;have:=get_ok hb hn hd hv';rw[vby hb hn] at this;exact Option.some.inj (e.symm.trans this)
end
section
set_option maxRecDepth 4000
open AM
def In64 (n:Int):Prop := -9223372036854775808≤n∧n<9223372036854775808
def zg (n:Int):Nat:=if 0≤n then (2*n).toNat else (-2*n-1).toNat
def zu (v:Nat):Int:=if v % 2=0 then ((v / 2:Nat):Int) else -((v / 2:Nat):Int)-1
theorem zg_lt {n:Int}(h:In64 n):zg n<2^64:=by
 unfold zg; obtain⟨h1,h2⟩:=h; split<;>omega
theorem zu_zg (n:Int):zu (zg n)=n:=by
 unfold zg zu; split<;>split<;>omega
theorem zg_zu (v:Nat):zg (zu v)=v:=by
 unfold zg zu; split<;>split<;>omega
theorem zu_in {v:Nat}(h:v<2^64):In64 (zu v):=by
 unfold zu In64; split<;>omega
theorem bvm1 : qA 64 (-1)=BitVec.allOnes 64:=by decide
theorem bv0 : qA 64 0=0#64:=by decide
theorem fdiv2 (n:Int)(k:Nat):Int.fdiv n (2^k)=n / (2^k):=Int.fdiv_eq_ediv_of_nonneg _ (Int.le_of_lt (Int.pow_pos (by decide)))
theorem vint_Zig_eq {n:Int}(h:In64 n):Z0 n=(zg n:Int):=by
 obtain⟨h1,h2⟩:=h;unfold Z0 zg;rw[show min (qF 1) 64=1 from rfl,show min (qF 63) 64=63 from rfl,fdiv2]
 by_cases h0:0≤n
 · have e:n / 2^63=0:=Int.ediv_eq_zero_of_lt h0 (by omega);rw[if_pos h0,e,show IntKind.u64.wrap 0=0 from by rw[IntKind.wrap_u64]; rfl,bv0,BitVec.xor_zero]
   have e2:IntKind.u64.wrap (IntKind.u64.wrap n*2^1)=(((2*n).toNat:Nat):Int):=by rw[IntKind.wrap_u64,IntKind.wrap_u64]; omega
   rw[e2,bv64 (by omega),u64w (by omega)]
 have e:n / 2^63 = -1:=by omega
 have e1:IntKind.u64.wrap (-1)=18446744073709551615:=by rw[IntKind.wrap_u64]; rfl
 have e3:qA 64 18446744073709551615=BitVec.allOnes 64:=by decide
 rw[if_neg h0,e,e1,e3,BitVec.xor_allOnes,BitVec.toNat_not]
 have e2:IntKind.u64.wrap (IntKind.u64.wrap n*2^1)=(((2*n+18446744073709551616).toNat:Nat):Int):=by rw[IntKind.wrap_u64,IntKind.wrap_u64]; omega
 rw[e2,bv64 (by omega),u64w (by omega)]
 omega
theorem vbF {v:Nat}(h:v<2^64):Ya (v:Int)=zu v:=by
 unfold Ya zu;rw[show min (qF 1) 64=1 from rfl,fdiv2]
 have ea:(qA 64 (v:Int) &&& qA 64 1).toNat=v % 2:=by
  rw[BitVec.toNat_and,bv64 h,show (qA 64 1).toNat=1 from by decide,Nat.and_one_is_mod]
 have e1:IntKind.i64.wrap ((v:Int) / 2^1)=((v / 2:Nat):Int):=by rw[yq (by omega) (by omega)]; omega
 rw[ea,e1,u64w (n:=v % 2) (by omega)]
 by_cases h0:v % 2=0
 · rw[if_pos h0,h0]
   have e2:IntKind.i64.wrap (0-IntKind.i64.wrap ((0:Nat):Int))=0:=by decide
   rw[e2,bv0,BitVec.xor_zero,bv64 (by omega),yq (by omega) (by omega)]
 have h1:v % 2=1:=by omega
 rw[if_neg h0,h1]
 have e2:IntKind.i64.wrap (0-IntKind.i64.wrap ((1:Nat):Int)) = -1:=by decide
 rw[e2,bvm1,BitVec.xor_allOnes,BitVec.toNat_not,bv64 (by omega),IntKind.wrap_i64]
 omega
def XN (r:GRaw):Prop:=yv r=true∧In64 r.fN
def vbk (r:GRaw):Nat:=(2*r.fTag+r.fWire).toNat
def vaL (r:GRaw):List UInt8:=vb (vbk r)++(if r.fWire=0 then vb (zg r.fN) else vb r.fB.length++r.fB)
def Yo (l:List GRaw):List UInt8:=l.flatMap vaL
theorem ZJ {r:GRaw}(h:yv r=true):1≤r.fTag∧r.fTag≤500∧((r.fWire=0∧r.fB=[])∨(r.fWire=1∧r.fN=0∧r.fB.length≤4096)):=by
 unfold yv at h
 split at h
 · cases h
 rename_i h1
 simp only[qI,decide_eq_true_eq,not_or] at h1;refine⟨by omega,by omega,?_⟩
 split at h
 · left; exact⟨‹_›,by simpa using h⟩
 split at h
 · right
   simp only[qo,decide_eq_true_eq] at h;exact⟨‹_›,h.1,by omega⟩
 cases h
theorem check_num {t n:Int}(h1:1≤t)(h2:t≤500):yv ⟨t,0,n,[]⟩=true:=by
 unfold yv
 rw[if_neg (by simp only[qI,decide_eq_true_eq]; omega)]; rfl
theorem va2 {t:Int}{s:List UInt8}(h1:1≤t)(h2:t≤500)(h3:s.length≤4096):yv ⟨t,1,0,s⟩=true:=by
 unfold yv;rw[if_neg (by simp only[qI,decide_eq_true_eq]; omega)];simp only[decide_true,uC]
 rw[if_neg (by decide),if_pos trivial]; exact decide_eq_true (by omega)
theorem rawB_pos (r:GRaw):2≤(vaL r).length:=by
 unfold vaL;have h1:=vb_pos (vbk r);have h2:=vb_pos (zg r.fN);have h3:=vb_pos r.fB.length
 split<;>simp only[qi]<;>omega
theorem rawB_le {r:GRaw}(h:XN r):(vaL r).length≤4116:=by
 obtain⟨hc,hn⟩:=h;obtain⟨h1,h2,h3⟩:=ZJ hc;unfold vaL vbk;have k1:(vb (2*r.fTag+r.fWire).toNat).length≤10:=Yb (by omega);have k2:(vb (zg r.fN)).length≤10:=Yb (zg_lt hn)
 rcases h3 with ⟨h3,h4⟩|⟨h3,h4,h5⟩
 · rw[if_pos h3,qi]; omega
 have k3:(vb r.fB.length).length≤10:=Yb (by omega)
 rw[if_neg (by omega),qi,qi]; omega
theorem wire_Put_eq {a:List UInt8}{r:GRaw}(h:XN r)(ha:a.length≤1000000):ZZ a r=some (a++vaL r,true):=by
 obtain⟨hc,hn⟩:=h;obtain⟨h1,h2,h3⟩:=ZJ hc;unfold ZZ bnd
 rw[hc]; simp only[]
 have ek:IntKind.u64.wrap (IntKind.i64.wrap ((IntKind.i64.wrap (2*r.fTag))+r.fWire))=((vbk r:Nat):Int):=by
  rw[yq (x:=2*r.fTag) (by omega) (by omega),yq (by omega) (by omega),u64i (by omega) (by omega),vbk]; omega
 have k1:vbk r<2^64:=by unfold vbk; omega
 have kl:=Yb k1;rw[if_neg (by decide),ek,vad a k1 (by omega),qg]
 rcases h3 with ⟨h3,h4⟩|⟨h3,h4,h5⟩
 · rw[if_pos h3,vint_Zig_eq hn,vad _ (zg_lt hn) (by rw[qi]; omega),qg,vaL,if_pos h3,qs]
 have hb:=Yb (n:=r.fB.length) (by omega);rw[if_neg (by omega),u64w (by omega),vad _ (by omega) (by rw[qi]; omega),qg,xK (by simp only[qi]; omega),qg,vaL,if_neg (by omega)];simp only[qs]
theorem putAll_l11 : ∀ (q:List GRaw) (x:Int) (acc:List UInt8),(∀ r∈q,XN r)→acc.length≤4096→yi.l11 q x acc=some (if 4096<(acc++Yo q).length then ([],4) else (acc++Yo q,0))
 |[],x,acc,_,ha=>by
  rw[yi.l11,Yo,un,qz,if_neg (by omega)]
 |r::q,x,acc,h,ha=>by
  have hr:=h r (qn ..)
  rw[yi.l11,wire_Put_eq hr (by omega),qg]; dsimp only
  have e:acc++Yo (r::q)=(acc++vaL r)++Yo q:=by rw[Yo,qO,qs]; rfl
  rw[e]
  by_cases h1:4096<(acc++vaL r).length
  · rw[if_pos (by omega),if_pos (by rw[qi]; omega)]
  rw[if_neg (by omega),putAll_l11 q (x+1) _ (fun s hs=>h s (qm _ hs)) (by omega)]
theorem putAll_l4 (a:List GRaw):∀ (q:List GRaw) (x:Int),yi.l4 a q x=if q.all yv then yi.l11 a 0 [] else some ([],1)
 |[],x=>by rw[yi.l4]; rfl
 |r::q,x=>by
  rw[yi.l4,bnd,qY]
  by_cases h:yv r=true
  · rw[h,if_neg (by decide),putAll_l4 a q]; rfl
  rw[if_pos (by simpa using h),if_neg (by rw[qo]; exact fun hh=>h hh.1)]
theorem putAll_eq {l:List GRaw}(h:∀ r∈l,In64 r.fN):yi l=some (if l.all yv then (if 4096<(Yo l).length then ([],4) else (Yo l,0)) else ([],1)):=by
 rw[yi,putAll_l4]
 by_cases h1:l.all yv=true
 · rw[if_pos h1,if_pos h1,putAll_l11 l 0 [] (fun r hr=>⟨uf.1 h1 r hr,h r hr⟩) (by decide)]; rfl
 rw[if_neg h1,if_neg h1]
theorem Xs {b x post:List UInt8}{n:Nat}(h:b.drop n=x++post):b.drop (n+x.length)=post:=by
 rw[← ve,h,List.drop_left' rfl]
theorem Xr {b x post:List UInt8}{n:Nat}(hn:n≤b.length)(h:b.drop n=x++post):n+x.length+post.length=b.length:=by
 have:=congrArg qc h
 rw[uQ,qi] at this; omega
theorem one_ok {b post:List UInt8}{n:Nat}{r:GRaw}(hb:b.length≤4096)(hn:n≤b.length)(h:b.drop n=vaL r++post)(hr:XN r):wW b (n:Int)=some (r,((n+(vaL r).length:Nat):Int),0):=by
 obtain⟨hc,hN⟩:=hr;obtain⟨h1,h2,h3⟩:=ZJ hc
 have k1:vbk r<2^64:=by unfold vbk; omega
 rw[vaL,qs] at h;have hl:=Xr hn h;unfold wW;rw[get_ok hb hn h k1,qg];have hk:vbk r=(2*r.fTag+r.fWire).toNat:=rfl
 have d1:((vbk r:Nat):Int).tdiv 2=r.fTag:=by rw[Int.tdiv_eq_ediv_of_nonneg (by omega),hk]; rcases h3 with h3|h3<;>omega
 have d2:((vbk r:Nat):Int).tmod 2=r.fWire:=by rw[Int.tmod_eq_emod_of_nonneg (by omega),hk]; rcases h3 with h3|h3<;>omega
 simp only[d1,d2];rw[if_pos trivial,if_neg (by rw[u64i (by omega) (by omega)]; simp only[qI,decide_eq_true_eq]; omega),u64i (x:=r.fTag) (by omega) (by omega),yq (x:=r.fTag) (by omega) (by omega),yq (x:=r.fWire) (by omega) (by omega)];have h':=Xs h
 rcases h3 with ⟨h3,h4⟩|⟨h3,h4,h5⟩
 · rw[if_pos h3] at h';rw[get_ok hb (by omega) h' (zg_lt hN),qg];simp only[];rw[if_pos trivial,if_pos h3,bnd,vbF (zg_lt hN),zu_zg,vaL,if_pos h3]
   have e:r=⟨r.fTag,r.fWire,r.fN,[]⟩:=by cases r; simp only at h4; subst h4; rfl
   rw[← e,qi,u7]
 rw[if_neg (by omega)] at h' hl;rw[qs] at h';have hl':=Xr (by omega) h';rw[qi] at hl';rw[get_ok hb (by omega) h' (show r.fB.length<2^64 by omega),qg];simp only[];have h'':=Xs h'
 have e1:IntKind.i64.wrap ((b.length:Int)-((n+(vb (vbk r)).length+(vb r.fB.length).length:Nat):Int))=((r.fB.length+post.length:Nat):Int):=by rw[yq (by omega) (by omega)]; omega
 have e2:IntKind.i64.wrap (r.fB.length:Int)=(r.fB.length:Int):=yq (by omega) (by omega)
 have e3:IntKind.i64.wrap (((n+(vb (vbk r)).length+(vb r.fB.length).length:Nat):Int)+(r.fB.length:Int))=((n+(vb (vbk r)).length+(vb r.fB.length).length+r.fB.length:Nat):Int):=by rw[yq (by omega) (by omega)]; omega
 rw[if_pos trivial,if_neg (by omega),e1,u64w (by omega),if_neg (by omega),e2,e3,Y4 (by omega),qg,Xc,qU,qU,h'',Nat.add_sub_cancel_left,List.take_left' rfl,vaL,if_neg (by omega),qi,qi]
 have e:r=⟨r.fTag,r.fWire,0,r.fB⟩:=by cases r; simp only at h4; subst h4; rfl
 rw[← e,show n+(vb (vbk r)).length+(vb r.fB.length).length+r.fB.length=n+((vb (vbk r)).length+((vb r.fB.length).length+r.fB.length)) by omega]
theorem one_inv {b:List UInt8}{n:Nat}(hb:b.length≤4096)(hn:n≤b.length):∃ r,wW b (n:Int)=some r∧
 (r.2.2=0→∃ x post,b.drop n=vaL x++post∧XN x∧r=(x,((n+(vaL x).length:Nat):Int),0))∧0≤r.2.2:=by
 obtain⟨r1,e1,i1,p1⟩:=get_inv hb hn
 by_cases z1:r1.2.2=0
 · obtain⟨v,post,hd,hv,rfl⟩:=i1 z1;have hl:=Xr hn hd;have hd':=Xs hd
   by_cases c1:(decide ((v:Int)<2)||decide ((500:Int)<IntKind.u64.wrap ((v:Int).tdiv 2)))=true
   · refine⟨_,by unfold wW; rw[e1,qg,if_pos rfl,if_pos c1],?_,by decide⟩
     intro h; exact absurd h (by decide)
   have c1':=c1;simp only[qI,decide_eq_true_eq,not_or] at c1;obtain⟨c2,c3⟩:=c1
   have d1:(v:Int).tdiv 2=((v / 2:Nat):Int):=by rw[Int.tdiv_eq_ediv_of_nonneg (by omega)]; omega
   have d2:(v:Int).tmod 2=((v % 2:Nat):Int):=by rw[Int.tmod_eq_emod_of_nonneg (by omega)]; omega
   rw[d1,u64w (by omega)] at c3;obtain⟨r2,e2,i2,p2⟩:=get_inv hb (n:=n+(vb v).length) (by omega)
   by_cases z2:r2.2.2=0
   · obtain⟨w,post2,hd2,hw,rfl⟩:=i2 z2;have hl2:=Xr (by omega) hd2
     by_cases c4:v % 2=0
     · have ok:XN ⟨((v / 2:Nat):Int),0,zu w,[]⟩:=⟨check_num (by omega) (by omega),zu_in hw⟩
       have hkey:vbk ⟨((v / 2:Nat):Int),0,zu w,[]⟩=v:=by unfold vbk; simp only[]; omega
       have hdr:b.drop n=vaL ⟨((v / 2:Nat):Int),0,zu w,[]⟩++post2:=by
        rw[vaL,hkey,if_pos rfl]; simp only[zg_zu]; rw[hd,← hd',hd2,qs]
       refine⟨_,one_ok hb hn hdr ok,?_,u9 0⟩
       intro _; exact⟨_,_,hdr,ok,rfl⟩
     have c5:v % 2=1:=by omega
     by_cases c6:w≤post2.length
     · have ok:XN ⟨((v / 2:Nat):Int),1,0,post2.take w⟩:=⟨va2 (by omega) (by omega) (by rw[uM]; omega),(show In64 0 from ⟨by decide,by decide⟩)⟩
       have hkey:vbk ⟨((v / 2:Nat):Int),1,0,post2.take w⟩=v:=by unfold vbk; simp only[]; omega
       have hdr:b.drop n=vaL ⟨((v / 2:Nat):Int),1,0,post2.take w⟩++post2.drop w:=by
        rw[vaL,hkey,if_neg (show ¬ (1:Int)=0 by decide)];simp only[uM,Nat.min_eq_left c6];rw[hd,← hd',hd2,qs,qs,uu]
       refine⟨_,one_ok hb hn hdr ok,?_,u9 0⟩
       intro _; exact⟨_,_,hdr,ok,rfl⟩
     have e3:IntKind.i64.wrap ((b.length:Int)-((n+(vb v).length+(vb w).length:Nat):Int))=((post2.length:Nat):Int):=by rw[yq (by omega) (by omega)]; omega
     refine⟨_,by unfold wW; rw[e1,qg,if_pos rfl,if_neg c1',e2,qg,if_pos rfl,d2,if_neg (by rw[yq (by omega) (by omega)]; omega),e3,u64w (by omega),if_pos (by omega)],?_,by decide⟩
     intro h; exact absurd h (by decide)
   refine⟨_,by unfold wW; rw[e1,qg,if_pos rfl,if_neg c1',e2,qg,if_neg z2],?_,p2⟩
   intro h; exact absurd h z2
 refine⟨_,by unfold wW; rw[e1,qg,if_neg z1],?_,p1⟩
 intro h; exact absurd h z1
theorem rawsB_cons (r:GRaw)(l:List GRaw):Yo (r::l)=vaL r++Yo l:=by rw[Yo,qO]; rfl
theorem get_l_inv {b:List UInt8}(hb:b.length≤4096):∀ (k n:Nat) (acc:List GRaw),n≤b.length→2*acc.length≤n→b.length<k+n→
 ∃ r,xM.l12 b k acc (n:Int)=some r∧(r.2=0→∃ l,b.drop n=Yo l∧(∀ r∈l,XN r)∧r=(acc++l,0))∧0≤r.2∧(r.2≠0→r.1=[])
 |0,n,acc,hn,_,hk=>by omega
 |k+1,n,acc,hn,ha,hk=>by
  by_cases h:n<b.length
  · obtain⟨r1,e1,i1,p1⟩:=one_inv hb hn
    by_cases z1:r1.2.2=0
    · obtain⟨x,post,hd,ok,rfl⟩:=i1 z1;have hl:=Xr hn hd;have h2:=rawB_pos x;obtain⟨r2,e2,i2,p2⟩:=get_l_inv hb k (n+(vaL x).length) (acc++[x]) (by omega) (by rw[qi,qG]; omega) (by omega);refine⟨r2,by rw[xM.l12,if_pos (by omega),e1,qg,if_pos rfl,xK (by omega),qg]; exact e2,?_,p2⟩
      intro hz
      obtain⟨l,hd2,hok,rfl⟩:=i2 hz;refine⟨x::l,?_,?_,by rw[qs]; rfl⟩
      · rw[rawsB_cons,hd,← hd2,Xs hd]
      intro s hs
      rcases qB.1 hs with rfl|hs
      · exact ok
      exact hok s hs
    refine⟨_,by rw[xM.l12,if_pos (by omega),e1,qg,if_neg z1],fun h=>absurd h z1,p1,fun _=>rfl⟩
  refine⟨_,by rw[xM.l12,if_neg (by omega)],fun _=>⟨[],?_,(fun r hr=>by cases hr),by rw[qz]⟩,u9 0,fun h=>absurd rfl h⟩
  rw[List.drop_eq_nil_of_le (by omega)]; rfl
theorem get_rounds : 4097≤rounds:=by decide
theorem va5 (b:List UInt8):∃ r,xM b=some r∧(r.2=0→b=Yo r.1∧b.length≤4096∧∀ x∈r.1,XN x)∧0≤r.2∧(r.2≠0→r.1=[]):=by
 by_cases hb:b.length≤4096
 · obtain⟨r,e,i,p,q⟩:=get_l_inv hb rounds 0 [] (uq _) (qv _) (by have:=get_rounds; omega);refine⟨r,by rw[xM,if_neg (by omega)]; exact e,?_,p,q⟩
   intro hz
   obtain⟨l,hd,ok,rfl⟩:=i hz;exact⟨hd,hb,ok⟩
 refine⟨_,by rw[xM,if_pos (by omega)],fun h=>absurd h (by decide),by decide,fun _=>rfl⟩
end
section
set_option maxRecDepth 4000
open AM
def vb8 (r:GRaw):List GRaw→List GRaw
 |[]=>[r]
 |x::l=>if r.fTag<x.fTag then r::x::l else x::vb8 r l
def srtA : List GRaw→List GRaw→List GRaw
 |[],S=>S
 |r::q,S=>srtA q (vb8 r S)
def srt (l:List GRaw):List GRaw:=srtA l []
def TagLe (a b:GRaw):Prop:=a.fTag≤b.fTag
theorem insR_app {r:GRaw}:∀ {A B:List GRaw},(∀ a∈A,a.fTag≤r.fTag)→(∀ b∈B,r.fTag<b.fTag)→vb8 r (A++B)=A++r::B
 |[],[],_,_=>rfl
 |[],b::B,_,hB=>by
  rw[qx,vb8,if_pos (hB b (qn ..))]; rfl
 |a::A,B,hA,hB=>by
  rw[qH,vb8,if_neg (by have:=hA a (qn ..); omega),insR_app (fun x hx=>hA x (qm _ hx)) hB]; rfl
theorem insR_mem {r x:GRaw}:∀ {l:List GRaw},x∈vb8 r l↔x=r∨x∈l
 |[]=>by simp[vb8]
 |y::l=>by
  rw[vb8]; split
  · simp
  rw[qB,insR_mem,qB]
  constructor
  · rintro (h|h|h)
    · exact Or.inr (Or.inl h)
    · exact Or.inl h
    exact Or.inr (Or.inr h)
  rintro (h|h|h)
  · exact Or.inr (Or.inl h)
  · exact Or.inl h
  exact Or.inr (Or.inr h)
theorem vax (r:GRaw):∀ l:List GRaw,(vb8 r l).length=l.length+1
 |[]=>rfl
 |x::l=>by
  rw[vb8]; split
  · rfl
  rw[qj,vax r l,qj]
theorem Yw {r:GRaw}:∀ {l:List GRaw},l.Pairwise TagLe→(vb8 r l).Pairwise TagLe
 |[],_=>by simp[vb8]
 |x::l,h=>by
  rw[uw] at h
  rw[vb8]; split
  · rename_i hlt
    rw[uw,uw];refine⟨?_,h⟩
    intro y hy
    rcases qB.1 hy with rfl|hy
    · unfold TagLe; omega
    have:=h.1 y hy; unfold TagLe at *; omega
  rename_i hge
  rw[uw];refine⟨?_,Yw h.2⟩
  intro y hy
  rcases insR_mem.1 hy with rfl|hy
  · unfold TagLe; omega
  exact h.1 y hy
theorem vb7 {r:GRaw}(t:Int):∀ {l:List GRaw},l.Pairwise TagLe→(vb8 r l).filter (fun x=>x.fTag=t)=l.filter (fun x=>x.fTag=t)++(if r.fTag=t then [r] else [])
 |[],_=>by rw[vb8,List.filter_nil,qx,uG,List.filter_nil]; simp only[decide_eq_true_eq]
 |x::l,h=>by
  rw[uw] at h
  rw[vb8]; split
  · rename_i hlt
    rw[uG]
    by_cases hr:r.fTag=t
    · have hn:(x::l).filter (fun x=>x.fTag=t)=[]:=by
       rw[List.filter_eq_nil_iff]
       intro y hy
       simp only[decide_eq_true_eq]
       rcases qB.1 hy with rfl|hy
       · omega
       have:=h.1 y hy; unfold TagLe at this; omega
      rw[hn,if_pos (by simpa using hr),if_pos hr]; rfl
    rw[if_neg (by simpa using hr),if_neg hr,qz]
  rw[uG,uG,vb7 t h.2]
  split<;>rfl
theorem vbN : ∀ {l S:List GRaw},S.Pairwise TagLe→(srtA l S).Pairwise TagLe
 |[],_,h=>h
 |r::l,S,h=>by rw[srtA]; exact vbN (l:=l) (Yw h)
theorem srt_sorted (l:List GRaw):(srt l).Pairwise TagLe:=vbN List.Pairwise.nil
theorem srtA_len : ∀ (l S:List GRaw),(srtA l S).length=S.length+l.length
 |[],_=>rfl
 |r::l,S=>by rw[srtA,srtA_len,vax,qj]; omega
theorem srt_len (l:List GRaw):(srt l).length=l.length:=by rw[srt,srtA_len,ql,qq]
theorem srtA_mem {x:GRaw}:∀ {l S:List GRaw},x∈srtA l S↔x∈S∨x∈l
 |[],S=>by simp[srtA]
 |r::l,S=>by
  rw[srtA,srtA_mem,insR_mem,qB]
  constructor
  · rintro ((h|h)|h)
    · exact Or.inr (Or.inl h)
    · exact Or.inl h
    exact Or.inr (Or.inr h)
  rintro (h|h|h)
  · exact Or.inl (Or.inr h)
  · exact Or.inl (Or.inl h)
  exact Or.inr h
theorem srt_mem {x:GRaw}{l:List GRaw}:x∈srt l↔x∈l:=by rw[srt,srtA_mem]; simp
theorem vbO (t:Int):∀ {l S:List GRaw},S.Pairwise TagLe→(srtA l S).filter (fun x=>x.fTag=t)=S.filter (fun x=>x.fTag=t)++l.filter (fun x=>x.fTag=t)
 |[],S,_=>by rw[srtA,List.filter_nil,qz]
 |r::l,S,h=>by
  rw[srtA,vbO t (Yw h),vb7 t h,uG,qs]
  congr 1
  simp only[decide_eq_true_eq]
  split<;>rfl
theorem srt_filter (l:List GRaw)(t:Int):(srt l).filter (fun x=>x.fTag=t)=l.filter (fun x=>x.fTag=t):=by
 rw[srt,vbO t List.Pairwise.nil]; rfl
theorem sorted_ext : ∀ {l m:List GRaw},l.Pairwise TagLe→m.Pairwise TagLe→(∀ t:Int,l.filter (fun x=>x.fTag=t)=m.filter (fun x=>x.fTag=t))→l=m
 |[],[],_,_,_=>rfl
 |[],y::m,_,_,h=>by
  have:=h y.fTag
  rw[List.filter_nil,uG,if_pos (by simp)] at this; cases this
 |x::l,[],_,_,h=>by
  have:=h x.fTag
  rw[List.filter_nil,uG,if_pos (by simp)] at this; cases this
 |x::l,y::m,hl,hm,h=>by
  rw[uw] at hl hm
  have hxy:x.fTag=y.fTag:=by
   have h1:x∈(y::m).filter (fun z=>z.fTag=x.fTag):=by rw[← h,uG,if_pos (by simp)]; exact qn ..
   have h2:y∈(x::l).filter (fun z=>z.fTag=y.fTag):=by rw[h,uG,if_pos (by simp)]; exact qn ..
   have a1:y.fTag≤x.fTag:=by
    rcases qB.1 (List.mem_filter.1 h1).1 with e|h1
    · rw[e]; exact u9 _
    exact hm.1 x h1
   have a2:x.fTag≤y.fTag:=by
    rcases qB.1 (List.mem_filter.1 h2).1 with e|h2
    · rw[e]; exact u9 _
    exact hl.1 y h2
   omega
  have e:x=y:=by
   have:=h x.fTag;rw[uG,uG,if_pos (by simp),if_pos (by simp[hxy])] at this
   injection this
  subst e
  congr 1
  refine sorted_ext hl.2 hm.2 fun t=>?_
  have:=h t;rw[uG,uG] at this
  split at this
  · injection this
  exact this
theorem srt_of {l m:List GRaw}(hm:m.Pairwise TagLe)(h:∀ t:Int,l.filter (fun x=>x.fTag=t)=m.filter (fun x=>x.fTag=t)):srt l=m:=
 sorted_ext (srt_sorted l) hm fun t=>by rw[srt_filter,h]
theorem Yy {α:Type}{A B:List α}{x:α}{i:Int}(h:i=A.length):Zv (A++x::B) i=some x:=by
 subst h
 rw[Zv,if_pos (by omega),qU,um (qv _),uN]; rfl
theorem idx_t {α:Type}{l:List α}{i:Int}{x:α}(h0:0≤i)(h:l[i.toNat]?=some x):Zv l i=some x:=by rw[Zv,if_pos h0,h]
theorem sorted_l17 {r z:GRaw}{S P:List GRaw}(rec8:Int→List GRaw→Option (List GRaw)):∀ (k:Nat) (A B:List GRaw),S=A++B→(∀ b∈B,r.fTag<b.fTag)→A.Pairwise TagLe→A.length<k→S.length<1000000→
 zO.l17 (S.length:Int) (S++z::P) rec8 r k (A.length:Int)=rec8 ((S.length:Int)+1) (vb8 r S++P)
 |0,_,_,_,_,_,h,_=>by omega
 |k+1,A,B,hS,hB,hA,hk,hn=>by
  have stop:(∀ a∈A,a.fTag≤r.fTag)→zO.j20 (S.length:Int) (S++z::P) rec8 r (A.length:Int) (zO.l17 (S.length:Int) (S++z::P) rec8 r k) false=rec8 ((S.length:Int)+1) (vb8 r S++P):=by
   intro hle
   have hl:S.length=A.length+B.length:=by rw[hS,qi]
   have e1:IntKind.i64.wrap ((A.length:Int)+1)=((A.length+1:Nat):Int):=by rw[yq (by omega) (by omega)]; omega
   rw[zO.j20,if_neg (by decide),e1,Y4 (by rw[qi,qj]; omega),qg,Y4 (by rw[qi,qj]; omega),qg]
   have e2:qF ((S.length:Int)+1)=S.length+1:=by omega
   rw[qU,qU,qU,e2,show min (S.length-A.length) (S.length+1-(A.length+1))=B.length by omega]
   have hc:∃ w:GRaw,A.length<(S++z::P).length∧X3 (S++z::P) (A.length+1) A.length B.length=A++w::(B++P):=by
    cases hB':B with
    |nil=>
     subst hB';rw[qz] at hS;refine⟨z,by rw[hS,qi,qj]; omega,?_⟩;rw[X3,hS,ql,List.take_zero,qx,uV,List.drop_append,List.drop_eq_nil_of_le (by omega),List.take_append,ul (by omega)];rw[show A.length+1-A.length=1 by omega]
     simp
    |cons b B'=>
     refine⟨b,by rw[hS,hB',qi,qi,qj]; omega,?_⟩;rw[hS,hB',X3]
     have t1:((A++b::B')++z::P).take (A.length+1)=A++[b]:=by
      rw[qs,List.take_append,ul (by omega),show A.length+1-A.length=1 by omega]; rfl
     have t2:(((A++b::B')++z::P).drop A.length).take (b::B').length=b::B':=by
      rw[qs,List.drop_left' rfl,List.take_left' rfl]
     have t3:((A++b::B')++z::P).drop (A.length+1+(b::B').length)=P:=by
      rw[show (A++b::B')++z::P=((A++b::B')++[z])++P by rw[qs (A++b::B')]; rfl];rw[List.drop_left']
      simp only[qi,qj,ql]; omega
     rw[t1,t2,t3];simp only[qs,qH,qx]
   obtain⟨w,hlt,hc⟩:=hc
   rw[hc,Yy rfl,qg,setI,qU,List.set_append_right _ _ (qv _),uN,uk,hS,insR_app hle hB,qs]; rfl
  rcases List.eq_nil_or_concat A with rfl|⟨A',a,rfl⟩
  · rw[zO.l17,if_neg (by simp)];exact stop (fun a ha=>by cases ha)
  rw[List.concat_eq_append] at *
  have hlA:(A'++[a]).length=A'.length+1:=by rw[qi,qG]
  have hlS:S.length=(A'++[a]).length+B.length:=by rw[hS,qi]
  have e1:IntKind.i64.wrap (((A'++[a]).length:Int)-1)=(A'.length:Int):=by
   rw[yq (by omega) (by omega)]; omega
  rw[zO.l17,if_pos (by omega),e1]
  have ei:Zv (S++z::P) (A'.length:Int)=some a:=by
   rw[hS,qs,qs]; exact Yy rfl
  rw[ei,qg]
  by_cases hgt:r.fTag<a.fTag
  · rw[decide_eq_true hgt,zO.j20,if_pos rfl,e1];refine sorted_l17 rec8 k A' (a::B) (by rw[hS,qs]; rfl) ?_ (List.pairwise_append.1 hA).1 (by omega) hn
    intro b hb
    rcases qB.1 hb with rfl|hb
    · exact hgt
    exact hB b hb
  rw[decide_eq_false hgt];refine stop ?_
  intro x hx
  rcases ug.1 hx with hx|hx
  · have:=(List.pairwise_append.1 hA).2.2 x hx a (ut.2 rfl)
    unfold TagLe at this; omega
  rw[ut] at hx; subst hx; omega
theorem sorted_l8 : ∀ (q S P:List GRaw),P.length=q.length→S.Pairwise TagLe→S.length+q.length<1000000→zO.l8 q (S.length:Int) (S++P)=some (srtA q S)
 |[],S,P,hP,_,_=>by
  have:P=[]:=qJ.1 (by simpa using hP);subst this;rw[zO.l8,srtA,qz]
 |r::q,S,[],hP,_,_=>by cases hP
 |r::q,S,z::P,hP,hS,hn=>by
  rw[qj] at hn;rw[zO.l8,sorted_l17 (S:=S) (zO.l8 q) rounds S [] (qz S).symm (fun b hb=>by cases hb) hS (uj (show S.length<1000000 by omega) (by decide)) (by omega)]
  have e:(S.length:Int)+1=((vb8 r S).length:Int):=by rw[vax]; omega
  rw[e,sorted_l8 q (vb8 r S) P (by simpa using hP) (Yw hS) (by rw[vax]; omega),srtA]
theorem sorted_eq {l:List GRaw}(h:l.length<1000000):zO l=some (srt l):=by
 rw[zO,Y4 (by omega),qg,qU];exact sorted_l8 l [] _ List.length_replicate List.Pairwise.nil (by rw[ql]; omega)
end
section
set_option maxRecDepth 4000
open AM
theorem YI (s:List UInt8)(p:Nat):1≤(YQ s p).2:=by
 unfold YQ Utf8.decode
 dsimp only
 repeat' split
 all_goals first|exact qv 1|exact (by decide:1≤2)|exact (by decide:1≤3)|exact (by decide:1≤4)
theorem runesNext_t (a:List UInt8)(n:Nat)(h:a.length≤9223372036854775807):∃ r,wC a (n:Int)=some r:=by
 unfold wC
 split
 · exact⟨_,rfl⟩
 rename_i h1
 simp only[qI,decide_eq_true_eq,not_or] at h1;rw[Y4 (by omega),qg,bnd]
 split<;>exact⟨_,rfl⟩
theorem va7 (a:List UInt8)(h:a.length≤9223372036854775807):∀ (k p:Nat),0<k→a.length<p+k→∃ v,yH.l4 a k p=some v
 |0,p,h0,hk=>by omega
 |k+1,p,_,hk=>by
  have hd:=YI a p;rw[yH.l4]
  split
  · have ih:=va7 a h k (p+(YQ a p).2) (by omega) (by omega)
    split
    · obtain⟨r,e⟩:=runesNext_t a p h;rw[e,qg]
      split
      · exact⟨_,rfl⟩
      exact ih
    exact ih
  exact⟨_,rfl⟩
theorem yF : 9223372036854775808≤rounds:=by decide
def vbR (b:List UInt8):Bool:=(yH b).getD false
theorem runesV_eq {a:List UInt8}(h:a.length≤9223372036854775807):yH a=some (vbR a):=by
 obtain⟨v,e⟩:=va7 a h rounds 0 (by have:=yF; omega) (by have:=yF; omega);unfold vbR
 rw[show yH a=some v from e]; rfl
theorem ge_tag (t:Int)(l:List GTree):(GEntry.mk t l).fTag=t:=rfl
theorem Yr (t:Int)(l:List GTree):(GEntry.mk t l).fTrees=l:=rfl
def Xv (a b:GEntry):Prop:=a.fTag<b.fTag
def vaM (t:Int)(rep:Prop) [Decidable rep](x:GTree):List GEntry→List GEntry
 |[]=>[⟨t,[x]⟩]
 |e::l=>if e.fTag<t then e::vaM t rep x l else if e.fTag=t then ⟨t,(if rep then e.fTrees else [])++[x]⟩::l else ⟨t,[x]⟩::e::l
def putN (t:Int)(rep:Prop) [Decidable rep]:List GEntry→Nat
 |[]=>1
 |e::l=>if e.fTag<t then putN t rep l else if e.fTag=t then (if rep then e.fTrees.length else 0)+1 else 1
theorem putE_app {t:Int}{rep:Prop} [Decidable rep]{x:GTree}{B:List GEntry}:∀ {A:List GEntry},(∀ a∈A,a.fTag<t)→vaM t rep x (A++B)=A++vaM t rep x B
 |[],_=>rfl
 |a::A,h=>by
  rw[qH,vaM,if_pos (h a (qn ..)),putE_app fun b hb=>h b (qm _ hb)]; rfl
theorem putN_app {t:Int}{rep:Prop} [Decidable rep]{B:List GEntry}:∀ {A:List GEntry},(∀ a∈A,a.fTag<t)→putN t rep (A++B)=putN t rep B
 |[],_=>rfl
 |a::A,h=>by
  rw[qH,putN,if_pos (h a (qn ..)),putN_app fun b hb=>h b (qm _ hb)]
theorem splitE (t:Int):∀ {es:List GEntry},es.Pairwise Xv→∃ A B,es=A++B∧(∀ a∈A,a.fTag<t)∧(∀ b∈B,t≤b.fTag)
 |[],_=>⟨[],[],rfl,(fun _ h=>by cases h),(fun _ h=>by cases h)⟩
 |e::es,h=>by
  rw[uw] at h
  by_cases he:e.fTag<t
  · obtain⟨A,B,rfl,hA,hB⟩:=splitE t h.2;refine⟨e::A,B,rfl,?_,hB⟩
    intro a ha
    rcases qB.1 ha with rfl|ha
    · exact he
    exact hA a ha
  refine⟨[],e::es,rfl,(fun _ h=>by cases h),?_⟩
  intro b hb
  rcases qB.1 hb with rfl|hb
  · omega
  have:=h.1 b hb; unfold Xv at this; omega
theorem put1_eq {e:GEntry}{t:Int}(h1:1≤e.fTag∧e.fTag≤500)(h2:1≤t∧t≤500):we e t=e.fTag-t:=by
 unfold we; exact yq (by omega) (by omega)
theorem half {x y:Nat}(h:x+y<9223372036854775808):IntKind.i64.wrap (Int.fdiv (IntKind.u64.wrap (IntKind.i64.wrap ((x:Int)+(y:Int)))) (2^(min (qF 1) 64)))=(((x+y) / 2:Nat):Int):=by
 rw[yq (x:=(x:Int)+y) (by omega) (by omega),u64i (by omega) (by omega),show min (qF 1) 64=1 from rfl,Int.fdiv_eq_ediv_of_nonneg _ (by decide),yq (by omega) (by omega)]
 omega
def Y3 (t:Int):List GEntry→Bool
 |[]=>false
 |b::_=>decide (b.fTag=t)
theorem bs_l {t:Int}{A B:List GEntry}(ht:1≤t∧t≤500)(hA:∀ a∈A,a.fTag<t)(hB:∀ b∈B,t≤b.fTag)(hr:∀ e∈A++B,1≤e.fTag∧e.fTag≤500)(hn:(A++B).length<4611686018427387904):
 ∀ (k x y:Nat),x≤A.length→A.length≤y→y≤(A++B).length→y<x+k→zl.l6 (A++B) t k (x:Int) (y:Int)=some ((A.length:Int),Y3 t B)
 |0,x,y,_,_,_,hk=>by omega
 |k+1,x,y,hx,hy,hl,hk=>by
  rw[zl.l6]
  by_cases hlt:x<y
  · rw[if_pos (by omega),half (by omega)]
    have hm:(x+y) / 2<(A++B).length:=by omega
    rw[idx_t (by omega) (show (A++B)[qF (((x+y) / 2:Nat):Int)]?=some ((A++B)[(x+y) / 2]'hm) by rw[qU]; exact q1 hm),qg,bnd,put1_eq (hr _ (List.getElem_mem hm)) ht]
    by_cases hc:(x+y) / 2<A.length
    · have e:(A++B)[(x+y) / 2]'hm=A[(x+y) / 2]'hc:=List.getElem_append_left hc;have:=hA _ (List.getElem_mem hc);rw[e,if_pos (by omega),yq (by omega) (by omega),show (((x+y) / 2:Nat):Int)+1=(((x+y) / 2+1:Nat):Int) by omega];exact bs_l ht hA hB hr hn k _ y (by omega) hy hl (by omega)
    have hlB:(x+y) / 2-A.length<B.length:=by rw[qi] at hm; omega
    have e:(A++B)[(x+y) / 2]'hm=B[(x+y) / 2-A.length]'hlB:=List.getElem_append_right (by omega);have:=hB _ (List.getElem_mem hlB);rw[e,if_neg (by omega)];exact bs_l ht hA hB hr hn k x _ hx (by omega) (by omega) (by omega)
  have e:x=A.length:=by omega
  subst e;rw[if_neg (by omega)]
  cases B with
  |nil=>rw[qz,if_neg (by omega)]; rfl
  |cons b B=>
   rw[if_pos (by rw[qi,qj]; omega),Yy rfl,qg,bnd,put1_eq (hr b (q2 _ (qn ..))) ht,qg,Y3]
   congr 2
   exact decide_eq_decide.2 (by omega)
theorem decode_put_eq {es:List GEntry}{f:GField}{x:GTree}(hs:es.Pairwise Xv)(hr:∀ e∈es,1≤e.fTag∧e.fTag≤500)(hf:1≤f.fTag∧f.fTag≤500)(hn:es.length<1000000)(ht:∀ e∈es,e.fTrees.length<1000000):
 Y7 es f x=some (vaM f.fTag (f.fLabel=3) x es,decide (putN f.fTag (f.fLabel=3) es≤64)):=by
 obtain⟨A,B,rfl,hA,hB⟩:=splitE f.fTag hs;have hln:(A++B).length=A.length+B.length:=qi;have bs:zl (A++B) f.fTag=some ((A.length:Int),Y3 f.fTag B):=bs_l hf hA hB hr (by omega) rounds 0 (A++B).length (uq _) (by omega) (qv _) (by have:=yF; omega);rw[Y7,bs,qg,putE_app hA,putN_app hA]
 have ins:∀ (B:List GEntry),(A++B).length<1000000→Y3 f.fTag B=false→(∀ b∈B,f.fTag≤b.fTag)→((if ((A.length:Int),Y3 f.fTag B).2=true then some (A++B) else (grd (0≤((A.length:Int),Y3 f.fTag B).1∧((A.length:Int),Y3 f.fTag B).1≤((A++B).length:Int))).bind fun _=>(Yg ((A++B).length+1) 32).bind fun _=>some ((A++B).take ((A.length:Int),Y3 f.fTag B).1.toNat++⟨f.fTag,[]⟩::(A++B).drop ((A.length:Int),Y3 f.fTag B).1.toNat)).bind fun es1=>
  (Zv es1 ((A.length:Int),Y3 f.fTag B).1).bind fun e=>
  (Yg ((if f.fLabel=3 then e.fTrees.length else 0)+1) 80).bind fun _=>
  some (es1.set ((A.length:Int),Y3 f.fTag B).1.toNat ⟨e.fTag,(if f.fLabel=3 then e.fTrees else [])++[x]⟩,decide ((((if f.fLabel=3 then e.fTrees else [])++[x]).length:Int)≤64)))=some (A++⟨f.fTag,[x]⟩::B,true):=by
  intro B hln hh _
  have hl2:(A++B).length=A.length+B.length:=qi;rw[hh];simp only[qU];rw[if_neg (by decide),Y4 (by omega),qg,xK (by omega),qg,qg,List.take_left' rfl,List.drop_left' rfl,Yy rfl,qg,xK (by rw[Yr]; split<;>decide),qg,List.set_append_right _ _ (qv _),uN,uk]
  simp only[ge_tag,Yr,ite_self,qx,qG]; rfl
 cases B with
 |nil=>
  rw[ins [] hn rfl (fun _ h=>by cases h)]; rfl
 |cons b B=>
  have hb:=hB b (qn ..)
  by_cases hbt:b.fTag=f.fTag
  · have hh:Y3 f.fTag (b::B)=true:=decide_eq_true hbt;have htb:=ht b (q2 _ (qn ..));rw[hh];simp only[qU];rw[if_pos trivial,qg,Yy rfl,qg,xK (by split<;>omega),qg,List.set_append_right _ _ (qv _),uN,uk,vaM,if_neg (show ¬ b.fTag<f.fTag by omega),if_pos hbt,putN,if_neg (show ¬ b.fTag<f.fTag by omega),if_pos hbt,hbt]
    congr 2
    refine decide_eq_decide.2 ?_;rw[qi,qG]
    by_cases h3:f.fLabel=3
    · rw[if_pos h3,if_pos h3]; omega
    rw[if_neg h3,if_neg h3,ql]; omega
  have hh:Y3 f.fTag (b::B)=false:=decide_eq_false hbt
  rw[ins (b::B) hn hh hB,vaM,if_neg (by omega),if_neg hbt,putN,if_neg (by omega),if_neg hbt]; rfl
theorem putE_mem {t:Int}{rep:Prop} [Decidable rep]{x:GTree}{e:GEntry}:∀ {es:List GEntry},e∈vaM t rep x es→e∈es∨e.fTag=t
 |[],h=>by rw[vaM,ut] at h; subst h; exact Or.inr rfl
 |a::es,h=>by
  rw[vaM] at h; split at h
  · rcases qB.1 h with rfl|h
    · exact Or.inl (qn ..)
    rcases putE_mem h with h|h
    · exact Or.inl (qm _ h)
    exact Or.inr h
  split at h
  · rcases qB.1 h with rfl|h
    · exact Or.inr rfl
    exact Or.inl (qm _ h)
  rcases qB.1 h with rfl|h
  · exact Or.inr rfl
  exact Or.inl h
theorem vag {t:Int}{rep:Prop} [Decidable rep]{x:GTree}:∀ {es:List GEntry},es.Pairwise Xv→(vaM t rep x es).Pairwise Xv
 |[],_=>by simp[vaM]
 |a::es,h=>by
  rw[uw] at h
  rw[vaM]; split
  · rename_i hlt
    rw[uw];refine⟨?_,vag h.2⟩
    intro b hb
    rcases putE_mem hb with hb|hb
    · exact h.1 b hb
    unfold Xv; omega
  split
  · rename_i hge heq
    rw[uw];refine⟨?_,h.2⟩
    intro b hb
    have:=h.1 b hb; unfold Xv at *; simp only[ge_tag]; omega
  rename_i hge hne
  rw[uw,uw];refine⟨?_,h⟩
  intro b hb
  rcases qB.1 hb with rfl|hb
  · unfold Xv; simp only[ge_tag]; omega
  have:=h.1 b hb; unfold Xv at *; simp only[ge_tag]; omega
theorem putE_len {t:Int}{rep:Prop} [Decidable rep]{x:GTree}:∀ {es:List GEntry},(vaM t rep x es).length≤es.length+1
 |[]=>by rw[vaM]; exact qv _
 |a::es=>by
  rw[vaM]; split
  · rw[qj,qj]; have:=putE_len (t:=t) (rep:=rep) (x:=x) (es:=es); omega
  split<;>simp only[qj]<;>omega
theorem putE_all {t:Int}{rep:Prop} [Decidable rep]{x:GTree}{e:GEntry}:∀ {es:List GEntry},e∈vaM t rep x es→e∈es∨(e.fTag=t∧e.fTrees.length=putN t rep es∧e.fTrees≠[])
 |[],h=>by rw[vaM,ut] at h; subst h; exact Or.inr ⟨rfl,rfl,by rw[Yr]; simp⟩
 |a::es,h=>by
  rw[vaM] at h; rw[putN]; split at h
  · rename_i hlt
    rw[if_pos hlt]
    rcases qB.1 h with rfl|h
    · exact Or.inl (qn ..)
    rcases putE_all h with h|h
    · exact Or.inl (qm _ h)
    exact Or.inr h
  rename_i hlt
  rw[if_neg hlt]
  split at h
  · rename_i heq
    rw[if_pos heq]
    rcases qB.1 h with rfl|h
    · refine Or.inr ⟨rfl,?_,by rw[Yr]; simp⟩
      simp only[Yr,qi,qG]; split<;>rfl
    exact Or.inl (qm _ h)
  rename_i hne
  rw[if_neg hne]
  rcases qB.1 h with rfl|h
  · exact Or.inr ⟨rfl,rfl,by rw[Yr]; simp⟩
  exact Or.inl h
def zTree : GTree:=⟨0,0,[],[],[]⟩
def isZ (m:GMessage)(e:GEntry):Bool:=decide ((zw m e.fTag).1.fLabel=1)&&Zg (e.fTrees.headD zTree)
def zdel (m:GMessage)(es:List GEntry):List GEntry:=es.filter fun e => !isZ m e
theorem vaG {m:GMessage}:∀ {es:List GEntry},(∀ e∈es,e.fTrees≠[])→w6 m es=some (zdel m es)
 |[],_=>rfl
 |e::es,h=>by
  have he:=h e (qn ..);rw[w6,xy,bnd]
  have e1:(if (zw m e.fTag).1.fLabel=1 then (Zv e.fTrees 0).bind fun y2=>bnd (Zg y2) fun r5=>some r5 else some false)=some (isZ m e):=by
   unfold isZ
   split
   · rename_i hl
     cases ht:e.fTrees with
     |nil=>exact absurd ht he
     |cons a l=>
      rw[idx_t (u9 0) (show (a::l)[qF 0]?=some a from rfl),qg,bnd,hl]; rfl
   rename_i hl
   rw[decide_eq_false hl,Bool.false_and]
  rw[e1,qg,qg,vaG fun a ha=>h a (qm _ ha),qg]
  unfold zdel; rw[uG]
  cases isZ m e<;>rfl
def fldD (m:GMessage)(one:GType→GRaw→GTree×Int):List GRaw→List GEntry→List GRaw→GTree×Int
 |[],es,rest=>(⟨3,0,[],zdel m es,srt rest⟩,0)
 |r::q,es,rest=>
  if (zw m r.fTag).2=true then
   (if (one (zw m r.fTag).1.fType r).2=0 then
    (if putN r.fTag ((zw m r.fTag).1.fLabel=3) es≤64 then fldD m one q (vaM r.fTag ((zw m r.fTag).1.fLabel=3) (one (zw m r.fTag).1.fType r).1 es) rest else (zTree,4))
   else (zTree,(one (zw m r.fTag).1.fType r).2))
  else fldD m one q es (rest++[r])
theorem YP {m:GMessage}{t:Int}(h:(zw m t).2=true):(zw m t).1.fTag=t∧(zw m t).1∈m.fFields:=by
 have key:∀ (l:List GField) (i:Int),(zw.l4 t l i).2=true→(zw.l4 t l i).1.fTag=t∧(zw.l4 t l i).1∈l:=by
  intro l
  induction l with
  |nil=>intro i h; cases h
  |cons f l ih=>
   intro i h
   rw[zw.l4] at h ⊢
   split at h
   · rename_i hf
     rw[if_pos hf]; exact⟨hf,qn ..⟩
   rename_i hf
   rw[if_neg hf];obtain⟨h1,h2⟩:=ih _ h;exact⟨h1,qm _ h2⟩
 exact key m.fFields 0 h
theorem fldD_eq {self:GSchema→GType→GRaw→Int→Option (GTree×Int)}{s:GSchema}{m:GMessage}{deep:Int}{one:GType→GRaw→GTree×Int}:
 ∀ {l:List GRaw} {es:List GEntry} {rest:List GRaw},(∀ r∈l,1≤r.fTag∧r.fTag≤500)→(∀ r∈l,∀ y,self s y r deep=some (one y r))→es.Pairwise Xv→(∀ e∈es,(1≤e.fTag∧e.fTag≤500)∧e.fTrees≠[]∧e.fTrees.length≤64)→es.length+l.length<100000→rest.length+l.length<100000→
 zz.l self s m deep l es rest=some (fldD m one l es rest)
 |[],es,rest,_,_,_,he,hn,hn'=>by
  rw[zz.l,xK (by simp only[ql] at hn; omega),qg,vaG fun e h=>(he e h).2.1,qg,sorted_eq (by simp only[ql] at hn'; omega),qg,fldD]
 |r::l,es,rest,ht,ho,hs,he,hn,hn'=>by
  rw[qj] at hn hn';have hr:=ht r (qn ..)
  have ht':∀ r∈l,1≤r.fTag∧r.fTag≤500:=fun x hx=>ht x (qm _ hx)
  have ho':∀ r∈l,∀ y,self s y r deep=some (one y r):=fun x hx=>ho x (qm _ hx)
  rw[zz.l,bnd,fldD]
  by_cases hf:(zw m r.fTag).2=true
  · obtain⟨hft,_⟩:=YP hf;rw[if_pos hf,if_pos hf,ho r (qn ..),qg]
    by_cases h0:(one (zw m r.fTag).1.fType r).2=0
    · rw[if_pos h0,if_pos h0,decode_put_eq hs (fun e h=>(he e h).1) (by rw[hft]; exact hr) (by omega) (fun e h=>by have:=(he e h).2.2; omega),qg,hft]
      by_cases hp:putN r.fTag ((zw m r.fTag).1.fLabel=3) es≤64
      · rw[if_pos hp,if_pos (decide_eq_true hp)];refine fldD_eq (es:=vaM r.fTag ((zw m r.fTag).1.fLabel=3) (one (zw m r.fTag).1.fType r).1 es) ht' ho' (vag hs) ?_ (by have:=putE_len (t:=r.fTag) (rep:=(zw m r.fTag).1.fLabel=3) (x:=(one (zw m r.fTag).1.fType r).1) (es:=es); omega) (by omega)
        intro e h
        rcases putE_all h with h|⟨h1,h2,h3⟩
        · exact he e h
        exact⟨by rw[h1]; exact hr,h3,by omega⟩
      rw[if_neg hp,if_neg (by simpa using hp)]; rfl
    rw[if_neg h0,if_neg h0]; rfl
  rw[if_neg hf,if_neg hf,xK (by omega),qg];exact fldD_eq ht' ho' hs he (by omega) (by rw[qi,qG]; omega)
def vaT (s:GSchema)(n:List UInt8):GMessage:=(zI s n).1
def oneD (msg:GMessage→List UInt8→GTree×Int)(s:GSchema)(y:GType)(r:GRaw):GTree×Int:=
 if (if y.fKind=4∨y.fKind=5∨y.fKind=7 then r.fWire=1 else r.fWire=0) then
  (if y.fKind=3∨y.fKind=6 then (if xN y r.fN=true then (⟨1,r.fN,[],[],[]⟩,0) else (zTree,11))
  else if y.fKind=4 then (if vbR r.fB=true then (⟨2,0,r.fB,[],[]⟩,0) else (zTree,9))
  else if y.fKind=7 then msg (vaT s y.fName) r.fB
  else (if r.fWire=1 then ⟨2,0,r.fB,[],[]⟩ else ⟨1,r.fN,[],[],[]⟩,0))
 else (zTree,8)
theorem oneD_eq {self:GSchema→GMessage→List UInt8→Int→Option (GTree×Int)}{self2:GSchema→GType→GRaw→Int→Option (GTree×Int)}{s:GSchema}{y:GType}{r:GRaw}{deep:Int}{msg:GMessage→List UInt8→GTree×Int}(hw:r.fWire=0∨r.fWire=1)(hb:r.fB.length≤4096)(hd:deep<1000)(hd':0≤deep)(hs:self s (vaT s y.fName) r.fB (deep+1)=some (msg (vaT s y.fName) r.fB)):
 zR.body self self2 s y r deep=some (oneD msg s y r):=by
 have hv:=runesV_eq (a:=r.fB) (by omega);have ed:IntKind.i64.wrap (deep+1)=deep+1:=yq (by omega) (by omega)
 have hm:∀ z:GTree×Int,some (z.1,z.2)=some z:=fun z=>rfl
 unfold zR.body zR.j2 zR.j26 zR.j3 zR.j6 zR.j4 oneD bnd;unfold vaT at hs ⊢;simp only[Y4 (show r.fB.length≤9223372036854775807 by omega),hv,ed,qg,hs]
 rcases hw with hw|hw<;>simp only[hw,reduceIte,reduceCtorEq,uW] <;>
  by_cases k4:y.fKind=4<;>by_cases k5:y.fKind=5<;>by_cases k7:y.fKind=7<;>by_cases k3:y.fKind=3<;>by_cases k6:y.fKind=6 <;>
  first
   |(exfalso; omega)
   |(simp only[k4,k5,k7,k3,k6,reduceIte,reduceCtorEq,uW,decide_true,decide_false,or_true,true_or,or_false,false_or,or_self,ue]<;>first|rfl|(cases xN y r.fN<;>rfl)|(cases vbR r.fB<;>rfl))
def getD (b:List UInt8):List GRaw×Int:=(xM b).getD ([],99)
theorem getD_eq (b:List UInt8):xM b=some (getD b):=by
 obtain⟨r,e,_⟩:=va5 b
 unfold getD; rw[e]; rfl
theorem getD_ok {b:List UInt8}(h:(getD b).2=0):b=Yo (getD b).1∧b.length≤4096∧∀ x∈(getD b).1,XN x:=by
 obtain⟨r,e,i,_⟩:=va5 b;rw[getD_eq] at e;obtain rfl:=Option.some.inj e;exact i h
theorem XZ : ∀ l:List GRaw,2*l.length≤(Yo l).length
 |[]=>uq _
 |r::l=>by
  rw[rawsB_cons,qi,qj]
  have:=XZ l; have:=rawB_pos r; omega
def decM (s:GSchema):Nat→GMessage→List UInt8→GTree×Int
 |0,_,_=>(zTree,10)
 |d+1,m,b=>if (getD b).2=0 then fldD m (oneD (decM s d) s) (getD b).1 [] [] else (zTree,(getD b).2)
theorem ZY (s:GSchema):∀ (d k:Nat) (m:GMessage) (b:List UInt8) (deep:Int),d≤10→deep=11-d→2*d+1≤k→zz k s m b deep=some (decM s d m b)
 |d,0,m,b,deep,_,_,h=>by omega
 |0,k+1,m,b,deep,_,h,_=>by
  rw[zz,zz.body,if_pos (by omega)]; rfl
 |d+1,k+1,m,b,deep,h10,hd,hk=>by
  rw[zz,zz.body,if_neg (by omega),getD_eq,qg,decM]
  by_cases h0:(getD b).2=0
  · rw[if_pos h0,if_pos h0];obtain⟨hb,hl,hok⟩:=getD_ok h0
    have hlen:(getD b).1.length<100000:=by
     have:=XZ (getD b).1
     rw[← hb] at this; omega
    refine fldD_eq ?_ ?_ List.Pairwise.nil (fun _ h=>by cases h) (by rw[ql]; omega) (by rw[ql]; omega)
    · intro r hr
      have:=ZJ (hok r hr).1;exact⟨this.1,this.2.1⟩
    intro r hr y
    obtain⟨k',rfl⟩:∃ k',k=k'+1:=⟨k-1,by omega⟩
    rw[zR];have hc:=(ZJ (hok r hr).1).2.2
    have hbl:r.fB.length≤4096:=by
     rcases hc with ⟨_,hc⟩|⟨_,_,hc⟩
     · rw[hc]; decide
     exact hc
    refine oneD_eq (by rcases hc with hc|hc; exact Or.inl hc.1; exact Or.inr hc.1) hbl (by omega) (by omega) ?_;exact ZY s d k' _ _ _ (by omega) (by omega) (by omega)
  rw[if_neg h0,if_neg h0]; rfl
theorem decode_eq {s:GSchema}{name b:List UInt8}(hc:zx s=some 0)(hm:(zI s name).2=true):xw s name b=some (decM s 10 (vaT s name) b):=by
 rw[xw,hc,qg,if_pos rfl,bnd,hm,if_neg (by decide),ZY s 10 rounds _ b 1 (qv _) rfl (by have:=yF; omega),qg]; rfl
end
section
set_option maxRecDepth 4000
open AM
def maxD (f:GTree→Nat):List GTree→Nat→Nat
 |[],d=>d
 |x::l,d=>maxD f l (max d (f x))
theorem maxD_ge {f:GTree→Nat}:∀ (l:List GTree) (d:Nat),d≤maxD f l d
 |[],d=>qv _
 |x::l,d=>ux (Nat.le_max_left _ _) (maxD_ge l _)
theorem maxD_mem {f:GTree→Nat}{x:GTree}:∀ {l:List GTree} {d:Nat},x∈l→f x≤maxD f l d
 |y::l,d,h=>by
  rw[maxD]
  rcases qB.1 h with rfl|h
  · exact ux (Nat.le_max_right _ _) (maxD_ge l _)
  exact maxD_mem h
theorem maxD_le {f:GTree→Nat}{n:Nat}:∀ {l:List GTree} {d:Nat},d≤n→(∀ x∈l,f x≤n)→maxD f l d≤n
 |[],d,h,_=>h
 |x::l,d,h,hl=>maxD_le (l:=l) (Nat.max_le.2 ⟨h,hl x (qn ..)⟩) fun y hy=>hl y (qm _ hy)
theorem maxD_app (f:GTree→Nat):∀ (l m:List GTree) (d:Nat),maxD f (l++m) d=maxD f m (maxD f l d)
 |[],_,_=>rfl
 |x::l,m,d=>maxD_app f l m _
def kids (t:GTree):List GTree:=t.fEntries.flatMap GEntry.fTrees
def XT : Nat→GTree→Nat
 |0,_=>0
 |m+1,t=>if t.fKind=3 then maxD (XT m) (kids t) 0+1 else 0
theorem depT_le : ∀ (m:Nat) (t:GTree),XT m t≤m
 |0,_=>qv _
 |m+1,t=>by
  rw[XT]; split
  · exact Nat.succ_le_succ (maxD_le (uq _) fun x _=>depT_le m x)
  exact uq _
theorem deep_l20 {self:GTree→Int→Option Int}{m:Nat}(hm:m<1000)(hs:∀ x,self x (m:Int)=some ((XT m x:Nat):Int)){x7:Int}{rec10:Int→Int→Option Int}:∀ (l:List GTree) (i:Int) (d:Nat),
 z8.l20 self ((m+1:Nat):Int) x7 rec10 l i (d:Int)=rec10 (x7+1) ((maxD (XT m) l d:Nat):Int)
 |[],i,d=>rfl
 |x::l,i,d=>by
  rw[z8.l20,show IntKind.i64.wrap (((m+1:Nat):Int)-1)=(m:Int) by rw[yq (by omega) (by omega)]; omega,hs,qg,maxD]
  have e:(if (d:Int)<((XT m x:Nat):Int) then ((XT m x:Nat):Int) else (d:Int))=((max d (XT m x):Nat):Int):=by split<;>omega
  rw[e]; exact deep_l20 hm hs l _ _
theorem deep_l10 {self:GTree→Int→Option Int}{m:Nat}(hm:m<1000)(hs:∀ x,self x (m:Int)=some ((XT m x:Nat):Int)):∀ (l:List GEntry) (i:Int) (d:Nat),d≤1000→
 z8.l10 self ((m+1:Nat):Int) l i (d:Int)=some ((maxD (XT m) (l.flatMap GEntry.fTrees) d+1:Nat):Int)
 |[],i,d,hd=>by
  rw[z8.l10,yq (by omega) (by omega),un,maxD]; rfl
 |e::l,i,d,hd=>by
  rw[z8.l10,deep_l20 hm hs,deep_l10 hm hs l _ _ (maxD_le hd fun x _=>ux (depT_le m x) (by omega)),qO,maxD_app]
theorem deep_eq : ∀ (m k:Nat) (t:GTree),m<1000→m<k→z8 k t (m:Int)=some ((XT m t:Nat):Int)
 |m,0,t,_,h=>by omega
 |0,k+1,t,_,_=>by
  rw[z8,z8.body,if_pos (by simp)]; rfl
 |m+1,k+1,t,hm,hk=>by
  rw[z8,z8.body,XT]
  by_cases h3:t.fKind=3
  · rw[if_neg (by simp only[h3,decide_true,qQ,uJ,decide_eq_true_eq]; omega),if_pos h3];exact deep_l10 (by omega) (fun x=>deep_eq m k x (by omega) (by omega)) t.fEntries 0 0 (by omega)
  rw[if_pos (by simp[h3]),if_neg h3]; rfl
theorem Depth_eq (t:GTree):wP t=some ((XT 101 t:Nat):Int):=by
 rw[wP,show (101:Int)=((101:Nat):Int) from rfl,deep_eq 101 rounds t (by omega) (by have:=yF; omega)]; rfl
def risB : List GRaw→Bool
 |a::b::l=>decide (a.fTag≤b.fTag)&&risB (b::l)
 |_=>true
theorem risB_iff : ∀ {l:List GRaw},risB l=true↔l.Pairwise TagLe
 |[]=>by simp[risB]
 |[a]=>by simp[risB]
 |a::b::l=>by
  rw[risB,qo,decide_eq_true_eq,risB_iff,uw (a:=a)]
  constructor
  · rintro ⟨h1,h2⟩;refine⟨?_,h2⟩
    intro c hc
    rcases qB.1 hc with rfl|hc
    · exact h1
    have:=(uw.1 h2).1 c hc; unfold TagLe at *; omega
  rintro ⟨h1,h2⟩;exact⟨h1 b (qn ..),h2⟩
theorem rising_l {L:List GRaw}(hL:L.length<4611686018427387904):∀ (k:Nat) (A:List GRaw) (a:GRaw) (B:List GRaw),L=A++a::B→B.length<k→xl.l4 L k ((A.length+1:Nat):Int)=some (risB (a::B))
 |0,_,_,_,_,h=>by omega
 |k+1,A,a,[],h,_=>by
  rw[xl.l4,if_neg (by rw[h,qi,qG]; omega)]; rfl
 |k+1,A,a,b::B,h,hk=>by
  have hl:L.length=A.length+(B.length+2):=by rw[h,qi,qj,qj]
  have e1:Zv L ((A.length+1:Nat):Int)=some b:=by
   rw[h,show A++a::b::B=(A++[a])++b::B by rw[qs]; rfl];exact Yy (by rw[qi,qG])
  have e2:IntKind.i64.wrap (((A.length+1:Nat):Int)-1)=(A.length:Int):=by rw[yq (by omega) (by omega)]; omega
  have e3:Zv L (A.length:Int)=some a:=by rw[h]; exact Yy rfl
  have e4:IntKind.i64.wrap (((A.length+1:Nat):Int)+1)=(((A++[a]).length+1:Nat):Int):=by rw[yq (by omega) (by omega),qi,qG]; omega
  rw[xl.l4,if_pos (by omega),e1,qg,e2,e3,qg,risB]
  by_cases hlt:b.fTag<a.fTag
  · rw[if_pos hlt,decide_eq_false (by omega)]; rfl
  rw[if_neg hlt,e4,rising_l hL k (A++[a]) b B (by rw[h,qs]; rfl) (by simpa using hk),decide_eq_true (by omega),uC]
theorem rising_eq {l:List GRaw}(h:l.length<4611686018427387904):xl l=some (risB l):=by
 cases l with
 |nil=>rfl
 |cons a l=>exact rising_l h rounds [] a l rfl (by have:=yF; rw[qj] at h; omega)
def restB (t:GTree):Bool:=t.fRest.all (fun r=>yv r && !(t.fEntries.any fun e=>decide (e.fTag=r.fTag)))&&risB t.fRest
theorem rest_l16 {x2:Int}{rec4:Int→Option Bool}{y:GRaw}:∀ (l:List GEntry) (i:Int),yN.l16 x2 rec4 y l i=if (l.any fun e=>decide (e.fTag=y.fTag))=true then some false else rec4 (x2+1)
 |[],i=>by rw[yN.l16]; rfl
 |e::l,i=>by
  rw[yN.l16,List.any_cons]
  by_cases h:e.fTag=y.fTag
  · rw[if_pos h,decide_eq_true h,Bool.true_or,if_pos rfl]
  rw[if_neg h,decide_eq_false h,uJ,rest_l16]
theorem rest_l4 {t:GTree}(hr:t.fRest.length<4611686018427387904):∀ (l:List GRaw) (i:Int),yN.l4 t l i=some (l.all (fun r=>yv r && !(t.fEntries.any fun e=>decide (e.fTag=r.fTag)))&&risB t.fRest)
 |[],i=>by rw[yN.l4,rising_eq hr]; rfl
 |r::l,i=>by
  rw[yN.l4,bnd,qY]
  cases hc:yv r with
  |false=>rfl
  |true=>
   rw[if_neg (by decide),rest_l16]
   cases ha:t.fEntries.any fun e=>decide (e.fTag=r.fTag) with
   |true=>rfl
   |false=>rw[if_neg (by decide),rest_l4 hr l]; rfl
theorem rest_eq {t:GTree}(hr:t.fRest.length<4611686018427387904):yN t=some (restB t):=rest_l4 hr _ _
def entB (f:GTree→Bool):Int→List GEntry→Bool
 |_,[]=>true
 |last,e::l=>decide (last<e.fTag∧e.fTag≤500∧1≤e.fTrees.length∧e.fTrees.length≤64)&&(e.fTrees.all fun x=>decide (x.fKind=(e.fTrees.headD zTree).fKind)&&f x)&&entB f e.fTag l
def leafB (t:GTree):Bool:=
 if t.fKind=1 then decide (t.fS=[])&&decide ((qc t.fEntries:Int)=0)&&decide ((qc t.fRest:Int)=0)
 else if t.fKind=2 then decide (t.fN=0)&&decide ((qc t.fEntries:Int)=0)&&decide ((qc t.fRest:Int)=0)
 else false
def Zd : Nat→GTree→Bool
 |0,t=>leafB t
 |d+1,t=>if t.fKind=3 then decide (t.fN=0)&&decide (t.fS=[])&&entB (Zd d) 0 t.fEntries&&restB t else leafB t
def ownS (t:GTree):Prop:=In64 t.fN∧t.fRest.length≤900000∧∀ r∈t.fRest,In64 r.fN
def szT : Nat→GTree→Prop
 |0,t=>ownS t
 |d+1,t=>ownS t∧∀ x∈kids t,szT d x
theorem vch {self:GTree→Option Bool}{f:GTree→Bool}{x3:Int}{rec6:Int→Int→Option Bool}{y:GEntry}(hy:1≤y.fTrees.length):∀ (l:List GTree) (i:Int),(∀ x∈l,self x=some (f x))→
 zy.l18 self x3 rec6 y l i=if (l.all fun x=>decide (x.fKind=(y.fTrees.headD zTree).fKind)&&f x)=true then rec6 (x3+1) y.fTag else some false
 |[],i,_=>by rw[zy.l18]; rfl
 |x::l,i,h=>by
  have e1:Zv y.fTrees 0=some (y.fTrees.headD zTree):=by
   cases ht:y.fTrees with
   |nil=>rw[ht] at hy; exact absurd hy (by decide)
   |cons a l=>rfl
  rw[zy.l18,e1,qg,qY]
  by_cases hk:x.fKind=(y.fTrees.headD zTree).fKind
  · rw[if_pos hk,h x (qn ..),qg,decide_eq_true hk,uC]
    cases f x with
    |false=>rfl
    |true=>
     rw[zy.j25,if_neg (by decide),vch hy l _ fun z hz=>h z (qm _ hz),uC]
  rw[if_neg hk,decide_eq_false hk]; rfl
theorem entries_l6 {self:GTree→Option Bool}{f:GTree→Bool}:∀ (l:List GEntry) (i last:Int),(∀ e∈l,∀ x∈e.fTrees,self x=some (f x))→zy.l6 self l i last=some (entB f last l)
 |[],i,last,_=>rfl
 |e::l,i,last,h=>by
  rw[zy.l6,entB]
  by_cases hc:last<e.fTag∧e.fTag≤500∧1≤e.fTrees.length∧e.fTrees.length≤64
  · rw[if_neg (by simp only[qI,decide_eq_true_eq]; omega),vch hc.2.2.1 e.fTrees 0 (h e (qn ..)),decide_eq_true hc,uC]
    cases ha:e.fTrees.all fun x=>decide (x.fKind=(e.fTrees.headD zTree).fKind)&&f x with
    |false=>rfl
    |true=>rw[if_pos rfl,entries_l6 l _ _ fun y hy=>h y (qm _ hy),uC]
  rw[if_pos (by simp only[qI,decide_eq_true_eq]; omega),decide_eq_false hc]; rfl
theorem Yd {t:GTree}{e:GEntry}{x:GTree}(he:e∈t.fEntries)(hx:x∈e.fTrees):x∈kids t:=List.mem_flatMap.2 ⟨e,he,hx⟩
theorem right_eq : ∀ (d m k:Nat) (t:GTree),d<m→XT m t≤d→2*d<k→szT d t→xm k t=some (Zd d t)
 |d,m,0,t,_,_,h,_=>by omega
 |0,m+1,k+1,t,_,hd,_,hz=>by
  have h3:¬ t.fKind=3:=by
   intro h; rw[XT,if_pos h] at hd; omega
  rw[xm,xm.body,Zd,leafB,if_neg h3]
  split<;>first|rfl|(split<;>rfl)
 |d+1,m+1,k+1,t,hm,hd,hk,hz=>by
  rw[xm,xm.body,Zd]
  by_cases h3:t.fKind=3
  · have hd':maxD (XT m) (kids t) 0≤d:=by rw[XT,if_pos h3] at hd; omega
    obtain⟨k',rfl⟩:∃ k',k=k'+1:=⟨k-1,by omega⟩
    have he:zy (k'+1) t=some (entB (Zd d) 0 t.fEntries):=by
     rw[zy,zy.body]
     exact entries_l6 t.fEntries 0 0 fun e he x hx=>right_eq d m k' x (by omega) (ux (maxD_mem (Yd he hx)) hd') (by omega) (hz.2 x (Yd he hx))
    rw[if_neg (by omega),if_neg (by omega),if_pos h3,if_pos h3,he,rest_eq (by have:=hz.1.2.1; omega)]
    cases decide (t.fN=0)&&decide (t.fS=[]) with
    |false=>rfl
    |true=>cases entB (Zd d) 0 t.fEntries<;>rfl
  rw[if_neg h3,if_neg h3,leafB]
  split<;>first|rfl|(split<;>rfl)
def YC (t:GTree):Bool:=decide (XT 101 t≤10)&&Zd 10 t
theorem check_eq {t:GTree}(hz:szT 10 t):wQ t=some (YC t):=by
 rw[wQ,Depth_eq,qg,YC]
 by_cases h:XT 101 t≤10
 · rw[if_pos (by omega),right_eq 10 101 rounds t (by omega) h (by have:=yF; omega) hz,decide_eq_true h,uC]; rfl
 rw[if_neg (by omega),decide_eq_false h]; rfl
end
section
set_option maxRecDepth 4000
open AM
theorem in0 : In64 0:=⟨by decide,by decide⟩
def rawT (enc:GTree→Option (List UInt8))(tag:Int)(x:GTree):Option GRaw:=
 if x.fKind=1 then some ⟨tag,0,x.fN,[]⟩
 else if x.fKind=2 then (if 4096<x.fS.length then none else some ⟨tag,1,0,x.fS⟩)
 else (enc x).bind fun b=>some ⟨tag,1,0,b⟩
def rawL (enc:GTree→Option (List UInt8))(tag:Int):List GTree→Option (List GRaw)
 |[]=>some []
 |x::l=>(rawT enc tag x).bind fun r=>(rawL enc tag l).bind fun m=>some (r::m)
def rawE (enc:GTree→Option (List UInt8)):List GEntry→Option (List GRaw)
 |[]=>some []
 |e::l=>(rawL enc e.fTag e.fTrees).bind fun a=>(rawE enc l).bind fun m=>some (a++m)
def putB (l:List GRaw):Option (List UInt8):=if 4096<(Yo l).length then none else some (Yo l)
def vaD : Nat→GTree→Option (List UInt8)
 |0,_=>none
 |d+1,t=>(rawE (vaD d) t.fEntries).bind fun L=>putB (srt (t.fRest++L))
def X4 : Nat→GTree→GValueValue
 |0,t=>if t.fKind=1 then .num t.fN else if t.fKind=2 then .str t.fS else .node [] t.fRest
 |d+1,t=>if t.fKind=1 then .num t.fN else if t.fKind=2 then .str t.fS else .node (t.fEntries.map fun e=>⟨e.fTag,e.fTrees.map (X4 d)⟩) t.fRest
theorem made_l62 {self:GTree→Option GValueValue}{f:GTree→GValueValue}{t:GTree}{r12:List GRaw}{y:GEntry}:∀ (l:List GTree) (i:Int) (acc:List GValueValue),(∀ x∈l,self x=some (f x))→acc.length+l.length≤64→
 zN.l62 self t r12 y l i acc=zN.l20 self t r12 rounds [⟨y.fTag,acc++l.map f⟩] 1
 |[],i,acc,_,_=>by
  rw[zN.l62,qw,qz,yq (by decide) (by decide)]; rfl
 |x::l,i,acc,h,hl=>by
  rw[qj] at hl
  rw[zN.l62,h x (qn ..),qg,xK (by omega),qg,made_l62 l _ _ (fun z hz=>h z (qm _ hz)) (by rw[qi,qG]; omega),qs]; rfl
theorem made_l35 {self:GTree→Option GValueValue}{f:GTree→GValueValue}{l14:List GValueEntry}{x16:Int}{rec20:List GValueEntry→Int→Option GValueValue}{y:GEntry}(hl14:l14.length≤1000):∀ (l:List GTree) (i:Int) (acc:List GValueValue),(∀ x∈l,self x=some (f x))→acc.length+l.length≤64→
 zN.l35 self l14 x16 rec20 y l i acc=rec20 (l14++[⟨y.fTag,acc++l.map f⟩]) (IntKind.i64.wrap (x16+1))
 |[],i,acc,_,_=>by
  rw[zN.l35,qw,qz,xK (by omega),qg]
 |x::l,i,acc,h,hl=>by
  rw[qj] at hl
  rw[zN.l35,h x (qn ..),qg,xK (by omega),qg,made_l35 hl14 l _ _ (fun z hz=>h z (qm _ hz)) (by rw[qi,qG]; omega),qs]; rfl
def entV (f:GTree→GValueValue)(e:GEntry):GValueEntry:=⟨e.fTag,e.fTrees.map f⟩
theorem made_l20 {self:GTree→Option GValueValue}{f:GTree→GValueValue}{t:GTree}{r12:List GRaw}(hn:t.fEntries.length≤1000)(hs:∀ e∈t.fEntries,e.fTrees.length≤64∧∀ x∈e.fTrees,self x=some (f x)):∀ (k:Nat) (A B:List GEntry),t.fEntries=A++B→B.length<k→
 zN.l20 self t r12 k (A.map (entV f)) (A.length:Int)=some (.node (t.fEntries.map (entV f)) r12)
 |0,A,B,_,h=>by omega
 |k+1,A,[],h,_=>by
  rw[qz] at h;rw[zN.l20,if_neg (by rw[h]; omega),h]
 |k+1,A,e::B,h,hk=>by
  rw[qj] at hk
  have hl:t.fEntries.length=A.length+(B.length+1):=by rw[h,qi,qj]
  have he:=hs e (by rw[h]; exact q2 _ (qn ..))
  have ei:Zv t.fEntries (A.length:Int)=some e:=by rw[h]; exact Yy rfl
  rw[zN.l20,if_pos (by omega),ei,qg,made_l35 (f:=f) (by rw[q7]; omega) e.fTrees 0 [] he.2 (by rw[ql]; omega),yq (by omega) (by omega)];have:=made_l20 (self:=self) (f:=f) (r12:=r12) hn hs k (A++[e]) B (by rw[h,qs]; rfl) (by omega);rw[qD,qi,qG] at this;rw[show (A.length:Int)+1=((A.length+1:Nat):Int) by omega];exact this
theorem Ys {f:GTree→Bool}:∀ {l:List GEntry} {last:Int},entB f last l=true→∀ e∈l,last<e.fTag∧e.fTag≤500∧1≤e.fTrees.length∧e.fTrees.length≤64∧(∀ x∈e.fTrees,x.fKind=(e.fTrees.headD zTree).fKind∧f x=true)
 |[],_,_,e,he=>by cases he
 |a::l,last,h,e,he=>by
  rw[entB,qo,qo,decide_eq_true_eq] at h
  rcases qB.1 he with rfl|he
  · refine⟨h.1.1.1,h.1.1.2.1,h.1.1.2.2.1,h.1.1.2.2.2,fun x hx=>?_⟩;have:=uf.1 h.1.2 x hx;rw[qo,decide_eq_true_eq] at this;exact this
  obtain⟨h1,h2⟩:=Ys h.2 e he;exact⟨by omega,h2⟩
theorem Xp {f:GTree→Bool}:∀ {l:List GEntry} {last:Int},entB f last l=true→l.Pairwise Xv
 |[],_,_=>List.Pairwise.nil
 |a::l,last,h=>by
  rw[entB,qo,qo] at h;rw[uw];exact⟨fun e he=>(Ys h.2 e he).1,Xp h.2⟩
theorem sorted_len {n:Nat}:∀ {l:List GEntry} {lo:Int},l.Pairwise Xv→(∀ e∈l,lo<e.fTag∧e.fTag≤lo+n)→l.length≤n
 |[],_,_,_=>uq _
 |a::l,lo,h,hl=>by
  rw[uw] at h;have ha:=hl a (qn ..)
  cases n with
  |zero=>omega
  |succ n=>
   rw[qj];refine Nat.succ_le_succ (sorted_len (n:=n) (lo:=lo+1) h.2 fun e he=>?_);have h1:=h.1 e he;have h2:=hl e (qm _ he)
   unfold Xv at h1; omega
theorem X0 {d:Nat}{t:GTree}(h:Zd (d+1) t=true)(h3:t.fKind=3):t.fEntries.length≤500∧entB (Zd d) 0 t.fEntries=true∧restB t=true∧t.fN=0∧t.fS=[]:=by
 rw[Zd,if_pos h3] at h;simp only[qo,decide_eq_true_eq] at h;refine⟨?_,h.1.2,h.2,h.1.1.1,h.1.1.2⟩
 exact sorted_len (n:=500) (lo:=0) (Xp h.1.2) fun e he=>by
  have:=Ys h.1.2 e he; omega
theorem XP {t:GTree}(h:leafB t=true):t.fKind=1∨t.fKind=2:=by
 unfold leafB at h
 split at h
 · exact Or.inl ‹_›
 split at h
 · exact Or.inr ‹_›
 cases h
theorem XY {d:Nat}{t:GTree}(h:Zd d t=true):t.fKind=1∨t.fKind=2∨t.fKind=3:=by
 cases d with
 |zero=>rcases XP h with h|h; exact Or.inl h; exact Or.inr (Or.inl h)
 |succ d=>
  rw[Zd] at h
  split at h
  · exact Or.inr (Or.inr ‹_›)
  rcases XP h with h|h; exact Or.inl h; exact Or.inr (Or.inl h)
theorem made_eq : ∀ (d k:Nat) (t:GTree),d<k→Zd d t=true→szT d t→zN k t=some (X4 d t)
 |d,0,t,h,_,_=>by omega
 |0,k+1,t,_,hr,_=>by
  rw[zN,zN.body,X4]
  rcases XP hr with h|h
  · rw[if_pos h,if_pos h]; rfl
  rw[if_neg (by omega),if_pos h,if_neg (by omega),if_pos h]; rfl
 |d+1,k+1,t,hk,hr,hz=>by
  rw[zN,zN.body,X4]
  by_cases h1:t.fKind=1
  · rw[if_pos h1,if_pos h1]; rfl
  by_cases h2:t.fKind=2
  · rw[if_neg h1,if_pos h2,if_neg h1,if_pos h2]; rfl
  have h3:t.fKind=3:=by rcases XY hr with h|h|h<;>omega
  obtain⟨hl,he,_,_,_⟩:=X0 hr h3
  have hs:∀ e∈t.fEntries,e.fTrees.length≤64∧∀ x∈e.fTrees,zN k x=some (X4 d x):=fun e hm=>by
   have:=Ys he e hm;exact⟨this.2.2.2.1,fun x hx=>made_eq d k x (by omega) (this.2.2.2.2 x hx).2 (hz.2 x (Yd hm hx))⟩
  rw[if_neg h1,if_neg h2,if_neg h1,if_neg h2,y5,xK (by have:=hz.1.2.1; omega),qg,qg]
  cases hE:t.fEntries with
  |nil=>rfl
  |cons a E=>
   rw[if_pos (by rw[qj]; omega)];have ha:=hs a (by rw[hE]; exact qn ..);rw[idx_t (u9 0) (show (a::E)[qF 0]?=some a from rfl),qg,made_l62 (f:=X4 d) a.fTrees 0 [] ha.2 (by rw[ql]; omega)];have:=made_l20 (self:=zN k) (f:=X4 d) (r12:=t.fRest) (by omega) hs rounds [a] E (by rw[hE]; rfl) (by have:=yF; rw[hE,qj] at hl; omega);rw[hE] at this;exact this
theorem of_eq {t:GTree}(hz:szT 10 t):Yc t=some (if YC t=true then (X4 10 t,true) else (.nil,false)):=by
 rw[Yc,check_eq hz,qg]
 by_cases h:YC t=true
 · rw[h]
   have hr:Zd 10 t=true:=by unfold YC at h; rw[qo] at h; exact h.2
   rw[if_neg (by decide),made_eq 10 rounds t (by have:=yF; omega) hr hz]; rfl
 rw[if_pos (by simpa using h),if_neg h]
theorem tags_l8 : ∀ (l:List GValueEntry) (i:Int) (acc:List Int),acc.length+l.length≤1000→ye.l8 l i acc=some (acc++l.map GValueEntry.ftag)
 |[],i,acc,_=>by rw[ye.l8,qw,qz]
 |e::l,i,acc,h=>by
  rw[qj] at h
  rw[ye.l8,xK (by omega),qg,tags_l8 l _ _ (by rw[qi,qG]; omega),qs]; rfl
theorem get_l4 {f:GTree→GValueValue}{e:GEntry}{B:List GEntry}(he:e.fTrees.length≤64):∀ (A:List GEntry) (i:Int),(∀ a∈A,a.fTag≠e.fTag)→yD.l4 e.fTag ((A++e::B).map (entV f)) i=some (e.fTrees.map f)
 |[],i,_=>by
  rw[qx,qE,yD.l4,if_pos (show (entV f e).ftag=e.fTag from rfl),show (entV f e).fl=e.fTrees.map f from rfl,wH,xK (by rw[q7]; omega)]; rfl
 |a::A,i,h=>by
  rw[qH,qE,yD.l4,if_neg (show ¬ (entV f a).ftag=e.fTag from h a (qn ..))]
  exact get_l4 he A _ fun b hb=>h b (qm _ hb)
theorem rawL_len {enc:GTree→Option (List UInt8)}{tag:Int}:∀ {l:List GTree} {m:List GRaw},rawL enc tag l=some m→m.length=l.length
 |[],m,h=>by cases h; rfl
 |x::l,m,h=>by
  obtain⟨r,_,h⟩:=bind_some h;obtain⟨m',h1,h⟩:=bind_some h;cases h;rw[qj,qj,rawL_len h1]
def YZ (o:Option (List GRaw))(k:List GRaw→Option (List GRaw×Int)):Option (List GRaw×Int):=
 match o with
 |some m=>k m
 |none=>some ([],4)
theorem raws_l24 {selfR:Int→GValueValue→Option (GRaw×Int)}{f:GTree→GValueValue}{enc:GTree→Option (List UInt8)}{x6:Int}{rec10:Int→List GRaw→Option (List GRaw×Int)}{tag:Int}:∀ (l:List GTree) (i:Int) (acc:List GRaw),(∀ x∈l,selfR tag (f x)=some (match rawT enc tag x with|some r=>(r,0)|none=>(⟨0,0,0,[]⟩,4)))→acc.length+l.length<3518437208882→
 zT.l24 selfR x6 rec10 tag (l.map f) i acc=YZ (rawL enc tag l) fun m=>rec10 (x6+1) (acc++m)
 |[],i,acc,_,_=>by rw[qw,zT.l24,rawL,YZ,qz]
 |x::l,i,acc,h,hl=>by
  rw[qj] at hl;rw[qE,zT.l24,h x (qn ..),qg,rawL]
  cases hx:rawT enc tag x with
  |none=>rfl
  |some r=>
   dsimp only
   rw[if_pos rfl,xK (by omega),qg,raws_l24 l _ _ (fun z hz=>h z (qm _ hz)) (by rw[qi,qG]; omega),qg]
   cases rawL enc tag l with
   |none=>rfl
   |some m=>simp only[YZ,qg,qs,qH,qx]
theorem raws_l10 {selfR:Int→GValueValue→Option (GRaw×Int)}{f:GTree→GValueValue}{enc:GTree→Option (List UInt8)}{E:List GEntry}{rest:List GRaw}(hs:E.Pairwise Xv)(ht:∀ e∈E,e.fTrees.length≤64∧∀ x∈e.fTrees,selfR e.fTag (f x)=some (match rawT enc e.fTag x with|some r=>(r,0)|none=>(⟨0,0,0,[]⟩,4)))(hn:E.length≤500):
 ∀ (B A:List GEntry) (i:Int) (acc:List GRaw),E=A++B→acc.length≤900000+64*A.length→zT.l10 selfR ⟨E.map (entV f),rest⟩ (B.map GEntry.fTag) i acc=YZ (rawE enc B) fun m=>some (srt (acc++m),0)
 |[],A,i,acc,h,ha=>by
  have hl:E.length=A.length:=by rw[h,qz]
  rw[qw,zT.l10,sorted_eq (by omega),rawE,YZ,qz]; rfl
 |e::B,A,i,acc,h,ha=>by
  have hl:E.length=A.length+(B.length+1):=by rw[h,qi,qj]
  have he:=ht e (by rw[h]; exact q2 _ (qn ..))
  have hA:∀ a∈A,a.fTag≠e.fTag:=fun a hm=>by
   rw[h] at hs;have:=(List.pairwise_append.1 hs).2.2 a hm e (qn ..)
   unfold Xv at this; omega
  have hg:yD ⟨E.map (entV f),rest⟩ e.fTag=some (e.fTrees.map f):=by
   rw[yD,h]; exact get_l4 he.1 A 0 hA
  rw[qE,zT.l10,hg,qg,raws_l24 (enc:=enc) e.fTrees 0 acc he.2 (by omega),rawE]
  cases hL:rawL enc e.fTag e.fTrees with
  |none=>rfl
  |some m=>
   have hm:=rawL_len hL;rw[YZ,raws_l10 hs ht hn B (A++[e]) _ _ (by rw[h,qs]; rfl) (by rw[qi,qi,qG]; omega),qg]
   cases rawE enc B with
   |none=>rfl
   |some m'=>simp only[YZ,qg,qs]
end
section
set_option maxRecDepth 4000
open AM
theorem putB_some {l:List GRaw}{b:List UInt8}(h:putB l=some b):b=Yo l∧b.length≤4096:=by
 unfold putB at h
 split at h
 · cases h
 cases h; exact⟨rfl,by omega⟩
theorem vci {d:Nat}{t:GTree}{b:List UInt8}(h:vaD d t=some b):b.length≤4096:=by
 cases d with
 |zero=>cases h
 |succ d=>
  rw[vaD] at h;obtain⟨L,_,h⟩:=bind_some h;exact (putB_some h).2
theorem rawT_ok {d:Nat}{tag:Int}{x:GTree}{r:GRaw}(h1:1≤tag)(h2:tag≤500)(hx:In64 x.fN)(h:rawT (vaD d) tag x=some r):XN r∧r.fTag=tag:=by
 unfold rawT at h
 split at h
 · cases h; exact⟨⟨check_num h1 h2,hx⟩,rfl⟩
 split at h
 · split at h
   · cases h
   cases h; exact⟨⟨va2 h1 h2 (by omega),in0⟩,rfl⟩
 obtain⟨b,hb,h⟩:=bind_some h
 cases h; exact⟨⟨va2 h1 h2 (vci hb),in0⟩,rfl⟩
theorem rawL_ok {d:Nat}{tag:Int}(h1:1≤tag)(h2:tag≤500):∀ {l:List GTree} {m:List GRaw},(∀ x∈l,In64 x.fN)→rawL (vaD d) tag l=some m→∀ r∈m,XN r∧r.fTag=tag
 |[],m,_,h,r,hr=>by cases h; cases hr
 |x::l,m,hx,h,r,hr=>by
  obtain⟨a,ha,h⟩:=bind_some h;obtain⟨m',hm,h⟩:=bind_some h;cases h
  rcases qB.1 hr with rfl|hr
  · exact rawT_ok h1 h2 (hx x (qn ..)) ha
  exact rawL_ok h1 h2 (fun z hz=>hx z (qm _ hz)) hm r hr
theorem rawE_ok {d:Nat}:∀ {l:List GEntry} {m:List GRaw},(∀ e∈l,1≤e.fTag∧e.fTag≤500∧∀ x∈e.fTrees,In64 x.fN)→rawE (vaD d) l=some m→∀ r∈m,XN r∧∃ e∈l,r.fTag=e.fTag
 |[],m,_,h,r,hr=>by cases h; cases hr
 |e::l,m,hx,h,r,hr=>by
  obtain⟨a,ha,h⟩:=bind_some h;obtain⟨m',hm,h⟩:=bind_some h;cases h;have he:=hx e (qn ..)
  rcases ug.1 hr with hr|hr
  · have:=rawL_ok he.1 he.2.1 he.2.2 ha r hr;exact⟨this.1,e,qn ..,this.2⟩
  obtain⟨h1,e',h2,h3⟩:=rawE_ok (fun z hz=>hx z (qm _ hz)) hm r hr;exact⟨h1,e',qm _ h2,h3⟩
theorem szT_own {d:Nat}{t:GTree}(h:szT d t):ownS t:=by
 cases d with
 |zero=>exact h
 |succ d=>exact h.1
theorem restB_mem {t:GTree}(h:restB t=true):(∀ r∈t.fRest,yv r=true∧∀ e∈t.fEntries,e.fTag≠r.fTag)∧t.fRest.Pairwise TagLe:=by
 unfold restB at h;rw[qo] at h;refine⟨fun r hr=>?_,risB_iff.1 h.2⟩;have:=uf.1 h.1 r hr;rw[qo,uS] at this;refine⟨this.1,fun e he hc=>?_⟩;have h2:=List.any_eq_false.1 this.2 e he;exact h2 (decide_eq_true hc)
theorem raws_ok {d:Nat}{t:GTree}{L:List GRaw}(hr:Zd (d+1) t=true)(h3:t.fKind=3)(hz:szT (d+1) t)(hL:rawE (vaD d) t.fEntries=some L):∀ r∈srt (t.fRest++L),XN r:=by
 obtain⟨_,he,hb,_,_⟩:=X0 hr h3
 intro r hm
 rw[srt_mem] at hm
 rcases ug.1 hm with hm|hm
 · exact⟨((restB_mem hb).1 r hm).1,hz.1.2.2 r hm⟩
 exact (rawE_ok (fun e hm=>by
  have:=Ys he e hm
  exact⟨by omega,this.2.1,fun x hx=>(szT_own (hz.2 x (Yd hm hx))).1⟩) hL r hm).1
def vb4 (o:Option (List UInt8)):List UInt8×Int:=
 match o with
 |some b=>(b,0)
 |none=>([],4)
theorem vah {l:List GRaw}(h:∀ r∈l,XN r):yi l=some (vb4 (putB l)):=by
 rw[putAll_eq fun r hr=>(h r hr).2,if_pos (uf.2 fun r hr=>(h r hr).1),putB]
 split
 · rfl
 rfl
theorem tags_eq {f:GTree→GValueValue}{E:List GEntry}{rest:List GRaw}(h:E.length≤500):ye ⟨E.map (entV f),rest⟩=some (E.map GEntry.fTag):=by
 rw[ye];have:=tags_l8 (E.map (entV f)) 0 [] (by rw[ql,q7]; omega)
 rw[this,qx,List.map_map]; rfl
theorem raws_eq {selfB:GValueNode→Option (List UInt8×Int)}{selfR:Int→GValueValue→Option (GRaw×Int)}{selfS:GValueNode→Option (List GRaw×Int)}{f:GTree→GValueValue}{enc:GTree→Option (List UInt8)}{E:List GEntry}{rest:List GRaw}(hs:E.Pairwise Xv)(ht:∀ e∈E,e.fTrees.length≤64∧∀ x∈e.fTrees,selfR e.fTag (f x)=some (match rawT enc e.fTag x with|some r=>(r,0)|none=>(⟨0,0,0,[]⟩,4)))(hn:E.length≤500)(hr:rest.length≤900000):
 zT.body selfB selfR selfS ⟨E.map (entV f),rest⟩=YZ (rawE enc E) fun m=>some (srt (rest++m),0):=by
 rw[zT.body,tags_eq hn,wX,y5,xK (by dsimp only; omega),qg,qg,qg,qg];exact raws_l10 hs ht hn E [] 0 rest rfl (by rw[ql]; omega)
theorem bytes_eq : ∀ (d k:Nat) (t:GTree) (es:List GValueEntry) (rs:List GRaw),3*d≤k→Zd d t=true→t.fKind=3→szT d t→X4 d t=.node es rs→xv k ⟨es,rs⟩=some (vb4 (vaD d t))
 |0,k,t,es,rs,_,hr,h3,_,_=>by
  rcases XP hr with h|h<;>omega
 |d+1,k,t,es,rs,hk,hr,h3,hz,hv=>by
  obtain⟨k',rfl⟩:∃ k',k=k'+3:=⟨k-3,by omega⟩
  obtain⟨hl,he,hb,_,_⟩:=X0 hr h3;rw[X4,if_neg (by omega),if_neg (by omega)] at hv;cases hv
  have hs:∀ e∈t.fEntries,e.fTrees.length≤64∧∀ x∈e.fTrees,yR (k'+1) e.fTag (X4 d x)=some (match rawT (vaD d) e.fTag x with|some r=>(r,0)|none=>(⟨0,0,0,[]⟩,4)):=by
   intro e hm
   have h1:=Ys he e hm;refine⟨h1.2.2.2.1,fun x hx=>?_⟩;have hrx:=(h1.2.2.2.2 x hx).2;have hzx:=hz.2 x (Yd hm hx);rw[yR,yR.body,rawT]
   rcases XY hrx with h|h|h
   · have hv:X4 d x=.num x.fN:=by cases d<;>rw[X4,if_pos h]
     rw[hv,if_pos h]; rfl
   · have hv:X4 d x=.str x.fS:=by cases d<;>rw[X4,if_neg (by omega),if_pos h]
     rw[hv,if_neg (by omega),if_pos h,show wv (.str x.fS)=some (.str x.fS) from rfl,qg]
     dsimp only
     rw[yR.j3]
     by_cases hc:4096<x.fS.length
     · rw[if_pos hc,if_pos (by dsimp only; omega)]
     rw[if_neg hc,if_neg (by dsimp only; omega)]
   have h1':¬ x.fKind=1:=by omega
   have h2':¬ x.fKind=2:=by omega
   obtain⟨es,rs,hv⟩:∃ es rs,X4 d x=.node es rs:=by cases d<;>exact⟨_,_,by rw[X4,if_neg h1',if_neg h2']⟩
   rw[hv,if_neg h1',if_neg h2',show wv (.node es rs)=some (.node es rs) from rfl,qg]
   dsimp only
   rw[bytes_eq d k' x es rs (by omega) hrx h hzx hv,qg]
   cases hx':vaD d x with
   |none=>rfl
   |some b=>
    have hbl:=vci hx'
    rw[vb4]; dsimp only
    rw[if_pos rfl,yR.j3,if_neg (by dsimp only; omega),qg]
  have hR:zT (k'+2) ⟨t.fEntries.map fun e=>⟨e.fTag,e.fTrees.map (X4 d)⟩,t.fRest⟩=YZ (rawE (vaD d) t.fEntries) fun m=>some (srt (t.fRest++m),0):=by
   rw[zT];exact raws_eq (f:=X4 d) (Xp he) hs hl hz.1.2.1
  rw[xv,xv.body,hR,vaD]
  cases hL:rawE (vaD d) t.fEntries with
  |none=>rfl
  |some L=>
   rw[YZ,qg]; dsimp only
   rw[if_pos rfl,vah (raws_ok hr h3 hz hL),qg,qg]
theorem rawE_eq {d k:Nat}{t:GTree}(hk:3*d+2≤k)(hr:Zd (d+1) t=true)(h3:t.fKind=3)(hz:szT (d+1) t):zT k ⟨t.fEntries.map (entV (X4 d)),t.fRest⟩=YZ (rawE (vaD d) t.fEntries) fun m=>some (srt (t.fRest++m),0):=by
 obtain⟨k',rfl⟩:∃ k',k=k'+2:=⟨k-2,by omega⟩
 obtain⟨hl,he,hb,_,_⟩:=X0 hr h3;rw[zT];refine raws_eq (f:=X4 d) (Xp he) ?_ hl hz.1.2.1
 intro e hm
 have h1:=Ys he e hm;refine⟨h1.2.2.2.1,fun x hx=>?_⟩;have hrx:=(h1.2.2.2.2 x hx).2;have hzx:=hz.2 x (Yd hm hx);rw[yR,yR.body,rawT]
 rcases XY hrx with h|h|h
 · have hv:X4 d x=.num x.fN:=by cases d<;>rw[X4,if_pos h]
   rw[hv,if_pos h]; rfl
 · have hv:X4 d x=.str x.fS:=by cases d<;>rw[X4,if_neg (by omega),if_pos h]
   rw[hv,if_neg (by omega),if_pos h,show wv (.str x.fS)=some (.str x.fS) from rfl,qg]
   dsimp only
   rw[yR.j3]
   by_cases hc:4096<x.fS.length
   · rw[if_pos hc,if_pos (by dsimp only; omega)]
   rw[if_neg hc,if_neg (by dsimp only; omega)]
 have h1':¬ x.fKind=1:=by omega
 have h2':¬ x.fKind=2:=by omega
 obtain⟨es,rs,hv⟩:∃ es rs,X4 d x=.node es rs:=by cases d<;>exact⟨_,_,by rw[X4,if_neg h1',if_neg h2']⟩
 rw[hv,if_neg h1',if_neg h2',show wv (.node es rs)=some (.node es rs) from rfl,qg]
 dsimp only
 rw[bytes_eq d k' x es rs (by omega) hrx h hzx hv,qg]
 cases hx':vaD d x with
 |none=>rfl
 |some b=>
  have hbl:=vci hx'
  rw[vb4]; dsimp only
  rw[if_pos rfl,yR.j3,if_neg (by dsimp only; omega),qg]
theorem vaj {t:GTree}(h:YC t=true):Zd 10 t=true∧XT 101 t≤10:=by
 unfold YC at h;rw[qo,decide_eq_true_eq] at h;exact⟨h.2,h.1⟩
theorem Raws_eq {t:GTree}(hz:szT 10 t):wV t=some (if YC t=true∧t.fKind=3 then (match rawE (vaD 9) t.fEntries with|some L=>(srt (t.fRest++L),(0:Int))|none=>([],4)) else ([],1)):=by
 rw[wV,of_eq hz,qg]
 by_cases hc:YC t=true
 · rw[if_pos hc]
   by_cases h3:t.fKind=3
   · rw[if_neg (by rw[decide_eq_true h3]; exact uy),if_pos ⟨hc,h3⟩]
     have hv:X4 10 t=.node (t.fEntries.map (entV (X4 9))) t.fRest:=by rw[X4,if_neg (by omega),if_neg (by omega)]; rfl
     rw[hv,show yM (.node (t.fEntries.map (entV (X4 9))) t.fRest)=some ⟨t.fEntries.map (entV (X4 9)),t.fRest⟩ from rfl,qg,rawE_eq (d:=9) (by have:=yF; omega) (vaj hc).1 h3 hz]
     cases rawE (vaD 9) t.fEntries<;>rfl
   rw[if_pos (by rw[decide_eq_false h3]; rfl),if_neg (fun h=>h3 h.2)]
 rw[if_neg hc,if_pos (by rfl),if_neg (fun h=>hc h.1)]
theorem Encode_eq {t:GTree}(hz:szT 10 t):wd t=some (if YC t=true∧t.fKind=3 then vb4 (vaD 10 t) else ([],1)):=by
 rw[wd,Raws_eq hz,qg]
 by_cases hc:YC t=true∧t.fKind=3
 · rw[if_pos hc,if_pos hc,vaD]
   cases hL:rawE (vaD 9) t.fEntries with
   |none=>rfl
   |some L=>
    dsimp only
    rw[if_pos rfl,vah (raws_ok (vaj hc.1).1 hc.2 hz hL),qg,qg]
 rw[if_neg hc,if_neg hc]; rfl
end
section
set_option maxRecDepth 4000
open AM
theorem ref_more (n:Nat):ua (qF (IntKind.u8.wrap ((IntKind.u8.wrap ((n:Int).tmod 128))+128)))=ua (n % 128+128):=by
 have e:(n:Int).tmod 128=((n % 128:Nat):Int):=by rw[Int.tmod_eq_emod_of_nonneg (by omega)]; omega
 rw[e,u8w,show ((n % 128 % 256:Nat):Int)+128=((n % 128+128:Nat):Int) by omega,u8w,qU]
 congr 1; omega
theorem ref_next {n:Nat}(h:n<2^64):IntKind.u64.wrap ((n:Int).tdiv 128)=((n / 128:Nat):Int):=by
 rw[Int.tdiv_eq_ediv_of_nonneg (by omega),u64i (by omega) (by omega)]; omega
theorem ref02_l : ∀ (k n:Nat) (l:List UInt8),n<2^64→(vb n).length≤k→l.length+k≤1000000→xg.l8 k l (n:Int)=some (l++vb n)
 |0,n,l,_,h,_=>by have:=vb_pos n; omega
 |k+1,n,l,hn,h,hl=>by
  by_cases h1:n<128
  · rw[xg.l8,if_neg (by omega),xK (by omega),qg,lastByte n h1,vb_lt h1]
  rw[vb_ge h1,qj] at h
  rw[xg.l8,if_pos (by omega),xK (by omega),qg,ref_more,ref_next hn,vb_ge h1,ref02_l k (n / 128) _ (by omega) (by omega) (by rw[qi,qG]; omega),qs]; rfl
theorem ref02_m : ∀ (k j n:Nat) (l r:List UInt8),n<2^64→xg.l8 k l (n:Int)=some r→xg.l8 (k+j) l (n:Int)=some r
 |0,_,_,_,_,_,h=>by cases h
 |k+1,j,n,l,r,hn,h=>by
  rw[Nat.succ_add_eq_add_succ,Nat.add_succ]
  by_cases h1:(128:Int)≤(n:Int)
  · rw[xg.l8,if_pos h1] at h ⊢
    cases hr:Yg (qc l+1) 1 with
    |none=>rw[hr] at h; cases h
    |some u=>
     rw[hr,qg,ref_next hn] at h
     rw[qg,ref_next hn]; exact ref02_m k j _ _ _ (by omega) h
  rw[xg.l8,if_neg h1] at h ⊢; exact h
theorem XM {n:Nat}(h:n<2^64):xg (n:Int)=some (vb n):=by
 have:=ref02_m 10 999999999999999999990 n [] (vb n) h (ref02_l 10 n [] h (Yb h) (by decide));exact this
theorem ref02_Zig_eq {n:Int}(h:In64 n):Zz n=(zg n:Int):=by
 obtain⟨h1,h2⟩:=h;unfold Zz zg
 by_cases h0:0≤n
 · rw[if_pos h0,if_pos h0,u64i h0 (by omega),u64i (by omega) (by omega)]; omega
 rw[if_neg h0,if_neg h0,yq (x:=n+1) (by omega) (by omega),yq (by omega) (by omega),u64i (x:=0-(n+1)) (by omega) (by omega),u64i (x:=2*(0-(n+1))) (by omega) (by omega),u64i (by omega) (by omega)]; omega
theorem X6 (r:GRaw):wt r=yv r:=by
 unfold wt yv
 by_cases h0:r.fWire=0
 · simp only[h0,if_true]
 by_cases h1:r.fWire=1
 · simp only[h1,decide_true,uC,if_true]
 simp only[h0,h1,if_false,decide_false,Bool.false_and]
theorem ref04_Put_eq {r:GRaw}(h:XN r):wZ r=some (vaL r):=by
 obtain⟨hc,hn⟩:=h;obtain⟨h1,h2,h3⟩:=ZJ hc
 have ek:IntKind.u64.wrap (IntKind.i64.wrap ((IntKind.i64.wrap (2*r.fTag))+r.fWire))=((vbk r:Nat):Int):=by
  rw[yq (x:=2*r.fTag) (by omega) (by omega),yq (by omega) (by omega),u64i (by omega) (by omega),vbk]; omega
 have k1:vbk r<2^64:=by unfold vbk; omega
 have kl:=Yb k1;unfold wZ;rw[ek,XM k1,qg]
 rcases h3 with ⟨h3,h4⟩|⟨h3,h4,h5⟩
 · have hz:=Yb (zg_lt hn);rw[if_pos h3,bnd,ref02_Zig_eq hn,XM (zg_lt hn),qg,xK (by omega),qg,vaL,if_pos h3]
 have hb:=Yb (n:=r.fB.length) (by omega);rw[if_neg (by omega),u64w (by omega),XM (by omega),qg,xK (by omega),qg,xK (by rw[qi]; omega),qg,vaL,if_neg (by omega),qs]
theorem ref04_l13 : ∀ (q:List GRaw) (x:Int) (acc:List UInt8),(∀ r∈q,XN r)→acc.length≤4096→yk.l13 q x acc=some (if 4096<(acc++Yo q).length then ([],4) else (acc++Yo q,0))
 |[],x,acc,_,ha=>by
  rw[yk.l13,Yo,un,qz,if_neg (by omega)]
 |r::q,x,acc,h,ha=>by
  have hr:=h r (qn ..);have hrl:=rawB_le hr;rw[yk.l13,ref04_Put_eq hr,qg,xK (by omega),qg]
  have e:acc++Yo (r::q)=(acc++vaL r)++Yo q:=by rw[Yo,qO,qs]; rfl
  rw[e]
  by_cases h1:4096<(acc++vaL r).length
  · rw[if_pos (by omega),if_pos (by rw[qi]; omega)]
  rw[if_neg (by omega),ref04_l13 q (x+1) _ (fun s hs=>h s (qm _ hs)) (by omega)]
theorem ref04_l4 (a:List GRaw):∀ (q:List GRaw) (x:Int),yk.l4 a q x=if q.all yv then yk.l13 a 0 [] else some ([],1)
 |[],x=>by rw[yk.l4]; rfl
 |r::q,x=>by
  rw[yk.l4,bnd,qY,X6]
  by_cases h:yv r=true
  · rw[h,if_neg (by decide),ref04_l4 a q]; rfl
  rw[if_pos (by simpa using h),if_neg (by rw[qo]; exact fun hh=>h hh.1)]
theorem vb1 {l:List GRaw}(h:∀ r∈l,In64 r.fN):yk l=yi l:=by
 rw[putAll_eq h,yk,ref04_l4]
 by_cases h1:l.all yv=true
 · rw[if_pos h1,if_pos h1,ref04_l13 l 0 [] (fun r hr=>⟨uf.1 h1 r hr,h r hr⟩) (by decide)]; rfl
 rw[if_neg h1,if_neg h1]
theorem set_app0 {α:Type}{A B:List α}{x y:α}{i:Int}(h:i=A.length):setI (A++x::B) i y=A++y::B:=by
 subst h;rw[setI,qU,List.set_append_right _ _ (qv _),uN,uk]
theorem ref_l20 {r:GRaw}(x4:Int)(rec8:Int→List GRaw→Option (List GRaw)):∀ (k:Nat) (A B:List GRaw),A.Pairwise TagLe→(∀ b∈B,r.fTag<b.fTag)→A.length<k→A.length<1000000→
 zB.l20 x4 rec8 k (A++r::B) (A.length:Int)=rec8 (x4+1) (vb8 r (A++B))
 |0,A,B,_,_,h,_=>by omega
 |k+1,A,B,hA,hB,hk,hn=>by
  have stop:(∀ a∈A,a.fTag≤r.fTag)→zB.j23 x4 rec8 (A++r::B) (A.length:Int) (zB.l20 x4 rec8 k) false=rec8 (x4+1) (vb8 r (A++B)):=by
   intro hle
   rw[zB.j23,if_neg (by decide),insR_app hle hB]
  rcases List.eq_nil_or_concat A with rfl|⟨A',a,rfl⟩
  · rw[zB.l20,if_neg (by simp)];exact stop (fun a ha=>by cases ha)
  rw[List.concat_eq_append] at *
  have hlA:(A'++[a]).length=A'.length+1:=by rw[qi,qG]
  have e1:IntKind.i64.wrap (((A'++[a]).length:Int)-1)=(A'.length:Int):=by rw[yq (by omega) (by omega)]; omega
  have i1:Zv ((A'++[a])++r::B) (A'.length:Int)=some a:=by rw[qs]; exact Yy rfl
  have i2:Zv ((A'++[a])++r::B) ((A'++[a]).length:Int)=some r:=Yy rfl;rw[zB.l20,if_pos (by omega),e1,i1,qg,i2,qg]
  by_cases hgt:r.fTag<a.fTag
  · have s1:setI ((A'++[a])++r::B) (A'.length:Int) r=(A'++[r])++r::B:=by
     rw[qs,qs]; exact set_app0 rfl
    have i3:Zv ((A'++[r])++r::B) ((A'++[a]).length:Int)=some r:=Yy (by rw[hlA,qi,qG]);have s2:setI ((A'++[r])++r::B) ((A'++[a]).length:Int) a=(A'++[r])++a::B:=set_app0 (by rw[hlA,qi,qG]);rw[decide_eq_true hgt,zB.j23,if_pos rfl,i2,qg,e1,i1,qg,s1,i3,qg,s2,qs]
    have:=ref_l20 (r:=r) x4 rec8 k A' (a::B) (List.pairwise_append.1 hA).1 (fun b hb=>by
     rcases qB.1 hb with rfl|hb
     · exact hgt
     exact hB b hb) (by omega) (by omega)
    rw[qs];exact this
  rw[decide_eq_false hgt];refine stop ?_
  intro x hx
  rcases ug.1 hx with hx|hx
  · have:=(List.pairwise_append.1 hA).2.2 x hx a (ut.2 rfl)
    unfold TagLe at this; omega
  rw[ut] at hx; subst hx; omega
theorem ref_l8 : ∀ (q S:List GRaw) (x:Int),S.Pairwise TagLe→S.length+q.length<1000000→zB.l8 q x S=some (srtA q S)
 |[],S,x,_,_=>rfl
 |r::q,S,x,hS,hn=>by
  rw[qj] at hn;rw[zB.l8,xK (by omega),qg];have:=ref_l20 (r:=r) x (zB.l8 q) rounds S [] hS (fun b hb=>by cases hb) (by have:=yF; omega) (by omega);rw[qz] at this;rw[this,ref_l8 q (vb8 r S) _ (Yw hS) (by rw[vax]; omega),srtA]
theorem XL {l:List GRaw}(h:l.length<1000000):zB l=some (srt l):=
 ref_l8 l [] 0 List.Pairwise.nil (by rw[ql]; omega)
theorem ref04_ris : ∀ (L:List GRaw) (k:Nat) (x:Int),xC.l4 L k x=xl.l4 L k x
 |L,0,x=>rfl
 |L,k+1,x=>by
  rw[xC.l4,xl.l4];simp only[ref04_ris L k]
theorem vb0 (l:List GRaw):xC l=xl l:=ref04_ris l rounds 1
theorem rdeep_l18 {self:GTree→Int→Option Int}{m:Nat}{a:Int}(ha:a=100-m)(hm:m≤100)(hs:∀ x,self x (a+1)=some ((XT m x:Nat):Int)){x7:Int}{rec10:Int→Int→Option Int}:∀ (l:List GTree) (i:Int) (d:Nat),
 zX.l18 self a x7 rec10 l i (d:Int)=rec10 (x7+1) ((maxD (XT m) l d:Nat):Int)
 |[],i,d=>rfl
 |x::l,i,d=>by
  rw[zX.l18,yq (by omega) (by omega),hs,qg,maxD]
  have e:(if (d:Int)<((XT m x:Nat):Int) then ((XT m x:Nat):Int) else (d:Int))=((max d (XT m x):Nat):Int):=by split<;>omega
  rw[e]; exact rdeep_l18 ha hm hs l _ _
theorem rdeep_l10 {self:GTree→Int→Option Int}{m:Nat}{a:Int}(ha:a=100-m)(hm:m≤100)(hs:∀ x,self x (a+1)=some ((XT m x:Nat):Int)):∀ (l:List GEntry) (i:Int) (d:Nat),d≤m→
 zX.l10 self a l i (d:Int)=some ((maxD (XT m) (l.flatMap GEntry.fTrees) d+1:Nat):Int)
 |[],i,d,hd=>by
  rw[zX.l10,yq (by omega) (by omega),un,maxD,if_neg (by omega)]; rfl
 |e::l,i,d,hd=>by
  rw[zX.l10,rdeep_l18 ha hm hs,rdeep_l10 ha hm hs l _ _ (maxD_le hd fun x _=>depT_le m x),qO,maxD_app]
theorem rdeep_eq : ∀ (m k:Nat) (t:GTree) (a:Int),m≤101→m<k→a=101-m→zX k t a=some ((XT m t:Nat):Int)
 |m,0,t,a,_,h,_=>by omega
 |0,k+1,t,a,_,_,ha=>by
  rw[zX,zX.body,if_pos (by simp only[qI,decide_eq_true_eq]; right; omega)]; rfl
 |m+1,k+1,t,a,hm,hk,ha=>by
  rw[zX,zX.body,XT]
  by_cases h3:t.fKind=3
  · rw[if_neg (by simp only[h3,decide_true,qQ,uJ,decide_eq_true_eq]; omega),if_pos h3];exact rdeep_l10 (by omega) (by omega) (fun x=>rdeep_eq m k x _ (by omega) (by omega) (by omega)) t.fEntries 0 0 (uq _)
  rw[if_pos (by simp[h3]),if_neg h3]; rfl
theorem ref09_Depth_eq (t:GTree):wR t=some ((XT 101 t:Nat):Int):=by
 rw[wR,rdeep_eq 101 rounds t 0 (by omega) (by have:=yF; omega) (by omega)]; rfl
theorem rhas_eq {a:Int}:∀ (l:List GEntry) (i:Int),wo.l4 a l i=l.any fun e=>decide (e.fTag=a)
 |[],i=>rfl
 |e::l,i=>by
  rw[wo.l4,List.any_cons]
  by_cases h:e.fTag=a
  · rw[if_pos h,decide_eq_true h,Bool.true_or]
  rw[if_neg h,decide_eq_false h,uJ,rhas_eq]
theorem rrest_l4 {t:GTree}(hr:t.fRest.length<4611686018427387904):∀ (l:List GRaw) (i:Int),yV.l4 t l i=some (l.all (fun r=>yv r && !(t.fEntries.any fun e=>decide (e.fTag=r.fTag)))&&risB t.fRest)
 |[],i=>by rw[yV.l4,vb0,rising_eq hr]; rfl
 |r::l,i=>by
  rw[yV.l4,bnd,qY,X6]
  cases hc:yv r with
  |false=>rfl
  |true=>
   rw[if_neg (by decide),bnd,wo,rhas_eq]
   cases ha:t.fEntries.any fun e=>decide (e.fTag=r.fTag) with
   |true=>rfl
   |false=>rw[yV.j10,if_neg (by decide),rrest_l4 hr l]; rfl
theorem va8 {self:GTree→Option Bool}{f:GTree→Bool}{x3:Int}{rec6:Int→Int→Option Bool}{y:GEntry}(hy:1≤y.fTrees.length):∀ (l:List GTree) (i:Int),(∀ x∈l,self x=some (f x))→
 zA.l18 self x3 rec6 y l i=if (l.all fun x=>decide (x.fKind=(y.fTrees.headD zTree).fKind)&&f x)=true then rec6 (x3+1) y.fTag else some false
 |[],i,_=>by rw[zA.l18]; rfl
 |x::l,i,h=>by
  have e1:Zv y.fTrees 0=some (y.fTrees.headD zTree):=by
   cases ht:y.fTrees with
   |nil=>rw[ht] at hy; exact absurd hy (by decide)
   |cons a l=>rfl
  rw[zA.l18,e1,qg,qY]
  by_cases hk:x.fKind=(y.fTrees.headD zTree).fKind
  · rw[if_pos hk,h x (qn ..),qg,decide_eq_true hk,uC]
    cases f x with
    |false=>rfl
    |true=>
     rw[zA.j23,if_neg (by decide),va8 hy l _ fun z hz=>h z (qm _ hz),uC]
  rw[if_neg hk,decide_eq_false hk]; rfl
theorem vbX {self:GTree→Option Bool}{f:GTree→Bool}:∀ (l:List GEntry) (i last:Int),(∀ e∈l,∀ x∈e.fTrees,self x=some (f x))→zA.l6 self l i last=some (entB f last l)
 |[],i,last,_=>rfl
 |e::l,i,last,h=>by
  rw[zA.l6,entB]
  by_cases hc:last<e.fTag∧e.fTag≤500∧1≤e.fTrees.length∧e.fTrees.length≤64
  · rw[if_neg (by simp only[qI,decide_eq_true_eq]; omega),va8 hc.2.2.1 e.fTrees 0 (h e (qn ..)),decide_eq_true hc,uC]
    cases ha:e.fTrees.all fun x=>decide (x.fKind=(e.fTrees.headD zTree).fKind)&&f x with
    |false=>rfl
    |true=>rw[if_pos rfl,vbX l _ _ fun y hy=>h y (qm _ hy),uC]
  rw[if_pos (by simp only[qI,decide_eq_true_eq]; omega),decide_eq_false hc]; rfl
theorem rright_eq : ∀ (d m k:Nat) (t:GTree),d<m→XT m t≤d→2*d<k→szT d t→yY k t=some (Zd d t)
 |d,m,0,t,_,_,h,_=>by omega
 |0,m+1,k+1,t,_,hd,_,hz=>by
  have h3:¬ t.fKind=3:=by
   intro h; rw[XT,if_pos h] at hd; omega
  rw[yY,yY.body,Zd,leafB,if_neg h3]
  split<;>first|rfl|(split<;>rfl)
 |d+1,m+1,k+1,t,hm,hd,hk,hz=>by
  rw[yY,yY.body,Zd]
  by_cases h3:t.fKind=3
  · have hd':maxD (XT m) (kids t) 0≤d:=by rw[XT,if_pos h3] at hd; omega
    obtain⟨k',rfl⟩:∃ k',k=k'+1:=⟨k-1,by omega⟩
    have he:zA (k'+1) t.fEntries=some (entB (Zd d) 0 t.fEntries):=by
     rw[zA,zA.body]
     exact vbX t.fEntries 0 0 fun e he x hx=>rright_eq d m k' x (by omega) (ux (maxD_mem (Yd he hx)) hd') (by omega) (hz.2 x (Yd he hx))
    have hr:yV t=some (restB t):=rrest_l4 (by have:=hz.1.2.1; omega) _ _;rw[if_neg (by omega),if_neg (by omega),if_pos h3,if_pos h3,he,hr]
    cases decide (t.fN=0)&&decide (t.fS=[]) with
    |false=>rfl
    |true=>cases entB (Zd d) 0 t.fEntries<;>rfl
  rw[if_neg h3,if_neg h3,leafB]
  split<;>first|rfl|(split<;>rfl)
theorem ref09_Check_eq {t:GTree}(hz:szT 10 t):wS t=some (YC t):=by
 rw[wS,ref09_Depth_eq,qg,YC]
 by_cases h:XT 101 t≤10
 · rw[if_pos (by omega),rright_eq 10 101 rounds t (by omega) h (by have:=yF; omega) hz,decide_eq_true h,uC]; rfl
 rw[if_neg (by omega),decide_eq_false h]; rfl
end
section
set_option maxRecDepth 4000
open AM
theorem rraws_l22 {selfE:GTree→Option (List UInt8×Int)}{enc:GTree→Option (List UInt8)}{x4:Int}{rec8:Int→List GRaw→Option (List GRaw×Int)}{y:GEntry}:∀ (l:List GTree) (i:Int) (acc:List GRaw),(∀ x∈l,(x.fKind=1∨x.fKind=2∨x.fKind=3)∧(x.fKind=3→selfE x=some (vb4 (enc x))∧∀ b,enc x=some b→b.length≤4096))→acc.length+l.length<3000000→
 zW.l22 selfE x4 rec8 y l i acc=YZ (rawL enc y.fTag l) fun m=>rec8 (x4+1) (acc++m)
 |[],i,acc,_,_=>by rw[zW.l22,rawL,YZ,qz]
 |x::l,i,acc,h,hl=>by
  rw[qj] at hl;have hx:=h x (qn ..)
  have go:∀ r:GRaw,rawT enc y.fTag x=some r→r.fB.length≤4096→zW.j37 i acc (zW.l22 selfE x4 rec8 y l) r=YZ (rawL enc y.fTag (x::l)) fun m=>rec8 (x4+1) (acc++m):=by
   intro r hr hb
   rw[zW.j37,if_neg (by omega),xK (by omega),qg,rraws_l22 l _ _ (fun z hz=>h z (qm _ hz)) (by rw[qi,qG]; omega),rawL,hr,qg]
   cases rawL enc y.fTag l with
   |none=>rfl
   |some m=>simp only[YZ,qg,qs,qH,qx]
  rw[zW.l22]
  by_cases h1:x.fKind=1
  · rw[if_pos h1];exact go _ (by rw[rawT,if_pos h1]) (uq _)
  rw[if_neg h1]
  by_cases h2:x.fKind=2
  · rw[if_pos h2]
    by_cases hb:4096<x.fS.length
    · rw[zW.j37,if_pos (by dsimp only; omega),rawL,rawT,if_neg h1,if_pos h2,if_pos hb]; rfl
    exact go _ (by rw[rawT,if_neg h1,if_pos h2,if_neg hb]) (by dsimp only; omega)
  rw[if_neg h2];obtain⟨he,hl4⟩:=hx.2 (by rcases hx.1 with h|h|h<;>omega);rw[he,qg]
  cases hx':enc x with
  |none=>rw[rawL,rawT,if_neg h1,if_neg h2,hx']; rfl
  |some b=>
   rw[vb4]; dsimp only
   rw[if_pos rfl];exact go _ (by rw[rawT,if_neg h1,if_neg h2,hx',qg]) (hl4 b hx')
theorem rraws_l8 {selfE:GTree→Option (List UInt8×Int)}{enc:GTree→Option (List UInt8)}{t:GTree}(hr:t.fRest.length≤900000):∀ (l:List GEntry) (i:Int) (acc:List GRaw),(∀ e∈l,e.fTrees.length≤64∧∀ x∈e.fTrees,(x.fKind=1∨x.fKind=2∨x.fKind=3)∧(x.fKind=3→selfE x=some (vb4 (enc x))∧∀ b,enc x=some b→b.length≤4096))→acc.length+64*l.length≤64000→
 zW.l8 selfE t l i acc=YZ (rawE enc l) fun m=>some (srt ((acc++m)++t.fRest),0)
 |[],i,acc,_,hl=>by
  rw[zW.l8,xK (by simp only[ql] at hl; omega),qg,XL (by rw[qi]; simp only[ql] at hl; omega),rawE,YZ,qz]; rfl
 |e::l,i,acc,h,hl=>by
  rw[qj] at hl;have he:=h e (qn ..);rw[zW.l8,rraws_l22 e.fTrees 0 acc he.2 (by omega),rawE]
  cases hL:rawL enc e.fTag e.fTrees with
  |none=>rfl
  |some m=>
   have hm:=rawL_len hL;rw[YZ,rraws_l8 hr l _ _ (fun z hz=>h z (qm _ hz)) (by rw[qi]; omega),qg]
   cases rawE enc l with
   |none=>rfl
   |some m'=>simp only[YZ,qg,qs]
theorem vca {l:List GRaw}{t:Int}(h:∀ r∈l,r.fTag≠t):l.filter (fun x=>x.fTag=t)=[]:=by
 rw[List.filter_eq_nil_iff]
 intro r hr
 simpa using h r hr
theorem srt_swap {l m:List GRaw}(h:∀ a∈l,∀ b∈m,a.fTag≠b.fTag):srt (l++m)=srt (m++l):=by
 refine srt_of (srt_sorted _) fun t=>?_
 rw[srt_filter,List.filter_append,List.filter_append]
 by_cases hl:∃ a∈l,a.fTag=t
 · obtain⟨a,ha,rfl⟩:=hl;rw[vca (l:=m) (t:=a.fTag) fun b hb hc=>h a ha b hb hc.symm,qz,qx]
 rw[vca (l:=l) (t:=t) fun a ha hc=>hl ⟨a,ha,hc⟩,qz,qx]
theorem rest_apart {d:Nat}{t:GTree}{L:List GRaw}(hr:Zd (d+1) t=true)(h3:t.fKind=3)(hz:szT (d+1) t)(hL:rawE (vaD d) t.fEntries=some L):∀ a∈L,∀ b∈t.fRest,a.fTag≠b.fTag:=by
 obtain⟨_,he,hb,_,_⟩:=X0 hr h3
 intro a ha b hb' hc
 obtain⟨_,e,hm,he'⟩:=rawE_ok (fun e hm=>by
  have:=Ys he e hm
  exact⟨by omega,this.2.1,fun x hx=>(szT_own (hz.2 x (Yd hm hx))).1⟩) hL a ha
 exact ((restB_mem hb).1 b hb').2 e hm (he'.symm.trans hc)
theorem rencode_eq : ∀ (d k:Nat) (t:GTree),2*d≤k→Zd d t=true→t.fKind=3→szT d t→yQ k t=some (vb4 (vaD d t))
 |0,k,t,_,hr,h3,_=>by
  rcases XP hr with h|h<;>omega
 |d+1,k,t,hk,hr,h3,hz=>by
  obtain⟨k',rfl⟩:∃ k',k=k'+2:=⟨k-2,by omega⟩
  obtain⟨hl,he,hb,_,_⟩:=X0 hr h3
  have hs:∀ e∈t.fEntries,e.fTrees.length≤64∧∀ x∈e.fTrees,(x.fKind=1∨x.fKind=2∨x.fKind=3)∧(x.fKind=3→yQ k' x=some (vb4 (vaD d x))∧∀ b,vaD d x=some b→b.length≤4096):=by
   intro e hm
   have h1:=Ys he e hm;refine⟨h1.2.2.2.1,fun x hx=>?_⟩;have hrx:=(h1.2.2.2.2 x hx).2;exact⟨XY hrx,fun hx3=>⟨rencode_eq d k' x (by omega) hrx hx3 (hz.2 x (Yd hm hx)),fun b=>vci⟩⟩
  rw[yQ,yQ.body,zW,zW.body,rraws_l8 (enc:=vaD d) hz.1.2.1 t.fEntries 0 [] hs (by rw[ql]; omega),vaD]
  cases hL:rawE (vaD d) t.fEntries with
  |none=>rfl
  |some L=>
   have hok:=raws_ok hr h3 hz hL
   rw[YZ,qg,qx,srt_swap (rest_apart hr h3 hz hL)]; dsimp only
   rw[if_pos rfl,vb1 fun r hr=>(hok r hr).2,vah hok,qg,qg]
theorem vbZ {t:GTree}(hz:szT 10 t):xV t=some (if YC t=true∧t.fKind=3 then vb4 (vaD 10 t) else ([],1)):=by
 rw[xV,ref09_Check_eq hz]
 by_cases h3:t.fKind=3
 · rw[if_pos h3,qg,qg]
   by_cases hc:YC t=true
   · rw[if_neg (by rw[hc]; decide),if_pos ⟨hc,h3⟩,rencode_eq 10 rounds t (by have:=yF; omega) (vaj hc).1 h3 hz,qg]
   rw[if_pos (by simpa using hc),if_neg (fun h=>hc h.1)]
 rw[if_neg h3,qg,if_pos rfl,if_neg (fun h=>h3 h.2)]
end
section
set_option maxRecDepth 4000
open AM
theorem count_l (a:List UInt8):∀ (k p:Nat) (x:Int),0<k→a.length<p+k→∃ v,yX.l9 a k p x=some v
 |0,p,x,h0,hk=>by omega
 |k+1,p,x,_,hk=>by
  have hd:=YI a p;rw[yX.l9]
  split
  · exact count_l a k _ _ (by omega) (by omega)
  exact⟨_,rfl⟩
theorem count_t {a:List UInt8}(h:a.length≤9223372036854775807):∃ v,yX a=some v:=by
 rw[yX,runesV_eq h,qg]
 split
 · exact⟨_,rfl⟩
 exact count_l a rounds 0 0 (by have:=yF; omega) (by have:=yF; omega)
theorem name_l (a:List UInt8):∀ (k p:Nat),0<k→a.length<p+k→∃ v,yK.l11 a k p=some v
 |0,p,h0,hk=>by omega
 |k+1,p,_,hk=>by
  have hd:=YI a p;rw[yK.l11]
  split
  · obtain⟨v,e⟩:=name_l a k (p+(YQ a p).2) (by omega) (by omega);rw[e];unfold bnd
    dsimp only
    repeat' split
    all_goals exact⟨_,rfl⟩
  exact⟨_,rfl⟩
def nameV (a:List UInt8):Bool:=(yK a).getD false
def nmOk (a:List UInt8):Prop:=a.length≤140737488351232
theorem nameV_eq {a:List UInt8}(h:nmOk a):yK a=some (nameV a):=by
 unfold nmOk at h
 have:∃ v,yK a=some v:=by
  obtain⟨v,e⟩:=count_t (a:=a) (by omega);rw[yK,e,qg];obtain⟨w,ew⟩:=name_l a rounds 0 (by have:=yF; omega) (by have:=yF; omega);rw[ew];unfold bnd
  dsimp only
  repeat' split
  all_goals exact⟨_,rfl⟩
 obtain⟨v,e⟩:=this
 unfold nameV; rw[e]; rfl
theorem vbM {m:List (List UInt8×Bool)}{a:List UInt8}(h:nmOk a):∃ r,yp m a=some r:=by
 rw[yp,nameV_eq h,qg]
 split<;>exact⟨_,rfl⟩
def nmM (m:GMessage):Prop:=nmOk m.fName∧∀ f∈m.fFields,nmOk f.fName
def nmE (e:GEnumeration):Prop:=nmOk e.fName∧∀ v∈e.fValues,nmOk v.fName
def nmS (s:GSchema):Prop:=nmOk s.fName∧(∀ m∈s.fMessages,nmM m)∧(∀ e∈s.fEnums,nmE e)∧∀ x∈s.fMethods,nmOk x.fName
theorem msg_l21 {s:GSchema}{r2:Bool×List (List UInt8×Bool)}:∀ (l:List GField) (i:Int) (a:List (Int×Bool)) (b:List (List UInt8×Bool)),(∀ f∈l,nmOk f.fName)→∃ r,zG.l21 s r2 l i a b=some r
 |[],i,a,b,_=>⟨_,rfl⟩
 |f::l,i,a,b,h=>by
  obtain⟨r,e⟩:=vbM (m:=b) (h f (qn ..));rw[zG.l21,e,qg]
  split
  · exact⟨_,rfl⟩
  unfold bnd
  dsimp only
  split
  · exact⟨_,rfl⟩
  split
  · exact⟨_,rfl⟩
  exact msg_l21 l _ _ _ fun g hg=>h g (qm _ hg)
theorem msg_l12 {s:GSchema}{m:GMessage}{r2:Bool×List (List UInt8×Bool)}(hm:∀ f∈m.fFields,nmOk f.fName):∀ (l:List Int) (i:Int) (a:List (Int×Bool)),∃ r,zG.l12 s m r2 l i a=some r
 |[],i,a=>msg_l21 _ _ _ _ hm
 |n::l,i,a=>by
  rw[zG.l12];unfold bnd
  dsimp only
  split
  · exact⟨_,rfl⟩
  exact msg_l12 hm l _ _
theorem msg_t {s:GSchema}{a:List (List UInt8×Bool)}{m:GMessage}(hm:nmM m):∃ r,zG s a m=some r:=by
 obtain⟨r,e⟩:=vbM (m:=a) hm.1;rw[zG,e,qg]
 split
 · exact⟨_,rfl⟩
 split
 · exact⟨_,rfl⟩
 exact msg_l12 hm.2 _ _ _
theorem enum_l23 {r2:Bool×List (List UInt8×Bool)}:∀ (l:List GNamed) (i:Int) (a:List (List UInt8×Bool)) (b:List (Int×Bool)),(∀ f∈l,nmOk f.fName)→∃ r,yB.l23 r2 l i a b=some r
 |[],i,a,b,_=>⟨_,rfl⟩
 |f::l,i,a,b,h=>by
  obtain⟨r,e⟩:=vbM (m:=a) (h f (qn ..));rw[yB.l23,e,qg]
  split
  · exact⟨_,rfl⟩
  split
  · exact⟨_,rfl⟩
  exact enum_l23 l _ _ _ fun g hg=>h g (qm _ hg)
theorem enum_l12 {x:GEnumeration}{r2:Bool×List (List UInt8×Bool)}(hx:∀ v∈x.fValues,nmOk v.fName):∀ (l:List GNamed) (i:Int) (z:Bool),∃ r,yB.l12 x r2 l i z=some r
 |[],i,z=>by
  rw[yB.l12]
  split
  · exact⟨_,rfl⟩
  exact enum_l23 _ _ _ _ hx
 |v::l,i,z=>by rw[yB.l12]; exact enum_l12 hx l _ _
theorem enum_t {a:List (List UInt8×Bool)}{x:GEnumeration}(hx:nmE x):∃ r,yB a x=some r:=by
 obtain⟨r,e⟩:=vbM (m:=a) hx.1;rw[yB,e,qg]
 split
 · exact⟨_,rfl⟩
 split
 · exact⟨_,rfl⟩
 exact enum_l12 hx.2 _ _ _
theorem chk_l29 {s:GSchema}:∀ (l:List GMethod) (i:Int) (a:List (List UInt8×Bool)),(∀ x∈l,nmOk x.fName)→∃ r,zx.l29 s l i a=some r
 |[],i,a,_=>⟨_,rfl⟩
 |x::l,i,a,h=>by
  obtain⟨r,e⟩:=vbM (m:=a) (h x (qn ..));rw[zx.l29];unfold bnd
  dsimp only
  rw[e,qg]
  split
  · exact⟨_,rfl⟩
  split
  · exact⟨_,rfl⟩
  exact chk_l29 l _ _ fun g hg=>h g (qm _ hg)
theorem chk_l22 {s:GSchema}(hs:∀ x∈s.fMethods,nmOk x.fName):∀ (l:List GEnumeration) (i:Int) (a:List (List UInt8×Bool)),(∀ x∈l,nmE x)→∃ r,zx.l22 s l i a=some r
 |[],i,a,_=>chk_l29 _ _ _ hs
 |x::l,i,a,h=>by
  obtain⟨r,e⟩:=enum_t (a:=a) (h x (qn ..));rw[zx.l22,e,qg]
  split
  · exact chk_l22 hs l _ _ fun g hg=>h g (qm _ hg)
  exact⟨_,rfl⟩
theorem chk_l15 {s:GSchema}(hs:nmS s):∀ (l:List GMessage) (i:Int) (a:List (List UInt8×Bool)),(∀ x∈l,nmM x)→∃ r,zx.l15 s l i a=some r
 |[],i,a,_=>chk_l22 hs.2.2.2 _ _ _ hs.2.2.1
 |x::l,i,a,h=>by
  obtain⟨r,e⟩:=msg_t (s:=s) (a:=a) (h x (qn ..));rw[zx.l15,e,qg]
  split
  · exact chk_l15 hs l _ _ fun g hg=>h g (qm _ hg)
  exact⟨_,rfl⟩
def chkV (s:GSchema):Int:=(zx s).getD 0
theorem vck {s:GSchema}(hs:nmS s):zx s=some (chkV s):=by
 have:∃ r,zx s=some r:=by
  rw[zx,nameV_eq hs.1,qg]
  split
  · exact⟨_,rfl⟩
  split
  · exact⟨_,rfl⟩
  split
  · exact⟨_,rfl⟩
  exact chk_l15 hs _ _ _ hs.2.1
 obtain⟨v,e⟩:=this
 unfold chkV; rw[e]; rfl
end
section
set_option maxRecDepth 4000
open AM
inductive Shuf : List GRaw→List GRaw→Prop
 |refl (l:List GRaw):Shuf l l
 |cons (a:GRaw) {l m:List GRaw}:Shuf l m→Shuf (a::l) (a::m)
 |swap {a b:GRaw} (h:a.fTag≠b.fTag) (l:List GRaw):Shuf (a::b::l) (b::a::l)
 |trans {l m n:List GRaw}:Shuf l m→Shuf m n→Shuf l n
theorem Shuf.app {l m:List GRaw}(h:Shuf l m)(k:List GRaw):Shuf (l++k) (m++k):=by
 induction h with
 |refl l=>exact .refl _
 |cons a _ ih=>exact .cons a ih
 |swap h l=>exact .swap h _
 |trans _ _ h1 h2=>exact .trans h1 h2
end
section
set_option maxRecDepth 4000
open AM

end
section
set_option maxRecDepth 4000
open AM

end
section
set_option maxRecDepth 4000
open AM

end
section
set_option maxRecDepth 4000
open AM
theorem msgI_l21 {s:GSchema}{r2:Bool×List (List UInt8×Bool)}{z:List (List UInt8×Bool)}:∀ {l:List GField} {i:Int} {a:List (Int×Bool)} {b:List (List UInt8×Bool)},zG.l21 s r2 l i a b=some (0,z)→∀ f∈l,1≤f.fType.fKind∧f.fType.fKind≤7
 |[],_,_,_,_,f,hf=>by cases hf
 |g::l,i,a,b,h,f,hf=>by
  rw[zG.l21] at h;obtain⟨r,_,h⟩:=bind_some h
  split at h
  · cases h
  unfold bnd at h
  dsimp only at h
  split at h
  · cases h
  split at h
  · cases h
  rename_i hc
  rcases qB.1 hf with rfl|hf
  · rw[uS,Bool.not_eq_false] at hc;unfold wj at hc
    split at hc
    · omega
    split at hc
    · omega
    simp only[qo,decide_eq_true_eq] at hc
    omega
  exact msgI_l21 h f hf
theorem msgI_l12 {s:GSchema}{m:GMessage}{r2:Bool×List (List UInt8×Bool)}{z:List (List UInt8×Bool)}:∀ {l:List Int} {i:Int} {a:List (Int×Bool)},zG.l12 s m r2 l i a=some (0,z)→∀ f∈m.fFields,1≤f.fType.fKind∧f.fType.fKind≤7
 |[],_,_,h=>msgI_l21 h
 |n::l,i,a,h=>by
  rw[zG.l12] at h;unfold bnd at h
  dsimp only at h
  split at h
  · cases h
  exact msgI_l12 h
theorem msgI {s:GSchema}{a z:List (List UInt8×Bool)}{m:GMessage}(h:zG s a m=some (0,z)):∀ f∈m.fFields,1≤f.fType.fKind∧f.fType.fKind≤7:=by
 rw[zG] at h;obtain⟨r,_,h⟩:=bind_some h
 split at h
 · cases h
 split at h
 · cases h
 exact msgI_l12 h
def kindsS (s:GSchema):Prop:=∀ m∈s.fMessages,∀ f∈m.fFields,1≤f.fType.fKind∧f.fType.fKind≤7
theorem chkI_l15 {s:GSchema}:∀ {l:List GMessage} {i:Int} {a:List (List UInt8×Bool)},zx.l15 s l i a=some 0→∀ m∈l,∀ f∈m.fFields,1≤f.fType.fKind∧f.fType.fKind≤7
 |[],_,_,_,m,hm=>by cases hm
 |x::l,i,a,h,m,hm=>by
  rw[zx.l15] at h;obtain⟨⟨v,z⟩,e,h⟩:=bind_some h
  dsimp only at h
  split at h
  · rename_i h0
    subst h0
    rcases qB.1 hm with rfl|hm
    · exact msgI e
    exact chkI_l15 h m hm
  rename_i h0
  exact absurd (Option.some.inj h) h0
theorem kindsS_of {s:GSchema}(h:zx s=some 0):kindsS s:=by
 rw[zx] at h;obtain⟨r,_,h⟩:=bind_some h
 split at h
 · cases h
 split at h
 · cases h
 split at h
 · cases h
 exact chkI_l15 h
theorem msg_mem {n:List UInt8}:∀ (l:List GMessage) (i:Int),((zI.l4 n l i).1∈l∧(zI.l4 n l i).2=true)∨((zI.l4 n l i).1.fFields=[]∧(zI.l4 n l i).2=false)
 |[],i=>Or.inr ⟨rfl,rfl⟩
 |m::l,i=>by
  rw[zI.l4]
  split
  · exact Or.inl ⟨qn ..,rfl⟩
  rcases msg_mem (n:=n) l (i+1) with h|h
  · exact Or.inl ⟨qm _ h.1,h.2⟩
  exact Or.inr h
def kindsM (m:GMessage):Prop:=∀ f∈m.fFields,1≤f.fType.fKind∧f.fType.fKind≤7
theorem kinds_msg {s:GSchema}(h:kindsS s)(n:List UInt8):kindsM (vaT s n):=by
 rcases msg_mem (n:=n) s.fMessages 0 with e|e
 · exact h _ e.1
 intro f hf
 have:(vaT s n).fFields=[]:=e.1
 rw[this] at hf; cases hf
end
section
set_option maxRecDepth 4000
open AM
def szS (s:GSchema):Prop:=nmS s∧s.fMessages.length*64≤140737488351232∧s.fEnums.length*40≤140737488351232∧s.fMethods.length*48≤140737488351232∧(∀ m∈s.fMessages,m.fFields.length*56≤140737488351232∧m.fReserved.length*8≤140737488351232)∧∀ e∈s.fEnums,e.fValues.length*24≤140737488351232
theorem ge_eta (e:GEnumeration):(⟨e.fName,e.fValues⟩:GEnumeration)=e:=rfl
theorem gm_eta (m:GMessage):(⟨m.fName,m.fFields,m.fReserved⟩:GMessage)=m:=rfl
theorem schema_l19 {s:GSchema}{M:List GMessage}(hs:szS s):∀ (B A:List GEnumeration) (i:Int),s.fEnums=A++B→yo.l19 s M B i A=some ⟨s.fName,M,s.fEnums,s.fMethods⟩
 |[],A,i,h=>by rw[yo.l19,h,qz]
 |e::B,A,i,h=>by
  have hl:s.fEnums.length=A.length+(B.length+1):=by rw[h,qi,qj]
  have h1:=hs.2.2.1;have h2:=hs.2.2.2.2.2 e (by rw[h]; exact q2 _ (qn ..));rw[yo.l19,xK (by omega),qg,xK (by omega),qg,ge_eta,schema_l19 hs B (A++[e]) _ (by rw[h,qs]; rfl)]
theorem schema_l10 {s:GSchema}(hs:szS s):∀ (B A:List GMessage) (i:Int),s.fMessages=A++B→yo.l10 s B i A=some s
 |[],A,i,h=>by
  rw[yo.l10,schema_l19 hs s.fEnums [] 0 rfl];rw[qz] at h;rw[← h]
 |m::B,A,i,h=>by
  have hl:s.fMessages.length=A.length+(B.length+1):=by rw[h,qi,qj]
  have h1:=hs.2.1;have h2:=hs.2.2.2.2.1 m (by rw[h]; exact q2 _ (qn ..));rw[yo.l10,xK (by omega),qg,wF,xK (by omega),qg,qg,xK (by omega),qg,gm_eta,schema_l10 hs B (A++[m]) _ (by rw[h,qs]; rfl)]
theorem schema_eq {s:GSchema}(hs:szS s):yo s=some s:=by
 have:=hs.2.2.2.1;rw[yo,xK (by omega),qg,schema_l10 hs s.fMessages [] 0 rfl]
theorem few_l25 {m:GMessage}{x2 x3:Int}{rec6:Int→Int→Option Bool}(hr:∃ b,rec6 (IntKind.i64.wrap (x2+(qc m.fName:Int))) (IntKind.i64.wrap (x3+1))=some b):∀ (l:List GField) (i:Int),∃ b,zK.l25 x2 x3 rec6 m l i=some b
 |[],_=>by rw[zK.l25]; exact hr
 |f::l,i=>by
  rw[zK.l25]
  split
  · exact⟨_,rfl⟩
  exact few_l25 hr l _
theorem few_l60 {x:Int}{rec43:Int→Option Bool}(hr:∃ b,rec43 (IntKind.i64.wrap (x+1))=some b):∀ (l:List GNamed) (i:Int),∃ b,zK.l60 x rec43 l i=some b
 |[],_=>by rw[zK.l60]; exact hr
 |f::l,i=>by
  rw[zK.l60]
  split
  · exact⟨_,rfl⟩
  exact few_l60 hr l _
theorem Xy {α:Type}{l:List α}{j:Nat}(h:j<l.length):Zv l (j:Int)=some (l[j]'h):=
 idx_t (by omega) (by rw[qU]; exact q1 h)
theorem few_l78 {s:GSchema}{n:Int}:∀ (k j:Nat),20<k+j→j≤20→∃ b,zK.l78 s n k (j:Int)=some b
 |0,j,h,h'=>by omega
 |k+1,j,h,h'=>by
  rw[zK.l78]
  split
  · rename_i hc
    simp only[qo,decide_eq_true_eq] at hc;rw[Xy (show j<s.fMethods.length by omega),qg]
    split
    · exact⟨_,rfl⟩
    rw[yq (by omega) (by omega),show (j:Int)+1=((j+1:Nat):Int) by omega];exact few_l78 k (j+1) (by omega) (by omega)
  exact⟨_,rfl⟩
theorem few_l43 {s:GSchema}{n:Int}:∀ (k j:Nat),20<k+j→j≤20→∃ b,zK.l43 s n k (j:Int)=some b
 |0,j,h,h'=>by omega
 |k+1,j,h,h'=>by
  rw[zK.l43]
  split
  · rename_i hc
    simp only[qo,decide_eq_true_eq] at hc;rw[Xy (show j<s.fEnums.length by omega),qg]
    split
    · exact⟨_,rfl⟩
    refine few_l60 ?_ _ _;rw[yq (by omega) (by omega),show (j:Int)+1=((j+1:Nat):Int) by omega];exact few_l43 k (j+1) (by omega) (by omega)
  exact few_l78 rounds 0 (by have:=yF; omega) (by omega)
theorem few_l6 {s:GSchema}:∀ (k j:Nat) (n:Int),20<k+j→j≤20→∃ b,zK.l6 s k n (j:Int)=some b
 |0,j,n,h,h'=>by omega
 |k+1,j,n,h,h'=>by
  rw[zK.l6]
  split
  · rename_i hc
    simp only[qo,decide_eq_true_eq] at hc;rw[Xy (show j<s.fMessages.length by omega),qg]
    split
    · exact⟨_,rfl⟩
    refine few_l25 ?_ _ _;rw[yq (x:=(j:Int)+1) (by omega) (by omega),show (j:Int)+1=((j+1:Nat):Int) by omega];exact few_l6 k (j+1) _ (by omega) (by omega)
  exact few_l43 rounds 0 (by have:=yF; omega) (by omega)
theorem few_t (s:GSchema):∃ b,zK s=some b:=few_l6 rounds 0 _ (by have:=yF; omega) (by omega)
end
section
set_option maxRecDepth 4000
open AM
def bt (a:List UInt8)(i:Nat):Nat:=(a.getD i 0).toNat
theorem bt_lt (a:List UInt8)(i:Nat):bt a i<256:=UInt8.toNat_lt _
theorem bt_get {a:List UInt8}{i:Nat}(h:i<a.length):bt a i=(a[i]'h).toNat:=by
 unfold bt; rw[qu,q1 h]; rfl
theorem bt_drop (a:List UInt8)(p i:Nat):bt (a.drop p) i=bt a (p+i):=by
 unfold bt; rw[qu,qu,List.getElem?_drop]
def decB (b:Nat→Nat)(n:Nat):Nat×Nat:=
 if b 0<128 then (b 0,1)
 else if b 0 / 32=6∧(1<n∧b 1 / 64=2) then
  (if 128≤b 0 % 32*64+b 1 % 64 then (b 0 % 32*64+b 1 % 64,2) else (65533,1))
 else if b 0 / 16=14∧(1<n∧b 1 / 64=2)∧(2<n∧b 2 / 64=2) then
  (if 2048≤b 0 % 16*4096+b 1 % 64*64+b 2 % 64∧Utf8.valid ((b 0 % 16*4096+b 1 % 64*64+b 2 % 64:Nat):Int)=true then (b 0 % 16*4096+b 1 % 64*64+b 2 % 64,3) else (65533,1))
 else if b 0 / 8=30∧(1<n∧b 1 / 64=2)∧(2<n∧b 2 / 64=2)∧(3<n∧b 3 / 64=2) then
  (if 65536≤b 0 % 8*262144+b 1 % 64*4096+b 2 % 64*64+b 3 % 64∧Utf8.valid ((b 0 % 8*262144+b 1 % 64*4096+b 2 % 64*64+b 3 % 64:Nat):Int)=true then (b 0 % 8*262144+b 1 % 64*4096+b 2 % 64*64+b 3 % 64,4) else (65533,1))
 else (65533,1)
theorem get_bt (a:List UInt8)(i:Nat):(ByteArray.get! ⟨a.toArray⟩ i).toNat=bt a i:=by
 unfold bt ByteArray.get!
 simp[qu,Array.getElem!_eq_getD]
 rfl
theorem decU_eq (a:List UInt8)(p:Nat):YQ a p=decB (fun k=>bt a (p+k)) (a.length-p):=by
 have hs:(⟨a.toArray⟩:ByteArray).size=a.length:=rfl
 have hc:∀ k,(p+k<a.length)=(k<a.length-p):=fun k=>by rw[eq_iff_iff]; omega
 unfold YQ Utf8.decode decB;simp only[get_bt,hs,hc,Utf8.runeError,qo,decide_eq_true_eq,beq_iff_eq,and_assoc,ge_iff_le]
theorem decU_drop (a:List UInt8)(p:Nat):YQ (a.drop p) 0=YQ a p:=by
 rw[decU_eq,decU_eq,uQ];simp only[bt_drop,qq,uP]
theorem tail_eq {a:List UInt8}{i:Nat}:Zi a (i:Int)=some (if i<a.length∧bt a i / 64=2 then ((bt a i % 64:Nat):Int) else -1):=by
 have hb:=bt_lt a i;rw[Zi]
 by_cases h:i<a.length
 · rw[if_neg (by omega),Xy h,qg,← bt_get h]
   by_cases h1:bt a i<128
   · rw[decide_eq_true (by omega),qg,if_pos rfl,qg,if_pos rfl,if_neg (by omega)]
   rw[decide_eq_false (by omega),qg,if_neg (by decide),qg,← bt_get h]
   by_cases h2:191<bt a i
   · rw[decide_eq_true (by omega),qg,if_pos rfl,if_neg (by omega)]
   rw[decide_eq_false (by omega),qg,if_neg (by decide),qg,← bt_get h,if_pos (by omega),yq (x:=(bt a i:Int)) (by omega) (by omega),yq (by omega) (by omega)]
   congr 1; omega
 rw[if_pos (by omega),qg,if_pos rfl,qg,if_pos rfl,if_neg (by omega)]
theorem i32_in {x:Int}(h:0≤x)(h':x<2147483648):IntKind.i32.wrap x=x:=by rw[IntKind.wrap_i32]; omega
theorem l17_go {a:List UInt8}{p n least k v:Nat}(j j':Nat)(hj':j'=j+1)(hj:j<n)(hp:p+j<4611686018427387904)(hv:v<1073741824):yG.l17 a (p:Int) (n:Int) (least:Int) (k+1) (v:Int) (j:Int)=
 if p+j<a.length∧bt a (p+j) / 64=2 then yG.l17 a (p:Int) (n:Int) (least:Int) k ((v*64+bt a (p+j) % 64:Nat):Int) (j':Int) else some (0,0,false):=by
 rw[yG.l17,if_pos (by omega),yq (x:=(p:Int)+j) (by omega) (by omega),show (p:Int)+(j:Int)=((p+j:Nat):Int) by omega,tail_eq,qg]
 by_cases h:p+j<a.length∧bt a (p+j) / 64=2
 · rw[if_pos h,if_pos h,if_neg (by omega),yq (x:=64*(v:Int)) (by omega) (by omega),yq (x:=64*(v:Int)+_) (by omega) (by omega),yq (x:=(j:Int)+1) (by omega) (by omega),show 64*(v:Int)+((bt a (p+j) % 64:Nat):Int)=((v*64+bt a (p+j) % 64:Nat):Int) by omega,show (j:Int)+1=(j':Int) by omega]
 rw[if_neg h,if_neg h,if_pos (by omega)]
theorem l17_end {a:List UInt8}{p n least k v:Nat}:yG.l17 a (p:Int) (n:Int) (least:Int) (k+1) (v:Int) (n:Int)=if v<least∨1114111<v∨(55296≤v∧v≤57343) then some (0,0,false) else some ((v:Int),(n:Int),true):=by
 rw[yG.l17,if_neg (by omega)]
 by_cases h:v<least∨1114111<v∨(55296≤v∧v≤57343)
 · rw[if_pos h,if_pos (by simp only[qI,qo,decide_eq_true_eq]; omega)]
 rw[if_neg h,if_neg (by simp only[qI,qo,decide_eq_true_eq]; omega),i32_in (by omega) (by omega)]
theorem next_eq {a:List UInt8}{p:Nat}(hp:p<a.length)(hl:a.length<2305843009213693952):(yG a (p:Int)=some (0,0,false)∧(YQ a p)=(65533,1)) ∨
 ∃ c m:Nat,yG a (p:Int)=some ((c:Int),(m:Int),true)∧YQ a p=(c,m)∧1≤m∧m≤4∧(c=65533→2≤m):=by
 obtain⟨K,hK⟩:∃ K,rounds=K+5:=⟨rounds-5,by have:=yF; omega⟩
 have h0:=bt_lt a p;have h1:=bt_lt a (p+1);have h2:=bt_lt a (p+2);have h3:=bt_lt a (p+3)
 have hn:∀ k,(k<a.length-p)=(p+k<a.length):=fun k=>by rw[eq_iff_iff]; omega
 rw[decU_eq,decB];simp only[hn,uV];rw[yG,if_neg (by simp only[qI,decide_eq_true_eq]; omega),Xy hp,qg,← bt_get hp,yq (x:=(bt a p:Int)) (by omega) (by omega)]
 by_cases c1:bt a p<128
 · right
   rw[if_pos c1,if_pos (by omega),i32_in (by omega) (by omega)];exact⟨bt a p,1,rfl,rfl,by omega,by omega,by omega⟩
 rw[if_neg c1,if_neg (by omega)]
 by_cases c2:bt a p / 32=6
 · rw[if_pos (by simp only[qo,decide_eq_true_eq]; omega),yG.j11,hK,yq (by omega) (by omega),show ((bt a p:Nat):Int)-192=((bt a p % 32:Nat):Int) by omega,show (2:Int)=((2:Nat):Int) from rfl,show (128:Int)=((128:Nat):Int) from rfl,show (1:Int)=((1:Nat):Int) from rfl,l17_go 1 2 rfl (by omega) (by omega) (by omega)]
   by_cases d1:p+1<a.length∧bt a (p+1) / 64=2
   · rw[if_pos d1,if_pos ⟨c2,d1⟩,show K+4=(K+3)+1 from rfl,l17_end]
     by_cases e1:128≤bt a p % 32*64+bt a (p+1) % 64
     · rw[if_neg (by omega),if_pos e1];exact Or.inr ⟨_,_,rfl,rfl,by omega,by omega,by omega⟩
     rw[if_pos (by omega),if_neg e1]; exact Or.inl ⟨rfl,rfl⟩
   rw[if_neg d1,if_neg (fun h=>d1 h.2),if_neg (by omega),if_neg (by omega)];exact Or.inl ⟨rfl,rfl⟩
 rw[if_neg (by simp only[qo,decide_eq_true_eq]; omega),if_neg (show ¬ (bt a p / 32=6∧_) from fun h=>c2 h.1)]
 by_cases c3:bt a p / 16=14
 · rw[if_pos (by simp only[qo,decide_eq_true_eq]; omega),yG.j11,hK,yq (by omega) (by omega),show ((bt a p:Nat):Int)-224=((bt a p % 16:Nat):Int) by omega,show (3:Int)=((3:Nat):Int) from rfl,show (2048:Int)=((2048:Nat):Int) from rfl,show (1:Int)=((1:Nat):Int) from rfl,l17_go 1 2 rfl (by omega) (by omega) (by omega)]
   by_cases d1:p+1<a.length∧bt a (p+1) / 64=2
   · rw[if_pos d1,show K+4=(K+3)+1 from rfl,l17_go 2 3 rfl (by omega) (by omega) (by omega)]
     by_cases d2:p+2<a.length∧bt a (p+2) / 64=2
     · rw[if_pos d2,if_pos ⟨c3,d1,d2⟩,show K+3=(K+2)+1 from rfl,l17_end]
       have ev:(bt a p % 16*64+bt a (p+1) % 64)*64+bt a (p+2) % 64=bt a p % 16*4096+bt a (p+1) % 64*64+bt a (p+2) % 64:=by omega
       rw[ev]
       by_cases e1:2048≤bt a p % 16*4096+bt a (p+1) % 64*64+bt a (p+2) % 64∧Utf8.valid ((bt a p % 16*4096+bt a (p+1) % 64*64+bt a (p+2) % 64:Nat):Int)=true
       · have e2:=e1.2;unfold Utf8.valid at e2;simp only[qI,qo,decide_eq_true_eq] at e2;rw[if_neg (by omega),if_pos e1];exact Or.inr ⟨_,_,rfl,rfl,by omega,by omega,by omega⟩
       have e2:=e1;unfold Utf8.valid at e2;simp only[qI,qo,decide_eq_true_eq] at e2
       rw[if_pos (by omega),if_neg e1]; exact Or.inl ⟨rfl,rfl⟩
     rw[if_neg d2,if_neg (fun h=>d2 h.2.2),if_neg (by omega)];exact Or.inl ⟨rfl,rfl⟩
   rw[if_neg d1,if_neg (fun h=>d1 h.2.1),if_neg (by omega)];exact Or.inl ⟨rfl,rfl⟩
 rw[if_neg (by simp only[qo,decide_eq_true_eq]; omega),if_neg (show ¬ (bt a p / 16=14∧_) from fun h=>c3 h.1)]
 by_cases c4:bt a p / 8=30
 · rw[if_pos (by simp only[qo,decide_eq_true_eq]; omega),yG.j11,hK,yq (by omega) (by omega),show ((bt a p:Nat):Int)-240=((bt a p % 8:Nat):Int) by omega,show (4:Int)=((4:Nat):Int) from rfl,show (65536:Int)=((65536:Nat):Int) from rfl,show (1:Int)=((1:Nat):Int) from rfl,l17_go 1 2 rfl (by omega) (by omega) (by omega)]
   by_cases d1:p+1<a.length∧bt a (p+1) / 64=2
   · rw[if_pos d1,show K+4=(K+3)+1 from rfl,l17_go 2 3 rfl (by omega) (by omega) (by omega)]
     by_cases d2:p+2<a.length∧bt a (p+2) / 64=2
     · rw[if_pos d2,show K+3=(K+2)+1 from rfl,l17_go 3 4 rfl (by omega) (by omega) (by omega)]
       by_cases d3:p+3<a.length∧bt a (p+3) / 64=2
       · rw[if_pos d3,if_pos ⟨c4,d1,d2,d3⟩,show K+2=(K+1)+1 from rfl,l17_end]
         have ev:((bt a p % 8*64+bt a (p+1) % 64)*64+bt a (p+2) % 64)*64+bt a (p+3) % 64=bt a p % 8*262144+bt a (p+1) % 64*4096+bt a (p+2) % 64*64+bt a (p+3) % 64:=by omega
         rw[ev]
         by_cases e1:65536≤bt a p % 8*262144+bt a (p+1) % 64*4096+bt a (p+2) % 64*64+bt a (p+3) % 64∧Utf8.valid ((bt a p % 8*262144+bt a (p+1) % 64*4096+bt a (p+2) % 64*64+bt a (p+3) % 64:Nat):Int)=true
         · have e2:=e1.2;unfold Utf8.valid at e2;simp only[qI,qo,decide_eq_true_eq] at e2;rw[if_neg (by omega),if_pos e1];exact Or.inr ⟨_,_,rfl,rfl,by omega,by omega,by omega⟩
         have e2:=e1;unfold Utf8.valid at e2;simp only[qI,qo,decide_eq_true_eq] at e2
         rw[if_pos (by omega),if_neg e1]; exact Or.inl ⟨rfl,rfl⟩
       rw[if_neg d3,if_neg (fun h=>d3 h.2.2.2)];exact Or.inl ⟨rfl,rfl⟩
     rw[if_neg d2,if_neg (fun h=>d2 h.2.2.1)];exact Or.inl ⟨rfl,rfl⟩
   rw[if_neg d1,if_neg (fun h=>d1 h.2.1)];exact Or.inl ⟨rfl,rfl⟩
 rw[if_neg (by simp only[qo,decide_eq_true_eq]; omega),if_neg (show ¬ (bt a p / 8=30∧_) from fun h=>c4 h.1)];exact Or.inl ⟨rfl,rfl⟩
end
section
set_option maxRecDepth 4000
open AM
def rl (a:List UInt8):Nat→Nat→Option (List Nat)
 |0,_=>none
 |k+1,p=>if p<a.length then (if YQ a p=(65533,1) then none else (rl a k (p+(YQ a p).2)).map ((YQ a p).1 :: ·)) else some []
theorem rl_all {a:List UInt8}(hl:a.length≤30000):∀ (k p:Nat) (l:List Int),a.length<p+k→0<k→p≤40000→l.length+(a.length-p)≤40000→xX.l8 a k l (p:Int)=some (match rl a k p with|some T=>(l++T.map (fun c:Nat=>(c:Int)),true)|none=>([],false))
 |0,p,l,h,h0,_,_=>by omega
 |k+1,p,l,h,_,hp,hll=>by
  rw[xX.l8,rl]
  by_cases hpl:p<a.length
  · rw[if_pos (by omega),if_pos hpl]
    rcases next_eq hpl (by omega) with ⟨e,ed⟩|⟨c,m,e,ed,h1,h2,h3⟩
    · rw[e,qg,if_pos (by rfl),if_pos ed]
    rw[e,qg,if_neg (by simp),xK (by omega),qg,if_neg (fun h=>by rw[ed] at h; simp only[Prod.mk.injEq] at h; have:=h3 h.1; omega),ed]
    dsimp only
    rw[yq (by omega) (by omega),show (p:Int)+(m:Int)=((p+m:Nat):Int) by omega,rl_all hl k (p+m) _ (by omega) (by omega) (by omega) (by rw[qi,qG]; omega)]
    cases rl a k (p+m) with
    |none=>rfl
    |some T=>simp only[uF,qE,qs,qH,qx]
  rw[if_neg (by omega),if_neg hpl]; simp only[qw,qz]
theorem cut_drop {a:List UInt8}{p:Nat}(h:p<a.length):Xc a (p:Int) (a.length:Int)=a.drop p:=by
 unfold Xc;rw[qU,qU,ul (by rw[uQ]; omega)]
theorem rnext_eq {a:List UInt8}{p:Nat}(h:p<a.length)(hl:a.length≤30000):∃ r,wC a (p:Int)=some r∧(r.2.2=true↔YQ a p≠(65533,1)):=by
 have hd:ZU (Xc a (p:Int) (a.length:Int))=(((YQ a p).1:Int),((YQ a p).2:Int)):=by
  rw[cut_drop h,ZU,dec0,if_neg (fun hc=>by have:=congrArg qc hc; rw[uQ,ql] at this; omega),decU_drop]
 rw[wC,if_neg (by simp only[qI,decide_eq_true_eq]; omega),Y4 (by omega),qg,bnd,hd]
 rcases next_eq h (by omega) with ⟨_,ed⟩|⟨c,m,_,ed,h1,h2,h3⟩
 · rw[ed];refine⟨_,by rw[if_pos (by simp)],?_⟩
   simp
 rw[ed]
 have hne:¬ ((c,m)=(65533,1)):=fun hc=>by simp only[Prod.mk.injEq] at hc; have:=h3 hc.1; omega
 refine⟨_,by rw[if_neg (by simp only[qo,decide_eq_true_eq]; omega)],?_⟩
 simp[hne]
theorem rl_valid {a:List UInt8}(hl:a.length≤30000):∀ (k p:Nat),a.length<p+k→0<k→yH.l4 a k p=some (rl a k p).isSome
 |0,p,h,h0=>by omega
 |k+1,p,h,_=>by
  rw[yH.l4,rl]
  by_cases hpl:p<a.length
  · rw[if_pos hpl,if_pos hpl];have hm:=YI a p;have ih:=rl_valid hl k (p+(YQ a p).2) (by omega) (by omega)
    by_cases hb:YQ a p=(65533,1)
    · obtain⟨r,e,hr⟩:=rnext_eq hpl hl;rw[if_pos hb,if_pos (by rw[hb]; rfl),e,qg,if_pos]
      · rfl
      cases hv:r.2.2 with
      |true=>exact absurd hb (hr.1 hv)
      |false=>rfl
    rw[if_neg hb,Option.isSome_map]
    split
    · obtain⟨r,e,hr⟩:=rnext_eq hpl hl;rw[e,qg,if_neg (by rw[hr.2 hb]; decide),ih]
    exact ih
  rw[if_neg hpl,if_neg hpl]; rfl
theorem rl_count {a:List UInt8}(hl:a.length≤30000):∀ (k p:Nat) (x:Nat) (T:List Nat),x+(a.length-p)≤40000→rl a k p=some T→yX.l9 a k p (x:Int)=some ((x+T.length:Nat):Int)
 |0,p,x,T,_,h=>by cases h
 |k+1,p,x,T,hx,h=>by
  rw[rl] at h;rw[yX.l9]
  by_cases hpl:p<a.length
  · have hm:=YI a p;rw[if_pos hpl] at h ⊢
    split at h
    · cases h
    obtain⟨T',hT,rfl⟩:=Option.map_eq_some_iff.1 h;rw[yq (by omega) (by omega),show (x:Int)+1=((x+1:Nat):Int) by omega,rl_count hl k _ (x+1) T' (by omega) hT,qj]
    congr 2; omega
  rw[if_neg hpl] at h ⊢
  cases h; rfl
def lod (c:Nat):Bool:=xD (c:Int)||wu (c:Int)
theorem letter_eq (c:Int):xp c=xD c:=by
 rw[Bool.eq_iff_iff];unfold xp xp.j6 xD wI bnd
 by_cases h1:c=95
 · subst h1; decide
 by_cases h2:c=215
 · subst h2; decide
 by_cases h3:c=247
 · subst h3; decide
 by_cases h4:c=930
 · subst h4; decide
 simp only[h1,h2,h3,h4,if_false,decide_false,ue,Bool.ite_eq_true_distrib,qI,qo,decide_eq_true_eq,qy,and_true,or_false,ite_then_self]
 (repeat' split)<;>first|omega|simp_all|(simp_all; omega)
theorem digit_eq (c:Int):w9 c=wu c:=rfl
theorem key_eq (a:List UInt8):xx a=xu a:=rfl
theorem rl_name {a:List UInt8}:∀ (k p:Nat) (T:List Nat),0<p→rl a k p=some T→yK.l11 a k p=some (T.all lod)
 |0,p,T,_,h=>by cases h
 |k+1,p,T,h0,h=>by
  rw[rl] at h;rw[yK.l11]
  by_cases hpl:p<a.length
  · have hm:=YI a p;rw[if_pos hpl] at h ⊢
    split at h
    · cases h
    obtain⟨T',hT,rfl⟩:=Option.map_eq_some_iff.1 h;have ih:=rl_name k _ T' (by omega) hT;rw[letter_eq,digit_eq,ih,qY,lod];unfold bnd
    dsimp only
    rw[if_neg (show ¬ ((p:Nat):Int)=0 by omega)]
    cases xD ((YQ a p).1:Int)<;>cases wu ((YQ a p).1:Int)<;>rfl
  rw[if_neg hpl] at h ⊢
  cases h; rfl
theorem ref_l14 {L:List Nat}{v:Bool}(hL:L.length≤40000):∀ (k i:Nat),L.length<k+i→i≤L.length→xo.l14 (L.map (fun c:Nat=>(c:Int)),v) k (i:Int)=some ((L.drop i).all lod)
 |0,i,h,h'=>by omega
 |k+1,i,h,h'=>by
  rw[xo.l14]
  by_cases hi:i<L.length
  · have hi':i<(L.map (fun c:Nat=>(c:Int))).length:=by rw[q7]; exact hi
    rw[if_pos (by dsimp only; omega),Xy hi',qg,List.getElem_map,yq (by omega) (by omega),show (i:Int)+1=((i+1:Nat):Int) by omega,ref_l14 hL k (i+1) (by omega) (by omega),uO hi,qY,lod];unfold bnd
    dsimp only
    cases xD (L[i]:Int)<;>cases wu (L[i]:Int)<;>rfl
  rw[if_neg (by dsimp only; rw[q7]; omega),List.drop_of_length_le (by omega)]; rfl
theorem rl_len {a:List UInt8}:∀ (k p:Nat) (T:List Nat),rl a k p=some T→T.length≤a.length-p
 |0,p,T,h=>by cases h
 |k+1,p,T,h=>by
  rw[rl] at h;have hm:=YI a p
  split at h
  · split at h
    · cases h
    obtain⟨T',hT,rfl⟩:=Option.map_eq_some_iff.1 h;have:=rl_len k _ T' hT
    rw[qj]; omega
  cases h; exact uq _
theorem name_eq {a:List UInt8}(hl:a.length≤30000):xo a=yK a:=by
 have hr:=yF;have e1:=rl_all hl rounds 0 [] (by omega) (by omega) (by omega) (by rw[ql]; omega);have e2:=rl_valid hl rounds 0 (by omega) (by omega)
 cases hT:rl a rounds 0 with
 |none=>
  rw[hT] at e1 e2
  rw[xo,yK,yX,show xX a=_ from e1,show yH a=_ from e2]; rfl
 |some T=>
  rw[hT] at e1 e2;have hlen:=rl_len _ _ _ hT
  have e3:yX.l9 a rounds 0 0=some (T.length:Int):=by
   have:=rl_count hl rounds 0 0 T (by omega) hT
   rw[qq] at this; exact this
  have e1':xX a=some (T.map (fun c:Nat=>(c:Int)),true):=e1;have e2':yH a=some true:=e2;rw[xo,yK,yX,e1',e2',qg,qg];have el:(T.map (fun c:Nat=>(c:Int))).length=T.length:=q7 _
  dsimp only
  rw[if_neg (show ¬ (!true)=true by decide),e3,qg,key_eq];unfold bnd
  dsimp only
  simp only[el]
  by_cases hn:T.length<1∨20<T.length
  · have hc:(decide ((T.length:Int)<1)||decide (20<(T.length:Int)))=true:=by simp only[qI,decide_eq_true_eq]; omega
    rw[qQ,uJ,hc,if_pos rfl,qg,if_pos rfl,if_pos rfl,if_pos rfl]
  have h1:0<T.length:=by omega
  have h1':0<(T.map (fun c:Nat=>(c:Int))).length:=by rw[q7]; exact h1
  have hc:(decide ((T.length:Int)<1)||decide (20<(T.length:Int)))=false:=by
   rw[Bool.eq_false_iff]
   simp only[ne_eq,qI,decide_eq_true_eq]; omega
  have ei:=Xy h1';have e14:=ref_l14 (v:=true) (L:=T) (by omega) rounds 1 (by omega) (by omega);rw[List.getElem_map] at ei;rw[qQ,uJ,hc,if_neg uy,show Zv (T.map (fun c:Nat=>(c:Int))) 0=_ from ei,qg,qg,if_neg uy,show xo.l14 (T.map (fun c:Nat=>(c:Int)),true) rounds 1=_ from e14]
  cases T with
  |nil=>exact absurd h1 (by decide)
  |cons c T=>
   obtain⟨k,hk⟩:∃ k,rounds=k+1:=⟨rounds-1,by omega⟩
   have hT':=hT;rw[hk,rl] at hT'
   split at hT'
   · rename_i hpl
     split at hT'
     · cases hT'
     obtain⟨T',hT2,hc⟩:=Option.map_eq_some_iff.1 hT'
     injection hc with hc1 hc2
     subst hc2;have hm:=YI a 0;have ih:=rl_name k _ T' (by omega) hT2;rw[hk,yK.l11,if_pos hpl,hc1,letter_eq,digit_eq,ih,List.drop_succ_cons,qC];unfold bnd
     dsimp only
     rw[List.getElem_cons_zero]
     cases xD (c:Int)<;>cases xu a<;>rfl
   cases hT'
end
end Go.Proofs.YtaddlmlpeghonaaGreatDoor
