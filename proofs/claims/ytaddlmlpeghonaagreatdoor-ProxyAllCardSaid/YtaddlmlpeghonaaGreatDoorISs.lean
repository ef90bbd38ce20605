/- Parts of the proof, cut down to what it needs. -/
import Derived.Test.YtaddlmlpeghonaaGreatDoorIDc
import Derived.Test.YtaddlmlpeghonaaGreatDoorIFB
set_option linter.constructorNameAsVariable false
set_option linter.unusedSimpArgs false
set_option linter.unusedVariables false
namespace Go.Proofs.YtaddlmlpeghonaaGreatDoor
open _root_.List renaming length → qc, flatMap → qe, length_append → qi, length_cons → qj, length_nil → ql, mem_cons_of_mem → qm, mem_cons_self → qo, append_assoc → qq, getD_eq_getElem?_getD → qt, nil_append → qw, map_nil → qx, append_nil → qz, mem_cons → qA, length_singleton → qC, cons_append → qD, length_eq_zero_iff → qF, getElem?_append_left → qH, drop_zero → qI, map_cons → qJ, map_append → qK, replicate → qM, flatMap_cons → qN, flatMap_append → qQ, range_zero → qS, getElem?_set_ne → qT, all_cons → qV, getElem?_eq_getElem → qW, range_succ → qZ, mem_append_right → q1, length_map → q2, getElem?_eq_some_iff → q3, mem_map → ua, all_nil → ub, all_eq_true → ue, mem_append → uh, take_length → ui, set_cons_zero → uk, take_of_length_le → ul, getElem?_append_right → um, flatMap_nil → un, mem_append_left → uo, take_append_drop → ut, set_cons_succ → uu, pairwise_cons → uv, mem_singleton → uw, getElem?_set_self → ux, nodup_cons → uy, getElem?_eq_none → uz, length_set → uC, filter_cons → uF, range → uH, getElem?_cons_zero → uJ, getElem?_cons_succ → uK, length_take → uL, drop_eq_getElem_cons → uO, length_drop → uQ, reverse_cons → uZ, set → u0, eq_nil_of_length_eq_zero → u4, drop_drop → u7
open _root_.Option renaming bind_some → qg, map_some → uE, getD_some → uR
open _root_.Nat renaming reduceEqDiff → qa, reduceLT → qb, reduceAdd → qd, reduceLeDiff → qf, lt_succ_self → qr, zero_add → qs, le_refl → qu, reduceMul → qv, reduceSub → qO, mul_le_mul_right → qY, reduceMod → q9, lt_of_lt_of_le → uj, zero_le → uq, le_trans → uA, zero_mul → uG, sub_self → uN, sub_zero → uP, succ_mul → uU, add_zero → uV, add_mul → uX, lt_or_ge → u3, add_assoc → u5
open _root_.Bool renaming and_eq_true → qn, not_false → qE, or_eq_true → qG, and_self → qP, or_true → qU, not_true → qX, and_true → q7, false_eq_true → uc, or_false → ud, and_false → uf, true_and → uB, false_or → uI, false_ne_true → uM, not_eq_true' → uS
open _root_.Int renaming toNat → qB, toNat_natCast → qR, reduceEq → uW, le_refl → u6
open _root_.BitVec renaming ofInt → qy, toNat → ur
open _root_.Array renaming length_toList → ug, getD_eq_getD_getElem? → uD, getElem?_eq_getElem → uT, getElem?_setIfInBounds_ne → uY, getElem?_modify → u9
open _root_.UInt8 renaming ofNat → q5
open Result renaming andThen_ok → qk
open Sem renaming run_bind → qp, run_pure → qL
open _root_.Go.Proofs.Tryz renaming prog → qh
section
set_option maxRecDepth 4000
set_option maxHeartbeats 1000000
open AM
theorem ya.ev (a0:GEnumeration)(r:Int)(h:ya a0=some r)(σ:Store):ACalls qh 83 [.agg (encGEnumeration a0)] σ (fun r' σ'=>r'=.int .i64 r∧σ'=σ):=
 (ya.ok a0 r h).c σ
def yD.l17 : List GEnumeration→Int→List (List UInt8)→Option Int
 |[],x13,l11=>some 0
 |y17::q17,x13,l11=>(yv y17.fName l11).bind fun r24=>(if (!r24)=true then some 6 else (Yk (qc l11+1) 16).bind fun _u28=>(ya y17).bind fun r32=>(if r32=0 then ((yD.l17 q17) (x13+1) (l11++[y17.fName])) else some r32))
def yD.l8 (a0:GSchema):List GMessage→Int→List (List UInt8)→Option Int
 |[],x4,l2=>(yD.l17 a0.fEnums 0 l2)
 |y8::q8,x4,l2=>(yv y8.fName l2).bind fun r41=>(if (!r41)=true then some 6 else (Yk (qc l2+1) 16).bind fun _u45=>(zE a0 y8).bind fun r49=>(if r49=0 then ((yD.l8 a0 q8) (x4+1) (l2++[y8.fName])) else some r49))
def yD (a0:GSchema):Option Int:=
 (yD.l8 a0 a0.fMessages 0 ([]:List (List UInt8)))
theorem yD.ok (a0:GSchema)(r:Int)(h:yD a0=some r):ACalls qh 46 [.agg (encGSchema a0)] [] (fun r' _=>r'=.int .i64 r):=by
 refine zf (rs:=[.tmp 2]) tok Tryz.func46 rfl Tryz.ntmps46 rfl Tryz.call46 (by simp) ?_;refine zk [(0,.agg (encGSchema a0))] ⟨rfl,trivial⟩ ?_;unfold yD at h
 refine rg tok [1] fun K hK=>?_
 simp only[go_sem,qb,qa,qd,reduceCtorEq,encGSchema];apply hK
 refine rgN [1,3] ?_;refine wV 3 1 rfl ?_;refine zR (L:=[(1,.op 0 0 0),(3,.os true 1 1 0 0 (qc ([]:List (List UInt8))) false)]) (τ:=[.cells 0 (encGSchema a0),.cells 0 (qe encS ([]:List (List UInt8)))]) .s ?_
 refine za fun Z1 hZ1=>?_
 refine rgN [1,3,4] ?_;apply ze
 refine xu 0 rfl fun hb8=>?_
 replace hb8:qc a0.fMessages≤9223372036854775807:=hb8.2.1.1;refine zq (fun m L τ=>∃ (p8 q8:List GMessage) (x4:Int) (l2:List (List UInt8)) (v3:Nat),m=qc q8∧L=[(1,.op 0 0 0),(3,.os true 1 1 v3 0 (qc l2) false),(4,.int .i64 x4)]∧τ=[.cells 0 (encGSchema a0),.cells v3 (qe encS l2)]∧a0.fMessages=p8++q8∧x4=(qc p8:Int)∧yD.l8 a0 q8 x4 l2=some r) _ ⟨[],a0.fMessages,0,([]:List (List UInt8)),0,rfl,rfl,rfl,rfl,rfl,h⟩ .s ?_;rintro m L τ ⟨p8,q8,x4,l2,v3,rfl,rfl,rfl,hE8,hi8,h⟩
 rcases q8 with _|⟨y8,q8⟩
 · have hz8:=yr hE8 hi8;simp only[yD.l8] at h
   refine za fun Z9 hZ9=>?_
   refine rg tok [1,3,4,12] fun K hK=>?_
   simp only[go_sem,qb,qa,qd,hz8];apply hK
   refine zn rfl ?_;apply zv;apply hZ1
   refine za fun Z10 hZ10=>?_
   refine rgN [1,3,6] ?_;apply ze
   refine xu 0 rfl fun hb17=>?_
   replace hb17:qc a0.fEnums≤9223372036854775807:=hb17.2.2.1.1;refine zq (fun m L τ=>∃ (p17 q17:List GEnumeration) (x13:Int) (l11:List (List UInt8)) (v12:Nat),m=qc q17∧L=[(1,.op 0 0 0),(3,.os true 1 1 v12 0 (qc l11) false),(6,.int .i64 x13)]∧τ=[.cells 0 (encGSchema a0),.cells v12 (qe encS l11)]∧a0.fEnums=p17++q17∧x13=(qc p17:Int)∧yD.l17 q17 x13 l11=some r) _ ⟨[],a0.fEnums,0,l2,v3,rfl,rfl,rfl,rfl,rfl,h⟩ .s ?_;rintro m L τ ⟨p17,q17,x13,l11,v12,rfl,rfl,rfl,hE17,hi17,h⟩
   rcases q17 with _|⟨y17,q17⟩
   · have hz17:=yr hE17 hi17;simp only[yD.l17] at h
     refine za fun Z18 hZ18=>?_
     refine rg tok [1,3,6,47] fun K hK=>?_
     simp only[go_sem,qb,qa,qd,hz17];apply hK
     refine zn rfl ?_;apply zv;apply hZ10;refine rgN [2] ?_;cases h;exact rtA
   obtain⟨hz17,hw17,hx17,hE'17,hi'17⟩:=zW hE17 hi17 hb17;simp only[yD.l17] at h
   refine za fun Z19 hZ19=>?_
   refine rg tok [1,3,6,47] fun K hK=>?_
   simp only[go_sem,qb,qa,qd,hz17];apply hK
   refine zp rfl ?_;apply zd;apply hZ19
   refine za fun Z20 hZ20=>?_
   apply ze
   refine za fun Z21 hZ21=>?_
   refine rc [1,3,6,58] fun K hK=>?_
   have f22:=E23.idxS hx17;have f23:=E23.fldS0 (f:=9) rfl rfl hx17;obtain⟨r24,hr24,h⟩:=bind_some h;refine zi tok 7 ?_;simp only[go_sem,qb,qa,qd,encGEnumeration,f22,f23];refine clN rfl rfl rfl (yv.ok y17.fName l11 r24 hr24).ld ?_;refine rnN 1 ?_;refine nkN hK ?_;refine zm (b:=(!r24)) rfl (fun hc25=>?_) (fun hc25=>?_)
   · rw[if_pos hc25] at h;refine rgN [2] ?_;cases h;exact rtA
   rw[xS hc25] at h;apply zd;apply hZ21;have f26:=E23.idxS hx17;have f27:=E23.fldS0 (f:=9) rfl rfl hx17;obtain⟨_u28,hu28,h⟩:=bind_some h;have gu28:=yi hu28;have f29:=(zr E98.len l11)
   refine rg tok [1,3,6] fun K hK=>?_
   simp only[go_sem,qb,qf,qa,qd,qv,zD,zY,qZ,qS,true_and,q9,zX,zI,yl,encGEnumeration,f26,f27,gu28,f29,yK,ub,qV,AV.one,qP,qw,qj,ql,qs,qD];apply hK
   refine zR (L:=[(1,.op 0 0 0),(3,.os true 1 1 (v12+1) 0 (qc (l11++[y17.fName])) false),(6,.int .i64 x13)]) (τ:=[.cells 0 (encGSchema a0),.cells (v12+1) (qe encS (l11++[y17.fName])),.cells 0 [.str y17.fName]]) .s ?_
   refine rc [1,3,6,7] fun K hK=>?_
   have f30:=E23.idxS hx17;have f31:=E23.loadS rfl rfl hx17;obtain⟨r32,hr32,h⟩:=bind_some h;refine zi tok 5 ?_;simp only[go_sem,qb,qa,qd,encGEnumeration,f30,f31];refine clN rfl rfl rfl (ya.ev y17 r32 hr32 _) ?_;refine rnN 1 ?_;refine nkN hK ?_;refine rgN [1,3,6,7,75] ?_;refine zo rfl (fun hc33=>?_) (fun hc33=>?_)
   · rw[if_neg hc33] at h;have t34:=eq_false hc33
     refine rg tok [2] fun K hK=>?_
     simp only[go_sem,qb,qa,t34];apply hK
     cases h;exact rtA
   rw[if_pos hc33] at h;have t35:=eq_true hc33;apply zd;apply hZ20
   refine rgE tok [1,3,6] fun K hK=>?_
   simp only[go_sem,qb,qa,hw17,t35];apply hK
   exact⟨_,_,_,qr q17.length,⟨p17++[y17],q17,x13+1,l11++[y17.fName],v12+1,rfl,rfl,rfl,hE'17,hi'17,h⟩,(.t [0,1] false)⟩
 obtain⟨hz8,hw8,hx8,hE'8,hi'8⟩:=zW hE8 hi8 hb8;simp only[yD.l8] at h
 refine za fun Z36 hZ36=>?_
 refine rg tok [1,3,4,12] fun K hK=>?_
 simp only[go_sem,qb,qa,qd,hz8];apply hK
 refine zp rfl ?_;apply zd;apply hZ36
 refine za fun Z37 hZ37=>?_
 apply ze
 refine za fun Z38 hZ38=>?_
 refine rc [1,3,4,23] fun K hK=>?_
 have f39:=E22.idxS hx8;have f40:=E22.fldS0 (f:=9) rfl rfl hx8;obtain⟨r41,hr41,h⟩:=bind_some h;refine zi tok 7 ?_;simp only[go_sem,qb,qa,qd,encGMessage,f39,f40];refine clN rfl rfl rfl (yv.ok y8.fName l2 r41 hr41).ld ?_;refine rnN 1 ?_;refine nkN hK ?_;refine zm (b:=(!r41)) rfl (fun hc42=>?_) (fun hc42=>?_)
 · rw[if_pos hc42] at h;refine rgN [2] ?_;cases h;exact rtA
 rw[xS hc42] at h;apply zd;apply hZ38;have f43:=E22.idxS hx8;have f44:=E22.fldS0 (f:=9) rfl rfl hx8;obtain⟨_u45,hu45,h⟩:=bind_some h;have gu45:=yi hu45;have f46:=(zr E98.len l2)
 refine rg tok [1,3,4] fun K hK=>?_
 simp only[go_sem,qb,qf,qa,qd,qv,zD,zY,qZ,qS,true_and,q9,zX,zI,yl,encGMessage,f43,f44,gu45,f46,yK,ub,qV,AV.one,qP,qw,qj,ql,qs,qD];apply hK
 refine zR (L:=[(1,.op 0 0 0),(3,.os true 1 1 (v3+1) 0 (qc (l2++[y8.fName])) false),(4,.int .i64 x4)]) (τ:=[.cells 0 (encGSchema a0),.cells (v3+1) (qe encS (l2++[y8.fName])),.cells 0 [.str y8.fName]]) .s ?_;have f47:=E22.idxS hx8;have f48:=E22.loadS rfl rfl hx8;obtain⟨r49,hr49,h⟩:=bind_some h
 refine rd [1,3,4,5] fun K hK=>?_
 refine DW.start (T:=tab) [.at [],.any,.at [],.any,.any,.at [],.eff,.any] [] ?_;refine DW.runN tok 6 ?_;simp only[go_sem,qb,qf,qa,qd,encGMessage,f47,f48];refine DW.call rfl rfl rfl (zE.ev a0 y8 r49 hr49 _) ?_;refine DW.runN tok 1 ?_;simp only[go_sem,qb,qa];refine DW.fin tok (by decide +kernel) rfl ?_;simp only[zj,upd,qa,reduceIte,yq,y0];apply hK
 refine rgN [1,3,4,5,41] ?_;refine zo rfl (fun hc50=>?_) (fun hc50=>?_)
 · rw[if_neg hc50] at h;have t51:=eq_false hc50
   refine rg tok [2] fun K hK=>?_
   simp only[go_sem,qb,qa,t51];apply hK
   cases h;exact rtA
 rw[if_pos hc50] at h;have t52:=eq_true hc50;apply zd;apply hZ37
 refine rgE tok [1,3,4] fun K hK=>?_
 simp only[go_sem,qb,qa,hw8,t52];apply hK
 exact⟨_,_,_,qr q8.length,⟨p8++[y8],q8,x4+1,l2++[y8.fName],v3+1,rfl,rfl,rfl,hE'8,hi'8,h⟩,(.t [0,1] false)⟩
theorem yD.ev (a0:GSchema)(r:Int)(h:yD a0=some r)(σ:Store):ACalls qh 46 [.agg (encGSchema a0)] σ (fun r' σ'=>r'=.int .i64 r∧σ'=σ):=
 (yD.ok a0 r h).c σ
def yT.l22 (a0:GSchema):List GMethod→Int→List (List UInt8)→Option Int
 |[],x18,l16=>some 0
 |y22::q22,x18,l16=>(yv y22.fName l16).bind fun r29=>(if (!r29)=true then some 6 else (Yk (qc l16+1) 16).bind fun _u31=>bnd (yb a0 y22.fIn) fun r33=>bnd (yb a0 y22.fOut) fun r34=>(if ((!r33.2)||(!r34.2))=true then some 8 else ((yT.l22 a0 q22) (x18+1) (l16++[y22.fName]))))
def yT (a0:GSchema):Option Int:=
 (xg a0.fName).bind fun r2=>(if (!r2)=true then some 6 else (if (qc a0.fMessages:Int)=0 then some 12 else (if (((decide (10<(qc a0.fMessages:Int)))||(decide (6<(qc a0.fEnums:Int))))||(decide (6<(qc a0.fMethods:Int))))=true then some 4 else (yD a0).bind fun r11=>(if r11=0 then (yT.l22 a0 a0.fMethods 0 ([]:List (List UInt8))) else some r11))))
theorem yT.ok (a0:GSchema)(r:Int)(h:yT a0=some r):ACalls qh 21 [.agg (encGSchema a0)] [] (fun r' _=>r'=.int .i64 r):=by
 refine zf (rs:=[.tmp 2]) tok Tryz.func21 rfl Tryz.ntmps21 rfl Tryz.call21 (by simp) ?_;refine zk [(0,.agg (encGSchema a0))] ⟨rfl,trivial⟩ ?_;unfold yT at h
 refine rg tok [1] fun K hK=>?_
 simp only[go_sem,qb,qa,qd,reduceCtorEq,encGSchema];apply hK
 refine za fun Z1 hZ1=>?_
 apply ze
 refine rc [1,11] fun K hK=>?_
 obtain⟨r2,hr2,h⟩:=bind_some h;refine rnN 2 ?_;refine clN rfl rfl rfl (xg.ev a0.fName r2 hr2 _) ?_;refine rnN 2 ?_;refine nkN hK ?_;refine zm (b:=(!r2)) rfl (fun hc3=>?_) (fun hc3=>?_)
 · rw[if_pos hc3] at h;refine rgN [2] ?_;cases h;exact rtA
 rw[xS hc3] at h;refine rgN [1,16] ?_;refine zo rfl (fun hc4=>?_) (fun hc4=>?_)
 · rw[if_pos hc4] at h;have t5:=eq_true hc4
   refine rg tok [2] fun K hK=>?_
   simp only[go_sem,qb,qa,t5];apply hK
   cases h;exact rtA
 rw[if_neg hc4] at h;have t6:=eq_false hc4
 refine rc [1,21] fun K hK=>?_
 refine zi tok 5 ?_;simp only[go_sem,qb,qa,qd,t6];refine zh 5 (fun L τ=>L=[(1,.op 0 0 0),(31,.bool ((decide (10<(qc a0.fMessages:Int)))||(decide (6<(qc a0.fEnums:Int)))))]∧τ=[.cells 0 (encGSchema a0)]) ?_ ?_
 · refine yx 26 rfl (fun hg26=>?_) (fun hg26=>?_)
   · have t7:=eq_true hg26;refine rnN 5 ?_;refine zb ⟨rfl,_,_,⟨rfl,rfl⟩,.p t7⟩
   have t8:=eq_false hg26;refine rnN 5 ?_;refine zb ⟨rfl,_,_,⟨rfl,rfl⟩,.p t8⟩
 rintro _ _ ⟨rfl,rfl⟩;refine rnN 1 ?_;refine zh 5 (fun L τ=>L=[(1,.op 0 0 0),(37,.bool (((decide (10<(qc a0.fMessages:Int)))||(decide (6<(qc a0.fEnums:Int))))||(decide (6<(qc a0.fMethods:Int)))))]∧τ=[.cells 0 (encGSchema a0)]) ?_ ?_
 · refine zN (b:=((decide (10<(qc a0.fMessages:Int)))||(decide (6<(qc a0.fEnums:Int))))) 32 rfl (fun hg32=>?_) (fun hg32=>?_)
   · refine rnN 5 ?_;refine zb ⟨rfl,_,_,⟨rfl,rfl⟩,.b hg32⟩
   refine rnN 5 ?_;refine zb ⟨rfl,_,_,⟨rfl,rfl⟩,.b hg32⟩
 rintro _ _ ⟨rfl,rfl⟩;refine rnN 1 ?_;refine nkN hK ?_;refine zm (b:=(((decide (10<(qc a0.fMessages:Int)))||(decide (6<(qc a0.fEnums:Int))))||(decide (6<(qc a0.fMethods:Int))))) rfl (fun hc9=>?_) (fun hc9=>?_)
 · rw[if_pos hc9] at h;refine rgN [2] ?_;cases h;exact rtA
 rw[xS hc9] at h;apply zd;apply hZ1
 refine za fun Z10 hZ10=>?_
 refine rc [1,3] fun K hK=>?_
 obtain⟨r11,hr11,h⟩:=bind_some h;refine rnN 1 ?_;refine clN rfl rfl rfl (yD.ev a0 r11 hr11 _) ?_;refine rnN 1 ?_;refine nkN hK ?_;refine rgN [1,3,41] ?_;refine zo rfl (fun hc12=>?_) (fun hc12=>?_)
 · rw[if_neg hc12] at h;have t13:=eq_false hc12
   refine rg tok [2] fun K hK=>?_
   simp only[go_sem,qb,qa,t13];apply hK
   cases h;exact rtA
 rw[if_pos hc12] at h;have t14:=eq_true hc12;apply zd;apply hZ10
 refine rg tok [1,4] fun K hK=>?_
 simp only[go_sem,qb,qa,t14];apply hK
 refine wV 4 1 rfl ?_;refine zR (L:=[(1,.op 0 0 0),(4,.os true 1 1 0 0 (qc ([]:List (List UInt8))) false)]) (τ:=[.cells 0 (encGSchema a0),.cells 0 (qe encS ([]:List (List UInt8)))]) .s ?_
 refine za fun Z15 hZ15=>?_
 refine rgN [1,4,5] ?_;apply ze
 refine xu 0 rfl fun hb22=>?_
 replace hb22:qc a0.fMethods≤9223372036854775807:=hb22.2.2.2.1.1;refine zq (fun m L τ=>∃ (p22 q22:List GMethod) (x18:Int) (l16:List (List UInt8)) (v17:Nat),m=qc q22∧L=[(1,.op 0 0 0),(4,.os true 1 1 v17 0 (qc l16) false),(5,.int .i64 x18)]∧τ=[.cells 0 (encGSchema a0),.cells v17 (qe encS l16)]∧a0.fMethods=p22++q22∧x18=(qc p22:Int)∧yT.l22 a0 q22 x18 l16=some r) _ ⟨[],a0.fMethods,0,([]:List (List UInt8)),0,rfl,rfl,rfl,rfl,rfl,h⟩ .s ?_;rintro m L τ ⟨p22,q22,x18,l16,v17,rfl,rfl,rfl,hE22,hi22,h⟩
 rcases q22 with _|⟨y22,q22⟩
 · have hz22:=yr hE22 hi22;simp only[yT.l22] at h
   refine za fun Z23 hZ23=>?_
   refine rg tok [1,4,5,47] fun K hK=>?_
   simp only[go_sem,qb,qa,qd,hz22];apply hK
   refine zn rfl ?_;apply zv;apply hZ15;refine rgN [2] ?_;cases h;exact rtA
 obtain⟨hz22,hw22,hx22,hE'22,hi'22⟩:=zW hE22 hi22 hb22;simp only[yT.l22] at h
 refine za fun Z24 hZ24=>?_
 refine rg tok [1,4,5,47] fun K hK=>?_
 simp only[go_sem,qb,qa,qd,hz22];apply hK
 refine zp rfl ?_;apply zd;apply hZ24
 refine za fun Z25 hZ25=>?_
 apply ze;have f26:=E24.idxS hx22;have f27:=E24.loadS rfl rfl hx22
 refine rg tok [1,4,5,6] fun K hK=>?_
 simp only[go_sem,qb,qf,qa,qd,encGMethod,f26,f27];apply hK
 refine za fun Z28 hZ28=>?_
 refine rc [1,4,5,6,59] fun K hK=>?_
 obtain⟨r29,hr29,h⟩:=bind_some h;refine rnN 3 ?_;refine clN rfl rfl rfl (yv.ok y22.fName l16 r29 hr29).ld ?_;refine rnN 1 ?_;refine nkN hK ?_;refine zm (b:=(!r29)) rfl (fun hc30=>?_) (fun hc30=>?_)
 · rw[if_pos hc30] at h;refine rgN [2] ?_;cases h;exact rtA
 rw[xS hc30] at h;apply zd;apply hZ28;obtain⟨_u31,hu31,h⟩:=bind_some h;have gu31:=yi hu31;have f32:=(zr E98.len l16)
 refine rg tok [1,4,5,6] fun K hK=>?_
 simp only[go_sem,qb,qf,qa,qd,qv,zD,zY,qZ,qS,true_and,q9,zX,zI,yl,gu31,f32,yK,ub,qV,AV.one,qP,qw,qj,ql,qs,qD];apply hK
 refine zR (L:=[(1,.op 0 0 0),(4,.os true 1 1 (v17+1) 0 (qc (l16++[y22.fName])) false),(5,.int .i64 x18),(6,.op 2 0 0)]) (τ:=[.cells 0 (encGSchema a0),.cells (v17+1) (qe encS (l16++[y22.fName])),.cells 0 [.str y22.fName,.str y22.fIn,.str y22.fOut],.cells 0 [.str y22.fName]]) .s ?_
 refine rc [1,4,5,6,8] fun K hK=>?_
 obtain⟨r33,hr33,h⟩:=zO h;refine rnN 3 ?_;refine clN rfl rfl rfl (yb.ev a0 y22.fIn r33 hr33 _) ?_;refine zi tok 6 ?_;simp only[go_sem,qb,qf,qa,qd,encGMessage];refine nkN hK ?_
 refine rc [1,4,5,8,10] fun K hK=>?_
 obtain⟨r34,hr34,h⟩:=zO h;refine rnN 3 ?_;refine clN rfl rfl rfl (yb.ev a0 y22.fOut r34 hr34 _) ?_;refine zi tok 6 ?_;simp only[go_sem,qb,qf,qa,qd,encGMessage];refine nkN hK ?_
 refine rc [1,4,5,84] fun K hK=>?_
 refine rnN 3 ?_;refine zh 3 (fun L τ=>L=[(1,.op 0 0 0),(4,.os true 1 1 (v17+1) 0 (qc (l16++[y22.fName])) false),(5,.int .i64 x18),(84,.bool ((!r33.2)||(!r34.2)))]∧τ=[.cells 0 (encGSchema a0),.cells (v17+1) (qe encS (l16++[y22.fName])),.cells 0 [.str y22.fName,.str y22.fIn,.str y22.fOut],.cells 0 [.str y22.fName],.cells 0 (encGMessage r33.1),.cells 0 (encGMessage r34.1)]) ?_ ?_
 · refine zN (b:=(!r33.2)) 81 rfl (fun hg81=>?_) (fun hg81=>?_)
   · refine rnN 3 ?_;refine zb ⟨rfl,_,_,⟨rfl,rfl⟩,.b hg81⟩
   refine rnN 3 ?_;refine zb ⟨rfl,_,_,⟨rfl,rfl⟩,.b hg81⟩
 rintro _ _ ⟨rfl,rfl⟩;refine nkN hK ?_;refine zm (b:=((!r33.2)||(!r34.2))) rfl (fun hc35=>?_) (fun hc35=>?_)
 · rw[if_pos hc35] at h;refine rgN [2] ?_;cases h;exact rtA
 rw[xS hc35] at h;apply zd;apply hZ25
 refine rgE tok [1,4,5] fun K hK=>?_
 simp only[go_sem,qb,qa,hw22];apply hK
 exact⟨_,_,_,qr q22.length,⟨p22++[y22],q22,x18+1,l16++[y22.fName],v17+1,rfl,rfl,rfl,hE'22,hi'22,h⟩,(.t [0,1] false)⟩
theorem yT.ev (a0:GSchema)(r:Int)(h:yT a0=some r)(σ:Store):ACalls qh 21 [.agg (encGSchema a0)] σ (fun r' σ'=>r'=.int .i64 r∧σ'=σ):=
 (yT.ok a0 r h).c σ
def wr (a0:GSchema)(a1:List UInt8)(a2:List UInt8):Option (GTree×Int):=
 (yT a0).bind fun r2=>(if r2=0 then bnd (yb a0 a1) fun r6=>(if (!r6.2)=true then some ((⟨0,0,[],([]:List GEntry),([]:List GRaw)⟩:GTree),14) else (zJ rounds a0 r6.1 a2 1).bind fun r9=>some (r9.1,r9.2)) else some ((⟨0,0,[],([]:List GEntry),([]:List GRaw)⟩:GTree),1))
theorem wr.ok (a0:GSchema)(a1:List UInt8)(a2:List UInt8)(r:GTree×Int)(h:wr a0 a1 a2=some r):ACalls qh 19 [.agg (encGSchema a0),.str a1,.ds true (qe encB a2) (qc a2) false] [] (fun r' _=>r'=.tup [.agg (cellsGTree r.1),.int .i64 r.2]):=by
 refine zf (rs:=[.cell 6 30,.tmp 7]) tok Tryz.func19 rfl Tryz.ntmps19 rfl Tryz.call19 (by simp) ?_;refine zk [(0,.agg (encGSchema a0)),(1,.str a1),(2,.ds true (qe encB a2) (qc a2) false)] ⟨rfl,rfl,rfl,trivial⟩ ?_;unfold wr at h
 refine rg tok [1,2,3,6] fun K hK=>?_
 simp only[go_sem,qb,qa,qd,reduceCtorEq,encGSchema];apply hK
 refine za fun Z1 hZ1=>?_
 refine rc [1,2,3,6,12] fun K hK=>?_
 obtain⟨r2,hr2,h⟩:=bind_some h;refine rnN 1 ?_;refine clN rfl rfl rfl (yT.ev a0 r2 hr2 _) ?_;refine rnN 1 ?_;refine nkN hK ?_;refine zo rfl (fun hc3=>?_) (fun hc3=>?_)
 · rw[if_neg hc3] at h;have t4:=eq_false hc3
   refine rg tok [6,7] fun K hK=>?_
   simp only[go_sem,qb,qf,qa,qd,t4];apply hK
   cases h;exact rtA
 rw[if_pos hc3] at h;have t5:=eq_true hc3;apply zd;apply hZ1
 refine rc [2,3,6,8,9] fun K hK=>?_
 obtain⟨r6,hr6,h⟩:=zO h;refine zi tok 2 ?_;simp only[go_sem,qb,qf,qa,qd,t5];refine clN rfl rfl rfl (yb.ev a0 a1 r6 hr6 _) ?_;refine zi tok 6 ?_;simp only[go_sem,qb,qf,qa,qd,encGMessage];refine nkN hK ?_
 refine za fun Z7 hZ7=>?_
 refine rgN [2,3,6,8,21] ?_;refine zm (b:=(!r6.2)) rfl (fun hc8=>?_) (fun hc8=>?_)
 · rw[if_pos hc8] at h;refine rgN [6,7] ?_;cases h;exact rtA
 rw[xS hc8] at h;apply zd;apply hZ7
 refine rc [6,7] fun K hK=>?_
 obtain⟨r9,hr9,h⟩:=bind_some h;refine rnN 3 ?_;refine clN rfl rfl rfl (zJ.ev rounds a0 r6.1 a2 1 r9 hr9 _) ?_;refine zi tok 4 ?_;simp only[go_sem,qb,qf,qa,qd,cellsGTree];refine nkN hK ?_;cases h;exact rtA
theorem wr.ev (a0:GSchema)(a1:List UInt8)(a2:List UInt8)(r:GTree×Int)(h:wr a0 a1 a2=some r)(σ:Store):ACalls qh 19 [.agg (encGSchema a0),.str a1,.ds true (qe encB a2) (qc a2) false] σ (fun r' σ'=>r'=.tup [.agg (cellsGTree r.1),.int .i64 r.2]∧σ'=σ):=
 (wr.ok a0 a1 a2 r h).c σ
def zT.l18 (yW:GTree→Int→Option Int)(a1:Int)(x7:Int)(rec10:Int→Int→Option Int):List GTree→Int→Int→Option Int
 |[],x15,x14=>(rec10 (x7+1) x14)
 |y18::q18,x15,x14=>(yW y18 (IntKind.i64.wrap (a1+1))).bind fun r30=>((zT.l18 yW a1 x7 rec10 q18) (x15+1) (if x14<r30 then r30 else x14))
def zT.l10 (yW:GTree→Int→Option Int)(a1:Int):List GEntry→Int→Int→Option Int
 |[],x7,x6=>some (if 101<IntKind.i64.wrap (x6+1) then 101 else IntKind.i64.wrap (x6+1))
 |y10::q10,x7,x6=>(zT.l18 yW a1 x7 (zT.l10 yW a1 q10) y10.fTrees 0 x6)
def zT.body (yW:GTree→Int→Option Int)(a0:GTree)(a1:Int):Option Int:=
 (if ((!(decide (a0.fKind=3)))||(decide (100<a1)))=true then some 0 else (zT.l10 yW a1 a0.fEntries 0 0))
theorem zT.step (yW:GTree→Int→Option Int)(ih_ref09_depth:∀ (a0:GTree) (a1:Int) (r:Int),yW a0 a1=some r→ACalls qh 123 [.agg (cellsGTree a0),.int .i64 a1] [] (fun r' _=>r'=.int .i64 r))(a0:GTree)(a1:Int)(r:Int)(h:zT.body yW a0 a1=some r):ACalls qh 123 [.agg (cellsGTree a0),.int .i64 a1] [] (fun r' _=>r'=.int .i64 r):=by
 have ev_ref09_depth:=fun a0 a1 r h σ=>(ih_ref09_depth a0 a1 r h).c σ
 refine zf (rs:=[.tmp 4]) tok Tryz.func123 rfl Tryz.ntmps123 rfl Tryz.call123 (by simp) ?_;refine zk [(0,.agg (cellsGTree a0)),(1,.int .i64 a1)] ⟨rfl,rfl,trivial⟩ ?_;unfold zT.body at h
 refine rg tok [1,2] fun K hK=>?_
 simp only[go_sem,qb,qa,qd,reduceCtorEq,cellsGTree];apply hK
 refine za fun Z1 hZ1=>?_
 refine rc [1,2,14] fun K hK=>?_
 refine rnN 4 ?_;refine zh 3 (fun L τ=>L=[(1,.int .i64 a1),(2,.op 0 0 0),(14,.bool ((!(decide (a0.fKind=3)))||(decide (100<a1))))]∧τ=[.cells 0 (cellsGTree a0)]) ?_ ?_
 · refine yx 11 rfl (fun hg11=>?_) (fun hg11=>?_)
   · have t2:=eq_false hg11;refine rnN 3 ?_;refine zb ⟨rfl,_,_,⟨rfl,rfl⟩,.p t2⟩
   have t3:=eq_true hg11;refine rnN 3 ?_;refine zb ⟨rfl,_,_,⟨rfl,rfl⟩,.p t3⟩
 rintro _ _ ⟨rfl,rfl⟩;refine nkN hK ?_;refine zm (b:=((!(decide (a0.fKind=3)))||(decide (100<a1)))) rfl (fun hc4=>?_) (fun hc4=>?_)
 · rw[if_pos hc4] at h;refine rgN [4] ?_;cases h;exact rtA
 rw[xS hc4] at h;apply zd;apply hZ1;refine rgN [1,2,5] ?_
 refine za fun Z5 hZ5=>?_
 refine rgN [1,2,5,6] ?_;apply ze
 refine xu 0 rfl fun hb10=>?_
 replace hb10:qc a0.fEntries≤9223372036854775807:=hb10.2.2.2.1.1;refine zq (fun m L τ=>∃ (p10 q10:List GEntry) (x7:Int) (x6:Int),m=qc q10∧L=[(1,.int .i64 a1),(2,.op 0 0 0),(5,.int .i64 x6),(6,.int .i64 x7)]∧τ=[.cells 0 (cellsGTree a0)]∧a0.fEntries=p10++q10∧x7=(qc p10:Int)∧zT.l10 yW a1 q10 x7 x6=some r) _ ⟨[],a0.fEntries,0,0,rfl,rfl,rfl,rfl,rfl,h⟩ .s ?_;rintro m L τ ⟨p10,q10,x7,x6,rfl,rfl,rfl,hE10,hi10,h⟩
 rcases q10 with _|⟨y10,q10⟩
 · have hz10:=yr hE10 hi10;simp only[zT.l10] at h
   refine za fun Z11 hZ11=>?_
   refine rg tok [1,2,5,6,19] fun K hK=>?_
   simp only[go_sem,qb,qa,qd,hz10];apply hK
   refine zn rfl ?_;apply zv;apply hZ5
   refine rg tok [4] fun K hK=>?_
   simp only[go_sem,qb,qa,vay,foldO,vb9];apply hK
   cases h;exact rtA
 obtain⟨hz10,hw10,hx10,hE'10,hi'10⟩:=zW hE10 hi10 hb10;simp only[zT.l10] at h
 refine za fun Z12 hZ12=>?_
 refine rg tok [1,2,5,6,19] fun K hK=>?_
 simp only[go_sem,qb,qa,qd,hz10];apply hK
 refine zp rfl ?_;apply zd;apply hZ12
 refine za fun Z13 hZ13=>?_
 apply ze;refine rgN [1,2,5,6,7] ?_;apply ze
 refine xu 0 rfl fun hb18=>?_
 replace hb18:=vaD hb18.2.2.2.1.2 hx10;rw[z6] at hb18;replace hb18:qc y10.fTrees≤9223372036854775807:=hb18.2.1.1;refine zq (fun m L τ=>∃ (p18 q18:List GTree) (x15:Int) (x14:Int),m=qc q18∧L=[(1,.int .i64 a1),(2,.op 0 0 0),(5,.int .i64 x14),(6,.int .i64 x7),(7,.int .i64 x15)]∧τ=[.cells 0 (cellsGTree a0)]∧y10.fTrees=p18++q18∧x15=(qc p18:Int)∧zT.l18 yW a1 x7 (zT.l10 yW a1 q10) q18 x15 x14=some r) _ ⟨[],y10.fTrees,0,x6,rfl,rfl,rfl,rfl,rfl,h⟩ .s ?_;rintro m L τ ⟨p18,q18,x15,x14,rfl,rfl,rfl,hE18,hi18,h⟩
 rcases q18 with _|⟨y18,q18⟩
 · have hz18:=yr hE18 hi18;simp only[zT.l18] at h
   refine za fun Z19 hZ19=>?_
   have f20:=E27.idxS hx10;have f21:=E27.fldS (f:=90) rfl rfl hx10 (o:=1) (by decide)
   refine rg tok [1,2,5,6,7,30] fun K hK=>?_
   simp only[go_sem,qb,qa,qd,cellsGEntry,z6,hz18,f20,f21];apply hK
   refine zn rfl ?_;apply zv;apply hZ13
   refine rgE tok [1,2,5,6] fun K hK=>?_
   simp only[go_sem,qb,qa,hw10];apply hK
   exact⟨_,_,_,qr q10.length,⟨p10++[y10],q10,x7+1,x14,rfl,rfl,rfl,hE'10,hi'10,h⟩,.s⟩
 obtain⟨hz18,hw18,hx18,hE'18,hi'18⟩:=zW hE18 hi18 hb18;simp only[zT.l18] at h
 refine za fun Z22 hZ22=>?_
 have f23:=E27.idxS hx10;have f24:=E27.fldS (f:=90) rfl rfl hx10 (o:=1) (by decide)
 refine rg tok [1,2,5,6,7,30] fun K hK=>?_
 simp only[go_sem,qb,qa,qd,cellsGEntry,z6,hz18,f23,f24];apply hK
 refine zp rfl ?_;apply zd;apply hZ22
 refine za fun Z25 hZ25=>?_
 apply ze
 refine rcE [1,2,5,6,7] fun K hK=>?_
 have f26:=E27.idxS hx10;have f27:=E27.fldS (f:=90) rfl rfl hx10 (o:=1) (by decide);have f28:=E90.idxS hx18;have f29:=E90.loadS rfl rfl hx18;obtain⟨r30,hr30,h⟩:=bind_some h;refine zi tok 10 ?_;simp only[go_sem,qb,qa,qd,cellsGEntry,cellsGTree,z6,xh,f26,f27,f28,f29];refine rnN 2 ?_;refine clN rfl rfl rfl (ev_ref09_depth y18 (IntKind.i64.wrap (a1+1)) r30 hr30 _) ?_;refine zi tok 2 ?_;simp only[go_sem,qb,qa,vay,foldO,vca];refine nkN hK ?_;apply hZ25
 refine rgE tok [1,2,5,6,7] fun K hK=>?_
 simp only[go_sem,qb,qa,hw18];apply hK
 exact⟨_,_,_,qr q18.length,⟨p18++[y18],q18,x15+1,(if x14<r30 then r30 else x14),rfl,rfl,rfl,hE'18,hi'18,h⟩,.s⟩
def zT : Nat→GTree→Int→Option Int
 |0,_,_=>none
 |k+1,a0,a1=>zT.body (zT k) a0 a1
theorem zT.all (k:Nat):(∀ (a0:GTree) (a1:Int) (r:Int),zT k a0 a1=some r→ACalls qh 123 [.agg (cellsGTree a0),.int .i64 a1] [] (fun r' _=>r'=.int .i64 r)):=by
 induction k with
 |zero=>exact (fun a0 a1 r h=>by simp only[zT] at h; cases h)
 |succ k ih=>exact (fun a0 a1 r h=>zT.step _ ih a0 a1 r (by simpa only [zT] using h))
theorem zT.ev (k:Nat)(a0:GTree)(a1:Int)(r:Int)(h:zT k a0 a1=some r)(σ:Store):ACalls qh 123 [.agg (cellsGTree a0),.int .i64 a1] σ (fun r' σ'=>r'=.int .i64 r∧σ'=σ):=
 ((zT.all k) a0 a1 r h).c σ
def wL (a0:GTree):Option Int:=
 (zT rounds a0 0).bind fun r1=>some r1
theorem wL.ok (a0:GTree)(r:Int)(h:wL a0=some r):ACalls qh 87 [.agg (cellsGTree a0)] [] (fun r' _=>r'=.int .i64 r):=by
 refine zf (rs:=[.tmp 2]) tok Tryz.func87 rfl Tryz.ntmps87 rfl Tryz.call87 (by simp) ?_;refine zk [(0,.agg (cellsGTree a0))] ⟨rfl,trivial⟩ ?_;unfold wL at h
 refine rg tok [1] fun K hK=>?_
 simp only[go_sem,qb,qa,qd,reduceCtorEq,cellsGTree];apply hK
 refine rc [2] fun K hK=>?_
 obtain⟨r1,hr1,h⟩:=bind_some h;refine rnN 1 ?_;refine clN rfl rfl rfl (zT.ev rounds a0 0 r1 hr1 _) ?_;refine rnN 1 ?_;refine nkN hK ?_;cases h;exact rtA
theorem wL.ev (a0:GTree)(r:Int)(h:wL a0=some r)(σ:Store):ACalls qh 87 [.agg (cellsGTree a0)] σ (fun r' σ'=>r'=.int .i64 r∧σ'=σ):=
 (wL.ok a0 r h).c σ
def wk (a0:GRaw):Bool:=
 (if ((decide (a0.fTag<1))||(decide (500<a0.fTag)))=true then false else (if a0.fWire=0 then decide (a0.fB=[]) else (((decide (a0.fWire=1))&&(decide (a0.fN=0)))&&(decide ((qc a0.fB:Int)≤4096)))))
theorem wk.ok (a0:GRaw)(r:Bool)(h:wk a0=r):ACalls qh 126 [.agg (encGRaw a0)] [] (fun r' _=>r'=.bool r):=by
 refine zf (rs:=[.tmp 2]) tok Tryz.func126 rfl Tryz.ntmps126 rfl Tryz.call126 (by simp) ?_;refine zk [(0,.agg (encGRaw a0))] ⟨rfl,trivial⟩ ?_;unfold wk at h
 refine rg tok [1] fun K hK=>?_
 simp only[go_sem,qb,qa,qd,reduceCtorEq,encGRaw];apply hK
 refine za fun Z1 hZ1=>?_
 refine rc [1,10] fun K hK=>?_
 refine rnN 4 ?_;refine zh 4 (fun L τ=>L=[(1,.op 0 0 0),(10,.bool ((decide (a0.fTag<1))||(decide (500<a0.fTag))))]∧τ=[.cells 0 [.int .i64 a0.fTag,.int .i64 a0.fWire,.int .i64 a0.fN,.str a0.fB]]) ?_ ?_
 · refine yx 6 rfl (fun hg6=>?_) (fun hg6=>?_)
   · have t2:=eq_true hg6;refine rnN 4 ?_;refine zb ⟨rfl,_,_,⟨rfl,rfl⟩,.p t2⟩
   have t3:=eq_false hg6;refine rnN 4 ?_;refine zb ⟨rfl,_,_,⟨rfl,rfl⟩,.p t3⟩
 rintro _ _ ⟨rfl,rfl⟩;refine nkN hK ?_;refine zm (b:=((decide (a0.fTag<1))||(decide (500<a0.fTag)))) rfl (fun hc4=>?_) (fun hc4=>?_)
 · rw[if_pos hc4] at h;refine rgN [2] ?_;cases h;exact rtA
 rw[xS hc4] at h;apply zd;apply hZ1
 refine za fun Z5 hZ5=>?_
 refine rgN [1,13] ?_;refine zo rfl (fun hc6=>?_) (fun hc6=>?_)
 · rw[if_pos hc6] at h;have t7:=eq_true hc6
   refine rg tok [2] fun K hK=>?_
   simp only[go_sem,qb,qa,qd,t7];apply hK
   cases h;exact rtA
 rw[if_neg hc6] at h;have t8:=eq_false hc6;apply zd;apply hZ5
 refine rc [2] fun K hK=>?_
 refine zi tok 4 ?_;simp only[go_sem,qb,qa,qd,t8];refine zh 4 (fun L τ=>L=[(1,.op 0 0 0),(24,.bool ((decide (a0.fWire=1))&&(decide (a0.fN=0))))]∧τ=[.cells 0 [.int .i64 a0.fTag,.int .i64 a0.fWire,.int .i64 a0.fN,.str a0.fB]]) ?_ ?_
 · refine yx 20 rfl (fun hg20=>?_) (fun hg20=>?_)
   · have t9:=eq_true hg20;refine rnN 4 ?_;refine zb ⟨rfl,_,_,⟨rfl,rfl⟩,.p t9⟩
   have t10:=eq_false hg20;refine rnN 4 ?_;refine zb ⟨rfl,_,_,⟨rfl,rfl⟩,.p t10⟩
 rintro _ _ ⟨rfl,rfl⟩;refine rnN 1 ?_;refine zh 5 (fun L τ=>L=[(30,.bool (((decide (a0.fWire=1))&&(decide (a0.fN=0)))&&(decide ((qc a0.fB:Int)≤4096))))]∧τ=[.cells 0 [.int .i64 a0.fTag,.int .i64 a0.fWire,.int .i64 a0.fN,.str a0.fB]]) ?_ ?_
 · refine zN (b:=((decide (a0.fWire=1))&&(decide (a0.fN=0)))) 25 rfl (fun hg25=>?_) (fun hg25=>?_)
   · refine rnN 5 ?_;refine zb ⟨rfl,_,_,⟨rfl,rfl⟩,.b hg25⟩
   refine rnN 5 ?_;refine zb ⟨rfl,_,_,⟨rfl,rfl⟩,.b hg25⟩
 rintro _ _ ⟨rfl,rfl⟩;refine rnN 1 ?_;refine nkN hK ?_;cases h;exact rtA
theorem wk.ev (a0:GRaw)(r:Bool)(h:wk a0=r)(σ:Store):ACalls qh 126 [.agg (encGRaw a0)] σ (fun r' σ'=>r'=.bool r∧σ'=σ):=
 (wk.ok a0 r h).c σ
def wh.l4 (a1:Int):List GEntry→Int→Bool
 |[],x2=>false
 |y4::q4,x2=>(if y4.fTag=a1 then true else ((wh.l4 a1 q4) (x2+1)))
def wh (a0:GTree)(a1:Int):Bool:=
 (wh.l4 a1 a0.fEntries 0)
theorem wh.ok (a0:GTree)(a1:Int)(r:Bool)(h:wh a0 a1=r):ACalls qh 148 [.agg (cellsGTree a0),.int .i64 a1] [] (fun r' _=>r'=.bool r):=by
 refine zf (rs:=[.tmp 4]) tok Tryz.func148 rfl Tryz.ntmps148 rfl Tryz.call148 (by simp) ?_;refine zk [(0,.agg (cellsGTree a0)),(1,.int .i64 a1)] ⟨rfl,rfl,trivial⟩ ?_;unfold wh at h
 refine rg tok [1,2] fun K hK=>?_
 simp only[go_sem,qb,qa,qd,reduceCtorEq,cellsGTree];apply hK
 refine za fun Z1 hZ1=>?_
 refine rgN [1,2,5] ?_;apply ze
 refine xu 0 rfl fun hb4=>?_
 replace hb4:qc a0.fEntries≤9223372036854775807:=hb4.2.2.2.1.1;refine zq (fun m L τ=>∃ (p4 q4:List GEntry) (x2:Int),m=qc q4∧L=[(1,.int .i64 a1),(2,.op 0 0 0),(5,.int .i64 x2)]∧τ=[.cells 0 (cellsGTree a0)]∧a0.fEntries=p4++q4∧x2=(qc p4:Int)∧wh.l4 a1 q4 x2=r) _ ⟨[],a0.fEntries,0,rfl,rfl,rfl,rfl,rfl,h⟩ .s ?_;rintro m L τ ⟨p4,q4,x2,rfl,rfl,rfl,hE4,hi4,h⟩
 rcases q4 with _|⟨y4,q4⟩
 · have hz4:=yr hE4 hi4;simp only[wh.l4] at h
   refine za fun Z5 hZ5=>?_
   refine rg tok [1,2,5,10] fun K hK=>?_
   simp only[go_sem,qb,qa,qd,hz4];apply hK
   refine zn rfl ?_;apply zv;apply hZ1;refine rgN [4] ?_;cases h;exact rtA
 obtain⟨hz4,hw4,hx4,hE'4,hi'4⟩:=zW hE4 hi4 hb4;simp only[wh.l4] at h
 refine za fun Z6 hZ6=>?_
 refine rg tok [1,2,5,10] fun K hK=>?_
 simp only[go_sem,qb,qa,qd,hz4];apply hK
 refine zp rfl ?_;apply zd;apply hZ6
 refine za fun Z7 hZ7=>?_
 apply ze;have f8:=E27.idxS hx4;have f9:=E27.fldS0 (f:=3) rfl rfl hx4
 refine rg tok [1,2,5,20] fun K hK=>?_
 simp only[go_sem,qb,qa,qd,cellsGEntry,z6,f8,f9];apply hK
 refine zo rfl (fun hc10=>?_) (fun hc10=>?_)
 · rw[if_pos hc10] at h;have t11:=eq_true hc10
   refine rg tok [4] fun K hK=>?_
   simp only[go_sem,qb,qa,t11];apply hK
   cases h;exact rtA
 rw[if_neg hc10] at h;have t12:=eq_false hc10;apply zd;apply hZ7
 refine rgE tok [1,2,5] fun K hK=>?_
 simp only[go_sem,qb,qa,hw4,t12];apply hK
 exact⟨_,_,_,qr q4.length,⟨p4++[y4],q4,x2+1,rfl,rfl,rfl,hE'4,hi'4,h⟩,.s⟩
theorem wh.ev (a0:GTree)(a1:Int)(r:Bool)(h:wh a0 a1=r)(σ:Store):ACalls qh 148 [.agg (cellsGTree a0),.int .i64 a1] σ (fun r' σ'=>r'=.bool r∧σ'=σ):=
 (wh.ok a0 a1 r h).c σ
def xy.l4 (a0:List GRaw):Nat→Int→Option Bool
 |0,_=>none
 |k4+1,x2=>(if x2<(qc a0:Int) then (Zt a0 x2).bind fun y9=>(Zt a0 (IntKind.i64.wrap (x2-1))).bind fun y12=>(if y9.fTag<y12.fTag then some false else ((xy.l4 a0 k4) (IntKind.i64.wrap (x2+1)))) else some true)
def xy (a0:List GRaw):Option Bool:=
 (xy.l4 a0 rounds 1)
theorem xy.ok (a0:List GRaw)(r:Bool)(h:xy a0=some r):ACalls qh 149 [.ds true (qe encGRaw a0) (qc a0) false] [] (fun r' _=>r'=.bool r):=by
 refine zf (rs:=[.tmp 2]) tok Tryz.func149 rfl Tryz.ntmps149 rfl Tryz.call149 (by simp) ?_;refine zk [(0,.ds true (qe encGRaw a0) (qc a0) false)] ⟨rfl,trivial⟩ ?_;unfold xy at h;refine rgN [0] ?_
 refine za fun Z1 hZ1=>?_
 refine rgN [0,3] ?_;apply ze;refine zq (fun m L τ=>∃ (k4:Nat) (x2:Int),m=0+k4∧L=[(0,.ds true (qe encGRaw a0) (qc a0) false),(3,.int .i64 x2)]∧τ=[]∧xy.l4 a0 k4 x2=some r) _ ⟨rounds,1,rfl,rfl,rfl,h⟩ .s ?_;rintro m L τ ⟨k4,x2,rfl,rfl,rfl,h⟩
 rcases k4 with _|k4
 · cases h
 simp only[xy.l4] at h
 refine za fun Z5 hZ5=>?_
 refine rgN [0,3,7] ?_;refine zo rfl (fun hc6=>?_) (fun hc6=>?_)
 · rw[if_pos hc6] at h;have t7:=eq_true hc6;apply zd;apply hZ5
   refine za fun Z8 hZ8=>?_
   apply ze;obtain⟨y9,hy9,h⟩:=bind_some h;have f10:=E28.idxS hy9;have f11:=E28.fldS0 (f:=3) rfl rfl hy9;obtain⟨y12,hy12,h⟩:=bind_some h;have f13:=E28.idxS hy12;have f14:=E28.fldS0 (f:=3) rfl rfl hy12
   refine rd [0,3,21] fun K hK=>?_
   refine DW.start (T:=tab) [.any,.any,.any,.any,.at [],.any,.any,.any,.any,.any,.at [],.any] [] ?_;refine DW.runN tok 8 ?_;simp only[go_sem,qb,qa,reduceCtorEq,encGRaw,t7,f10,f11];refine DW.runN tok 4 ?_;simp only[go_sem,qb,qa,reduceCtorEq,encGRaw,f13,f14];refine DW.fin tok (by decide +kernel) rfl ?_;simp only[zj,upd,qa,reduceIte,yq,y0];apply hK
   refine zo rfl (fun hc15=>?_) (fun hc15=>?_)
   · rw[if_pos hc15] at h;have t16:=eq_true hc15
     refine rg tok [2] fun K hK=>?_
     simp only[go_sem,qb,qa,reduceCtorEq,t16];apply hK
     cases h;exact rtA
   rw[if_neg hc15] at h;have t17:=eq_false hc15;apply zd;apply hZ8
   refine rgE tok [0,3] fun K hK=>?_
   simp only[go_sem,qb,qa,reduceCtorEq,t17];apply hK
   exact⟨_,_,_,qr (0+k4),⟨k4,IntKind.i64.wrap (x2+1),rfl,rfl,rfl,h⟩,.s⟩
 rw[if_neg hc6] at h;have t18:=eq_false hc6;apply zv;apply hZ1
 refine rg tok [2] fun K hK=>?_
 simp only[go_sem,qb,qa,reduceCtorEq,t18];apply hK
 cases h;exact rtA
theorem xy.ev (a0:List GRaw)(r:Bool)(h:xy a0=some r)(σ:Store):ACalls qh 149 [.ds true (qe encGRaw a0) (qc a0) false] σ (fun r' σ'=>r'=.bool r∧σ'=σ):=
 (xy.ok a0 r h).c σ
def yP.j10 (x2:Int)(rec4:Int→Option Bool)(x9:Bool):Option Bool:=
 (if x9=true then some false else (rec4 (x2+1)))
def yP.l4 (a0:GTree):List GRaw→Int→Option Bool
 |[],x2=>(xy a0.fRest).bind fun r6=>some r6
 |y4::q4,x2=>bnd (wk y4) fun r14=>(if (!r14)=true then (yP.j10 x2 (yP.l4 a0 q4) true) else bnd (wh a0 y4.fTag) fun r17=>(yP.j10 x2 (yP.l4 a0 q4) r17))
def yP (a0:GTree):Option Bool:=
 (yP.l4 a0 a0.fRest 0)
theorem yP.ok (a0:GTree)(r:Bool)(h:yP a0=some r):ACalls qh 125 [.agg (cellsGTree a0)] [] (fun r' _=>r'=.bool r):=by
 refine zf (rs:=[.tmp 2]) tok Tryz.func125 rfl Tryz.ntmps125 rfl Tryz.call125 (by simp) ?_;refine zk [(0,.agg (cellsGTree a0))] ⟨rfl,trivial⟩ ?_;unfold yP at h
 refine rg tok [1] fun K hK=>?_
 simp only[go_sem,qb,qa,qd,reduceCtorEq,cellsGTree];apply hK
 refine za fun Z1 hZ1=>?_
 refine rgN [1,3] ?_;apply ze
 refine xu 0 rfl fun hb4=>?_
 replace hb4:qc a0.fRest≤9223372036854775807:=hb4.2.2.2.2.1.1;refine zq (fun m L τ=>∃ (p4 q4:List GRaw) (x2:Int),m=qc q4∧L=[(1,.op 0 0 0),(3,.int .i64 x2)]∧τ=[.cells 0 (cellsGTree a0)]∧a0.fRest=p4++q4∧x2=(qc p4:Int)∧yP.l4 a0 q4 x2=some r) _ ⟨[],a0.fRest,0,rfl,rfl,rfl,rfl,rfl,h⟩ .s ?_;rintro m L τ ⟨p4,q4,x2,rfl,rfl,rfl,hE4,hi4,h⟩
 rcases q4 with _|⟨y4,q4⟩
 · have hz4:=yr hE4 hi4;simp only[yP.l4] at h
   refine za fun Z5 hZ5=>?_
   refine rg tok [1,3,8] fun K hK=>?_
   simp only[go_sem,qb,qa,qd,hz4];apply hK
   refine zn rfl ?_;apply zv;apply hZ1
   refine rc [2] fun K hK=>?_
   obtain⟨r6,hr6,h⟩:=bind_some h;refine rnN 2 ?_;refine clN rfl rfl rfl (xy.ev a0.fRest r6 hr6 _) ?_;refine rnN 1 ?_;refine nkN hK ?_;cases h;exact rtA
 obtain⟨hz4,hw4,hx4,hE'4,hi'4⟩:=zW hE4 hi4 hb4;simp only[yP.l4] at h
 refine za fun Z7 hZ7=>?_
 refine rg tok [1,3,8] fun K hK=>?_
 simp only[go_sem,qb,qa,qd,hz4];apply hK
 refine zp rfl ?_;apply zd;apply hZ7
 refine za fun Z8 hZ8=>?_
 apply ze;refine xL (fun L τ=>∃ (x9:Bool),L=[(1,.op 0 0 0),(3,.int .i64 x2),(27,.bool x9)]∧τ=[.cells 0 (cellsGTree a0)]∧yP.j10 x2 (yP.l4 a0 q4) x9=some r) ?_ ?_
 · refine rdE [1,3,27] fun K hK=>?_
   refine DW.start (T:=tab) [.any,.at [],.any,.any,.at [],.eff,.any,.any,.at [],.any,.at [],.any,.any,.any,.at [],.eff,.any] [] ?_;have f12:=E28.idxS hx4;have f13:=E28.loadS rfl rfl hx4;obtain⟨r14,hr14,h⟩:=zO h;refine DW.runN tok 5 ?_;simp only[go_sem,qb,qa,qd,encGRaw,f12,f13];refine DW.call rfl rfl rfl (wk.ev y4 r14 hr14 _) ?_;refine DW.runN tok 2 ?_;simp only[go_sem,qb,qa];refine DW.at (b:=(!r14)) 18 rfl (fun hg18=>?_) (fun hg18=>?_)
   · rw[if_pos hg18] at h;refine DW.runN tok 8 ?_;simp only[go_sem,qb,qa];refine DW.runN tok 1 ?_;simp only[go_sem,qb,qa];refine DW.fin tok (by decide +kernel) rfl ?_;simp only[zj,upd,qa,reduceIte,yq,y0];apply hK
     exact⟨_,_,⟨true,rfl,rfl,h⟩,.s⟩
   rw[xS hg18] at h;have f15:=E28.idxS hx4;have f16:=E28.fldS0 (f:=3) rfl rfl hx4;obtain⟨r17,hr17,h⟩:=zO h;refine DW.runN tok 7 ?_;simp only[go_sem,qb,qf,qa,qd,encGRaw,f15,f16];refine DW.call rfl rfl rfl (wh.ev a0 y4.fTag r17 hr17 _) ?_;refine DW.runN tok 1 ?_;simp only[go_sem,qb,qa];refine DW.fin tok (by decide +kernel) rfl ?_;simp only[zj,upd,qa,reduceIte,yq,y0];apply hK
   exact⟨_,_,⟨r17,rfl,rfl,h⟩,.s⟩
 rintro _ _ ⟨x9,rfl,rfl,h⟩;unfold yP.j10 at h;refine zm (b:=x9) rfl (fun hc11=>?_) (fun hc11=>?_)
 · rw[if_pos hc11] at h;refine rgN [2] ?_;cases h;exact rtA
 rw[xS hc11] at h;apply zd;apply hZ8
 refine rgE tok [1,3] fun K hK=>?_
 simp only[go_sem,qb,qa,hw4];apply hK
 exact⟨_,_,_,qr q4.length,⟨p4++[y4],q4,x2+1,rfl,rfl,rfl,hE'4,hi'4,h⟩,.s⟩
end
section
set_option maxRecDepth 4000
set_option maxHeartbeats 1000000
open AM
theorem yP.ev (a0:GTree)(r:Bool)(h:yP a0=some r)(σ:Store):ACalls qh 125 [.agg (cellsGTree a0)] σ (fun r' σ'=>r'=.bool r∧σ'=σ):=
 (yP.ok a0 r h).c σ
def yS.body (yf:GTree→Option Bool)(xJ:(List GEntry)→Option Bool)(a0:GTree):Option Bool:=
 (if a0.fKind=1 then some (((decide (a0.fS=[]))&&(decide ((qc a0.fEntries:Int)=0)))&&(decide ((qc a0.fRest:Int)=0))) else (if a0.fKind=2 then some (((decide (a0.fN=0))&&(decide ((qc a0.fEntries:Int)=0)))&&(decide ((qc a0.fRest:Int)=0))) else (if a0.fKind=3 then (if ((decide (a0.fN=0))&&(decide (a0.fS=[])))=true then (xJ a0.fEntries).bind fun r16=>some r16 else some false).bind fun c16=>(if c16=true then (yP a0).bind fun r18=>some r18 else some false).bind fun c18=>some c18 else some false)))
theorem yS.step (yf:GTree→Option Bool)(xJ:(List GEntry)→Option Bool)(YL:∀ (a0:GTree) (r:Bool),yf a0=some r→ACalls qh 88 [.agg (cellsGTree a0)] [] (fun r' _=>r'=.bool r))(Yg:∀ (a0:List GEntry) (r:Bool),xJ a0=some r→ACalls qh 124 [.ds true (qe encGEntry a0) (qc a0) false] [] (fun r' _=>r'=.bool r))(a0:GTree)(r:Bool)(h:yS.body yf xJ a0=some r):ACalls qh 88 [.agg (cellsGTree a0)] [] (fun r' _=>r'=.bool r):=by
 have ev_ref09_check:=fun a0 r h σ=>(YL a0 r h).c σ
 have ev_ref09_entries:=fun a0 r h σ=>(Yg a0 r h).c σ
 refine zf (rs:=[.tmp 2]) tok Tryz.func88 rfl Tryz.ntmps88 rfl Tryz.call88 (by simp) ?_;refine zk [(0,.agg (cellsGTree a0))] ⟨rfl,trivial⟩ ?_;unfold yS.body at h
 refine rg tok [1] fun K hK=>?_
 simp only[go_sem,qb,qa,qd,reduceCtorEq,cellsGTree];apply hK
 refine za fun Z1 hZ1=>?_
 refine rgN [1,4] ?_;apply ze;refine rgN [1,4,5] ?_;refine zo rfl (fun hc2=>?_) (fun hc2=>?_)
 · rw[if_pos hc2] at h;have t3:=eq_true hc2
   refine rc [2] fun K hK=>?_
   refine zi tok 4 ?_;simp only[go_sem,qb,qa,qd,t3];refine zh 5 (fun L τ=>L=[(1,.op 0 0 0),(15,.bool ((decide (a0.fS=[]))&&(decide ((qc a0.fEntries:Int)=0))))]∧τ=[.cells 0 (cellsGTree a0)]) ?_ ?_
   · refine yx 10 rfl (fun hg10=>?_) (fun hg10=>?_)
     · have t4:=eq_true hg10;refine rnN 5 ?_;refine zb ⟨rfl,_,_,⟨rfl,rfl⟩,.p t4⟩
     have t5:=eq_false hg10;refine rnN 5 ?_;refine zb ⟨rfl,_,_,⟨rfl,rfl⟩,.p t5⟩
   rintro _ _ ⟨rfl,rfl⟩;refine rnN 1 ?_;refine zh 5 (fun L τ=>L=[(21,.bool (((decide (a0.fS=[]))&&(decide ((qc a0.fEntries:Int)=0)))&&(decide ((qc a0.fRest:Int)=0))))]∧τ=[.cells 0 (cellsGTree a0)]) ?_ ?_
   · refine zN (b:=((decide (a0.fS=[]))&&(decide ((qc a0.fEntries:Int)=0)))) 16 rfl (fun hg16=>?_) (fun hg16=>?_)
     · refine rnN 5 ?_;refine zb ⟨rfl,_,_,⟨rfl,rfl⟩,.b hg16⟩
     refine rnN 5 ?_;refine zb ⟨rfl,_,_,⟨rfl,rfl⟩,.b hg16⟩
   rintro _ _ ⟨rfl,rfl⟩;refine rnN 1 ?_;refine nkN hK ?_;cases h;exact rtA
 rw[if_neg hc2] at h;have t6:=eq_false hc2
 refine rg tok [1,4,22] fun K hK=>?_
 simp only[go_sem,qb,qa,t6];apply hK
 refine zo rfl (fun hc7=>?_) (fun hc7=>?_)
 · rw[if_pos hc7] at h;have t8:=eq_true hc7
   refine rc [2] fun K hK=>?_
   refine zi tok 4 ?_;simp only[go_sem,qb,qa,qd,t8];refine zh 5 (fun L τ=>L=[(1,.op 0 0 0),(32,.bool ((decide (a0.fN=0))&&(decide ((qc a0.fEntries:Int)=0))))]∧τ=[.cells 0 (cellsGTree a0)]) ?_ ?_
   · refine yx 27 rfl (fun hg27=>?_) (fun hg27=>?_)
     · have t9:=eq_true hg27;refine rnN 5 ?_;refine zb ⟨rfl,_,_,⟨rfl,rfl⟩,.p t9⟩
     have t10:=eq_false hg27;refine rnN 5 ?_;refine zb ⟨rfl,_,_,⟨rfl,rfl⟩,.p t10⟩
   rintro _ _ ⟨rfl,rfl⟩;refine rnN 1 ?_;refine zh 5 (fun L τ=>L=[(38,.bool (((decide (a0.fN=0))&&(decide ((qc a0.fEntries:Int)=0)))&&(decide ((qc a0.fRest:Int)=0))))]∧τ=[.cells 0 (cellsGTree a0)]) ?_ ?_
   · refine zN (b:=((decide (a0.fN=0))&&(decide ((qc a0.fEntries:Int)=0)))) 33 rfl (fun hg33=>?_) (fun hg33=>?_)
     · refine rnN 5 ?_;refine zb ⟨rfl,_,_,⟨rfl,rfl⟩,.b hg33⟩
     refine rnN 5 ?_;refine zb ⟨rfl,_,_,⟨rfl,rfl⟩,.b hg33⟩
   rintro _ _ ⟨rfl,rfl⟩;refine rnN 1 ?_;refine nkN hK ?_;cases h;exact rtA
 rw[if_neg hc7] at h;have t11:=eq_false hc7
 refine rg tok [1,39] fun K hK=>?_
 simp only[go_sem,qb,qa,t11];apply hK
 refine zo rfl (fun hc12=>?_) (fun hc12=>?_)
 · rw[if_pos hc12] at h;have t13:=eq_true hc12
   refine rc [2] fun K hK=>?_
   refine zi tok 4 ?_;simp only[go_sem,qb,qa,qd,t13];refine zh 4 (fun L τ=>L=[(1,.op 0 0 0),(48,.bool ((decide (a0.fN=0))&&(decide (a0.fS=[]))))]∧τ=[.cells 0 (cellsGTree a0)]) ?_ ?_
   · refine yx 44 rfl (fun hg44=>?_) (fun hg44=>?_)
     · have t14:=eq_true hg44;refine rnN 4 ?_;refine zb ⟨rfl,_,_,⟨rfl,rfl⟩,.p t14⟩
     have t15:=eq_false hg44;refine rnN 4 ?_;refine zb ⟨rfl,_,_,⟨rfl,rfl⟩,.p t15⟩
   rintro _ _ ⟨rfl,rfl⟩;refine rnN 1 ?_;obtain⟨c16,hc16,h⟩:=bind_some h;refine zh 4 (fun L τ=>L=[(1,.op 0 0 0),(53,.bool c16)]∧τ=[.cells 0 (cellsGTree a0)]) ?_ ?_
   · refine zN (b:=((decide (a0.fN=0))&&(decide (a0.fS=[])))) 49 rfl (fun hg49=>?_) (fun hg49=>?_)
     · rw[if_pos hg49] at hc16;obtain⟨r17,hr17,hc16⟩:=bind_some hc16;refine rnN 2 ?_;refine clN rfl rfl rfl (ev_ref09_entries a0.fEntries r17 hr17 _) ?_;refine rnN 1 ?_;cases hc16;refine zb ⟨rfl,_,_,⟨rfl,rfl⟩,.b hg49⟩
     rw[xS hg49] at hc16;refine rnN 4 ?_;cases hc16;refine zb ⟨rfl,_,_,⟨rfl,rfl⟩,.b hg49⟩
   rintro _ _ ⟨rfl,rfl⟩;refine rnN 1 ?_;obtain⟨c18,hc18,h⟩:=bind_some h;refine zh 3 (fun L τ=>L=[(57,.bool c18)]∧τ=[.cells 0 (cellsGTree a0)]) ?_ ?_
   · refine zN (b:=c16) 54 rfl (fun hg54=>?_) (fun hg54=>?_)
     · rw[if_pos hg54] at hc18;obtain⟨r19,hr19,hc18⟩:=bind_some hc18;refine rnN 1 ?_;refine clN rfl rfl rfl (yP.ev a0 r19 hr19 _) ?_;refine rnN 1 ?_;cases hc18;refine zb ⟨rfl,_,_,⟨rfl,rfl⟩,.b hg54⟩
     rw[xS hg54] at hc18;refine rnN 3 ?_;cases hc18;refine zb ⟨rfl,_,_,⟨rfl,rfl⟩,.b hg54⟩
   rintro _ _ ⟨rfl,rfl⟩;refine rnN 1 ?_;refine nkN hK ?_;cases h;exact rtA
 rw[if_neg hc12] at h;have t20:=eq_false hc12;apply zd;apply hZ1
 refine rg tok [2] fun K hK=>?_
 simp only[go_sem,qb,qa,t20];apply hK
 cases h;exact rtA
def zA.j23 (x16:Int)(rec18:Int→Option Bool)(x22:Bool):Option Bool:=
 (if x22=true then some false else (rec18 (x16+1)))
def zA.l18 (yf:GTree→Option Bool)(x3:Int)(rec6:Int→Int→Option Bool)(y6:GEntry):List GTree→Int→Option Bool
 |[],x16=>(rec6 (x3+1) y6.fTag)
 |y18::q18,x16=>(Zt y6.fTrees 0).bind fun y27=>(if y18.fKind=y27.fKind then (yf y18).bind fun r34=>(zA.j23 x16 (zA.l18 yf x3 rec6 y6 q18) (!r34)) else (zA.j23 x16 (zA.l18 yf x3 rec6 y6 q18) true))
def zA.l6 (yf:GTree→Option Bool):List GEntry→Int→Int→Option Bool
 |[],x3,x2=>some true
 |y6::q6,x3,x2=>(if ((((decide (y6.fTag≤x2))||(decide (500<y6.fTag)))||(decide ((qc y6.fTrees:Int)<1)))||(decide (64<(qc y6.fTrees:Int))))=true then some false else (zA.l18 yf x3 (zA.l6 yf q6) y6 y6.fTrees 0))
def zA.body (yf:GTree→Option Bool)(xJ:(List GEntry)→Option Bool)(a0:List GEntry):Option Bool:=
 (zA.l6 yf a0 0 0)
theorem zA.step (yf:GTree→Option Bool)(xJ:(List GEntry)→Option Bool)(YL:∀ (a0:GTree) (r:Bool),yf a0=some r→ACalls qh 88 [.agg (cellsGTree a0)] [] (fun r' _=>r'=.bool r))(Yg:∀ (a0:List GEntry) (r:Bool),xJ a0=some r→ACalls qh 124 [.ds true (qe encGEntry a0) (qc a0) false] [] (fun r' _=>r'=.bool r))(a0:List GEntry)(r:Bool)(h:zA.body yf xJ a0=some r):ACalls qh 124 [.ds true (qe encGEntry a0) (qc a0) false] [] (fun r' _=>r'=.bool r):=by
 have ev_ref09_check:=fun a0 r h σ=>(YL a0 r h).c σ
 have ev_ref09_entries:=fun a0 r h σ=>(Yg a0 r h).c σ
 refine zf (rs:=[.tmp 2]) tok Tryz.func124 rfl Tryz.ntmps124 rfl Tryz.call124 (by simp) ?_;refine zk [(0,.ds true (qe encGEntry a0) (qc a0) false)] ⟨rfl,trivial⟩ ?_;unfold zA.body at h;refine rgN [0] ?_;refine rgN [0,3] ?_
 refine za fun Z1 hZ1=>?_
 refine rgN [0,3,4] ?_;apply ze
 refine yZ 0 fun hb6=>?_
 replace hb6:qc a0≤9223372036854775807:=hb6.1;refine zq (fun m L τ=>∃ (p6 q6:List GEntry) (x3:Int) (x2:Int),m=qc q6∧L=[(0,.ds true (qe encGEntry a0) (qc a0) false),(3,.int .i64 x2),(4,.int .i64 x3)]∧τ=[]∧a0=p6++q6∧x3=(qc p6:Int)∧zA.l6 yf q6 x3 x2=some r) _ ⟨[],a0,0,0,rfl,rfl,rfl,rfl,rfl,h⟩ .s ?_;rintro m L τ ⟨p6,q6,x3,x2,rfl,rfl,rfl,hE6,hi6,h⟩
 rcases q6 with _|⟨y6,q6⟩
 · have hz6:=yr hE6 hi6;simp only[zA.l6] at h
   refine za fun Z7 hZ7=>?_
   refine rg tok [0,3,4,10] fun K hK=>?_
   simp only[go_sem,qb,qa,reduceCtorEq,hz6];apply hK
   refine zn rfl ?_;apply zv;apply hZ1;refine rgN [2] ?_;cases h;exact rtA
 obtain⟨hz6,hw6,hx6,hE'6,hi'6⟩:=zW hE6 hi6 hb6;simp only[zA.l6] at h
 refine za fun Z8 hZ8=>?_
 refine rg tok [0,3,4,10] fun K hK=>?_
 simp only[go_sem,qb,qa,reduceCtorEq,hz6];apply hK
 refine zp rfl ?_;apply zd;apply hZ8
 refine za fun Z9 hZ9=>?_
 apply ze;have f10:=E27.idxS hx6;have f11:=E27.loadS rfl rfl hx6
 refine rg tok [0,3,4,5] fun K hK=>?_
 simp only[go_sem,qb,qf,qa,qd,reduceCtorEq,cellsGEntry,z6,f10,f11];apply hK
 refine za fun Z12 hZ12=>?_
 refine rc [0,4,5,37] fun K hK=>?_
 refine rnN 5 ?_;refine zh 4 (fun L τ=>L=[(0,.ds true (qe encGEntry a0) (qc a0) false),(4,.int .i64 x3),(5,.op 0 0 0),(25,.bool ((decide (y6.fTag≤x2))||(decide (500<y6.fTag))))]∧τ=[.cells 0 (cellsGEntry y6)]) ?_ ?_
 · refine yx 21 rfl (fun hg21=>?_) (fun hg21=>?_)
   · have t13:=eq_true hg21;refine rnN 4 ?_;refine zb ⟨rfl,_,_,⟨rfl,rfl⟩,.p t13⟩
   have t14:=eq_false hg21;refine rnN 4 ?_;refine zb ⟨rfl,_,_,⟨rfl,rfl⟩,.p t14⟩
 rintro _ _ ⟨rfl,rfl⟩;refine rnN 1 ?_;refine zh 5 (fun L τ=>L=[(0,.ds true (qe encGEntry a0) (qc a0) false),(4,.int .i64 x3),(5,.op 0 0 0),(31,.bool (((decide (y6.fTag≤x2))||(decide (500<y6.fTag)))||(decide ((qc y6.fTrees:Int)<1))))]∧τ=[.cells 0 (cellsGEntry y6)]) ?_ ?_
 · refine zN (b:=((decide (y6.fTag≤x2))||(decide (500<y6.fTag)))) 26 rfl (fun hg26=>?_) (fun hg26=>?_)
   · refine rnN 5 ?_;refine zb ⟨rfl,_,_,⟨rfl,rfl⟩,.b hg26⟩
   refine rnN 5 ?_;refine zb ⟨rfl,_,_,⟨rfl,rfl⟩,.b hg26⟩
 rintro _ _ ⟨rfl,rfl⟩;refine rnN 1 ?_;refine zh 5 (fun L τ=>L=[(0,.ds true (qe encGEntry a0) (qc a0) false),(4,.int .i64 x3),(5,.op 0 0 0),(37,.bool ((((decide (y6.fTag≤x2))||(decide (500<y6.fTag)))||(decide ((qc y6.fTrees:Int)<1)))||(decide (64<(qc y6.fTrees:Int)))))]∧τ=[.cells 0 (cellsGEntry y6)]) ?_ ?_
 · refine zN (b:=(((decide (y6.fTag≤x2))||(decide (500<y6.fTag)))||(decide ((qc y6.fTrees:Int)<1)))) 32 rfl (fun hg32=>?_) (fun hg32=>?_)
   · refine rnN 5 ?_;refine zb ⟨rfl,_,_,⟨rfl,rfl⟩,.b hg32⟩
   refine rnN 5 ?_;refine zb ⟨rfl,_,_,⟨rfl,rfl⟩,.b hg32⟩
 rintro _ _ ⟨rfl,rfl⟩;refine nkN hK ?_;refine zm (b:=((((decide (y6.fTag≤x2))||(decide (500<y6.fTag)))||(decide ((qc y6.fTrees:Int)<1)))||(decide (64<(qc y6.fTrees:Int))))) rfl (fun hc15=>?_) (fun hc15=>?_)
 · rw[if_pos hc15] at h;refine rgN [2] ?_;cases h;exact rtA
 rw[xS hc15] at h;apply zd;apply hZ12;refine rgN [0,3,4,5] ?_;refine rgN [0,3,4,5,6] ?_;apply ze
 refine xu 0 rfl fun hb18=>?_
 replace hb18:qc y6.fTrees≤9223372036854775807:=hb18.2.1.1;refine zq (fun m L τ=>∃ (p18 q18:List GTree) (x16:Int),m=qc q18∧L=[(0,.ds true (qe encGEntry a0) (qc a0) false),(3,.int .i64 y6.fTag),(4,.int .i64 x3),(5,.op 0 0 0),(6,.int .i64 x16)]∧τ=[.cells 0 (cellsGEntry y6)]∧y6.fTrees=p18++q18∧x16=(qc p18:Int)∧zA.l18 yf x3 (zA.l6 yf q6) y6 q18 x16=some r) _ ⟨[],y6.fTrees,0,rfl,rfl,rfl,rfl,rfl,h⟩ .s ?_;rintro m L τ ⟨p18,q18,x16,rfl,rfl,rfl,hE18,hi18,h⟩
 rcases q18 with _|⟨y18,q18⟩
 · have hz18:=yr hE18 hi18;simp only[zA.l18] at h
   refine za fun Z19 hZ19=>?_
   refine rg tok [0,3,4,5,6,44] fun K hK=>?_
   simp only[go_sem,qb,qa,qd,reduceCtorEq,hz18];apply hK
   refine zn rfl ?_;apply zv;apply hZ9
   refine rgE tok [0,3,4] fun K hK=>?_
   simp only[go_sem,qb,qa,reduceCtorEq,hw6];apply hK
   exact⟨_,_,_,qr q6.length,⟨p6++[y6],q6,x3+1,y6.fTag,rfl,rfl,rfl,hE'6,hi'6,h⟩,(.t [] false)⟩
 obtain⟨hz18,hw18,hx18,hE'18,hi'18⟩:=zW hE18 hi18 hb18;simp only[zA.l18] at h
 refine za fun Z20 hZ20=>?_
 refine rg tok [0,3,4,5,6,44] fun K hK=>?_
 simp only[go_sem,qb,qa,qd,reduceCtorEq,hz18];apply hK
 refine zp rfl ?_;apply zd;apply hZ20
 refine za fun Z21 hZ21=>?_
 apply ze;refine xL (fun L τ=>∃ (x22:Bool),L=[(0,.ds true (qe encGEntry a0) (qc a0) false),(3,.int .i64 y6.fTag),(4,.int .i64 x3),(5,.op 0 0 0),(6,.int .i64 x16),(67,.bool x22)]∧τ=[.cells 0 (cellsGEntry y6)]∧zA.j23 x16 (zA.l18 yf x3 (zA.l6 yf q6) y6 q18) x22=some r) ?_ ?_
 · refine rdE [0,3,4,5,6,67] fun K hK=>?_
   refine DW.start (T:=tab) [.any,.at [],.any,.any,.any,.at [],.any,.at [],.any,.any,.at [],.any,.any,.any,.at [],.any,.any,.at [],.eff,.any,.any] [] ?_;have f25:=E90.idxS hx18;have f26:=E90.fldS0 (f:=3) rfl rfl hx18;obtain⟨y27,hy27,h⟩:=bind_some h;have f28:=E90.idxS hy27;have f29:=E90.fldS0 (f:=3) rfl rfl hy27;refine DW.runN tok 8 ?_;simp only[go_sem,qb,qa,qd,reduceCtorEq,cellsGTree,xh,f25,f26];refine DW.runN tok 5 ?_;simp only[go_sem,qb,qa,reduceCtorEq,cellsGTree,xh,f28,f29]
   refine DW.if 59 rfl (fun hg59=>?_) (fun hg59=>?_)
   · rw[if_neg hg59] at h;have t30:=eq_false hg59;refine DW.runN tok 8 ?_;simp only[go_sem,qb,qa,reduceCtorEq,t30];refine DW.fin tok (by decide +kernel) rfl ?_;simp only[zj,upd,qa,reduceIte,yq,y0];apply hK
     exact⟨_,_,⟨true,rfl,rfl,h⟩,.s⟩
   rw[if_pos hg59] at h;have t31:=eq_true hg59;have f32:=E90.idxS hx18;have f33:=E90.loadS rfl rfl hx18;obtain⟨r34,hr34,h⟩:=bind_some h;refine DW.runN tok 5 ?_;simp only[go_sem,qb,qa,qd,reduceCtorEq,cellsGTree,xh,t31,f32,f33];refine DW.call rfl rfl rfl (ev_ref09_check y18 r34 hr34 _) ?_;refine DW.runN tok 2 ?_;simp only[go_sem,qb,qa,reduceCtorEq];refine DW.fin tok (by decide +kernel) rfl ?_;simp only[zj,upd,qa,reduceIte,yq,y0];apply hK
   exact⟨_,_,⟨!r34,rfl,rfl,h⟩,.s⟩
 rintro _ _ ⟨x22,rfl,rfl,h⟩;unfold zA.j23 at h;refine zm (b:=x22) rfl (fun hc24=>?_) (fun hc24=>?_)
 · rw[if_pos hc24] at h;refine rgN [2] ?_;cases h;exact rtA
 rw[xS hc24] at h;apply zd;apply hZ21
 refine rgE tok [0,3,4,5,6] fun K hK=>?_
 simp only[go_sem,qb,qa,reduceCtorEq,hw18];apply hK
 exact⟨_,_,_,qr q18.length,⟨p18++[y18],q18,x16+1,rfl,rfl,rfl,hE'18,hi'18,h⟩,.s⟩
mutual
def yS : Nat→GTree→Option Bool
 |0,_=>none
 |k+1,a0=>yS.body (yS k) (zA k) a0
def zA : Nat→(List GEntry)→Option Bool
 |0,_=>none
 |k+1,a0=>zA.body (yS k) (zA k) a0
end
theorem yS.all (k:Nat):(∀ (a0:GTree) (r:Bool),yS k a0=some r→ACalls qh 88 [.agg (cellsGTree a0)] [] (fun r' _=>r'=.bool r))∧(∀ (a0:List GEntry) (r:Bool),zA k a0=some r→ACalls qh 124 [.ds true (qe encGEntry a0) (qc a0) false] [] (fun r' _=>r'=.bool r)):=by
 induction k with
 |zero=>exact⟨(fun a0 r h=>by simp only[yS] at h; cases h),(fun a0 r h=>by simp only[zA] at h; cases h)⟩
 |succ k ih=>exact⟨(fun a0 r h=>yS.step _ _ ih.1 ih.2 a0 r (by simpa only [yS] using h)),(fun a0 r h=>zA.step _ _ ih.1 ih.2 a0 r (by simpa only [zA] using h))⟩
theorem yS.ev (k:Nat)(a0:GTree)(r:Bool)(h:yS k a0=some r)(σ:Store):ACalls qh 88 [.agg (cellsGTree a0)] σ (fun r' σ'=>r'=.bool r∧σ'=σ):=
 ((yS.all k).1 a0 r h).c σ
def wM (a0:GTree):Option Bool:=
 (wL a0).bind fun r1=>(if r1≤10 then (yS rounds a0).bind fun r2=>some r2 else some false).bind fun c2=>some c2
theorem wM.ok (a0:GTree)(r:Bool)(h:wM a0=some r):ACalls qh 49 [.agg (cellsGTree a0)] [] (fun r' _=>r'=.bool r):=by
 refine zf (rs:=[.tmp 2]) tok Tryz.func49 rfl Tryz.ntmps49 rfl Tryz.call49 (by simp) ?_;refine zk [(0,.agg (cellsGTree a0))] ⟨rfl,trivial⟩ ?_;unfold wM at h
 refine rg tok [1] fun K hK=>?_
 simp only[go_sem,qb,qa,qd,reduceCtorEq,cellsGTree];apply hK
 refine rc [2] fun K hK=>?_
 obtain⟨r1,hr1,h⟩:=bind_some h;refine rnN 1 ?_;refine clN rfl rfl rfl (wL.ev a0 r1 hr1 _) ?_;refine rnN 2 ?_;obtain⟨c2,hc2,h⟩:=bind_some h;refine zh 3 (fun L τ=>L=[(9,.bool c2)]∧τ=[.cells 0 (cellsGTree a0)]) ?_ ?_
 · refine yx 6 rfl (fun hg6=>?_) (fun hg6=>?_)
   · have t3:=eq_true hg6;rw[if_pos hg6] at hc2;obtain⟨r4,hr4,hc2⟩:=bind_some hc2;refine rnN 1 ?_;refine clN rfl rfl rfl (yS.ev rounds a0 r4 hr4 _) ?_;refine rnN 1 ?_;cases hc2;refine zb ⟨rfl,_,_,⟨rfl,rfl⟩,.p t3⟩
   have t5:=eq_false hg6;rw[if_neg hg6] at hc2;refine rnN 3 ?_;cases hc2;refine zb ⟨rfl,_,_,⟨rfl,rfl⟩,.p t5⟩
 rintro _ _ ⟨rfl,rfl⟩;refine rnN 1 ?_;refine nkN hK ?_;cases h;exact rtA
theorem wM.ev (a0:GTree)(r:Bool)(h:wM a0=some r)(σ:Store):ACalls qh 49 [.agg (cellsGTree a0)] σ (fun r' σ'=>r'=.bool r∧σ'=σ):=
 (wM.ok a0 r h).c σ
def y7.l8 : Nat→List UInt8→Int→Option (List UInt8)
 |0,_,_=>none
 |k8+1,l2,x4=>(if 128≤x4 then (Yk (qc l2+1) 1).bind fun _u13=>((y7.l8 k8) (l2++[q5 (qB (IntKind.u8.wrap ((IntKind.u8.wrap ((x4).tmod 128))+128)))]) (IntKind.u64.wrap ((x4).tdiv 128))) else (Yk (qc l2+1) 1).bind fun _u17=>some (l2++[q5 (qB (IntKind.u8.wrap x4))]))
def y7 (a0:Int):Option (List UInt8):=
 (y7.l8 rounds ([]:List UInt8) a0)
theorem y7.own (a0:Int)(r:List UInt8)(h:y7 a0=some r):ACalls qh 150 [.int .u64 a0] [] (fun r' σ'=>r'=.os true 1 0 0 0 (qc r) false∧σ'=[.cells 0 (qe encB r)]):=by
 refine ACalls.own0 (by simp only[push_cast]) ?_;refine ZX (rs:=[.tmp 2]) tok Tryz.func150 rfl Tryz.ntmps150 rfl Tryz.call150 (by simp) ?_;refine zk [(0,.int .u64 a0)] ⟨rfl,trivial⟩ ?_;unfold y7 at h;refine rgN [0] ?_;refine rgN [0,3] ?_;refine wV 3 1 rfl ?_;refine zR (L:=[(0,.int .u64 a0),(3,.os true 1 0 0 0 (qc ([]:List UInt8)) false)]) (τ:=[.cells 0 (qe encB ([]:List UInt8))]) .s ?_
 refine za fun Z1 hZ1=>?_
 apply ze;refine zq (fun m L τ=>∃ (k8:Nat) (l2:List UInt8) (x4:Int) (v3:Nat),m=0+k8∧L=[(0,.int .u64 x4),(3,.os true 1 0 v3 0 (qc l2) false)]∧τ=[.cells v3 (qe encB l2)]∧y7.l8 k8 l2 x4=some r) _ ⟨rounds,([]:List UInt8),a0,0,rfl,rfl,rfl,h⟩ .s ?_;rintro m L τ ⟨k8,l2,x4,v3,rfl,rfl,rfl,h⟩
 rcases k8 with _|k8
 · cases h
 simp only[y7.l8] at h
 refine za fun Z9 hZ9=>?_
 refine rgN [0,3,5] ?_;refine zo rfl (fun hc10=>?_) (fun hc10=>?_)
 · rw[if_pos hc10] at h;have t11:=eq_true hc10;apply zd;apply hZ9;apply ze;have f12:=yQ (T:=tab) (src:=140) (dst:=5) rfl rfl rfl;obtain⟨_u13,hu13,h⟩:=bind_some h;have gu13:=yi hu13;have f14:=(zr E34.len l2)
   refine rg tok [0,3] fun K hK=>?_
   simp only[go_sem,qb,qf,qa,qv,reduceCtorEq,zD,zY,qZ,qS,true_and,q9,zX,zI,yl,t11,f12,gu13,f14,uW,yK,ub,qV,AV.one,qP,qw,qj,ql,qs,qD];apply hK
   refine zR (L:=[(0,.int .u64 x4),(3,.os true 1 0 (v3+1) 0 (qc (l2++[q5 (qB (IntKind.u8.wrap ((IntKind.u8.wrap ((x4).tmod 128))+128)))])) false)]) (τ:=[.cells (v3+1) (qe encB (l2++[q5 (qB (IntKind.u8.wrap ((IntKind.u8.wrap ((x4).tmod 128))+128)))])),.cells 0 [.int .u8 (IntKind.u8.wrap ((IntKind.u8.wrap ((x4).tmod 128))+128))]]) (.same (by first|exact⟨rfl,rfl,trivial⟩|rfl|(simp only[go_sem,reduceCtorEq,Fits,qi,qj,ql,qs,and_self]<;>rfl)) (by first|exact⟨rfl,rfl,trivial⟩|rfl|(simp only[go_sem,encB,qQ,qN,un,qz,vaK]<;>rfl))) ?_
   refine rgE tok [0,3] fun K hK=>?_
   simp only[go_sem,qb,qa,reduceCtorEq,uW];apply hK
   exact⟨_,_,_,qr (0+k8),⟨k8,l2++[q5 (qB (IntKind.u8.wrap ((IntKind.u8.wrap ((x4).tmod 128))+128)))],IntKind.u64.wrap ((x4).tdiv 128),v3+1,rfl,rfl,rfl,h⟩,(.t [0] false)⟩
 rw[if_neg hc10] at h;have t15:=eq_false hc10;apply zv;apply hZ1;have f16:=yQ (T:=tab) (src:=140) (dst:=5) rfl rfl rfl;obtain⟨_u17,hu17,h⟩:=bind_some h;have gu17:=yi hu17;have f18:=(zr E34.len l2)
 refine rg tok [2] fun K hK=>?_
 simp only[go_sem,qb,qf,qa,qv,reduceCtorEq,zD,zY,qZ,qS,true_and,q9,zX,zI,yl,t15,f16,gu17,f18,yK,ub,qV,AV.one,qP,qw,qj,ql,qs,qD];apply hK
 refine zR (L:=[(2,.os true 1 0 (v3+1) 0 (qc (l2++[q5 (qB (IntKind.u8.wrap x4))])) false)]) (τ:=[.cells (v3+1) (qe encB (l2++[q5 (qB (IntKind.u8.wrap x4))])),.cells 0 [.int .u8 (IntKind.u8.wrap x4)]]) (.same (by first|exact⟨rfl,trivial⟩|rfl|(simp only[go_sem,Fits,qi,qj,ql,qs,and_self]<;>rfl)) (by first|exact⟨rfl,trivial⟩|rfl|(simp only[go_sem,encB,qQ,qN,un,qz,vaK]<;>rfl))) ?_;apply yH;cases h;simp only[ZQ,y5,xj,xX,exists_eq_left',go_sem,qd];refine⟨0,v3+1,by simp,?_,?_⟩
 · first|rfl|(simp only[go_sem,qb,qf,qa,qd,qv,qO,reduceIte,reduceCtorEq,push_cast,if_true,qI,qs,qJ,qx,qK,qU,ud,q7,uf,qX,qE,zZ]<;>rfl)
 first|rfl|(simp only[go_sem,push_cast,qx,zZ]<;>rfl)
theorem y7.ok (a0:Int)(r:List UInt8)(h:y7 a0=some r):ACalls qh 150 [.int .u64 a0] [] (fun r' _=>r'=.ds true (qe encB r) (qc r) false):=
 (y7.own a0 r h).ownData (zr E34.len r) (by simp only[push_cast])
theorem y7.ev (a0:Int)(r:List UInt8)(h:y7 a0=some r)(σ:Store):ACalls qh 150 [.int .u64 a0] σ (fun r' σ'=>r'=.ds true (qe encB r) (qc r) false∧σ'=σ):=
 (y7.ok a0 r h).c σ
def Zx (a0:Int):Int:=
 (if 0≤a0 then IntKind.u64.wrap (2*(IntKind.u64.wrap a0)) else IntKind.u64.wrap ((IntKind.u64.wrap (2*(IntKind.u64.wrap (IntKind.i64.wrap (0-(IntKind.i64.wrap (a0+1)))))))+1))
theorem Zx.ok (a0:Int)(r:Int)(h:Zx a0=r):ACalls qh 151 [.int .i64 a0] [] (fun r' _=>r'=.int .u64 r):=by
 refine zf (rs:=[.tmp 2]) tok Tryz.func151 rfl Tryz.ntmps151 rfl Tryz.call151 (by simp) ?_;refine zk [(0,.int .i64 a0)] ⟨rfl,trivial⟩ ?_;unfold Zx at h;refine rgN [0] ?_
 refine za fun Z1 hZ1=>?_
 refine rgN [0,4] ?_;refine zo rfl (fun hc2=>?_) (fun hc2=>?_)
 · rw[if_pos hc2] at h;have t3:=eq_true hc2;have f4:=yQ (T:=tab) (src:=3) (dst:=140) rfl rfl rfl
   refine rg tok [2] fun K hK=>?_
   simp only[go_sem,qb,qa,reduceCtorEq,t3,f4];apply hK
   cases h;exact rtA
 rw[if_neg hc2] at h;have t5:=eq_false hc2;apply zd;apply hZ1;have f6:=yQ (T:=tab) (src:=3) (dst:=140) rfl rfl rfl
 refine rg tok [2] fun K hK=>?_
 simp only[go_sem,qb,qa,reduceCtorEq,t5,f6];apply hK
 cases h;exact rtA
theorem Zx.ev (a0:Int)(r:Int)(h:Zx a0=r)(σ:Store):ACalls qh 151 [.int .i64 a0] σ (fun r' σ'=>r'=.int .u64 r∧σ'=σ):=
 (Zx.ok a0 r h).c σ
def wS (a0:GRaw):Option (List UInt8):=
 (y7 (IntKind.u64.wrap (IntKind.i64.wrap ((IntKind.i64.wrap (2*a0.fTag))+a0.fWire)))).bind fun r2=>(if a0.fWire=0 then bnd (Zx a0.fN) fun r6=>(y7 r6).bind fun r7=>(Yk (qc r2+qc r7) 1).bind fun _u9=>some (r2++r7) else (y7 (IntKind.u64.wrap (qc a0.fB:Int))).bind fun r13=>(Yk (qc r2+qc r13) 1).bind fun _u15=>(Yk (qc (r2++r13)+qc a0.fB) 1).bind fun _u17=>some ((r2++r13)++a0.fB))
theorem wS.own (a0:GRaw)(r:List UInt8)(h:wS a0=some r):ACalls qh 127 [.agg (encGRaw a0)] [] (fun r' σ'=>r'=.os true 1 0 0 0 (qc r) false∧σ'=[.cells 0 (qe encB r)]):=by
 refine ACalls.own0 (by simp only[push_cast]) ?_;refine ZX (rs:=[.tmp 2]) tok Tryz.func127 rfl Tryz.ntmps127 rfl Tryz.call127 (by simp) ?_;refine zk [(0,.agg (encGRaw a0))] ⟨rfl,trivial⟩ ?_;unfold wS at h
 refine rg tok [1] fun K hK=>?_
 simp only[go_sem,qb,qa,qd,reduceCtorEq,encGRaw];apply hK
 refine rc [1,3] fun K hK=>?_
 have f1:=yQ (T:=tab) (src:=3) (dst:=140) rfl rfl rfl;obtain⟨r2,hr2,h⟩:=bind_some h;refine zi tok 7 ?_;simp only[go_sem,qb,qa,qd,f1];refine clN rfl rfl rfl (@id (ACalls qh 150 [.int .u64 (IntKind.u64.wrap (IntKind.i64.wrap ((IntKind.i64.wrap (2*a0.fTag))+a0.fWire)))] [.cells 0 [.int .i64 a0.fTag,.int .i64 a0.fWire,.int .i64 a0.fN,.str a0.fB]] (fun r' σ'=>r'=.os true 1 1 0 0 (qc r2) false∧σ'=[.cells 0 [.int .i64 a0.fTag,.int .i64 a0.fWire,.int .i64 a0.fN,.str a0.fB],.cells 0 (qe encB r2)])) ((y7.own (IntKind.u64.wrap (IntKind.i64.wrap ((IntKind.i64.wrap (2*a0.fTag))+a0.fWire))) r2 hr2).ownAt0 (by simp only[push_cast]) (by simp only[push_cast]) _)) ?_;refine rnN 1 ?_;refine nkN hK ?_
 refine za fun Z3 hZ3=>?_
 refine rgN [1,3,14] ?_;refine zo rfl (fun hc4=>?_) (fun hc4=>?_)
 · rw[if_pos hc4] at h;have t5:=eq_true hc4
   refine rc [2] fun K hK=>?_
   obtain⟨r6,hr6,h⟩:=zO h;refine zi tok 3 ?_;simp only[go_sem,qb,qa,qd,t5];refine clN rfl rfl rfl (Zx.ev a0.fN r6 hr6 _) ?_;obtain⟨r7,hr7,h⟩:=bind_some h;refine clN rfl rfl rfl (y7.ev r6 r7 hr7 _) ?_
   have f8:=fun nl tt σ=>xO E34.len r7 nl tt σ
   obtain⟨_u9,hu9,h⟩:=bind_some h;have gu9:=yi hu9;have f10:=(zr E34.len r2);refine zi tok 2 ?_;simp only[go_sem,qb,qa,zX,zI,yl,true_and,f8,gu9,f10,Zs,qs];refine nkN hK ?_;refine zR (L:=[(2,.os true 1 1 (0+1) 0 (qc (r2++r7)) false)]) (τ:=[.cells 0 [.int .i64 a0.fTag,.int .i64 a0.fWire,.int .i64 a0.fN,.str a0.fB],.cells (0+1) (qe encB (r2++r7))]) .s ?_;apply yH;cases h;simp only[ZQ,y5,xj,xX,exists_eq_left',go_sem,qd];refine⟨1,0+1,by simp,?_,?_⟩
   · first|rfl|(simp only[go_sem,qb,qf,qa,qd,qv,qO,reduceIte,reduceCtorEq,push_cast,if_true,qI,qs,qJ,qx,qK,qU,ud,q7,uf,qX,qE,zZ]<;>rfl)
   first|rfl|(simp only[go_sem,push_cast,qs,qx,zZ]<;>rfl)
 rw[if_neg hc4] at h;have t11:=eq_false hc4;apply zd;apply hZ3
 refine rc [1,3] fun K hK=>?_
 have f12:=yQ (T:=tab) (src:=3) (dst:=140) rfl rfl rfl;obtain⟨r13,hr13,h⟩:=bind_some h;refine zi tok 5 ?_;simp only[go_sem,qb,qa,qd,t11,f12];refine clN rfl rfl rfl (y7.ev (IntKind.u64.wrap (qc a0.fB:Int)) r13 hr13 _) ?_
 have f14:=fun nl tt σ=>xO E34.len r13 nl tt σ
 obtain⟨_u15,hu15,h⟩:=bind_some h;have gu15:=yi hu15;have f16:=(zr E34.len r2);refine zi tok 2 ?_;simp only[go_sem,qb,qa,zX,zI,yl,true_and,f14,gu15,f16,Zs,qs];refine nkN hK ?_;refine zR (L:=[(1,.op 0 0 0),(3,.os true 1 1 (0+1) 0 (qc (r2++r13)) false)]) (τ:=[.cells 0 [.int .i64 a0.fTag,.int .i64 a0.fWire,.int .i64 a0.fN,.str a0.fB],.cells (0+1) (qe encB (r2++r13))]) .s ?_;obtain⟨_u17,hu17,h⟩:=bind_some h;have gu17:=yi hu17
 first|simp only[qi] at gu17|skip
 have f18:=(zr E34.len (r2++r13));simp only[qQ,qi] at f18
 refine rg tok [2] fun K hK=>?_
 simp only[go_sem,qb,qa,qd,zX,zI,yl,true_and,gu17,f18,srcCells_s,Xq,Zs,qQ,qi,qj,ql,qs,qq];apply hK
 refine zR (L:=[(2,.os true 1 1 (0+1+1) 0 (qc ((r2++r13)++a0.fB)) false)]) (τ:=[.cells 0 [.int .i64 a0.fTag,.int .i64 a0.fWire,.int .i64 a0.fN,.str a0.fB],.cells (0+1+1) (qe encB ((r2++r13)++a0.fB))]) .s ?_;apply yH;cases h;simp only[ZQ,y5,xj,xX,exists_eq_left',go_sem,qd];refine⟨1,0+1+1,by simp,?_,?_⟩
 · first|rfl|(simp only[go_sem,qb,qf,qa,qd,qv,qO,reduceIte,reduceCtorEq,push_cast,if_true,qI,qs,qJ,qx,qK,qU,ud,q7,uf,qX,qE,zZ]<;>rfl)
 first|rfl|(simp only[go_sem,qd,push_cast,qs,qx,zZ]<;>rfl)
theorem wS.ok (a0:GRaw)(r:List UInt8)(h:wS a0=some r):ACalls qh 127 [.agg (encGRaw a0)] [] (fun r' _=>r'=.ds true (qe encB r) (qc r) false):=
 (wS.own a0 r h).ownData (zr E34.len r) (by simp only[push_cast])
theorem wS.ev (a0:GRaw)(r:List UInt8)(h:wS a0=some r)(σ:Store):ACalls qh 127 [.agg (encGRaw a0)] σ (fun r' σ'=>r'=.ds true (qe encB r) (qc r) false∧σ'=σ):=
 (wS.ok a0 r h).c σ
def yj.l13 : List GRaw→Int→List UInt8→Option (List UInt8×Int)
 |[],x9,l7=>some (l7,0)
 |y13::q13,x9,l7=>(wS y13).bind fun r19=>(Yk (qc l7+qc r19) 1).bind fun _u21=>(if 4096<(qc (l7++r19):Int) then some (([]:List UInt8),4) else ((yj.l13 q13) (x9+1) (l7++r19)))
def yj.l4 (a0:List GRaw):List GRaw→Int→Option (List UInt8×Int)
 |[],x2=>(yj.l13 a0 0 ([]:List UInt8))
 |y4::q4,x2=>bnd (wk y4) fun r30=>(if (!r30)=true then some (([]:List UInt8),1) else ((yj.l4 a0 q4) (x2+1)))
def yj (a0:List GRaw):Option (List UInt8×Int):=
 (yj.l4 a0 a0 0)
theorem yj.ok (a0:List GRaw)(r:List UInt8×Int)(h:yj a0=some r):ACalls qh 91 [.ds true (qe encGRaw a0) (qc a0) false] [] (fun r' _=>r'=.tup [.ds true (qe encB r.1) (qc r.1) false,.int .i64 r.2]):=by
 refine zf (rs:=[.tmp 2,.tmp 3]) tok Tryz.func91 rfl Tryz.ntmps91 rfl Tryz.call91 (by simp) ?_;refine zk [(0,.ds true (qe encGRaw a0) (qc a0) false)] ⟨rfl,trivial⟩ ?_;unfold yj at h;refine rgN [0] ?_;refine rgN [0,4] ?_;refine wV 4 1 rfl ?_;refine zR (L:=[(0,.ds true (qe encGRaw a0) (qc a0) false),(4,.os true 1 0 0 0 (qc ([]:List UInt8)) false)]) (τ:=[.cells 0 (qe encB ([]:List UInt8))]) .s ?_
 refine za fun Z1 hZ1=>?_
 refine rgN [0,4,5] ?_;apply ze
 refine yZ 0 fun hb4=>?_
 replace hb4:qc a0≤9223372036854775807:=hb4.1;refine zq (fun m L τ=>∃ (p4 q4:List GRaw) (x2:Int),m=qc q4∧L=[(0,.ds true (qe encGRaw a0) (qc a0) false),(4,.os true 1 0 0 0 (qc ([]:List UInt8)) false),(5,.int .i64 x2)]∧τ=[.cells 0 (qe encB ([]:List UInt8))]∧a0=p4++q4∧x2=(qc p4:Int)∧yj.l4 a0 q4 x2=some r) _ ⟨[],a0,0,rfl,rfl,rfl,rfl,rfl,h⟩ .s ?_;rintro m L τ ⟨p4,q4,x2,rfl,rfl,rfl,hE4,hi4,h⟩
 rcases q4 with _|⟨y4,q4⟩
 · have hz4:=yr hE4 hi4;simp only[yj.l4] at h
   refine za fun Z5 hZ5=>?_
   refine rg tok [0,4,5,10] fun K hK=>?_
   simp only[go_sem,qb,qa,reduceCtorEq,hz4];apply hK
   refine zn rfl ?_;apply zv;apply hZ1
   refine za fun Z6 hZ6=>?_
   refine rgN [0,4,6] ?_;apply ze
   refine yZ 0 fun hb13=>?_
   replace hb13:qc a0≤9223372036854775807:=hb13.1;refine zq (fun m L τ=>∃ (p13 q13:List GRaw) (x9:Int) (l7:List UInt8) (v8:Nat),m=qc q13∧L=[(0,.ds true (qe encGRaw a0) (qc a0) false),(4,.os true 1 0 v8 0 (qc l7) false),(6,.int .i64 x9)]∧τ=[.cells v8 (qe encB l7)]∧a0=p13++q13∧x9=(qc p13:Int)∧yj.l13 q13 x9 l7=some r) _ ⟨[],a0,0,([]:List UInt8),0,rfl,rfl,rfl,rfl,rfl,h⟩ .s ?_;rintro m L τ ⟨p13,q13,x9,l7,v8,rfl,rfl,rfl,hE13,hi13,h⟩
   rcases q13 with _|⟨y13,q13⟩
   · have hz13:=yr hE13 hi13;simp only[yj.l13] at h
     refine za fun Z14 hZ14=>?_
     refine rg tok [0,4,6,22] fun K hK=>?_
     simp only[go_sem,qb,qa,reduceCtorEq,hz13];apply hK
     refine zn rfl ?_;apply zv;apply hZ6;refine rgN [2,3] ?_;cases h;exact rtA
   obtain⟨hz13,hw13,hx13,hE'13,hi'13⟩:=zW hE13 hi13 hb13;simp only[yj.l13] at h
   refine za fun Z15 hZ15=>?_
   refine rg tok [0,4,6,22] fun K hK=>?_
   simp only[go_sem,qb,qa,reduceCtorEq,hz13];apply hK
   refine zp rfl ?_;apply zd;apply hZ15
   refine za fun Z16 hZ16=>?_
   apply ze
   refine rc [0,4,6] fun K hK=>?_
   have f17:=E28.idxS hx13;have f18:=E28.loadS rfl rfl hx13;obtain⟨r19,hr19,h⟩:=bind_some h;refine zi tok 5 ?_;simp only[go_sem,qb,qa,reduceCtorEq,encGRaw,f17,f18];refine clN rfl rfl rfl (wS.ev y13 r19 hr19 _) ?_
   have f20:=fun nl tt σ=>xO E34.len r19 nl tt σ
   obtain⟨_u21,hu21,h⟩:=bind_some h;have gu21:=yi hu21;have f22:=(zr E34.len l7);refine zi tok 2 ?_;simp only[go_sem,qb,qa,reduceCtorEq,zX,zI,yl,true_and,f20,gu21,f22,Zs];refine nkN hK ?_;refine zR (L:=[(0,.ds true (qe encGRaw a0) (qc a0) false),(4,.os true 1 0 (v8+1) 0 (qc (l7++r19)) false),(6,.int .i64 x9)]) (τ:=[.cells (v8+1) (qe encB (l7++r19))]) .s ?_;refine rgN [0,4,6,34] ?_;refine zo rfl (fun hc23=>?_) (fun hc23=>?_)
   · rw[if_pos hc23] at h;have t24:=eq_true hc23
     refine rg tok [2,3] fun K hK=>?_
     simp only[go_sem,qb,qa,reduceCtorEq,t24];apply hK
     cases h;exact rtA
   rw[if_neg hc23] at h;have t25:=eq_false hc23;apply zd;apply hZ16
   refine rgE tok [0,4,6] fun K hK=>?_
   simp only[go_sem,qb,qa,reduceCtorEq,hw13,t25];apply hK
   exact⟨_,_,_,qr q13.length,⟨p13++[y13],q13,x9+1,l7++r19,v8+1,rfl,rfl,rfl,hE'13,hi'13,h⟩,.s⟩
 obtain⟨hz4,hw4,hx4,hE'4,hi'4⟩:=zW hE4 hi4 hb4;simp only[yj.l4] at h
 refine za fun Z26 hZ26=>?_
 refine rg tok [0,4,5,10] fun K hK=>?_
 simp only[go_sem,qb,qa,reduceCtorEq,hz4];apply hK
 refine zp rfl ?_;apply zd;apply hZ26
 refine za fun Z27 hZ27=>?_
 apply ze
 refine rc [0,4,5,18] fun K hK=>?_
 have f28:=E28.idxS hx4;have f29:=E28.loadS rfl rfl hx4;obtain⟨r30,hr30,h⟩:=zO h;refine zi tok 4 ?_;simp only[go_sem,qb,qa,reduceCtorEq,encGRaw,f28,f29];refine clN rfl rfl rfl (wk.ev y4 r30 hr30 _) ?_;refine rnN 1 ?_;refine nkN hK ?_;refine zm (b:=(!r30)) rfl (fun hc31=>?_) (fun hc31=>?_)
 · rw[if_pos hc31] at h;refine rgN [2,3] ?_;cases h;exact rtA
 rw[xS hc31] at h;apply zd;apply hZ27
 refine rgE tok [0,4,5] fun K hK=>?_
 simp only[go_sem,qb,qa,reduceCtorEq,hw4];apply hK
 exact⟨_,_,_,qr q4.length,⟨p4++[y4],q4,x2+1,rfl,rfl,rfl,hE'4,hi'4,h⟩,.s⟩
theorem yj.ev (a0:List GRaw)(r:List UInt8×Int)(h:yj a0=some r)(σ:Store):ACalls qh 91 [.ds true (qe encGRaw a0) (qc a0) false] σ (fun r' σ'=>r'=.tup [.ds true (qe encB r.1) (qc r.1) false,.int .i64 r.2]∧σ'=σ):=
 (yj.ok a0 r h).c σ
def yM.body (zV:GTree→Option (List UInt8×Int))(we:GTree→Option (List GRaw×Int))(a0:GTree):Option (List UInt8×Int):=
 (we a0).bind fun r1=>(if r1.2=0 then (yj r1.1).bind fun r6=>some (r6.1,r6.2) else some (([]:List UInt8),r1.2))
theorem yM.step (zV:GTree→Option (List UInt8×Int))(we:GTree→Option (List GRaw×Int))(Yw:∀ (a0:GTree) (r:List UInt8×Int),zV a0=some r→ACalls qh 54 [.agg (cellsGTree a0)] [] (fun r' _=>r'=.tup [.ds true (qe encB r.1) (qc r.1) false,.int .i64 r.2]))(Xj:∀ (a0:GTree) (r:List GRaw×Int),we a0=some r→ACalls qh 50 [.agg (cellsGTree a0)] [] (fun r' _=>r'=.tup [.ds true (qe encGRaw r.1) (qc r.1) false,.int .i64 r.2]))(a0:GTree)(r:List UInt8×Int)(h:yM.body zV we a0=some r):ACalls qh 54 [.agg (cellsGTree a0)] [] (fun r' _=>r'=.tup [.ds true (qe encB r.1) (qc r.1) false,.int .i64 r.2]):=by
 have ev_ref11_encode:=fun a0 r h σ=>(Yw a0 r h).c σ
 have ev_ref11_raws:=fun a0 r h σ=>(Xj a0 r h).c σ
 refine zf (rs:=[.tmp 2,.tmp 3]) tok Tryz.func54 rfl Tryz.ntmps54 rfl Tryz.call54 (by simp) ?_;refine zk [(0,.agg (cellsGTree a0))] ⟨rfl,trivial⟩ ?_;unfold yM.body at h
 refine rg tok [1] fun K hK=>?_
 simp only[go_sem,qb,qa,qd,reduceCtorEq,cellsGTree];apply hK
 refine rc [4,5] fun K hK=>?_
 obtain⟨r1,hr1,h⟩:=bind_some h;refine rnN 1 ?_;refine clN rfl rfl rfl (ev_ref11_raws a0 r1 hr1 _) ?_;refine rnN 5 ?_;refine nkN hK ?_
 refine za fun Z2 hZ2=>?_
 refine rgN [4,5,12] ?_;refine zo rfl (fun hc3=>?_) (fun hc3=>?_)
 · rw[if_neg hc3] at h;have t4:=eq_false hc3
   refine rg tok [2,3] fun K hK=>?_
   simp only[go_sem,qb,qa,t4];apply hK
   cases h;exact rtA
 rw[if_pos hc3] at h;have t5:=eq_true hc3;apply zd;apply hZ2
 refine rc [2,3] fun K hK=>?_
 obtain⟨r6,hr6,h⟩:=bind_some h;refine zi tok 1 ?_;simp only[go_sem,qb,qa,t5];refine clN rfl rfl rfl (yj.ev r1.1 r6 hr6 _) ?_;refine rnN 4 ?_;refine nkN hK ?_;cases h;exact rtA
def zS.j37 (x18:Int)(l16:List GRaw)(rec22:Int→List GRaw→Option (List GRaw×Int))(m2_36:GRaw):Option (List GRaw×Int):=
 (if 4096<(qc m2_36.fB:Int) then some (([]:List GRaw),4) else (Yk (qc l16+1) 40).bind fun _u42=>(rec22 (x18+1) (l16++[m2_36])))
end
section
set_option maxRecDepth 4000
set_option maxHeartbeats 1000000
open AM
def zS.l22 (zV:GTree→Option (List UInt8×Int))(x4:Int)(rec8:Int→List GRaw→Option (List GRaw×Int))(y8:GEntry):List GTree→Int→List GRaw→Option (List GRaw×Int)
 |[],x18,l16=>(rec8 (x4+1) l16)
 |y22::q22,x18,l16=>(if y22.fKind=1 then (zS.j37 x18 l16 (zS.l22 zV x4 rec8 y8 q22) (⟨y8.fTag,0,y22.fN,[]⟩:GRaw)) else (if y22.fKind=2 then (zS.j37 x18 l16 (zS.l22 zV x4 rec8 y8 q22) (⟨y8.fTag,1,0,y22.fS⟩:GRaw)) else (zV y22).bind fun r50=>(if r50.2=0 then (zS.j37 x18 l16 (zS.l22 zV x4 rec8 y8 q22) (⟨y8.fTag,1,0,r50.1⟩:GRaw)) else some (([]:List GRaw),r50.2))))
def zS.l8 (zV:GTree→Option (List UInt8×Int))(a0:GTree):List GEntry→Int→List GRaw→Option (List GRaw×Int)
 |[],x4,l2=>(Yk (qc l2+qc a0.fRest) 40).bind fun _u11=>(zB (l2++a0.fRest)).bind fun r13=>some (r13,0)
 |y8::q8,x4,l2=>(zS.l22 zV x4 (zS.l8 zV a0 q8) y8 y8.fTrees 0 l2)
def zS.body (zV:GTree→Option (List UInt8×Int))(we:GTree→Option (List GRaw×Int))(a0:GTree):Option (List GRaw×Int):=
 (zS.l8 zV a0 a0.fEntries 0 ([]:List GRaw))
theorem zS.step (zV:GTree→Option (List UInt8×Int))(we:GTree→Option (List GRaw×Int))(Yw:∀ (a0:GTree) (r:List UInt8×Int),zV a0=some r→ACalls qh 54 [.agg (cellsGTree a0)] [] (fun r' _=>r'=.tup [.ds true (qe encB r.1) (qc r.1) false,.int .i64 r.2]))(Xj:∀ (a0:GTree) (r:List GRaw×Int),we a0=some r→ACalls qh 50 [.agg (cellsGTree a0)] [] (fun r' _=>r'=.tup [.ds true (qe encGRaw r.1) (qc r.1) false,.int .i64 r.2]))(a0:GTree)(r:List GRaw×Int)(h:zS.body zV we a0=some r):ACalls qh 50 [.agg (cellsGTree a0)] [] (fun r' _=>r'=.tup [.ds true (qe encGRaw r.1) (qc r.1) false,.int .i64 r.2]):=by
 have ev_ref11_encode:=fun a0 r h σ=>(Yw a0 r h).c σ
 have ev_ref11_raws:=fun a0 r h σ=>(Xj a0 r h).c σ
 refine zf (rs:=[.tmp 2,.tmp 3]) tok Tryz.func50 rfl Tryz.ntmps50 rfl Tryz.call50 (by simp) ?_;refine zk [(0,.agg (cellsGTree a0))] ⟨rfl,trivial⟩ ?_;unfold zS.body at h
 refine rg tok [1] fun K hK=>?_
 simp only[go_sem,qb,qa,qd,reduceCtorEq,cellsGTree];apply hK
 refine rgN [1,4] ?_;refine wV 4 4 rfl ?_;refine zR (L:=[(1,.op 0 0 0),(4,.os true 4 1 0 0 (qc ([]:List GRaw)) false)]) (τ:=[.cells 0 (cellsGTree a0),.cells 0 (qe encGRaw ([]:List GRaw))]) .s ?_
 refine za fun Z1 hZ1=>?_
 refine rgN [1,4,5] ?_;apply ze
 refine xu 0 rfl fun hb8=>?_
 replace hb8:qc a0.fEntries≤9223372036854775807:=hb8.2.2.2.1.1;refine zq (fun m L τ=>∃ (p8 q8:List GEntry) (x4:Int) (l2:List GRaw) (v3:Nat),m=qc q8∧L=[(1,.op 0 0 0),(4,.os true 4 1 v3 0 (qc l2) false),(5,.int .i64 x4)]∧τ=[.cells 0 (cellsGTree a0),.cells v3 (qe encGRaw l2)]∧a0.fEntries=p8++q8∧x4=(qc p8:Int)∧zS.l8 zV a0 q8 x4 l2=some r) _ ⟨[],a0.fEntries,0,([]:List GRaw),0,rfl,rfl,rfl,rfl,rfl,h⟩ .s ?_;rintro m L τ ⟨p8,q8,x4,l2,v3,rfl,rfl,rfl,hE8,hi8,h⟩
 rcases q8 with _|⟨y8,q8⟩
 · have hz8:=yr hE8 hi8;simp only[zS.l8] at h
   refine za fun Z9 hZ9=>?_
   refine rg tok [1,4,5,15] fun K hK=>?_
   simp only[go_sem,qb,qa,qd,hz8];apply hK
   refine zn rfl ?_;apply zv;apply hZ1
   refine rc [2,3] fun K hK=>?_
   have f10:=fun nl tt σ=>xO E28.len a0.fRest nl tt σ
   obtain⟨_u11,hu11,h⟩:=bind_some h;have gu11:=yi hu11;have f12:=(zr E28.len l2);obtain⟨r13,hr13,h⟩:=bind_some h;refine zi tok 4 ?_;simp only[go_sem,qb,qa,qd,zX,zI,yl,true_and,f10,gu11,f12,Zs,qj,ql,qs];refine YY (L:=[(80,.ds true (qe encGRaw (l2++a0.fRest)) (qc (l2++a0.fRest)) false)]) (τ:=[]) (.t [] false) ?_;refine clN rfl rfl rfl (zB.ev (l2++a0.fRest) r13 hr13 _) ?_;refine rnN 2 ?_;refine nkN hK ?_;refine zR (L:=[(2,.ds true (qe encGRaw r13) (qc r13) false),(3,.int .i64 0)]) (τ:=[]) .s ?_;cases h;exact rtA
 obtain⟨hz8,hw8,hx8,hE'8,hi'8⟩:=zW hE8 hi8 hb8;simp only[zS.l8] at h
 refine za fun Z14 hZ14=>?_
 refine rg tok [1,4,5,15] fun K hK=>?_
 simp only[go_sem,qb,qa,qd,hz8];apply hK
 refine zp rfl ?_;apply zd;apply hZ14
 refine za fun Z15 hZ15=>?_
 apply ze;refine rgN [1,4,5,6] ?_;apply ze
 refine xu 0 rfl fun hb22=>?_
 replace hb22:=vaD hb22.2.2.2.1.2 hx8;rw[z6] at hb22;replace hb22:qc y8.fTrees≤9223372036854775807:=hb22.2.1.1;refine zq (fun m L τ=>∃ (p22 q22:List GTree) (x18:Int) (l16:List GRaw) (v17:Nat),m=qc q22∧L=[(1,.op 0 0 0),(4,.os true 4 1 v17 0 (qc l16) false),(5,.int .i64 x4),(6,.int .i64 x18)]∧τ=[.cells 0 (cellsGTree a0),.cells v17 (qe encGRaw l16)]∧y8.fTrees=p22++q22∧x18=(qc p22:Int)∧zS.l22 zV x4 (zS.l8 zV a0 q8) y8 q22 x18 l16=some r) _ ⟨[],y8.fTrees,0,l2,v3,rfl,rfl,rfl,rfl,rfl,h⟩ .s ?_;rintro m L τ ⟨p22,q22,x18,l16,v17,rfl,rfl,rfl,hE22,hi22,h⟩
 rcases q22 with _|⟨y22,q22⟩
 · have hz22:=yr hE22 hi22;simp only[zS.l22] at h
   refine za fun Z23 hZ23=>?_
   have f24:=E27.idxS hx8;have f25:=E27.fldS (f:=90) rfl rfl hx8 (o:=1) (by decide)
   refine rg tok [1,4,5,6,26] fun K hK=>?_
   simp only[go_sem,qb,qa,qd,cellsGEntry,z6,hz22,f24,f25];apply hK
   refine zn rfl ?_;apply zv;apply hZ15
   refine rgE tok [1,4,5] fun K hK=>?_
   simp only[go_sem,qb,qa,hw8];apply hK
   exact⟨_,_,_,qr q8.length,⟨p8++[y8],q8,x4+1,l16,v17,rfl,rfl,rfl,hE'8,hi'8,h⟩,.s⟩
 obtain⟨hz22,hw22,hx22,hE'22,hi'22⟩:=zW hE22 hi22 hb22;simp only[zS.l22] at h
 refine za fun Z26 hZ26=>?_
 have f27:=E27.idxS hx8;have f28:=E27.fldS (f:=90) rfl rfl hx8 (o:=1) (by decide)
 refine rg tok [1,4,5,6,26] fun K hK=>?_
 simp only[go_sem,qb,qa,qd,cellsGEntry,z6,hz22,f27,f28];apply hK
 refine zp rfl ?_;apply zd;apply hZ26
 refine za fun Z29 hZ29=>?_
 apply ze;have f30:=E27.idxS hx8;have f31:=E27.fldS (f:=90) rfl rfl hx8 (o:=1) (by decide);have f32:=E90.idxS hx22;have f33:=E90.loadS rfl rfl hx22
 refine rg tok [1,4,5,6,7] fun K hK=>?_
 simp only[go_sem,qb,qf,qa,qd,cellsGEntry,cellsGTree,z6,xh,f30,f31,f32,f33];apply hK
 have f34:=E27.idxS hx8;have f35:=E27.fldS0 (f:=3) rfl rfl hx8
 refine rg tok [1,4,5,6,7,8] fun K hK=>?_
 simp only[go_sem,qb,qf,qa,qd,cellsGEntry,z6,f34,f35];apply hK
 refine xL (fun L τ=>∃ (m2_36:GRaw),L=[(1,.op 0 0 0),(4,.os true 4 1 v17 0 (qc l16) false),(5,.int .i64 x4),(6,.int .i64 x18),(8,.op 2 0 0)]∧τ=[.cells 0 (cellsGTree a0),.cells v17 (qe encGRaw l16),.cells 0 [.int .i64 m2_36.fTag,.int .i64 m2_36.fWire,.int .i64 m2_36.fN,.str m2_36.fB]]∧zS.j37 x18 l16 (zS.l22 zV x4 (zS.l8 zV a0 q8) y8 q22) m2_36=some r) ?_ ?_
 · refine rgN [1,4,5,6,7,8,46] ?_;apply ze;refine rgN [1,4,5,6,7,8,46,58] ?_;refine zo rfl (fun hc44=>?_) (fun hc44=>?_)
   · rw[if_pos hc44] at h;have t45:=eq_true hc44
     refine rg tok [1,4,5,6,7,8] fun K hK=>?_
     simp only[go_sem,qb,qf,qa,qd,t45];apply hK
     refine rgE tok [1,4,5,6,8] fun K hK=>?_
     simp only[go_sem,qb,qf,qa,qd];apply hK
     exact⟨_,_,⟨(⟨y8.fTag,0,y22.fN,[]⟩:GRaw),rfl,rfl,h⟩,(.t [0,1,3] false)⟩
   rw[if_neg hc44] at h;have t46:=eq_false hc44
   refine rg tok [1,4,5,6,7,8,64] fun K hK=>?_
   simp only[go_sem,qb,qa,t46];apply hK
   refine zo rfl (fun hc47=>?_) (fun hc47=>?_)
   · rw[if_pos hc47] at h;have t48:=eq_true hc47
     refine rgE tok [1,4,5,6,8] fun K hK=>?_
     simp only[go_sem,qb,qf,qa,qd,t48];apply hK
     exact⟨_,_,⟨(⟨y8.fTag,1,0,y22.fS⟩:GRaw),rfl,rfl,h⟩,(.t [0,1,3] false)⟩
   rw[if_neg hc47] at h;have t49:=eq_false hc47
   refine rc [1,4,5,6,8,9,10] fun K hK=>?_
   obtain⟨r50,hr50,h⟩:=bind_some h;refine zi tok 1 ?_;simp only[go_sem,qb,qf,qa,qd,t49];refine clN rfl rfl rfl (ev_ref11_encode y22 r50 hr50 _) ?_;refine rnN 5 ?_;refine nkN hK ?_
   refine za fun Z51 hZ51=>?_
   refine rgN [1,4,5,6,8,9,10,53] ?_;refine zo rfl (fun hc52=>?_) (fun hc52=>?_)
   · rw[if_neg hc52] at h;have t53:=eq_false hc52
     refine rg tok [2,3] fun K hK=>?_
     simp only[go_sem,qb,qa,t53];apply hK
     cases h;exact rtA
   rw[if_pos hc52] at h;have t54:=eq_true hc52;apply zd;apply hZ51;have f55:=XX (T:=tab) (src:=34) (dst:=9) rfl rfl rfl rfl rfl rfl r50.1
   refine rgE tok [1,4,5,6,8] fun K hK=>?_
   simp only[go_sem,qb,qf,qa,qd,t54,f55];apply hK
   exact⟨_,_,⟨(⟨y8.fTag,1,0,r50.1⟩:GRaw),rfl,rfl,h⟩,(.t [0,1,3] false)⟩
 rintro _ _ ⟨m2_36,rfl,rfl,h⟩;unfold zS.j37 at h
 refine za fun Z38 hZ38=>?_
 refine rgN [1,4,5,6,8,72] ?_;refine zo rfl (fun hc39=>?_) (fun hc39=>?_)
 · rw[if_pos hc39] at h;have t40:=eq_true hc39
   refine rg tok [2,3] fun K hK=>?_
   simp only[go_sem,qb,qa,t40];apply hK
   cases h;exact rtA
 rw[if_neg hc39] at h;have t41:=eq_false hc39;apply zd;apply hZ38;obtain⟨_u42,hu42,h⟩:=bind_some h;have gu42:=yi hu42;have f43:=(zr E28.len l16)
 refine rgE tok [1,4,5,6] fun K hK=>?_
 simp only[go_sem,qb,qf,qa,qd,qv,zD,zY,qZ,qS,true_and,q9,zX,zI,yl,t41,gu42,f43,yK,ub,qV,AV.one,qP,qw,qj,ql,qs,qD];apply hK
 apply hZ29
 refine rgE tok [1,4,5,6] fun K hK=>?_
 simp only[go_sem,qb,qa,hw22];apply hK
 exact⟨_,_,_,qr q22.length,⟨p22++[y22],q22,x18+1,l16++[m2_36],v17+1,rfl,rfl,rfl,hE'22,hi'22,h⟩,(.t [0,1] false)⟩
mutual
def yM : Nat→GTree→Option (List UInt8×Int)
 |0,_=>none
 |k+1,a0=>yM.body (yM k) (zS k) a0
def zS : Nat→GTree→Option (List GRaw×Int)
 |0,_=>none
 |k+1,a0=>zS.body (yM k) (zS k) a0
end
theorem yM.all (k:Nat):(∀ (a0:GTree) (r:List UInt8×Int),yM k a0=some r→ACalls qh 54 [.agg (cellsGTree a0)] [] (fun r' _=>r'=.tup [.ds true (qe encB r.1) (qc r.1) false,.int .i64 r.2]))∧(∀ (a0:GTree) (r:List GRaw×Int),zS k a0=some r→ACalls qh 50 [.agg (cellsGTree a0)] [] (fun r' _=>r'=.tup [.ds true (qe encGRaw r.1) (qc r.1) false,.int .i64 r.2])):=by
 induction k with
 |zero=>exact⟨(fun a0 r h=>by simp only[yM] at h; cases h),(fun a0 r h=>by simp only[zS] at h; cases h)⟩
 |succ k ih=>exact⟨(fun a0 r h=>yM.step _ _ ih.1 ih.2 a0 r (by simpa only [yM] using h)),(fun a0 r h=>zS.step _ _ ih.1 ih.2 a0 r (by simpa only [zS] using h))⟩
theorem yM.ev (k:Nat)(a0:GTree)(r:List UInt8×Int)(h:yM k a0=some r)(σ:Store):ACalls qh 54 [.agg (cellsGTree a0)] σ (fun r' σ'=>r'=.tup [.ds true (qe encB r.1) (qc r.1) false,.int .i64 r.2]∧σ'=σ):=
 ((yM.all k).1 a0 r h).c σ
def xa.l4 (a1:List UInt8):List GMethod→Int→GMethod×Bool
 |[],x2=>((⟨[],[],[]⟩:GMethod),false)
 |y4::q4,x2=>(if y4.fName=a1 then (y4,true) else ((xa.l4 a1 q4) (x2+1)))
def xa (a0:GSchema)(a1:List UInt8):GMethod×Bool:=
 (xa.l4 a1 a0.fMethods 0)
theorem xa.ok (a0:GSchema)(a1:List UInt8)(r:GMethod×Bool)(h:xa a0 a1=r):ACalls qh 53 [.agg (encGSchema a0),.str a1] [] (fun r' _=>r'=.tup [.agg (encGMethod r.1),.bool r.2]):=by
 refine zf (rs:=[.cell 4 75,.tmp 5]) tok Tryz.func53 rfl Tryz.ntmps53 rfl Tryz.call53 (by simp) ?_;refine zk [(0,.agg (encGSchema a0)),(1,.str a1)] ⟨rfl,rfl,trivial⟩ ?_;unfold xa at h
 refine rg tok [1,2,4] fun K hK=>?_
 simp only[go_sem,qb,qa,qd,reduceCtorEq,encGSchema];apply hK
 refine za fun Z1 hZ1=>?_
 refine rgN [1,4,9,10,11] ?_;apply ze
 refine yZ 9 fun hb4=>?_
 replace hb4:qc a0.fMethods≤9223372036854775807:=hb4.1;refine zq (fun m L τ=>∃ (p4 q4:List GMethod) (x2:Int),m=qc q4∧L=[(1,.str a1),(4,.op 0 0 0),(9,.ds true (qe encGMethod a0.fMethods) (qc a0.fMethods) false),(10,.int .i64 (qc a0.fMethods:Int)),(11,.int .i64 x2)]∧τ=[.cells 0 [.str [],.str [],.str []]]∧a0.fMethods=p4++q4∧x2=(qc p4:Int)∧xa.l4 a1 q4 x2=r) _ ⟨[],a0.fMethods,0,rfl,rfl,rfl,rfl,rfl,h⟩ (.t [1] false) ?_;rintro m L τ ⟨p4,q4,x2,rfl,rfl,rfl,hE4,hi4,h⟩
 rcases q4 with _|⟨y4,q4⟩
 · have hz4:=yr hE4 hi4;simp only[xa.l4] at h
   refine rg tok [1,4,9,10,11,12] fun K hK=>?_
   simp only[go_sem,qb,qa,hz4];apply hK
   refine za fun Z5 hZ5=>?_
   refine zn rfl ?_;apply zv;apply hZ1;refine rgN [4,5] ?_;cases h;exact rtA
 obtain⟨hz4,hw4,hx4,hE'4,hi'4⟩:=zW hE4 hi4 hb4;simp only[xa.l4] at h
 refine rg tok [1,4,9,10,11,12] fun K hK=>?_
 simp only[go_sem,qb,qa,hz4];apply hK
 refine za fun Z6 hZ6=>?_
 refine zp rfl ?_;apply zd;apply hZ6
 refine za fun Z7 hZ7=>?_
 apply ze;have f8:=E24.idxS hx4;have f9:=E24.loadS rfl rfl hx4
 refine rg tok [1,4,7,9,10,11] fun K hK=>?_
 simp only[go_sem,qb,qf,qa,qd,encGMethod,f8,f9];apply hK
 refine rgN [1,4,7,9,10,11,18] ?_;refine zo rfl (fun hc10=>?_) (fun hc10=>?_)
 · rw[if_pos hc10] at h;have t11:=eq_true hc10
   refine rg tok [4,5] fun K hK=>?_
   simp only[go_sem,qb,qf,qa,qd,t11];apply hK
   cases h;exact rtA
 rw[if_neg hc10] at h;have t12:=eq_false hc10;apply zd;apply hZ7
 refine rgE tok [1,4,9,10,11] fun K hK=>?_
 simp only[go_sem,qb,qa,hw4,t12];apply hK
 exact⟨_,_,_,qr q4.length,⟨p4++[y4],q4,x2+1,rfl,rfl,rfl,hE'4,hi'4,h⟩,(.t [0] false)⟩
theorem xa.ev (a0:GSchema)(a1:List UInt8)(r:GMethod×Bool)(h:xa a0 a1=r)(σ:Store):ACalls qh 53 [.agg (encGSchema a0),.str a1] σ (fun r' σ'=>r'=.tup [.agg (encGMethod r.1),.bool r.2]∧σ'=σ):=
 (xa.ok a0 a1 r h).c σ
def yG.j8 (a0:GSchema)(a1:GPacket)(x7:List UInt8):Option (GPacket×Bool):=
 (grd (qc a1.fBody≤9223372036854775807)).bind fun _u9=>(xp a0 x7 a1.fBody).bind fun r11=>(if r11.2=0 then (xV r11.1).bind fun r16=>(if r16.2=0 then some ((⟨a1.fKind,a1.fFrom,a1.fTo,a1.fID,a1.fVersion,a1.fMethod,a1.fErr,r16.1⟩:GPacket),true) else some ((⟨0,0,0,0,0,[],0,[]⟩:GPacket),false)) else some ((⟨0,0,0,0,0,[],0,[]⟩:GPacket),false))
def yG.j23 (a0:GSchema)(a1:GPacket)(r6:GMethod×Bool)(x22:Bool):Option (GPacket×Bool):=
 (if x22=true then some (a1,true) else (if a1.fKind=4 then (yG.j8 a0 a1 r6.1.fOut) else (yG.j8 a0 a1 r6.1.fIn)))
def yG (a0:GSchema)(a1:GPacket):Option (GPacket×Bool):=
 (zx a0).bind fun r2=>(if r2=0 then bnd (xa a0 a1.fMethod) fun r6=>(if (!r6.2)=true then (yG.j23 a0 a1 r6 (!r6.2)) else (yG.j23 a0 a1 r6 ((!(decide (a1.fKind=3)))&&((!(decide (a1.fKind=4)))||(!(decide (a1.fErr=0))))))) else some ((⟨0,0,0,0,0,[],0,[]⟩:GPacket),false))
theorem yG.ok (a0:GSchema)(a1:GPacket)(r:GPacket×Bool)(h:yG a0 a1=some r):ACalls qh 28 [.agg (encGSchema a0),.agg (encGPacket a1)] [] (fun r' _=>r'=.tup [.agg (encGPacket r.1),.bool r.2]):=by
 refine zf (rs:=[.cell 4 66,.tmp 5]) tok Tryz.func28 rfl Tryz.ntmps28 rfl Tryz.call28 (by simp) ?_;refine zk [(0,.agg (encGSchema a0)),(1,.agg (encGPacket a1))] ⟨rfl,rfl,trivial⟩ ?_;unfold yG at h
 refine rg tok [2,3,4] fun K hK=>?_
 simp only[go_sem,qb,qa,qd,reduceCtorEq,encGPacket,encGSchema];apply hK
 refine za fun Z1 hZ1=>?_
 refine rc [2,3,4,14] fun K hK=>?_
 obtain⟨r2,hr2,h⟩:=bind_some h;refine rnN 1 ?_;refine clN rfl rfl rfl (zx.ev a0 r2 hr2 _) ?_;refine rnN 1 ?_;refine nkN hK ?_;refine zo rfl (fun hc3=>?_) (fun hc3=>?_)
 · rw[if_neg hc3] at h;have t4:=eq_false hc3
   refine rg tok [4,5] fun K hK=>?_
   simp only[go_sem,qb,qf,qa,qd,t4];apply hK
   cases h;exact rtA
 rw[if_pos hc3] at h;have t5:=eq_true hc3;apply zd;apply hZ1
 refine rc [2,3,4,6,7] fun K hK=>?_
 obtain⟨r6,hr6,h⟩:=zO h;refine zi tok 3 ?_;simp only[go_sem,qb,qf,qa,qd,t5];refine clN rfl rfl rfl (xa.ev a0 a1.fMethod r6 hr6 _) ?_;refine zi tok 6 ?_;simp only[go_sem,qb,qf,qa,qd,encGMethod];refine nkN hK ?_;refine rgN [2,3,4,6,7,8] ?_;refine xL (fun L τ=>∃ (x7:List UInt8),L=[(2,.op 0 0 0),(3,.op 1 0 0),(4,.op 2 0 0),(8,.str x7)]∧τ=[.cells 0 (encGSchema a0),.cells 0 (encGPacket a1),.cells 0 [.int .i64 0,.int .i64 0,.int .i64 0,.int .i64 0,.int .i64 0,.str [],.int .i64 0,.str []]]∧yG.j8 a0 a1 x7=some r) ?_ ?_
 · apply ze;refine xL (fun L τ=>∃ (x22:Bool),L=[(2,.op 0 0 0),(3,.op 1 0 0),(4,.op 2 0 0),(6,.op 3 0 0),(8,.str r6.1.fIn),(25,.bool x22)]∧τ=[.cells 0 (encGSchema a0),.cells 0 (encGPacket a1),.cells 0 [.int .i64 0,.int .i64 0,.int .i64 0,.int .i64 0,.int .i64 0,.str [],.int .i64 0,.str []],.cells 0 [.str r6.1.fName,.str r6.1.fIn,.str r6.1.fOut]]∧yG.j23 a0 a1 r6 x22=some r) ?_ ?_
   · refine rgN [2,3,4,6,8,25] ?_;refine zm (b:=(!r6.2)) rfl (fun hc28=>?_) (fun hc28=>?_)
     · rw[if_pos hc28] at h;apply zd;exact⟨_,_,⟨!r6.2,rfl,rfl,h⟩,.s⟩
     rw[xS hc28] at h
     refine rcE [2,3,4,6,8,25] fun K hK=>?_
     refine rnN 4 ?_;refine zh 9 (fun L τ=>L=[(2,.op 0 0 0),(3,.op 1 0 0),(4,.op 2 0 0),(6,.op 3 0 0),(8,.str r6.1.fIn),(25,.bool (!r6.2)),(40,.bool ((!(decide (a1.fKind=3)))&&((!(decide (a1.fKind=4)))||(!(decide (a1.fErr=0))))))]∧τ=[.cells 0 (encGSchema a0),.cells 0 (encGPacket a1),.cells 0 [.int .i64 0,.int .i64 0,.int .i64 0,.int .i64 0,.int .i64 0,.str [],.int .i64 0,.str []],.cells 0 [.str r6.1.fName,.str r6.1.fIn,.str r6.1.fOut]]) ?_ ?_
     · refine yx 31 rfl (fun hg31=>?_) (fun hg31=>?_)
       · have t29:=eq_false hg31;refine rnN 4 ?_;refine zh 4 (fun L τ=>L=[(2,.op 0 0 0),(3,.op 1 0 0),(4,.op 2 0 0),(6,.op 3 0 0),(8,.str r6.1.fIn),(25,.bool (!r6.2)),(31,.bool true),(39,.bool ((!(decide (a1.fKind=4)))||(!(decide (a1.fErr=0)))))]∧τ=[.cells 0 (encGSchema a0),.cells 0 (encGPacket a1),.cells 0 [.int .i64 0,.int .i64 0,.int .i64 0,.int .i64 0,.int .i64 0,.str [],.int .i64 0,.str []],.cells 0 [.str r6.1.fName,.str r6.1.fIn,.str r6.1.fOut]]) ?_ ?_
         · refine yx 35 rfl (fun hg35=>?_) (fun hg35=>?_)
           · have t30:=eq_false hg35;refine rnN 4 ?_;refine zb ⟨rfl,_,_,⟨rfl,rfl⟩,.p t30⟩
           have t31:=eq_true hg35;refine rnN 4 ?_;refine zb ⟨rfl,_,_,⟨rfl,rfl⟩,.p t31⟩
         rintro _ _ ⟨rfl,rfl⟩;refine rnN 1 ?_;refine zb ⟨rfl,_,_,⟨rfl,rfl⟩,.p t29⟩
       have t32:=eq_true hg31;refine rnN 9 ?_;refine zb ⟨rfl,_,_,⟨rfl,rfl⟩,.p t32⟩
     rintro _ _ ⟨rfl,rfl⟩;refine rnN 1 ?_;refine nkN hK ?_;exact⟨_,_,⟨((!(decide (a1.fKind=3)))&&((!(decide (a1.fKind=4)))||(!(decide (a1.fErr=0))))),rfl,rfl,h⟩,.s⟩
   rintro _ _ ⟨x22,rfl,rfl,h⟩;unfold yG.j23 at h;refine zm (b:=x22) rfl (fun hc24=>?_) (fun hc24=>?_)
   · rw[if_pos hc24] at h;refine rgN [4,5] ?_;cases h;exact rtA
   rw[xS hc24] at h;refine rgN [2,3,4,6,8,42] ?_;refine zo rfl (fun hc25=>?_) (fun hc25=>?_)
   · rw[if_pos hc25] at h;have t26:=eq_true hc25
     refine rgE tok [2,3,4,8] fun K hK=>?_
     simp only[go_sem,qb,qa,qd,t26];apply hK
     exact⟨_,_,⟨r6.1.fOut,rfl,rfl,h⟩,(.t [0,1,2] false)⟩
   rw[if_neg hc25] at h;have t27:=eq_false hc25;apply zd;exact⟨_,_,⟨r6.1.fIn,rfl,rfl,h⟩,(.t [0,1,2] false)⟩
 rintro _ _ ⟨x7,rfl,rfl,h⟩;unfold yG.j8 at h
 refine rc [3,4,9,10] fun K hK=>?_
 obtain⟨_u9,hu9,h⟩:=bind_some h;have gu9:=wi hu9;have gu9t:=eq_true gu9;have f10:=vbz (T:=tab) (src:=9) (dst:=34) rfl rfl rfl rfl rfl rfl (wi hu9);obtain⟨r11,hr11,h⟩:=bind_some h;refine zi tok 5 ?_;simp only[go_sem,qb,qf,qa,qd,f10];refine YY (L:=[(3,.op 0 0 0),(4,.op 1 0 0),(49,.agg (encGSchema a0)),(50,.str x7),(53,.ds true (qe encB a1.fBody) (qc a1.fBody) false)]) (τ:=[.cells 0 (encGPacket a1),.cells 0 [.int .i64 0,.int .i64 0,.int .i64 0,.int .i64 0,.int .i64 0,.str [],.int .i64 0,.str []]]) (.t [1,2] false) ?_;refine clN rfl rfl rfl (xp.ev a0 x7 a1.fBody r11 hr11 _) ?_;refine zi tok 6 ?_;simp only[go_sem,qb,qf,qa,qd,cellsGTree,encGSchema];refine nkN hK ?_
 refine za fun Z12 hZ12=>?_
 refine rgN [3,4,9,58] ?_;refine zo rfl (fun hc13=>?_) (fun hc13=>?_)
 · rw[if_neg hc13] at h;have t14:=eq_false hc13
   refine rg tok [4,5] fun K hK=>?_
   simp only[go_sem,qb,qf,qa,qd,t14];apply hK
   cases h;exact rtA
 rw[if_pos hc13] at h;have t15:=eq_true hc13;apply zd;apply hZ12
 refine rc [3,4,10,11] fun K hK=>?_
 obtain⟨r16,hr16,h⟩:=bind_some h;refine zi tok 1 ?_;simp only[go_sem,qb,qf,qa,qd,t15];refine clN rfl rfl rfl (xV.ev r11.1 r16 hr16 _) ?_;refine rnN 5 ?_;refine nkN hK ?_
 refine za fun Z17 hZ17=>?_
 refine rgN [3,4,11,66] ?_;refine zo rfl (fun hc18=>?_) (fun hc18=>?_)
 · rw[if_neg hc18] at h;have t19:=eq_false hc18
   refine rg tok [4,5] fun K hK=>?_
   simp only[go_sem,qb,qf,qa,qd,t19];apply hK
   cases h;exact rtA
 rw[if_pos hc18] at h;have t20:=eq_true hc18;apply zd;apply hZ17;have f21:=XX (T:=tab) (src:=34) (dst:=9) rfl rfl rfl rfl rfl rfl r16.1
 refine rg tok [3,4] fun K hK=>?_
 simp only[go_sem,qb,qf,qa,qd,t20,f21];apply hK
 refine rgN [4,5] ?_;cases h;exact rtA
theorem yG.ev (a0:GSchema)(a1:GPacket)(r:GPacket×Bool)(h:yG a0 a1=some r)(σ:Store):ACalls qh 28 [.agg (encGSchema a0),.agg (encGPacket a1)] σ (fun r' σ'=>r'=.tup [.agg (encGPacket r.1),.bool r.2]∧σ'=σ):=
 (yG.ok a0 a1 r h).c σ
def wu  : Option Bool:=
 (yG (⟨[97],[(⟨[109],([]:List GField),([]:List Int)⟩:GMessage)],([]:List GEnumeration),[(⟨[99],[109],[109]⟩:GMethod)]⟩:GSchema) (⟨1,0,0,0,0,[],0,[1]⟩:GPacket)).bind fun r1=>(yG (⟨[97],[(⟨[109],([]:List GField),([]:List Int)⟩:GMessage)],([]:List GEnumeration),[(⟨[99],[109],[109]⟩:GMethod)]⟩:GSchema) (⟨3,0,0,0,0,[99],0,[4,2,2,2]⟩:GPacket)).bind fun r2=>some (((r1.2&&r2.2)&&(decide (r1.1.fBody=[1])))&&(decide (r2.1.fBody=[2,2,4,2])))
theorem wu.ok  (r:Bool)(h:wu=some r):ACalls qh 27 [] [] (fun r' _=>r'=.bool r):=by
 refine zf (rs:=[.tmp 0]) tok Tryz.func27 rfl Tryz.ntmps27 rfl Tryz.call27 (by simp) ?_;refine zk [] trivial ?_;unfold wu at h;refine rgN [] ?_
 refine rg tok [1] fun K hK=>?_
 simp only[go_sem,qb,qf,qa,qd,qv,zD,zY,qZ,qS,true_and,q9];apply hK
 refine rc [1,2,3] fun K hK=>?_
 obtain⟨r1,hr1,h⟩:=bind_some h;refine rnN 2 ?_;refine clN rfl rfl rfl (yG.ok (⟨[97],[(⟨[109],([]:List GField),([]:List Int)⟩:GMessage)],([]:List GEnumeration),[(⟨[99],[109],[109]⟩:GMethod)]⟩:GSchema) (⟨1,0,0,0,0,[],0,[1]⟩:GPacket) r1 hr1).ld ?_;refine zi tok 6 ?_;simp only[go_sem,qb,qf,qa,qd,encGPacket];refine nkN hK ?_
 refine rc [2,3,4,5] fun K hK=>?_
 obtain⟨r2,hr2,h⟩:=bind_some h;refine rnN 2 ?_;refine clN rfl rfl rfl (yG.ok (⟨[97],[(⟨[109],([]:List GField),([]:List Int)⟩:GMessage)],([]:List GEnumeration),[(⟨[99],[109],[109]⟩:GMethod)]⟩:GSchema) (⟨3,0,0,0,0,[99],0,[4,2,2,2]⟩:GPacket) r2 hr2).ld ?_;refine zi tok 6 ?_;simp only[go_sem,qb,qf,qa,qd,encGPacket];refine nkN hK ?_
 refine rc [0] fun K hK=>?_
 refine rnN 2 ?_;refine zh 2 (fun L τ=>L=[(2,.op 3 0 0),(4,.op 4 0 0),(26,.bool (r1.2&&r2.2))]∧τ=[.cells 0 [.str [109],.ds true [] 0 true,.ds true [] 0 true],.cells 0 [.str [99],.str [109],.str [109]],.cells 0 [.str [97],.os true 3 0 0 0 1 true,.ds true [] 0 true,.os true 3 1 0 0 1 true],.cells 0 (encGPacket r1.1),.cells 0 (encGPacket r2.1)]) ?_ ?_
 · refine zN (b:=r1.2) 24 rfl (fun hg24=>?_) (fun hg24=>?_)
   · refine rnN 2 ?_;refine zb ⟨rfl,_,_,⟨rfl,rfl⟩,.b hg24⟩
   refine rnN 2 ?_;refine zb ⟨rfl,_,_,⟨rfl,rfl⟩,.b hg24⟩
 rintro _ _ ⟨rfl,rfl⟩;refine rnN 1 ?_;refine zh 4 (fun L τ=>L=[(4,.op 4 0 0),(31,.bool ((r1.2&&r2.2)&&(decide (r1.1.fBody=[1]))))]∧τ=[.cells 0 [.str [109],.ds true [] 0 true,.ds true [] 0 true],.cells 0 [.str [99],.str [109],.str [109]],.cells 0 [.str [97],.os true 3 0 0 0 1 true,.ds true [] 0 true,.os true 3 1 0 0 1 true],.cells 0 (encGPacket r1.1),.cells 0 (encGPacket r2.1)]) ?_ ?_
 · refine zN (b:=(r1.2&&r2.2)) 27 rfl (fun hg27=>?_) (fun hg27=>?_)
   · refine rnN 4 ?_;refine zb ⟨rfl,_,_,⟨rfl,rfl⟩,.b hg27⟩
   refine rnN 4 ?_;refine zb ⟨rfl,_,_,⟨rfl,rfl⟩,.b hg27⟩
 rintro _ _ ⟨rfl,rfl⟩;refine rnN 1 ?_;refine zh 4 (fun L τ=>L=[(36,.bool (((r1.2&&r2.2)&&(decide (r1.1.fBody=[1])))&&(decide (r2.1.fBody=[2,2,4,2]))))]∧τ=[.cells 0 [.str [109],.ds true [] 0 true,.ds true [] 0 true],.cells 0 [.str [99],.str [109],.str [109]],.cells 0 [.str [97],.os true 3 0 0 0 1 true,.ds true [] 0 true,.os true 3 1 0 0 1 true],.cells 0 (encGPacket r1.1),.cells 0 (encGPacket r2.1)]) ?_ ?_
 · refine zN (b:=((r1.2&&r2.2)&&(decide (r1.1.fBody=[1])))) 32 rfl (fun hg32=>?_) (fun hg32=>?_)
   · refine rnN 4 ?_;refine zb ⟨rfl,_,_,⟨rfl,rfl⟩,.b hg32⟩
   refine rnN 4 ?_;refine zb ⟨rfl,_,_,⟨rfl,rfl⟩,.b hg32⟩
 rintro _ _ ⟨rfl,rfl⟩;refine rnN 1 ?_;refine nkN hK ?_;cases h;exact rtA
theorem wu.ev  (r:Bool)(h:wu=some r)(σ:Store):ACalls qh 27 [] σ (fun r' σ'=>r'=.bool r∧σ'=σ):=
 (wu.ok  r h).c σ
def xl.l4 (a1:List UInt8):List GMethod→Int→GMethod×Bool
 |[],x2=>((⟨[],[],[]⟩:GMethod),false)
 |y4::q4,x2=>(if y4.fName=a1 then (y4,true) else ((xl.l4 a1 q4) (x2+1)))
def xl (a0:GSchema)(a1:List UInt8):GMethod×Bool:=
 (xl.l4 a1 a0.fMethods 0)
theorem xl.ok (a0:GSchema)(a1:List UInt8)(r:GMethod×Bool)(h:xl a0 a1=r):ACalls qh 34 [.agg (encGSchema a0),.str a1] [] (fun r' _=>r'=.tup [.agg (encGMethod r.1),.bool r.2]):=by
 refine zf (rs:=[.cell 4 75,.tmp 5]) tok Tryz.func34 rfl Tryz.ntmps34 rfl Tryz.call34 (by simp) ?_;refine zk [(0,.agg (encGSchema a0)),(1,.str a1)] ⟨rfl,rfl,trivial⟩ ?_;unfold xl at h
 refine rg tok [1,2,4] fun K hK=>?_
 simp only[go_sem,qb,qa,qd,reduceCtorEq,encGSchema];apply hK
 refine za fun Z1 hZ1=>?_
 refine rgN [1,2,4,6] ?_;apply ze
 refine xu 0 rfl fun hb4=>?_
 replace hb4:qc a0.fMethods≤9223372036854775807:=hb4.2.2.2.1.1;refine zq (fun m L τ=>∃ (p4 q4:List GMethod) (x2:Int),m=qc q4∧L=[(1,.str a1),(2,.op 0 0 0),(4,.op 1 0 0),(6,.int .i64 x2)]∧τ=[.cells 0 (encGSchema a0),.cells 0 [.str [],.str [],.str []]]∧a0.fMethods=p4++q4∧x2=(qc p4:Int)∧xl.l4 a1 q4 x2=r) _ ⟨[],a0.fMethods,0,rfl,rfl,rfl,rfl,rfl,h⟩ .s ?_;rintro m L τ ⟨p4,q4,x2,rfl,rfl,rfl,hE4,hi4,h⟩
 rcases q4 with _|⟨y4,q4⟩
 · have hz4:=yr hE4 hi4;simp only[xl.l4] at h
   refine za fun Z5 hZ5=>?_
   refine rg tok [1,2,4,6,11] fun K hK=>?_
   simp only[go_sem,qb,qa,qd,hz4];apply hK
   refine zn rfl ?_;apply zv;apply hZ1;refine rgN [4,5] ?_;cases h;exact rtA
 obtain⟨hz4,hw4,hx4,hE'4,hi'4⟩:=zW hE4 hi4 hb4;simp only[xl.l4] at h
 refine za fun Z6 hZ6=>?_
 refine rg tok [1,2,4,6,11] fun K hK=>?_
 simp only[go_sem,qb,qa,qd,hz4];apply hK
 refine zp rfl ?_;apply zd;apply hZ6
 refine za fun Z7 hZ7=>?_
 apply ze;have f8:=E24.idxS hx4;have f9:=E24.fldS0 (f:=9) rfl rfl hx4
 refine rg tok [1,2,4,6,21] fun K hK=>?_
 simp only[go_sem,qb,qa,qd,encGMethod,f8,f9];apply hK
 refine zo rfl (fun hc10=>?_) (fun hc10=>?_)
 · rw[if_pos hc10] at h;have t11:=eq_true hc10;have f12:=E24.idxS hx4;have f13:=E24.loadS rfl rfl hx4
   refine rg tok [4,5] fun K hK=>?_
   simp only[go_sem,qb,qf,qa,qd,encGMethod,t11,f12,f13];apply hK
   cases h;exact rtA
 rw[if_neg hc10] at h;have t14:=eq_false hc10;apply zd;apply hZ7
 refine rgE tok [1,2,4,6] fun K hK=>?_
 simp only[go_sem,qb,qa,hw4,t14];apply hK
 exact⟨_,_,_,qr q4.length,⟨p4++[y4],q4,x2+1,rfl,rfl,rfl,hE'4,hi'4,h⟩,.s⟩
theorem xl.ev (a0:GSchema)(a1:List UInt8)(r:GMethod×Bool)(h:xl a0 a1=r)(σ:Store):ACalls qh 34 [.agg (encGSchema a0),.str a1] σ (fun r' σ'=>r'=.tup [.agg (encGMethod r.1),.bool r.2]∧σ'=σ):=
 (xl.ok a0 a1 r h).c σ
def wg (a0:GTree):Option (List UInt8×Int):=
 (if a0.fKind=3 then (wM a0).bind fun r2=>some (!r2) else some true).bind fun c2=>(if c2=true then some (([]:List UInt8),1) else (yM rounds a0).bind fun r7=>some (r7.1,r7.2))
theorem wg.ok (a0:GTree)(r:List UInt8×Int)(h:wg a0=some r):ACalls qh 30 [.agg (cellsGTree a0)] [] (fun r' _=>r'=.tup [.ds true (qe encB r.1) (qc r.1) false,.int .i64 r.2]):=by
 refine zf (rs:=[.tmp 2,.tmp 3]) tok Tryz.func30 rfl Tryz.ntmps30 rfl Tryz.call30 (by simp) ?_;refine zk [(0,.agg (cellsGTree a0))] ⟨rfl,trivial⟩ ?_;unfold wg at h
 refine rg tok [1] fun K hK=>?_
 simp only[go_sem,qb,qa,qd,reduceCtorEq,cellsGTree];apply hK
 refine za fun Z1 hZ1=>?_
 refine rc [1,11] fun K hK=>?_
 refine rnN 4 ?_;obtain⟨c2,hc2,h⟩:=bind_some h;refine zh 4 (fun L τ=>L=[(1,.op 0 0 0),(11,.bool c2)]∧τ=[.cells 0 (cellsGTree a0)]) ?_ ?_
 · refine yx 7 rfl (fun hg7=>?_) (fun hg7=>?_)
   · have t3:=eq_false hg7;rw[if_neg hg7] at hc2;refine rnN 4 ?_;cases hc2;refine zb ⟨rfl,_,_,⟨rfl,rfl⟩,.p t3⟩
   have t4:=eq_true hg7;rw[if_pos hg7] at hc2;obtain⟨r5,hr5,hc2⟩:=bind_some hc2;refine rnN 1 ?_;refine clN rfl rfl rfl (wM.ev a0 r5 hr5 _) ?_;refine rnN 2 ?_;cases hc2;refine zb ⟨rfl,_,_,⟨rfl,rfl⟩,.p t4⟩
 rintro _ _ ⟨rfl,rfl⟩;refine nkN hK ?_;refine zm (b:=c2) rfl (fun hc6=>?_) (fun hc6=>?_)
 · rw[if_pos hc6] at h;refine rgN [2,3] ?_;cases h;exact rtA
 rw[xS hc6] at h;apply zd;apply hZ1
 refine rc [2,3] fun K hK=>?_
 obtain⟨r7,hr7,h⟩:=bind_some h;refine rnN 1 ?_;refine clN rfl rfl rfl (yM.ev rounds a0 r7 hr7 _) ?_;refine rnN 4 ?_;refine nkN hK ?_;cases h;exact rtA
theorem wg.ev (a0:GTree)(r:List UInt8×Int)(h:wg a0=some r)(σ:Store):ACalls qh 30 [.agg (cellsGTree a0)] σ (fun r' σ'=>r'=.tup [.ds true (qe encB r.1) (qc r.1) false,.int .i64 r.2]∧σ'=σ):=
 (wg.ok a0 r h).c σ
def xx.j8 (a0:GSchema)(a1:GPacket)(r6:GMethod×Bool)(x7:List UInt8):Option (GPacket×Bool):=
 (if ((!r6.2)||((!(decide (a1.fKind=3)))&&((!(decide (a1.fKind=4)))||(!(decide (a1.fErr=0))))))=true then some (a1,true) else (grd (qc a1.fBody≤9223372036854775807)).bind fun _u15=>(wr a0 x7 a1.fBody).bind fun r17=>(if r17.2=0 then (wg r17.1).bind fun r22=>(if r22.2=0 then some ((⟨a1.fKind,a1.fFrom,a1.fTo,a1.fID,a1.fVersion,a1.fMethod,a1.fErr,r22.1⟩:GPacket),true) else some ((⟨0,0,0,0,0,[],0,[]⟩:GPacket),false)) else some ((⟨0,0,0,0,0,[],0,[]⟩:GPacket),false)))
def xx (a0:GSchema)(a1:GPacket):Option (GPacket×Bool):=
 (yT a0).bind fun r2=>(if r2=0 then bnd (xl a0 a1.fMethod) fun r6=>(if a1.fKind=4 then (xx.j8 a0 a1 r6 r6.1.fOut) else (xx.j8 a0 a1 r6 r6.1.fIn)) else some ((⟨0,0,0,0,0,[],0,[]⟩:GPacket),false))
theorem xx.ok (a0:GSchema)(a1:GPacket)(r:GPacket×Bool)(h:xx a0 a1=some r):ACalls qh 29 [.agg (encGSchema a0),.agg (encGPacket a1)] [] (fun r' _=>r'=.tup [.agg (encGPacket r.1),.bool r.2]):=by
 refine zf (rs:=[.cell 4 66,.tmp 5]) tok Tryz.func29 rfl Tryz.ntmps29 rfl Tryz.call29 (by simp) ?_;refine zk [(0,.agg (encGSchema a0)),(1,.agg (encGPacket a1))] ⟨rfl,rfl,trivial⟩ ?_;unfold xx at h
 refine rg tok [2,3,4] fun K hK=>?_
 simp only[go_sem,qb,qa,qd,reduceCtorEq,encGPacket,encGSchema];apply hK
 refine za fun Z1 hZ1=>?_
 refine rc [2,3,4,14] fun K hK=>?_
 obtain⟨r2,hr2,h⟩:=bind_some h;refine rnN 1 ?_;refine clN rfl rfl rfl (yT.ev a0 r2 hr2 _) ?_;refine rnN 1 ?_;refine nkN hK ?_;refine zo rfl (fun hc3=>?_) (fun hc3=>?_)
 · rw[if_neg hc3] at h;have t4:=eq_false hc3
   refine rg tok [4,5] fun K hK=>?_
   simp only[go_sem,qb,qf,qa,qd,t4];apply hK
   cases h;exact rtA
 rw[if_pos hc3] at h;have t5:=eq_true hc3;apply zd;apply hZ1
 refine rc [2,3,4,6,7] fun K hK=>?_
 obtain⟨r6,hr6,h⟩:=zO h;refine zi tok 3 ?_;simp only[go_sem,qb,qf,qa,qd,t5];refine clN rfl rfl rfl (xl.ev a0 a1.fMethod r6 hr6 _) ?_;refine zi tok 6 ?_;simp only[go_sem,qb,qf,qa,qd,encGMethod];refine nkN hK ?_;refine rgN [2,3,4,6,7,8] ?_;refine xL (fun L τ=>∃ (x7:List UInt8),L=[(2,.op 0 0 0),(3,.op 1 0 0),(4,.op 2 0 0),(7,.bool r6.2),(8,.str x7)]∧τ=[.cells 0 (encGSchema a0),.cells 0 (encGPacket a1),.cells 0 [.int .i64 0,.int .i64 0,.int .i64 0,.int .i64 0,.int .i64 0,.str [],.int .i64 0,.str []]]∧xx.j8 a0 a1 r6 x7=some r) ?_ ?_
 · refine rgN [2,3,4,6,7,8,27] ?_;refine zo rfl (fun hc28=>?_) (fun hc28=>?_)
   · rw[if_pos hc28] at h;have t29:=eq_true hc28
     refine rgE tok [2,3,4,7,8] fun K hK=>?_
     simp only[go_sem,qb,qa,qd,t29];apply hK
     exact⟨_,_,⟨r6.1.fOut,rfl,rfl,h⟩,(.t [0,1,2] false)⟩
   rw[if_neg hc28] at h;have t30:=eq_false hc28;apply zd;exact⟨_,_,⟨r6.1.fIn,rfl,rfl,h⟩,(.t [0,1,2] false)⟩
 rintro _ _ ⟨x7,rfl,rfl,h⟩;unfold xx.j8 at h
 refine za fun Z9 hZ9=>?_
 refine rc [2,3,4,8,46] fun K hK=>?_
 refine rnN 3 ?_;refine zh 14 (fun L τ=>L=[(2,.op 0 0 0),(3,.op 1 0 0),(4,.op 2 0 0),(8,.str x7),(46,.bool ((!r6.2)||((!(decide (a1.fKind=3)))&&((!(decide (a1.fKind=4)))||(!(decide (a1.fErr=0)))))))]∧τ=[.cells 0 (encGSchema a0),.cells 0 (encGPacket a1),.cells 0 [.int .i64 0,.int .i64 0,.int .i64 0,.int .i64 0,.int .i64 0,.str [],.int .i64 0,.str []]]) ?_ ?_
 · refine zN (b:=(!r6.2)) 32 rfl (fun hg32=>?_) (fun hg32=>?_)
   · refine rnN 10 ?_;refine rnN 4 ?_;refine zb ⟨rfl,_,_,⟨rfl,rfl⟩,.b hg32⟩
   refine rnN 4 ?_;refine zh 9 (fun L τ=>L=[(2,.op 0 0 0),(3,.op 1 0 0),(4,.op 2 0 0),(8,.str x7),(32,.bool false),(45,.bool ((!(decide (a1.fKind=3)))&&((!(decide (a1.fKind=4)))||(!(decide (a1.fErr=0))))))]∧τ=[.cells 0 (encGSchema a0),.cells 0 (encGPacket a1),.cells 0 [.int .i64 0,.int .i64 0,.int .i64 0,.int .i64 0,.int .i64 0,.str [],.int .i64 0,.str []]]) ?_ ?_
   · refine yx 36 rfl (fun hg36=>?_) (fun hg36=>?_)
     · have t10:=eq_false hg36;refine rnN 4 ?_;refine zh 4 (fun L τ=>L=[(2,.op 0 0 0),(3,.op 1 0 0),(4,.op 2 0 0),(8,.str x7),(32,.bool false),(36,.bool true),(44,.bool ((!(decide (a1.fKind=4)))||(!(decide (a1.fErr=0)))))]∧τ=[.cells 0 (encGSchema a0),.cells 0 (encGPacket a1),.cells 0 [.int .i64 0,.int .i64 0,.int .i64 0,.int .i64 0,.int .i64 0,.str [],.int .i64 0,.str []]]) ?_ ?_
       · refine yx 40 rfl (fun hg40=>?_) (fun hg40=>?_)
         · have t11:=eq_false hg40;refine rnN 4 ?_;refine zb ⟨rfl,_,_,⟨rfl,rfl⟩,.p t11⟩
         have t12:=eq_true hg40;refine rnN 4 ?_;refine zb ⟨rfl,_,_,⟨rfl,rfl⟩,.p t12⟩
       rintro _ _ ⟨rfl,rfl⟩;refine rnN 1 ?_;refine zb ⟨rfl,_,_,⟨rfl,rfl⟩,.p t10⟩
     have t13:=eq_true hg36;refine rnN 9 ?_;refine zb ⟨rfl,_,_,⟨rfl,rfl⟩,.p t13⟩
   rintro _ _ ⟨rfl,rfl⟩;refine rnN 1 ?_;refine zb ⟨rfl,_,_,⟨rfl,rfl⟩,.b hg32⟩
 rintro _ _ ⟨rfl,rfl⟩;refine nkN hK ?_;refine zm (b:=((!r6.2)||((!(decide (a1.fKind=3)))&&((!(decide (a1.fKind=4)))||(!(decide (a1.fErr=0))))))) rfl (fun hc14=>?_) (fun hc14=>?_)
 · rw[if_pos hc14] at h;refine rgN [4,5] ?_;cases h;exact rtA
 rw[xS hc14] at h;apply zd;apply hZ9
 refine rc [3,4,9,10] fun K hK=>?_
 obtain⟨_u15,hu15,h⟩:=bind_some h;have gu15:=wi hu15;have gu15t:=eq_true gu15;have f16:=vbz (T:=tab) (src:=9) (dst:=34) rfl rfl rfl rfl rfl rfl (wi hu15);obtain⟨r17,hr17,h⟩:=bind_some h;refine zi tok 5 ?_;simp only[go_sem,qb,qf,qa,qd,f16];refine YY (L:=[(3,.op 0 0 0),(4,.op 1 0 0),(49,.agg (encGSchema a0)),(50,.str x7),(53,.ds true (qe encB a1.fBody) (qc a1.fBody) false)]) (τ:=[.cells 0 (encGPacket a1),.cells 0 [.int .i64 0,.int .i64 0,.int .i64 0,.int .i64 0,.int .i64 0,.str [],.int .i64 0,.str []]]) (.t [1,2] false) ?_;refine clN rfl rfl rfl (wr.ev a0 x7 a1.fBody r17 hr17 _) ?_;refine zi tok 6 ?_;simp only[go_sem,qb,qf,qa,qd,cellsGTree,encGSchema];refine nkN hK ?_
 refine za fun Z18 hZ18=>?_
 refine rgN [3,4,9,58] ?_;refine zo rfl (fun hc19=>?_) (fun hc19=>?_)
 · rw[if_neg hc19] at h;have t20:=eq_false hc19
   refine rg tok [4,5] fun K hK=>?_
   simp only[go_sem,qb,qf,qa,qd,t20];apply hK
   cases h;exact rtA
 rw[if_pos hc19] at h;have t21:=eq_true hc19;apply zd;apply hZ18
 refine rc [3,4,10,11] fun K hK=>?_
 obtain⟨r22,hr22,h⟩:=bind_some h;refine zi tok 1 ?_;simp only[go_sem,qb,qf,qa,qd,t21];refine clN rfl rfl rfl (wg.ev r17.1 r22 hr22 _) ?_;refine rnN 5 ?_;refine nkN hK ?_
 refine za fun Z23 hZ23=>?_
 refine rgN [3,4,11,66] ?_;refine zo rfl (fun hc24=>?_) (fun hc24=>?_)
 · rw[if_neg hc24] at h;have t25:=eq_false hc24
   refine rg tok [4,5] fun K hK=>?_
   simp only[go_sem,qb,qf,qa,qd,t25];apply hK
   cases h;exact rtA
 rw[if_pos hc24] at h;have t26:=eq_true hc24;apply zd;apply hZ23;have f27:=XX (T:=tab) (src:=34) (dst:=9) rfl rfl rfl rfl rfl rfl r22.1
 refine rg tok [3,4] fun K hK=>?_
 simp only[go_sem,qb,qf,qa,qd,t26,f27];apply hK
 refine rgN [4,5] ?_;cases h;exact rtA
end
section
set_option maxRecDepth 4000
set_option maxHeartbeats 1000000
open AM
theorem xx.ev (a0:GSchema)(a1:GPacket)(r:GPacket×Bool)(h:xx a0 a1=some r)(σ:Store):ACalls qh 29 [.agg (encGSchema a0),.agg (encGPacket a1)] σ (fun r' σ'=>r'=.tup [.agg (encGPacket r.1),.bool r.2]∧σ'=σ):=
 (xx.ok a0 a1 r h).c σ
def law25_ProxyAll (a0:GSchema)(a1:GPacket):Option Bool:=
 (zH a0).bind fun r2=>(if ((!r2)||(decide (5000<(qc a1.fBody:Int))))=true then (wu).bind fun r4=>some r4 else (ym a0).bind fun r5=>(yG r5 a1).bind fun r6=>(xx a0 a1).bind fun r7=>(if ((decide (r6.1.fKind=r7.1.fKind)&&(decide (r6.1.fFrom=r7.1.fFrom)&&(decide (r6.1.fTo=r7.1.fTo)&&(decide (r6.1.fID=r7.1.fID)&&(decide (r6.1.fVersion=r7.1.fVersion)&&(decide (r6.1.fMethod=r7.1.fMethod)&&(decide (r6.1.fErr=r7.1.fErr)&&decide (r6.1.fBody=r7.1.fBody))))))))&&(r6.2==r7.2))=true then (wu).bind fun r8=>some r8 else some false).bind fun c8=>some c8)
theorem law25_ProxyAll.ok (a0:GSchema)(a1:GPacket)(r:Bool)(h:law25_ProxyAll a0 a1=some r):ACalls qh 7 [.agg (encGSchema a0),.agg (encGPacket a1)] [] (fun r' _=>r'=.bool r):=by
 refine zf (rs:=[.tmp 4]) tok Tryz.func7 rfl Tryz.ntmps7 rfl Tryz.call7 (by simp) ?_;refine zk [(0,.agg (encGSchema a0)),(1,.agg (encGPacket a1))] ⟨rfl,rfl,trivial⟩ ?_;unfold law25_ProxyAll at h
 refine rg tok [2,3] fun K hK=>?_
 simp only[go_sem,qb,qa,qd,reduceCtorEq,encGPacket,encGSchema];apply hK
 refine za fun Z1 hZ1=>?_
 refine rc [2,3,17] fun K hK=>?_
 obtain⟨r2,hr2,h⟩:=bind_some h;refine rnN 1 ?_;refine clN rfl rfl rfl (zH.ev a0 r2 hr2 _) ?_;refine rnN 2 ?_;refine zh 5 (fun L τ=>L=[(2,.op 0 0 0),(3,.op 1 0 0),(17,.bool ((!r2)||(decide (5000<(qc a1.fBody:Int)))))]∧τ=[.cells 0 (encGSchema a0),.cells 0 (encGPacket a1)]) ?_ ?_
 · refine zN (b:=(!r2)) 12 rfl (fun hg12=>?_) (fun hg12=>?_)
   · refine rnN 5 ?_;refine zb ⟨rfl,_,_,⟨rfl,rfl⟩,.b hg12⟩
   refine rnN 5 ?_;refine zb ⟨rfl,_,_,⟨rfl,rfl⟩,.b hg12⟩
 rintro _ _ ⟨rfl,rfl⟩;refine nkN hK ?_;refine zm (b:=((!r2)||(decide (5000<(qc a1.fBody:Int))))) rfl (fun hc3=>?_) (fun hc3=>?_)
 · rw[if_pos hc3] at h
   refine rc [4] fun K hK=>?_
   obtain⟨r4,hr4,h⟩:=bind_some h;refine clN rfl rfl rfl (wu.ev  r4 hr4 _) ?_;refine rnN 1 ?_;refine nkN hK ?_;cases h;exact rtA
 rw[xS hc3] at h;apply zd;apply hZ1;obtain⟨r5,hr5,h⟩:=bind_some h;obtain⟨r6,hr6,h⟩:=bind_some h
 refine rd [2,3,5,6] fun K hK=>?_
 refine DW.start (T:=tab) [.at [],.eff,.own 1 [],.eff,.any,.any,.any,.flt,.eff,.any] [(1,[])] ?_;refine DW.runN tok 1 ?_;simp only[go_sem,qb,qf,qa,qd];refine DW.call rfl rfl rfl (ym.ev a0 r5 hr5 _) ?_;refine DW.runN tok 1 ?_;simp only[go_sem,qb,qf,qa,qd,encGSchema];refine DW.call rfl rfl rfl (yG.ev r5 a1 r6 hr6 _) ?_;refine DW.runN tok 6 ?_;simp only[go_sem,qb,qf,qa,qd,encGPacket];refine DW.fin tok (by decide +kernel) rfl ?_;simp only[zj,upd,qa,reduceIte,yq,y0];apply hK
 refine rc [5,6,7,8] fun K hK=>?_
 obtain⟨r7,hr7,h⟩:=bind_some h;refine rnN 2 ?_;refine clN rfl rfl rfl (xx.ev a0 a1 r7 hr7 _) ?_;refine zi tok 6 ?_;simp only[go_sem,qb,qf,qa,qd,encGPacket];refine nkN hK ?_
 refine rc [4] fun K hK=>?_
 refine zi tok 4 ?_;simp only[go_sem,qb,qf,qa,qd,evEqA,ceqL,ceq];refine zh 4 (fun L τ=>L=[(39,.bool ((decide (r6.1.fKind=r7.1.fKind)&&(decide (r6.1.fFrom=r7.1.fFrom)&&(decide (r6.1.fTo=r7.1.fTo)&&(decide (r6.1.fID=r7.1.fID)&&(decide (r6.1.fVersion=r7.1.fVersion)&&(decide (r6.1.fMethod=r7.1.fMethod)&&(decide (r6.1.fErr=r7.1.fErr)&&decide (r6.1.fBody=r7.1.fBody))))))))&&(r6.2==r7.2)))]∧τ=[.cells 0 (encGSchema a0),.cells 0 (encGPacket a1),.cells 0 (encGPacket r6.1),.cells 0 (encGPacket r7.1)]) ?_ ?_
 · refine zN (b:=(decide (r6.1.fKind=r7.1.fKind)&&(decide (r6.1.fFrom=r7.1.fFrom)&&(decide (r6.1.fTo=r7.1.fTo)&&(decide (r6.1.fID=r7.1.fID)&&(decide (r6.1.fVersion=r7.1.fVersion)&&(decide (r6.1.fMethod=r7.1.fMethod)&&(decide (r6.1.fErr=r7.1.fErr)&&decide (r6.1.fBody=r7.1.fBody))))))))) 35 rfl (fun hg35=>?_) (fun hg35=>?_)
   · refine zi tok 4 ?_;simp only[go_sem,qb,qa,evEq];refine zb ⟨rfl,_,_,⟨rfl,rfl⟩,.b hg35⟩
   refine rnN 4 ?_;refine zb ⟨rfl,_,_,⟨rfl,rfl⟩,.b hg35⟩
 rintro _ _ ⟨rfl,rfl⟩;refine rnN 1 ?_;obtain⟨c8,hc8,h⟩:=bind_some h;refine zh 2 (fun L τ=>L=[(42,.bool c8)]∧τ=[.cells 0 (encGSchema a0),.cells 0 (encGPacket a1),.cells 0 (encGPacket r6.1),.cells 0 (encGPacket r7.1)]) ?_ ?_
 · refine zN (b:=((decide (r6.1.fKind=r7.1.fKind)&&(decide (r6.1.fFrom=r7.1.fFrom)&&(decide (r6.1.fTo=r7.1.fTo)&&(decide (r6.1.fID=r7.1.fID)&&(decide (r6.1.fVersion=r7.1.fVersion)&&(decide (r6.1.fMethod=r7.1.fMethod)&&(decide (r6.1.fErr=r7.1.fErr)&&decide (r6.1.fBody=r7.1.fBody))))))))&&(r6.2==r7.2))) 40 rfl (fun hg40=>?_) (fun hg40=>?_)
   · rw[if_pos hg40] at hc8;obtain⟨r9,hr9,hc8⟩:=bind_some hc8;refine clN rfl rfl rfl (wu.ev  r9 hr9 _) ?_;refine rnN 1 ?_;cases hc8;refine zb ⟨rfl,_,_,⟨rfl,rfl⟩,.b hg40⟩
   rw[xS hg40] at hc8;refine rnN 2 ?_;cases hc8;refine zb ⟨rfl,_,_,⟨rfl,rfl⟩,.b hg40⟩
 rintro _ _ ⟨rfl,rfl⟩;refine rnN 1 ?_;refine nkN hK ?_;cases h;exact rtA
end
section
set_option maxRecDepth 4000
open AM
def vb (n:Nat):List UInt8:=if h:n<128 then [q5 n] else q5 (n % 128+128)::vb (n / 128)
termination_by n
decreasing_by omega
theorem vb_lt {n:Nat}(h:n<128):vb n=[q5 n]:=by rw[vb,dif_pos h]
theorem vb_ge {n:Nat}(h:¬ n<128):vb n=q5 (n % 128+128)::vb (n / 128):=by rw[vb,dif_neg h]
theorem vb_pos (n:Nat):0<(vb n).length:=by
 by_cases h:n<128
 · rw[vb_lt h]; exact Nat.one_pos
 rw[vb_ge h,qj]; omega
theorem vb_len : ∀ (k n:Nat),n<2^(7*(k+1))→(vb n).length≤k+1
 |0,n,h=>by rw[vb_lt (by simpa using h)]; exact qu _
 |k+1,n,h=>by
  by_cases h1:n<128
  · rw[vb_lt h1,qj,ql]; omega
  rw[vb_ge h1,qj]
  have:=vb_len k (n / 128) (by
   have e:2^(7*(k+1+1))=128*2^(7*(k+1)):=by rw[show 7*(k+1+1)=7+7*(k+1) by omega,Nat.pow_add]
   rw[e] at h
   exact Nat.div_lt_of_lt_mul h)
  omega
theorem Ya {n:Nat}(h:n<2^64):(vb n).length≤10:=vb_len 9 n (uj h (by decide))
theorem Y2 {p:Prop} [Decidable p](h:p):grd p=some ():=if_pos h
theorem xK {n b:Nat}(h:n*b≤140737488355328):Yk n b=some ():=if_pos h
theorem u64w {n:Nat}(h:n<2^64):IntKind.u64.wrap (n:Int)=(n:Int):=by rw[IntKind.wrap_u64]; omega
theorem u64i {x:Int}(h:0≤x)(h':x<18446744073709551616):IntKind.u64.wrap x=x:=by rw[IntKind.wrap_u64]; omega
theorem u8w (n:Nat):IntKind.u8.wrap (n:Int)=((n % 256:Nat):Int):=by
 simp only[IntKind.wrap,IntKind.bits,IntKind.signed,Bool.false_and]
 simp
theorem vba (n:Nat)(h:n<256):(q5 n).toNat=n:=by
 rw[UInt8.toNat_ofNat']; omega
theorem or128 : ∀ m:Fin 256,(qy 8 ((m.val:Nat):Int) ||| qy 8 128).toNat=m.val % 128+128:=by decide
theorem and127 : ∀ m:Fin 256,(qy 8 ((m.val:Nat):Int) &&& ~~~(qy 8 128)).toNat=m.val % 128:=by decide
theorem moreByte (n:Nat):q5 (qB (IntKind.u8.wrap ((ur (qy 8 (IntKind.u8.wrap (n:Int)) ||| qy 8 128):Nat):Int)))=q5 (n % 128+128):=by
 have h:=or128 ⟨n % 256,Nat.mod_lt _ (by decide)⟩;simp only at h;rw[u8w n,h,u8w (n % 256 % 128+128),qR]
 congr 1
 have:=Nat.mod_mod_of_dvd n (show 128 ∣ 256 by decide)
 omega
theorem lastByte (n:Nat)(h:n<128):q5 (qB (IntKind.u8.wrap (n:Int)))=q5 n:=by
 rw[u8w,qR]; congr 1; omega
theorem shr7 (n:Nat):Int.fdiv (n:Int) (2^(min (qB 7) 64))=((n / 128:Nat):Int):=by
 rw[show ((2:Int)^(min (qB 7) 64))=128 from by decide,Int.fdiv_eq_ediv_of_nonneg _ (by decide)]
 omega
theorem vint_Put_l : ∀ (k n:Nat) (l:List UInt8),n<2^(7*k)→l.length+k≤140737488355328→xv.l9 k l (n:Int)=some (l++vb n)∨k=0
 |0,_,_,_,_=>Or.inr rfl
 |k+1,n,l,h,hl=>by
  left
  by_cases h1:n<128
  · rw[xv.l9,if_neg (by omega),xK (by omega),qg,lastByte n h1,vb_lt h1]
  rw[xv.l9,if_pos (by omega),xK (by omega),qg,moreByte,shr7,vb_ge h1]
  have hk:n / 128<2^(7*k):=by
   have e:2^(7*(k+1))=128*2^(7*k):=by rw[show 7*(k+1)=7+7*k by omega,Nat.pow_add]
   rw[e] at h; exact Nat.div_lt_of_lt_mul h
  rcases vint_Put_l k (n / 128) (l++[q5 (n % 128+128)]) hk (by rw[qi,qC]; omega) with e|e
  · rw[e,qq]; rfl
  exfalso; subst e; simp at hk; omega
theorem vint_Put_m : ∀ (k j n:Nat) (l r:List UInt8),xv.l9 k l (n:Int)=some r→xv.l9 (k+j) l (n:Int)=some r
 |0,_,_,_,_,h=>by cases h
 |k+1,j,n,l,r,h=>by
  rw[Nat.succ_add_eq_add_succ,Nat.add_succ]
  by_cases h1:(128:Int)≤(n:Int)
  · rw[xv.l9,if_pos h1] at h ⊢
    cases hr:Yk (qc l+1) 1 with
    |none=>rw[hr] at h; cases h
    |some u=>
     rw[hr,qg,shr7] at h
     rw[qg,shr7]; exact vint_Put_m k j _ _ _ h
  rw[xv.l9,if_neg h1] at h ⊢; exact h
theorem vaa (a:List UInt8){n:Nat}(h:n<2^64)(ha:a.length≤140737488355000):xv a (n:Int)=some (a++vb n):=by
 by_cases h1:n<128
 · rw[xv,if_neg (by omega),xK (by omega),qg,lastByte n h1,vb_lt h1]
 rw[xv,if_pos (by omega),xK (by omega),qg,moreByte,shr7,vb_ge h1]
 rcases vint_Put_l 10 (n / 128) (a++[q5 (n % 128+128)]) (by omega) (by rw[qi,qC]; omega) with e|e
 · have:=vint_Put_m 10 999999999999999999990 _ _ _ e;rw[show 10+999999999999999999990=rounds from rfl] at this
   rw[this,qq]; rfl
 cases e
theorem orAdd {i acc d:Nat}(h:acc<2^i):acc ||| d*2^i=acc+d*2^i:=by
 rw[Nat.or_comm,Nat.mul_comm,← Nat.two_pow_add_eq_or_of_lt h]; omega
theorem bv64 {n:Nat}(h:n<2^64):(qy 64 (n:Int)).toNat=n:=by
 rw[BitVec.ofInt_natCast,BitVec.toNat_ofNat]; exact Nat.mod_eq_of_lt h
theorem stepv {acc i:Nat}{y:UInt8}(hi:i≤9)(ha:acc<2^(7*i))(h9:i=9→y.toNat≤1):IntKind.u64.wrap ((ur (qy 64 (acc:Int) ||| qy 64 (IntKind.u64.wrap ((IntKind.u64.wrap (IntKind.u8.wrap ((ur (qy 8 (y.toNat:Int) &&& ~~~(qy 8 128)):Nat):Int)))*2^(min (qB (IntKind.i64.wrap (7*(i:Int)))) 64)))):Nat):Int)=((acc+(y.toNat % 128)*2^(7*i):Nat):Int)∧acc+(y.toNat % 128)*2^(7*i)<2^64∧(i<9→acc+(y.toNat % 128)*2^(7*i)<2^(7*(i+1))):=by
 have hy:y.toNat<256:=y.toNat_lt;have h:=and127 ⟨y.toNat,hy⟩;simp only at h
 have e:IntKind.i64.wrap (7*(i:Int))=((7*i:Nat):Int):=by rw[yu (by omega) (by omega)]; omega
 have hm:min (7*i) 64=7*i:=by omega
 have hd:y.toNat % 128<128:=Nat.mod_lt _ (by decide)
 have hp:2^(7*(i+1))=128*2^(7*i):=by rw[show 7*(i+1)=7+7*i by omega,Nat.pow_add]
 have hs:i<9→acc+(y.toNat % 128)*2^(7*i)<2^(7*(i+1)):=by
  intro _
  rw[hp];have:(y.toNat % 128)*2^(7*i)≤127*2^(7*i):=qY _ (by omega)
  omega
 have hb:acc+(y.toNat % 128)*2^(7*i)<2^64:=by
  by_cases h8:i<9
  · have:=hs h8;have h2:2^(7*(i+1))≤2^63:=Nat.pow_le_pow_right (by decide) (by omega)
    omega
  have hi9:i=9:=by omega
  have h1:=h9 hi9;subst hi9
  have:y.toNat % 128≤1:=by omega
  have h2:(y.toNat % 128)*2^(7*9)≤1*2^(7*9):=qY _ this
  omega
 refine⟨?_,hb,hs⟩;rw[h,u8w,Nat.mod_eq_of_lt (show y.toNat % 128<256 by omega),e,qR,hm]
 have hc:((((y.toNat % 128:Nat):Int))*2^(7*i))=(((y.toNat % 128)*2^(7*i):Nat):Int):=by
  rw[Int.natCast_mul,Int.natCast_pow]; rfl
 have hu:IntKind.u64.wrap ((y.toNat % 128:Nat):Int)=((y.toNat % 128:Nat):Int):=u64w (by omega);rw[hu,hc,u64w (n:=y.toNat % 128*2^(7*i)) (by omega),BitVec.toNat_or,bv64 (by omega),bv64 (by omega),orAdd ha,u64w hb]
theorem vbF (a:Nat)(hA:a≤4611686018427387904):∀ (q post:List UInt8) (v i acc:Nat),q=vb v++post→i≤9→acc<2^(7*i)→v*2^(7*i)<2^64→(0<i→v≠0)→
 xw.l12 (a:Int) q (i:Int) (acc:Int)=some (((acc+v*2^(7*i):Nat):Int),((a+i+(vb v).length:Nat):Int),0)
 |[],post,v,i,acc,h,_,_,_,_=>by
  have:=vb_pos v;have h2:=congrArg qc h
  rw[qi,ql] at h2; omega
 |y::q,post,v,i,acc,h,hi,ha,hv,h0=>by
  by_cases h1:v<128
  · rw[vb_lt h1] at h ⊢
    obtain⟨rfl,rfl⟩:y=q5 v∧q=post:=by injection h with h2 h3; exact⟨h2,h3⟩
    have hy:(q5 v).toNat=v:=vba v (by omega)
    have h9:i=9→v≤1:=by
     intro e; subst e
     apply Nat.le_of_not_lt; intro hc
     have:2*2^(7*9)≤v*2^(7*9):=qY _ hc
     omega
    have st:=(stepv (y:=q5 v) hi ha (by rw[hy]; exact h9)).1;have hw1:IntKind.i64.wrap (7*(i:Int))=7*(i:Int):=yu (by omega) (by omega);rw[xw.l12,st,hy];rw[if_neg (by simp only[qn,decide_eq_true_eq,not_and]; intro e; have:=h9 (by omega); omega),Y2 (by rw[yu (by omega) (by omega)]; omega),qg,if_neg (by omega),if_neg (by simp only[qn,decide_eq_true_eq,not_and]; intro e e2; exact h0 (by omega) (by omega))];rw[Nat.mod_eq_of_lt h1,yu (x:=(a:Int)+(i:Int)) (by omega) (by omega),yu (x:=(a:Int)+(i:Int)+1) (by omega) (by omega),qC];simp only[Int.natCast_add,Int.natCast_one]
  rw[vb_ge h1] at h ⊢
  obtain⟨rfl,rfl⟩:y=q5 (v % 128+128)∧q=vb (v / 128)++post:=by injection h with h2 h3; exact⟨h2,h3⟩
  have hy:(q5 (v % 128+128)).toNat=v % 128+128:=vba _ (by omega)
  have hi8:i<9:=by
   apply Nat.lt_of_not_le; intro hc
   have:i=9:=by omega
   subst this;have:128*2^(7*9)≤v*2^(7*9):=qY _ (by omega)
   omega
  obtain⟨st,sb,sn⟩:=stepv (y:=q5 (v % 128+128)) hi ha (by intro e; omega);rw[xw.l12,st,hy,if_neg (by simp only[qn,decide_eq_true_eq,not_and]; intro e; omega),Y2 (by rw[yu (by omega) (by omega)]; omega),qg,if_pos (by omega)];rw[hy] at sn
  have hm:(v % 128+128) % 128=v % 128:=by omega
  rw[hm] at sn ⊢
  have hp:2^(7*(i+1))=128*2^(7*i):=by rw[show 7*(i+1)=7+7*i by omega,Nat.pow_add]
  have hvd:v=128*(v / 128)+v % 128:=(Nat.div_add_mod v 128).symm
  have hmul:v*2^(7*i)=(v / 128)*2^(7*(i+1))+(v % 128)*2^(7*i):=by
   rw[hp]
   calc v*2^(7*i)=(128*(v / 128)+v % 128)*2^(7*i):=by rw[← hvd]
    _=_:=by rw[uX,Nat.mul_comm 128,Nat.mul_assoc]
  have ih:=vbF a hA (vb (v / 128)++post) post (v / 128) (i+1) (acc+v % 128*2^(7*i)) rfl (by omega) (sn hi8) (by rw[hmul] at hv; omega) (by intro _; omega);rw[show ((i:Int)+1)=((i+1:Nat):Int) by omega,ih,hmul,qj]
  congr 2
  · congr 1; omega
  congr 2; omega
theorem vbE (a:Nat)(hA:a≤4611686018427387904):∀ (q:List UInt8) (i acc:Nat),i+q.length≤10→acc<2^(7*i)→∃ r,xw.l12 (a:Int) q (i:Int) (acc:Int)=some r∧
 (r.2.2=0→∃ v post,q=vb v++post∧v*2^(7*i)<2^64∧(0<i→v≠0))∧0≤r.2.2
 |[],i,acc,_,_=>⟨_,rfl,(by intro h; cases h),by decide⟩
 |y::q,i,acc,hl,ha=>by
  rw[qj] at hl;rw[xw.l12]
  by_cases h9:((decide ((i:Int)=9))&&(decide (1<(y.toNat:Int))))=true
  · rw[if_pos h9]; exact⟨_,rfl,(by intro h; cases h),by decide⟩
  rw[if_neg h9]
  have h9':i=9→y.toNat≤1:=by
   intro e
   simp only[qn,decide_eq_true_eq,not_and] at h9
   have:=h9 (by omega); omega
  obtain⟨st,sb,sn⟩:=stepv (y:=y) (show i≤9 by omega) ha h9';rw[st,Y2 (by rw[yu (by omega) (by omega)]; omega),qg];have hy:y.toNat<256:=y.toNat_lt
  by_cases h1:(128:Int)≤(y.toNat:Int)
  · rw[if_pos h1]
    have hi8:i<9:=by
     apply Nat.lt_of_not_le; intro hc
     have:=h9' (by omega); omega
    obtain⟨r,e,hr,h0⟩:=vbE a hA q (i+1) (acc+y.toNat % 128*2^(7*i)) (by omega) (sn hi8);rw[show ((i:Int)+1)=((i+1:Nat):Int) by omega];refine⟨r,e,?_,h0⟩
    intro hz
    obtain⟨v,post,hq,hv,hn⟩:=hr hz
    have hp:2^(7*(i+1))=128*2^(7*i):=by rw[show 7*(i+1)=7+7*i by omega,Nat.pow_add]
    have hvn:=hn (by omega)
    have hw:¬ (v*128+y.toNat % 128)<128:=by omega
    refine⟨v*128+y.toNat % 128,post,?_,?_,by intro _; omega⟩
    · rw[vb_ge hw,show (v*128+y.toNat % 128) % 128+128=y.toNat by omega,show (v*128+y.toNat % 128) / 128=v by omega,UInt8.ofNat_toNat,hq]; rfl
    rw[hp] at hv
    have hmul:(v*128+y.toNat % 128)*2^(7*i)=v*(128*2^(7*i))+y.toNat % 128*2^(7*i):=by rw[uX,Nat.mul_assoc]
    rw[hmul]
    by_cases hi7:i<9
    · have hd:y.toNat % 128*2^(7*i)<128*2^(7*i):=Nat.mul_lt_mul_of_pos_right (by omega) (Nat.pow_pos (by decide))
      have h64:128*2^(7*i) ∣ 2^64:=by rw[← hp]; exact Nat.pow_dvd_pow 2 (by omega)
      obtain⟨c,hc⟩:=h64;rw[hc] at hv ⊢
      have hvc:v<c:=by
       apply Nat.lt_of_not_le; intro hle
       have:=qY (128*2^(7*i)) hle
       rw[Nat.mul_comm c] at this; omega
      have h3:(v+1)*(128*2^(7*i))≤c*(128*2^(7*i)):=qY _ hvc;rw[uX,Nat.one_mul] at h3
      rw[Nat.mul_comm (128*2^(7*i)) c]; omega
    omega
  rw[if_neg h1]
  by_cases h2:((decide ((y.toNat:Int)=0))&&(decide (0<(i:Int))))=true
  · rw[if_pos h2]; exact⟨_,rfl,(by intro h; cases h),by decide⟩
  rw[if_neg h2];refine⟨_,rfl,?_,u6 0⟩
  intro _
  refine⟨y.toNat,q,?_,?_,?_⟩
  · rw[vb_lt (by omega),UInt8.ofNat_toNat]; rfl
  · rw[Nat.mod_eq_of_lt (by omega)] at sb; omega
  intro hi e
  apply h2
  simp only[qn,decide_eq_true_eq]; omega
theorem vbw {b:List UInt8}{n:Nat}(hb:b.length≤4096)(hn:n≤b.length):xw b (n:Int)=xw.l12 (n:Int) ((b.drop n).take 10) 0 0:=by
 have e1:IntKind.i64.wrap ((qc b:Int)-(n:Int))=((b.length-n:Nat):Int):=by rw[yu (by omega) (by omega)]; omega
 rw[xw,if_neg (by simp only[qG,decide_eq_true_eq]; omega),e1]
 by_cases h:(10:Int)<((b.length-n:Nat):Int)
 · rw[if_pos h]
   have e2:IntKind.i64.wrap ((n:Int)+10)=((n+10:Nat):Int):=by rw[yu (by omega) (by omega)]; omega
   rw[e2,Y2 (by omega),qg,Xa,qR,qR,show n+10-n=10 by omega]
 rw[if_neg h]
 have e2:IntKind.i64.wrap ((n:Int)+((b.length-n:Nat):Int))=(b.length:Int):=by rw[yu (by omega) (by omega)]; omega
 rw[e2,Y2 (by omega),qg,Xa,qR,qR,ul (by rw[uQ]; exact qu _),ul (by rw[uQ]; omega)]
theorem get_ok {b post:List UInt8}{n v:Nat}(hb:b.length≤4096)(hn:n≤b.length)(h:b.drop n=vb v++post)(hv:v<2^64):xw b (n:Int)=some ((v:Int),((n+(vb v).length:Nat):Int),0):=by
 have:=vbF n (by omega) ((b.drop n).take 10) (post.take (10-(vb v).length)) v 0 0 (by rw[h,List.take_append,ul (Ya hv)]) (by omega) (by decide) (by omega) (by omega);rw[vbw hb hn]
 simpa using this
theorem get_inv {b:List UInt8}{n:Nat}(hb:b.length≤4096)(hn:n≤b.length):∃ r,xw b (n:Int)=some r∧(r.2.2=0→∃ v post,b.drop n=vb v++post∧v<2^64∧r=((v:Int),((n+(vb v).length:Nat):Int),0))∧0≤r.2.2:=by
 obtain⟨r,e,hr,h0⟩:=vbE n (by omega) ((b.drop n).take 10) 0 0 (by rw[uL]; omega) (by decide);rw[vbw hb hn];refine⟨r,e,?_,h0⟩
 intro hz
 obtain⟨v,post,hq,hv,_⟩:=hr hz
 have hv':v<2^64:=by omega
 have hd:b.drop n=vb v++(post++(b.drop n).drop 10):=by
  rw[← qq,← hq,ut]
 refine⟨v,_,hd,hv',?_⟩;have:=get_ok hb hn hd hv';rw[vbw hb hn] at this;exact Option.some.inj (e.symm.trans this)
end
section
set_option maxRecDepth 4000
open AM
def In64 (n:Int):Prop := -9223372036854775808≤n∧n<9223372036854775808
def zg (n:Int):Nat:=if 0≤n then (2*n).toNat else (-2*n-1).toNat
def zu (v:Nat):Int:=if v % 2=0 then ((v / 2:Nat):Int) else -((v / 2:Nat):Int)-1
theorem zg_lt {n:Int}(h:In64 n):zg n<2^64:=by
 unfold zg; obtain⟨h1,h2⟩:=h; split<;>omega
theorem zu_zg (n:Int):zu (zg n)=n:=by
 unfold zg zu; split<;>split<;>omega
theorem zg_zu (v:Nat):zg (zu v)=v:=by
 unfold zg zu; split<;>split<;>omega
theorem zu_in {v:Nat}(h:v<2^64):In64 (zu v):=by
 unfold zu In64; split<;>omega
theorem bvm1 : qy 64 (-1)=BitVec.allOnes 64:=by decide
theorem bv0 : qy 64 0=0#64:=by decide
theorem fdiv2 (n:Int)(k:Nat):Int.fdiv n (2^k)=n / (2^k):=Int.fdiv_eq_ediv_of_nonneg _ (Int.le_of_lt (Int.pow_pos (by decide)))
theorem vint_Zig_eq {n:Int}(h:In64 n):ZZ n=(zg n:Int):=by
 obtain⟨h1,h2⟩:=h;unfold ZZ zg;rw[show min (qB 1) 64=1 from rfl,show min (qB 63) 64=63 from rfl,fdiv2]
 by_cases h0:0≤n
 · have e:n / 2^63=0:=Int.ediv_eq_zero_of_lt h0 (by omega);rw[if_pos h0,e,show IntKind.u64.wrap 0=0 from by rw[IntKind.wrap_u64]; rfl,bv0,BitVec.xor_zero]
   have e2:IntKind.u64.wrap (IntKind.u64.wrap n*2^1)=(((2*n).toNat:Nat):Int):=by rw[IntKind.wrap_u64,IntKind.wrap_u64]; omega
   rw[e2,bv64 (by omega),u64w (by omega)]
 have e:n / 2^63 = -1:=by omega
 have e1:IntKind.u64.wrap (-1)=18446744073709551615:=by rw[IntKind.wrap_u64]; rfl
 have e3:qy 64 18446744073709551615=BitVec.allOnes 64:=by decide
 rw[if_neg h0,e,e1,e3,BitVec.xor_allOnes,BitVec.toNat_not]
 have e2:IntKind.u64.wrap (IntKind.u64.wrap n*2^1)=(((2*n+18446744073709551616).toNat:Nat):Int):=by rw[IntKind.wrap_u64,IntKind.wrap_u64]; omega
 rw[e2,bv64 (by omega),u64w (by omega)]
 omega
theorem vbD {v:Nat}(h:v<2^64):Z0 (v:Int)=zu v:=by
 unfold Z0 zu;rw[show min (qB 1) 64=1 from rfl,fdiv2]
 have ea:(qy 64 (v:Int) &&& qy 64 1).toNat=v % 2:=by
  rw[BitVec.toNat_and,bv64 h,show (qy 64 1).toNat=1 from by decide,Nat.and_one_is_mod]
 have e1:IntKind.i64.wrap ((v:Int) / 2^1)=((v / 2:Nat):Int):=by rw[yu (by omega) (by omega)]; omega
 rw[ea,e1,u64w (n:=v % 2) (by omega)]
 by_cases h0:v % 2=0
 · rw[if_pos h0,h0]
   have e2:IntKind.i64.wrap (0-IntKind.i64.wrap ((0:Nat):Int))=0:=by decide
   rw[e2,bv0,BitVec.xor_zero,bv64 (by omega),yu (by omega) (by omega)]
 have h1:v % 2=1:=by omega
 rw[if_neg h0,h1]
 have e2:IntKind.i64.wrap (0-IntKind.i64.wrap ((1:Nat):Int)) = -1:=by decide
 rw[e2,bvm1,BitVec.xor_allOnes,BitVec.toNat_not,bv64 (by omega),IntKind.wrap_i64]
 omega
def XK (r:GRaw):Prop:=yp r=true∧In64 r.fN
def vbj (r:GRaw):Nat:=(2*r.fTag+r.fWire).toNat
def vaI (r:GRaw):List UInt8:=vb (vbj r)++(if r.fWire=0 then vb (zg r.fN) else vb r.fB.length++r.fB)
def Yn (l:List GRaw):List UInt8:=l.flatMap vaI
theorem ZH {r:GRaw}(h:yp r=true):1≤r.fTag∧r.fTag≤500∧((r.fWire=0∧r.fB=[])∨(r.fWire=1∧r.fN=0∧r.fB.length≤4096)):=by
 unfold yp at h
 split at h
 · cases h
 rename_i h1
 simp only[qG,decide_eq_true_eq,not_or] at h1;refine⟨by omega,by omega,?_⟩
 split at h
 · left; exact⟨‹_›,by simpa using h⟩
 split at h
 · right
   simp only[qn,decide_eq_true_eq] at h;exact⟨‹_›,h.1,by omega⟩
 cases h
theorem check_num {t n:Int}(h1:1≤t)(h2:t≤500):yp ⟨t,0,n,[]⟩=true:=by
 unfold yp
 rw[if_neg (by simp only[qG,decide_eq_true_eq]; omega)]; rfl
theorem va1 {t:Int}{s:List UInt8}(h1:1≤t)(h2:t≤500)(h3:s.length≤4096):yp ⟨t,1,0,s⟩=true:=by
 unfold yp;rw[if_neg (by simp only[qG,decide_eq_true_eq]; omega)];simp only[decide_true,uB]
 rw[if_neg (by decide),if_pos trivial]; exact decide_eq_true (by omega)
theorem rawB_pos (r:GRaw):2≤(vaI r).length:=by
 unfold vaI;have h1:=vb_pos (vbj r);have h2:=vb_pos (zg r.fN);have h3:=vb_pos r.fB.length
 split<;>simp only[qi]<;>omega
theorem rawB_le {r:GRaw}(h:XK r):(vaI r).length≤4116:=by
 obtain⟨hc,hn⟩:=h;obtain⟨h1,h2,h3⟩:=ZH hc;unfold vaI vbj;have k1:(vb (2*r.fTag+r.fWire).toNat).length≤10:=Ya (by omega);have k2:(vb (zg r.fN)).length≤10:=Ya (zg_lt hn)
 rcases h3 with ⟨h3,h4⟩|⟨h3,h4,h5⟩
 · rw[if_pos h3,qi]; omega
 have k3:(vb r.fB.length).length≤10:=Ya (by omega)
 rw[if_neg (by omega),qi,qi]; omega
theorem wire_Put_eq {a:List UInt8}{r:GRaw}(h:XK r)(ha:a.length≤1000000):ZY a r=some (a++vaI r,true):=by
 obtain⟨hc,hn⟩:=h;obtain⟨h1,h2,h3⟩:=ZH hc;unfold ZY bnd
 rw[hc]; simp only[]
 have ek:IntKind.u64.wrap (IntKind.i64.wrap ((IntKind.i64.wrap (2*r.fTag))+r.fWire))=((vbj r:Nat):Int):=by
  rw[yu (x:=2*r.fTag) (by omega) (by omega),yu (by omega) (by omega),u64i (by omega) (by omega),vbj]; omega
 have k1:vbj r<2^64:=by unfold vbj; omega
 have kl:=Ya k1;rw[if_neg (by decide),ek,vaa a k1 (by omega),qg]
 rcases h3 with ⟨h3,h4⟩|⟨h3,h4,h5⟩
 · rw[if_pos h3,vint_Zig_eq hn,vaa _ (zg_lt hn) (by rw[qi]; omega),qg,vaI,if_pos h3,qq]
 have hb:=Ya (n:=r.fB.length) (by omega);rw[if_neg (by omega),u64w (by omega),vaa _ (by omega) (by rw[qi]; omega),qg,xK (by simp only[qi]; omega),qg,vaI,if_neg (by omega)];simp only[qq]
theorem putAll_l11 : ∀ (q:List GRaw) (x:Int) (acc:List UInt8),(∀ r∈q,XK r)→acc.length≤4096→yg.l11 q x acc=some (if 4096<(acc++Yn q).length then ([],4) else (acc++Yn q,0))
 |[],x,acc,_,ha=>by
  rw[yg.l11,Yn,un,qz,if_neg (by omega)]
 |r::q,x,acc,h,ha=>by
  have hr:=h r (qo ..)
  rw[yg.l11,wire_Put_eq hr (by omega),qg]; dsimp only
  have e:acc++Yn (r::q)=(acc++vaI r)++Yn q:=by rw[Yn,qN,qq]; rfl
  rw[e]
  by_cases h1:4096<(acc++vaI r).length
  · rw[if_pos (by omega),if_pos (by rw[qi]; omega)]
  rw[if_neg (by omega),putAll_l11 q (x+1) _ (fun s hs=>h s (qm _ hs)) (by omega)]
theorem putAll_l4 (a:List GRaw):∀ (q:List GRaw) (x:Int),yg.l4 a q x=if q.all yp then yg.l11 a 0 [] else some ([],1)
 |[],x=>by rw[yg.l4]; rfl
 |r::q,x=>by
  rw[yg.l4,bnd,qV]
  by_cases h:yp r=true
  · rw[h,if_neg (by decide),putAll_l4 a q]; rfl
  rw[if_pos (by simpa using h),if_neg (by rw[qn]; exact fun hh=>h hh.1)]
theorem putAll_eq {l:List GRaw}(h:∀ r∈l,In64 r.fN):yg l=some (if l.all yp then (if 4096<(Yn l).length then ([],4) else (Yn l,0)) else ([],1)):=by
 rw[yg,putAll_l4]
 by_cases h1:l.all yp=true
 · rw[if_pos h1,if_pos h1,putAll_l11 l 0 [] (fun r hr=>⟨ue.1 h1 r hr,h r hr⟩) (by decide)]; rfl
 rw[if_neg h1,if_neg h1]
theorem Xp {b x post:List UInt8}{n:Nat}(h:b.drop n=x++post):b.drop (n+x.length)=post:=by
 rw[← u7,h,List.drop_left' rfl]
theorem Xo {b x post:List UInt8}{n:Nat}(hn:n≤b.length)(h:b.drop n=x++post):n+x.length+post.length=b.length:=by
 have:=congrArg qc h
 rw[uQ,qi] at this; omega
theorem one_ok {b post:List UInt8}{n:Nat}{r:GRaw}(hb:b.length≤4096)(hn:n≤b.length)(h:b.drop n=vaI r++post)(hr:XK r):wP b (n:Int)=some (r,((n+(vaI r).length:Nat):Int),0):=by
 obtain⟨hc,hN⟩:=hr;obtain⟨h1,h2,h3⟩:=ZH hc
 have k1:vbj r<2^64:=by unfold vbj; omega
 rw[vaI,qq] at h;have hl:=Xo hn h;unfold wP;rw[get_ok hb hn h k1,qg];have hk:vbj r=(2*r.fTag+r.fWire).toNat:=rfl
 have d1:((vbj r:Nat):Int).tdiv 2=r.fTag:=by rw[Int.tdiv_eq_ediv_of_nonneg (by omega),hk]; rcases h3 with h3|h3<;>omega
 have d2:((vbj r:Nat):Int).tmod 2=r.fWire:=by rw[Int.tmod_eq_emod_of_nonneg (by omega),hk]; rcases h3 with h3|h3<;>omega
 simp only[d1,d2];rw[if_pos trivial,if_neg (by rw[u64i (by omega) (by omega)]; simp only[qG,decide_eq_true_eq]; omega),u64i (x:=r.fTag) (by omega) (by omega),yu (x:=r.fTag) (by omega) (by omega),yu (x:=r.fWire) (by omega) (by omega)];have h':=Xp h
 rcases h3 with ⟨h3,h4⟩|⟨h3,h4,h5⟩
 · rw[if_pos h3] at h';rw[get_ok hb (by omega) h' (zg_lt hN),qg];simp only[];rw[if_pos trivial,if_pos h3,bnd,vbD (zg_lt hN),zu_zg,vaI,if_pos h3]
   have e:r=⟨r.fTag,r.fWire,r.fN,[]⟩:=by cases r; simp only at h4; subst h4; rfl
   rw[← e,qi,u5]
 rw[if_neg (by omega)] at h' hl;rw[qq] at h';have hl':=Xo (by omega) h';rw[qi] at hl';rw[get_ok hb (by omega) h' (show r.fB.length<2^64 by omega),qg];simp only[];have h'':=Xp h'
 have e1:IntKind.i64.wrap ((b.length:Int)-((n+(vb (vbj r)).length+(vb r.fB.length).length:Nat):Int))=((r.fB.length+post.length:Nat):Int):=by rw[yu (by omega) (by omega)]; omega
 have e2:IntKind.i64.wrap (r.fB.length:Int)=(r.fB.length:Int):=yu (by omega) (by omega)
 have e3:IntKind.i64.wrap (((n+(vb (vbj r)).length+(vb r.fB.length).length:Nat):Int)+(r.fB.length:Int))=((n+(vb (vbj r)).length+(vb r.fB.length).length+r.fB.length:Nat):Int):=by rw[yu (by omega) (by omega)]; omega
 rw[if_pos trivial,if_neg (by omega),e1,u64w (by omega),if_neg (by omega),e2,e3,Y2 (by omega),qg,Xa,qR,qR,h'',Nat.add_sub_cancel_left,List.take_left' rfl,vaI,if_neg (by omega),qi,qi]
 have e:r=⟨r.fTag,r.fWire,0,r.fB⟩:=by cases r; simp only at h4; subst h4; rfl
 rw[← e,show n+(vb (vbj r)).length+(vb r.fB.length).length+r.fB.length=n+((vb (vbj r)).length+((vb r.fB.length).length+r.fB.length)) by omega]
theorem one_inv {b:List UInt8}{n:Nat}(hb:b.length≤4096)(hn:n≤b.length):∃ r,wP b (n:Int)=some r∧
 (r.2.2=0→∃ x post,b.drop n=vaI x++post∧XK x∧r=(x,((n+(vaI x).length:Nat):Int),0))∧0≤r.2.2:=by
 obtain⟨r1,e1,i1,p1⟩:=get_inv hb hn
 by_cases z1:r1.2.2=0
 · obtain⟨v,post,hd,hv,rfl⟩:=i1 z1;have hl:=Xo hn hd;have hd':=Xp hd
   by_cases c1:(decide ((v:Int)<2)||decide ((500:Int)<IntKind.u64.wrap ((v:Int).tdiv 2)))=true
   · refine⟨_,by unfold wP; rw[e1,qg,if_pos rfl,if_pos c1],?_,by decide⟩
     intro h; exact absurd h (by decide)
   have c1':=c1;simp only[qG,decide_eq_true_eq,not_or] at c1;obtain⟨c2,c3⟩:=c1
   have d1:(v:Int).tdiv 2=((v / 2:Nat):Int):=by rw[Int.tdiv_eq_ediv_of_nonneg (by omega)]; omega
   have d2:(v:Int).tmod 2=((v % 2:Nat):Int):=by rw[Int.tmod_eq_emod_of_nonneg (by omega)]; omega
   rw[d1,u64w (by omega)] at c3;obtain⟨r2,e2,i2,p2⟩:=get_inv hb (n:=n+(vb v).length) (by omega)
   by_cases z2:r2.2.2=0
   · obtain⟨w,post2,hd2,hw,rfl⟩:=i2 z2;have hl2:=Xo (by omega) hd2
     by_cases c4:v % 2=0
     · have ok:XK ⟨((v / 2:Nat):Int),0,zu w,[]⟩:=⟨check_num (by omega) (by omega),zu_in hw⟩
       have hkey:vbj ⟨((v / 2:Nat):Int),0,zu w,[]⟩=v:=by unfold vbj; simp only[]; omega
       have hdr:b.drop n=vaI ⟨((v / 2:Nat):Int),0,zu w,[]⟩++post2:=by
        rw[vaI,hkey,if_pos rfl]; simp only[zg_zu]; rw[hd,← hd',hd2,qq]
       refine⟨_,one_ok hb hn hdr ok,?_,u6 0⟩
       intro _; exact⟨_,_,hdr,ok,rfl⟩
     have c5:v % 2=1:=by omega
     by_cases c6:w≤post2.length
     · have ok:XK ⟨((v / 2:Nat):Int),1,0,post2.take w⟩:=⟨va1 (by omega) (by omega) (by rw[uL]; omega),(show In64 0 from ⟨by decide,by decide⟩)⟩
       have hkey:vbj ⟨((v / 2:Nat):Int),1,0,post2.take w⟩=v:=by unfold vbj; simp only[]; omega
       have hdr:b.drop n=vaI ⟨((v / 2:Nat):Int),1,0,post2.take w⟩++post2.drop w:=by
        rw[vaI,hkey,if_neg (show ¬ (1:Int)=0 by decide)];simp only[uL,Nat.min_eq_left c6];rw[hd,← hd',hd2,qq,qq,ut]
       refine⟨_,one_ok hb hn hdr ok,?_,u6 0⟩
       intro _; exact⟨_,_,hdr,ok,rfl⟩
     have e3:IntKind.i64.wrap ((b.length:Int)-((n+(vb v).length+(vb w).length:Nat):Int))=((post2.length:Nat):Int):=by rw[yu (by omega) (by omega)]; omega
     refine⟨_,by unfold wP; rw[e1,qg,if_pos rfl,if_neg c1',e2,qg,if_pos rfl,d2,if_neg (by rw[yu (by omega) (by omega)]; omega),e3,u64w (by omega),if_pos (by omega)],?_,by decide⟩
     intro h; exact absurd h (by decide)
   refine⟨_,by unfold wP; rw[e1,qg,if_pos rfl,if_neg c1',e2,qg,if_neg z2],?_,p2⟩
   intro h; exact absurd h z2
 refine⟨_,by unfold wP; rw[e1,qg,if_neg z1],?_,p1⟩
 intro h; exact absurd h z1
theorem rawsB_cons (r:GRaw)(l:List GRaw):Yn (r::l)=vaI r++Yn l:=by rw[Yn,qN]; rfl
theorem get_l_inv {b:List UInt8}(hb:b.length≤4096):∀ (k n:Nat) (acc:List GRaw),n≤b.length→2*acc.length≤n→b.length<k+n→
 ∃ r,xG.l12 b k acc (n:Int)=some r∧(r.2=0→∃ l,b.drop n=Yn l∧(∀ r∈l,XK r)∧r=(acc++l,0))∧0≤r.2∧(r.2≠0→r.1=[])
 |0,n,acc,hn,_,hk=>by omega
 |k+1,n,acc,hn,ha,hk=>by
  by_cases h:n<b.length
  · obtain⟨r1,e1,i1,p1⟩:=one_inv hb hn
    by_cases z1:r1.2.2=0
    · obtain⟨x,post,hd,ok,rfl⟩:=i1 z1;have hl:=Xo hn hd;have h2:=rawB_pos x;obtain⟨r2,e2,i2,p2⟩:=get_l_inv hb k (n+(vaI x).length) (acc++[x]) (by omega) (by rw[qi,qC]; omega) (by omega);refine⟨r2,by rw[xG.l12,if_pos (by omega),e1,qg,if_pos rfl,xK (by omega),qg]; exact e2,?_,p2⟩
      intro hz
      obtain⟨l,hd2,hok,rfl⟩:=i2 hz;refine⟨x::l,?_,?_,by rw[qq]; rfl⟩
      · rw[rawsB_cons,hd,← hd2,Xp hd]
      intro s hs
      rcases qA.1 hs with rfl|hs
      · exact ok
      exact hok s hs
    refine⟨_,by rw[xG.l12,if_pos (by omega),e1,qg,if_neg z1],fun h=>absurd h z1,p1,fun _=>rfl⟩
  refine⟨_,by rw[xG.l12,if_neg (by omega)],fun _=>⟨[],?_,(fun r hr=>by cases hr),by rw[qz]⟩,u6 0,fun h=>absurd rfl h⟩
  rw[List.drop_eq_nil_of_le (by omega)]; rfl
theorem get_rounds : 4097≤rounds:=by decide
theorem va4 (b:List UInt8):∃ r,xG b=some r∧(r.2=0→b=Yn r.1∧b.length≤4096∧∀ x∈r.1,XK x)∧0≤r.2∧(r.2≠0→r.1=[]):=by
 by_cases hb:b.length≤4096
 · obtain⟨r,e,i,p,q⟩:=get_l_inv hb rounds 0 [] (uq _) (qu _) (by have:=get_rounds; omega);refine⟨r,by rw[xG,if_neg (by omega)]; exact e,?_,p,q⟩
   intro hz
   obtain⟨l,hd,ok,rfl⟩:=i hz;exact⟨hd,hb,ok⟩
 refine⟨_,by rw[xG,if_pos (by omega)],fun h=>absurd h (by decide),by decide,fun _=>rfl⟩
end
section
set_option maxRecDepth 4000
open AM
def vb6 (r:GRaw):List GRaw→List GRaw
 |[]=>[r]
 |x::l=>if r.fTag<x.fTag then r::x::l else x::vb6 r l
def srtA : List GRaw→List GRaw→List GRaw
 |[],S=>S
 |r::q,S=>srtA q (vb6 r S)
def srt (l:List GRaw):List GRaw:=srtA l []
def TagLe (a b:GRaw):Prop:=a.fTag≤b.fTag
theorem insR_app {r:GRaw}:∀ {A B:List GRaw},(∀ a∈A,a.fTag≤r.fTag)→(∀ b∈B,r.fTag<b.fTag)→vb6 r (A++B)=A++r::B
 |[],[],_,_=>rfl
 |[],b::B,_,hB=>by
  rw[qw,vb6,if_pos (hB b (qo ..))]; rfl
 |a::A,B,hA,hB=>by
  rw[qD,vb6,if_neg (by have:=hA a (qo ..); omega),insR_app (fun x hx=>hA x (qm _ hx)) hB]; rfl
theorem insR_mem {r x:GRaw}:∀ {l:List GRaw},x∈vb6 r l↔x=r∨x∈l
 |[]=>by simp[vb6]
 |y::l=>by
  rw[vb6]; split
  · simp
  rw[qA,insR_mem,qA]
  constructor
  · rintro (h|h|h)
    · exact Or.inr (Or.inl h)
    · exact Or.inl h
    exact Or.inr (Or.inr h)
  rintro (h|h|h)
  · exact Or.inr (Or.inl h)
  · exact Or.inl h
  exact Or.inr (Or.inr h)
theorem vau (r:GRaw):∀ l:List GRaw,(vb6 r l).length=l.length+1
 |[]=>rfl
 |x::l=>by
  rw[vb6]; split
  · rfl
  rw[qj,vau r l,qj]
theorem Yv {r:GRaw}:∀ {l:List GRaw},l.Pairwise TagLe→(vb6 r l).Pairwise TagLe
 |[],_=>by simp[vb6]
 |x::l,h=>by
  rw[uv] at h
  rw[vb6]; split
  · rename_i hlt
    rw[uv,uv];refine⟨?_,h⟩
    intro y hy
    rcases qA.1 hy with rfl|hy
    · unfold TagLe; omega
    have:=h.1 y hy; unfold TagLe at *; omega
  rename_i hge
  rw[uv];refine⟨?_,Yv h.2⟩
  intro y hy
  rcases insR_mem.1 hy with rfl|hy
  · unfold TagLe; omega
  exact h.1 y hy
theorem vb5 {r:GRaw}(t:Int):∀ {l:List GRaw},l.Pairwise TagLe→(vb6 r l).filter (fun x=>x.fTag=t)=l.filter (fun x=>x.fTag=t)++(if r.fTag=t then [r] else [])
 |[],_=>by rw[vb6,List.filter_nil,qw,uF,List.filter_nil]; simp only[decide_eq_true_eq]
 |x::l,h=>by
  rw[uv] at h
  rw[vb6]; split
  · rename_i hlt
    rw[uF]
    by_cases hr:r.fTag=t
    · have hn:(x::l).filter (fun x=>x.fTag=t)=[]:=by
       rw[List.filter_eq_nil_iff]
       intro y hy
       simp only[decide_eq_true_eq]
       rcases qA.1 hy with rfl|hy
       · omega
       have:=h.1 y hy; unfold TagLe at this; omega
      rw[hn,if_pos (by simpa using hr),if_pos hr]; rfl
    rw[if_neg (by simpa using hr),if_neg hr,qz]
  rw[uF,uF,vb5 t h.2]
  split<;>rfl
theorem vbL : ∀ {l S:List GRaw},S.Pairwise TagLe→(srtA l S).Pairwise TagLe
 |[],_,h=>h
 |r::l,S,h=>by rw[srtA]; exact vbL (l:=l) (Yv h)
theorem srt_sorted (l:List GRaw):(srt l).Pairwise TagLe:=vbL List.Pairwise.nil
theorem srtA_len : ∀ (l S:List GRaw),(srtA l S).length=S.length+l.length
 |[],_=>rfl
 |r::l,S=>by rw[srtA,srtA_len,vau,qj]; omega
theorem srt_len (l:List GRaw):(srt l).length=l.length:=by rw[srt,srtA_len,ql,qs]
theorem srtA_mem {x:GRaw}:∀ {l S:List GRaw},x∈srtA l S↔x∈S∨x∈l
 |[],S=>by simp[srtA]
 |r::l,S=>by
  rw[srtA,srtA_mem,insR_mem,qA]
  constructor
  · rintro ((h|h)|h)
    · exact Or.inr (Or.inl h)
    · exact Or.inl h
    exact Or.inr (Or.inr h)
  rintro (h|h|h)
  · exact Or.inl (Or.inr h)
  · exact Or.inl (Or.inl h)
  exact Or.inr h
theorem srt_mem {x:GRaw}{l:List GRaw}:x∈srt l↔x∈l:=by rw[srt,srtA_mem]; simp
theorem vbM (t:Int):∀ {l S:List GRaw},S.Pairwise TagLe→(srtA l S).filter (fun x=>x.fTag=t)=S.filter (fun x=>x.fTag=t)++l.filter (fun x=>x.fTag=t)
 |[],S,_=>by rw[srtA,List.filter_nil,qz]
 |r::l,S,h=>by
  rw[srtA,vbM t (Yv h),vb5 t h,uF,qq]
  congr 1
  simp only[decide_eq_true_eq]
  split<;>rfl
theorem srt_filter (l:List GRaw)(t:Int):(srt l).filter (fun x=>x.fTag=t)=l.filter (fun x=>x.fTag=t):=by
 rw[srt,vbM t List.Pairwise.nil]; rfl
theorem sorted_ext : ∀ {l m:List GRaw},l.Pairwise TagLe→m.Pairwise TagLe→(∀ t:Int,l.filter (fun x=>x.fTag=t)=m.filter (fun x=>x.fTag=t))→l=m
 |[],[],_,_,_=>rfl
 |[],y::m,_,_,h=>by
  have:=h y.fTag
  rw[List.filter_nil,uF,if_pos (by simp)] at this; cases this
 |x::l,[],_,_,h=>by
  have:=h x.fTag
  rw[List.filter_nil,uF,if_pos (by simp)] at this; cases this
 |x::l,y::m,hl,hm,h=>by
  rw[uv] at hl hm
  have hxy:x.fTag=y.fTag:=by
   have h1:x∈(y::m).filter (fun z=>z.fTag=x.fTag):=by rw[← h,uF,if_pos (by simp)]; exact qo ..
   have h2:y∈(x::l).filter (fun z=>z.fTag=y.fTag):=by rw[h,uF,if_pos (by simp)]; exact qo ..
   have a1:y.fTag≤x.fTag:=by
    rcases qA.1 (List.mem_filter.1 h1).1 with e|h1
    · rw[e]; exact u6 _
    exact hm.1 x h1
   have a2:x.fTag≤y.fTag:=by
    rcases qA.1 (List.mem_filter.1 h2).1 with e|h2
    · rw[e]; exact u6 _
    exact hl.1 y h2
   omega
  have e:x=y:=by
   have:=h x.fTag;rw[uF,uF,if_pos (by simp),if_pos (by simp[hxy])] at this
   injection this
  subst e
  congr 1
  refine sorted_ext hl.2 hm.2 fun t=>?_
  have:=h t;rw[uF,uF] at this
  split at this
  · injection this
  exact this
theorem srt_of {l m:List GRaw}(hm:m.Pairwise TagLe)(h:∀ t:Int,l.filter (fun x=>x.fTag=t)=m.filter (fun x=>x.fTag=t)):srt l=m:=
 sorted_ext (srt_sorted l) hm fun t=>by rw[srt_filter,h]
theorem Yx {α:Type}{A B:List α}{x:α}{i:Int}(h:i=A.length):Zt (A++x::B) i=some x:=by
 subst h
 rw[Zt,if_pos (by omega),qR,um (qu _),uN]; rfl
theorem idx_t {α:Type}{l:List α}{i:Int}{x:α}(h0:0≤i)(h:l[i.toNat]?=some x):Zt l i=some x:=by rw[Zt,if_pos h0,h]
theorem sorted_l17 {r z:GRaw}{S P:List GRaw}(rec8:Int→List GRaw→Option (List GRaw)):∀ (k:Nat) (A B:List GRaw),S=A++B→(∀ b∈B,r.fTag<b.fTag)→A.Pairwise TagLe→A.length<k→S.length<1000000→
 zM.l17 (S.length:Int) (S++z::P) rec8 r k (A.length:Int)=rec8 ((S.length:Int)+1) (vb6 r S++P)
 |0,_,_,_,_,_,h,_=>by omega
 |k+1,A,B,hS,hB,hA,hk,hn=>by
  have stop:(∀ a∈A,a.fTag≤r.fTag)→zM.j20 (S.length:Int) (S++z::P) rec8 r (A.length:Int) (zM.l17 (S.length:Int) (S++z::P) rec8 r k) false=rec8 ((S.length:Int)+1) (vb6 r S++P):=by
   intro hle
   have hl:S.length=A.length+B.length:=by rw[hS,qi]
   have e1:IntKind.i64.wrap ((A.length:Int)+1)=((A.length+1:Nat):Int):=by rw[yu (by omega) (by omega)]; omega
   rw[zM.j20,if_neg (by decide),e1,Y2 (by rw[qi,qj]; omega),qg,Y2 (by rw[qi,qj]; omega),qg]
   have e2:qB ((S.length:Int)+1)=S.length+1:=by omega
   rw[qR,qR,qR,e2,show min (S.length-A.length) (S.length+1-(A.length+1))=B.length by omega]
   have hc:∃ w:GRaw,A.length<(S++z::P).length∧X0 (S++z::P) (A.length+1) A.length B.length=A++w::(B++P):=by
    cases hB':B with
    |nil=>
     subst hB';rw[qz] at hS;refine⟨z,by rw[hS,qi,qj]; omega,?_⟩;rw[X0,hS,ql,List.take_zero,qw,uV,List.drop_append,List.drop_eq_nil_of_le (by omega),List.take_append,ul (by omega)];rw[show A.length+1-A.length=1 by omega]
     simp
    |cons b B'=>
     refine⟨b,by rw[hS,hB',qi,qi,qj]; omega,?_⟩;rw[hS,hB',X0]
     have t1:((A++b::B')++z::P).take (A.length+1)=A++[b]:=by
      rw[qq,List.take_append,ul (by omega),show A.length+1-A.length=1 by omega]; rfl
     have t2:(((A++b::B')++z::P).drop A.length).take (b::B').length=b::B':=by
      rw[qq,List.drop_left' rfl,List.take_left' rfl]
     have t3:((A++b::B')++z::P).drop (A.length+1+(b::B').length)=P:=by
      rw[show (A++b::B')++z::P=((A++b::B')++[z])++P by rw[qq (A++b::B')]; rfl];rw[List.drop_left']
      simp only[qi,qj,ql]; omega
     rw[t1,t2,t3];simp only[qq,qD,qw]
   obtain⟨w,hlt,hc⟩:=hc
   rw[hc,Yx rfl,qg,setI,qR,List.set_append_right _ _ (qu _),uN,uk,hS,insR_app hle hB,qq]; rfl
  rcases List.eq_nil_or_concat A with rfl|⟨A',a,rfl⟩
  · rw[zM.l17,if_neg (by simp)];exact stop (fun a ha=>by cases ha)
  rw[List.concat_eq_append] at *
  have hlA:(A'++[a]).length=A'.length+1:=by rw[qi,qC]
  have hlS:S.length=(A'++[a]).length+B.length:=by rw[hS,qi]
  have e1:IntKind.i64.wrap (((A'++[a]).length:Int)-1)=(A'.length:Int):=by
   rw[yu (by omega) (by omega)]; omega
  rw[zM.l17,if_pos (by omega),e1]
  have ei:Zt (S++z::P) (A'.length:Int)=some a:=by
   rw[hS,qq,qq]; exact Yx rfl
  rw[ei,qg]
  by_cases hgt:r.fTag<a.fTag
  · rw[decide_eq_true hgt,zM.j20,if_pos rfl,e1];refine sorted_l17 rec8 k A' (a::B) (by rw[hS,qq]; rfl) ?_ (List.pairwise_append.1 hA).1 (by omega) hn
    intro b hb
    rcases qA.1 hb with rfl|hb
    · exact hgt
    exact hB b hb
  rw[decide_eq_false hgt];refine stop ?_
  intro x hx
  rcases uh.1 hx with hx|hx
  · have:=(List.pairwise_append.1 hA).2.2 x hx a (uw.2 rfl)
    unfold TagLe at this; omega
  rw[uw] at hx; subst hx; omega
theorem sorted_l8 : ∀ (q S P:List GRaw),P.length=q.length→S.Pairwise TagLe→S.length+q.length<1000000→zM.l8 q (S.length:Int) (S++P)=some (srtA q S)
 |[],S,P,hP,_,_=>by
  have:P=[]:=qF.1 (by simpa using hP);subst this;rw[zM.l8,srtA,qz]
 |r::q,S,[],hP,_,_=>by cases hP
 |r::q,S,z::P,hP,hS,hn=>by
  rw[qj] at hn;rw[zM.l8,sorted_l17 (S:=S) (zM.l8 q) rounds S [] (qz S).symm (fun b hb=>by cases hb) hS (uj (show S.length<1000000 by omega) (by decide)) (by omega)]
  have e:(S.length:Int)+1=((vb6 r S).length:Int):=by rw[vau]; omega
  rw[e,sorted_l8 q (vb6 r S) P (by simpa using hP) (Yv hS) (by rw[vau]; omega),srtA]
theorem sorted_eq {l:List GRaw}(h:l.length<1000000):zM l=some (srt l):=by
 rw[zM,Y2 (by omega),qg,qR];exact sorted_l8 l [] _ List.length_replicate List.Pairwise.nil (by rw[ql]; omega)
end
section
set_option maxRecDepth 4000
open AM
theorem YH (s:List UInt8)(p:Nat):1≤(YO s p).2:=by
 unfold YO Utf8.decode
 dsimp only
 repeat' split
 all_goals first|exact qu 1|exact (by decide:1≤2)|exact (by decide:1≤3)|exact (by decide:1≤4)
theorem runesNext_t (a:List UInt8)(n:Nat)(h:a.length≤9223372036854775807):∃ r,ww a (n:Int)=some r:=by
 unfold ww
 split
 · exact⟨_,rfl⟩
 rename_i h1
 simp only[qG,decide_eq_true_eq,not_or] at h1;rw[Y2 (by omega),qg,bnd]
 split<;>exact⟨_,rfl⟩
theorem va6 (a:List UInt8)(h:a.length≤9223372036854775807):∀ (k p:Nat),0<k→a.length<p+k→∃ v,yC.l4 a k p=some v
 |0,p,h0,hk=>by omega
 |k+1,p,_,hk=>by
  have hd:=YH a p;rw[yC.l4]
  split
  · have ih:=va6 a h k (p+(YO a p).2) (by omega) (by omega)
    split
    · obtain⟨r,e⟩:=runesNext_t a p h;rw[e,qg]
      split
      · exact⟨_,rfl⟩
      exact ih
    exact ih
  exact⟨_,rfl⟩
theorem yF : 9223372036854775808≤rounds:=by decide
def vbP (b:List UInt8):Bool:=(yC b).getD false
theorem runesV_eq {a:List UInt8}(h:a.length≤9223372036854775807):yC a=some (vbP a):=by
 obtain⟨v,e⟩:=va6 a h rounds 0 (by have:=yF; omega) (by have:=yF; omega);unfold vbP
 rw[show yC a=some v from e]; rfl
theorem ge_tag (t:Int)(l:List GTree):(GEntry.mk t l).fTag=t:=rfl
theorem Yq (t:Int)(l:List GTree):(GEntry.mk t l).fTrees=l:=rfl
def Xr (a b:GEntry):Prop:=a.fTag<b.fTag
def vaJ (t:Int)(rep:Prop) [Decidable rep](x:GTree):List GEntry→List GEntry
 |[]=>[⟨t,[x]⟩]
 |e::l=>if e.fTag<t then e::vaJ t rep x l else if e.fTag=t then ⟨t,(if rep then e.fTrees else [])++[x]⟩::l else ⟨t,[x]⟩::e::l
def putN (t:Int)(rep:Prop) [Decidable rep]:List GEntry→Nat
 |[]=>1
 |e::l=>if e.fTag<t then putN t rep l else if e.fTag=t then (if rep then e.fTrees.length else 0)+1 else 1
theorem putE_app {t:Int}{rep:Prop} [Decidable rep]{x:GTree}{B:List GEntry}:∀ {A:List GEntry},(∀ a∈A,a.fTag<t)→vaJ t rep x (A++B)=A++vaJ t rep x B
 |[],_=>rfl
 |a::A,h=>by
  rw[qD,vaJ,if_pos (h a (qo ..)),putE_app fun b hb=>h b (qm _ hb)]; rfl
theorem putN_app {t:Int}{rep:Prop} [Decidable rep]{B:List GEntry}:∀ {A:List GEntry},(∀ a∈A,a.fTag<t)→putN t rep (A++B)=putN t rep B
 |[],_=>rfl
 |a::A,h=>by
  rw[qD,putN,if_pos (h a (qo ..)),putN_app fun b hb=>h b (qm _ hb)]
theorem splitE (t:Int):∀ {es:List GEntry},es.Pairwise Xr→∃ A B,es=A++B∧(∀ a∈A,a.fTag<t)∧(∀ b∈B,t≤b.fTag)
 |[],_=>⟨[],[],rfl,(fun _ h=>by cases h),(fun _ h=>by cases h)⟩
 |e::es,h=>by
  rw[uv] at h
  by_cases he:e.fTag<t
  · obtain⟨A,B,rfl,hA,hB⟩:=splitE t h.2;refine⟨e::A,B,rfl,?_,hB⟩
    intro a ha
    rcases qA.1 ha with rfl|ha
    · exact he
    exact hA a ha
  refine⟨[],e::es,rfl,(fun _ h=>by cases h),?_⟩
  intro b hb
  rcases qA.1 hb with rfl|hb
  · omega
  have:=h.1 b hb; unfold Xr at this; omega
theorem put1_eq {e:GEntry}{t:Int}(h1:1≤e.fTag∧e.fTag≤500)(h2:1≤t∧t≤500):xW e t=e.fTag-t:=by
 unfold xW; exact yu (by omega) (by omega)
theorem half {x y:Nat}(h:x+y<9223372036854775808):IntKind.i64.wrap (Int.fdiv (IntKind.u64.wrap (IntKind.i64.wrap ((x:Int)+(y:Int)))) (2^(min (qB 1) 64)))=(((x+y) / 2:Nat):Int):=by
 rw[yu (x:=(x:Int)+y) (by omega) (by omega),u64i (by omega) (by omega),show min (qB 1) 64=1 from rfl,Int.fdiv_eq_ediv_of_nonneg _ (by decide),yu (by omega) (by omega)]
 omega
def Y1 (t:Int):List GEntry→Bool
 |[]=>false
 |b::_=>decide (b.fTag=t)
theorem bs_l {t:Int}{A B:List GEntry}(ht:1≤t∧t≤500)(hA:∀ a∈A,a.fTag<t)(hB:∀ b∈B,t≤b.fTag)(hr:∀ e∈A++B,1≤e.fTag∧e.fTag≤500)(hn:(A++B).length<4611686018427387904):
 ∀ (k x y:Nat),x≤A.length→A.length≤y→y≤(A++B).length→y<x+k→zl.l6 (A++B) t k (x:Int) (y:Int)=some ((A.length:Int),Y1 t B)
 |0,x,y,_,_,_,hk=>by omega
 |k+1,x,y,hx,hy,hl,hk=>by
  rw[zl.l6]
  by_cases hlt:x<y
  · rw[if_pos (by omega),half (by omega)]
    have hm:(x+y) / 2<(A++B).length:=by omega
    rw[idx_t (by omega) (show (A++B)[qB (((x+y) / 2:Nat):Int)]?=some ((A++B)[(x+y) / 2]'hm) by rw[qR]; exact qW hm),qg,bnd,put1_eq (hr _ (List.getElem_mem hm)) ht]
    by_cases hc:(x+y) / 2<A.length
    · have e:(A++B)[(x+y) / 2]'hm=A[(x+y) / 2]'hc:=List.getElem_append_left hc;have:=hA _ (List.getElem_mem hc);rw[e,if_pos (by omega),yu (by omega) (by omega),show (((x+y) / 2:Nat):Int)+1=(((x+y) / 2+1:Nat):Int) by omega];exact bs_l ht hA hB hr hn k _ y (by omega) hy hl (by omega)
    have hlB:(x+y) / 2-A.length<B.length:=by rw[qi] at hm; omega
    have e:(A++B)[(x+y) / 2]'hm=B[(x+y) / 2-A.length]'hlB:=List.getElem_append_right (by omega);have:=hB _ (List.getElem_mem hlB);rw[e,if_neg (by omega)];exact bs_l ht hA hB hr hn k x _ hx (by omega) (by omega) (by omega)
  have e:x=A.length:=by omega
  subst e;rw[if_neg (by omega)]
  cases B with
  |nil=>rw[qz,if_neg (by omega)]; rfl
  |cons b B=>
   rw[if_pos (by rw[qi,qj]; omega),Yx rfl,qg,bnd,put1_eq (hr b (q1 _ (qo ..))) ht,qg,Y1]
   congr 2
   exact decide_eq_decide.2 (by omega)
theorem decode_put_eq {es:List GEntry}{f:GField}{x:GTree}(hs:es.Pairwise Xr)(hr:∀ e∈es,1≤e.fTag∧e.fTag≤500)(hf:1≤f.fTag∧f.fTag≤500)(hn:es.length<1000000)(ht:∀ e∈es,e.fTrees.length<1000000):
 Y5 es f x=some (vaJ f.fTag (f.fLabel=3) x es,decide (putN f.fTag (f.fLabel=3) es≤64)):=by
 obtain⟨A,B,rfl,hA,hB⟩:=splitE f.fTag hs;have hln:(A++B).length=A.length+B.length:=qi;have bs:zl (A++B) f.fTag=some ((A.length:Int),Y1 f.fTag B):=bs_l hf hA hB hr (by omega) rounds 0 (A++B).length (uq _) (by omega) (qu _) (by have:=yF; omega);rw[Y5,bs,qg,putE_app hA,putN_app hA]
 have ins:∀ (B:List GEntry),(A++B).length<1000000→Y1 f.fTag B=false→(∀ b∈B,f.fTag≤b.fTag)→((if ((A.length:Int),Y1 f.fTag B).2=true then some (A++B) else (grd (0≤((A.length:Int),Y1 f.fTag B).1∧((A.length:Int),Y1 f.fTag B).1≤((A++B).length:Int))).bind fun _=>(Yk ((A++B).length+1) 32).bind fun _=>some ((A++B).take ((A.length:Int),Y1 f.fTag B).1.toNat++⟨f.fTag,[]⟩::(A++B).drop ((A.length:Int),Y1 f.fTag B).1.toNat)).bind fun es1=>
  (Zt es1 ((A.length:Int),Y1 f.fTag B).1).bind fun e=>
  (Yk ((if f.fLabel=3 then e.fTrees.length else 0)+1) 80).bind fun _=>
  some (es1.set ((A.length:Int),Y1 f.fTag B).1.toNat ⟨e.fTag,(if f.fLabel=3 then e.fTrees else [])++[x]⟩,decide ((((if f.fLabel=3 then e.fTrees else [])++[x]).length:Int)≤64)))=some (A++⟨f.fTag,[x]⟩::B,true):=by
  intro B hln hh _
  have hl2:(A++B).length=A.length+B.length:=qi;rw[hh];simp only[qR];rw[if_neg (by decide),Y2 (by omega),qg,xK (by omega),qg,qg,List.take_left' rfl,List.drop_left' rfl,Yx rfl,qg,xK (by rw[Yq]; split<;>decide),qg,List.set_append_right _ _ (qu _),uN,uk]
  simp only[ge_tag,Yq,ite_self,qw,qC]; rfl
 cases B with
 |nil=>
  rw[ins [] hn rfl (fun _ h=>by cases h)]; rfl
 |cons b B=>
  have hb:=hB b (qo ..)
  by_cases hbt:b.fTag=f.fTag
  · have hh:Y1 f.fTag (b::B)=true:=decide_eq_true hbt;have htb:=ht b (q1 _ (qo ..));rw[hh];simp only[qR];rw[if_pos trivial,qg,Yx rfl,qg,xK (by split<;>omega),qg,List.set_append_right _ _ (qu _),uN,uk,vaJ,if_neg (show ¬ b.fTag<f.fTag by omega),if_pos hbt,putN,if_neg (show ¬ b.fTag<f.fTag by omega),if_pos hbt,hbt]
    congr 2
    refine decide_eq_decide.2 ?_;rw[qi,qC]
    by_cases h3:f.fLabel=3
    · rw[if_pos h3,if_pos h3]; omega
    rw[if_neg h3,if_neg h3,ql]; omega
  have hh:Y1 f.fTag (b::B)=false:=decide_eq_false hbt
  rw[ins (b::B) hn hh hB,vaJ,if_neg (by omega),if_neg hbt,putN,if_neg (by omega),if_neg hbt]; rfl
theorem putE_mem {t:Int}{rep:Prop} [Decidable rep]{x:GTree}{e:GEntry}:∀ {es:List GEntry},e∈vaJ t rep x es→e∈es∨e.fTag=t
 |[],h=>by rw[vaJ,uw] at h; subst h; exact Or.inr rfl
 |a::es,h=>by
  rw[vaJ] at h; split at h
  · rcases qA.1 h with rfl|h
    · exact Or.inl (qo ..)
    rcases putE_mem h with h|h
    · exact Or.inl (qm _ h)
    exact Or.inr h
  split at h
  · rcases qA.1 h with rfl|h
    · exact Or.inr rfl
    exact Or.inl (qm _ h)
  rcases qA.1 h with rfl|h
  · exact Or.inr rfl
  exact Or.inl h
theorem vad {t:Int}{rep:Prop} [Decidable rep]{x:GTree}:∀ {es:List GEntry},es.Pairwise Xr→(vaJ t rep x es).Pairwise Xr
 |[],_=>by simp[vaJ]
 |a::es,h=>by
  rw[uv] at h
  rw[vaJ]; split
  · rename_i hlt
    rw[uv];refine⟨?_,vad h.2⟩
    intro b hb
    rcases putE_mem hb with hb|hb
    · exact h.1 b hb
    unfold Xr; omega
  split
  · rename_i hge heq
    rw[uv];refine⟨?_,h.2⟩
    intro b hb
    have:=h.1 b hb; unfold Xr at *; simp only[ge_tag]; omega
  rename_i hge hne
  rw[uv,uv];refine⟨?_,h⟩
  intro b hb
  rcases qA.1 hb with rfl|hb
  · unfold Xr; simp only[ge_tag]; omega
  have:=h.1 b hb; unfold Xr at *; simp only[ge_tag]; omega
theorem putE_len {t:Int}{rep:Prop} [Decidable rep]{x:GTree}:∀ {es:List GEntry},(vaJ t rep x es).length≤es.length+1
 |[]=>by rw[vaJ]; exact qu _
 |a::es=>by
  rw[vaJ]; split
  · rw[qj,qj]; have:=putE_len (t:=t) (rep:=rep) (x:=x) (es:=es); omega
  split<;>simp only[qj]<;>omega
theorem putE_all {t:Int}{rep:Prop} [Decidable rep]{x:GTree}{e:GEntry}:∀ {es:List GEntry},e∈vaJ t rep x es→e∈es∨(e.fTag=t∧e.fTrees.length=putN t rep es∧e.fTrees≠[])
 |[],h=>by rw[vaJ,uw] at h; subst h; exact Or.inr ⟨rfl,rfl,by rw[Yq]; simp⟩
 |a::es,h=>by
  rw[vaJ] at h; rw[putN]; split at h
  · rename_i hlt
    rw[if_pos hlt]
    rcases qA.1 h with rfl|h
    · exact Or.inl (qo ..)
    rcases putE_all h with h|h
    · exact Or.inl (qm _ h)
    exact Or.inr h
  rename_i hlt
  rw[if_neg hlt]
  split at h
  · rename_i heq
    rw[if_pos heq]
    rcases qA.1 h with rfl|h
    · refine Or.inr ⟨rfl,?_,by rw[Yq]; simp⟩
      simp only[Yq,qi,qC]; split<;>rfl
    exact Or.inl (qm _ h)
  rename_i hne
  rw[if_neg hne]
  rcases qA.1 h with rfl|h
  · exact Or.inr ⟨rfl,rfl,by rw[Yq]; simp⟩
  exact Or.inl h
def zTree : GTree:=⟨0,0,[],[],[]⟩
def isZ (m:GMessage)(e:GEntry):Bool:=decide ((zw m e.fTag).1.fLabel=1)&&Zd (e.fTrees.headD zTree)
def zdel (m:GMessage)(es:List GEntry):List GEntry:=es.filter fun e => !isZ m e
theorem vaE {m:GMessage}:∀ {es:List GEntry},(∀ e∈es,e.fTrees≠[])→wU m es=some (zdel m es)
 |[],_=>rfl
 |e::es,h=>by
  have he:=h e (qo ..);rw[wU,xr,bnd]
  have e1:(if (zw m e.fTag).1.fLabel=1 then (Zt e.fTrees 0).bind fun y2=>bnd (Zd y2) fun r5=>some r5 else some false)=some (isZ m e):=by
   unfold isZ
   split
   · rename_i hl
     cases ht:e.fTrees with
     |nil=>exact absurd ht he
     |cons a l=>
      rw[idx_t (u6 0) (show (a::l)[qB 0]?=some a from rfl),qg,bnd,hl]; rfl
   rename_i hl
   rw[decide_eq_false hl,Bool.false_and]
  rw[e1,qg,qg,vaE fun a ha=>h a (qm _ ha),qg]
  unfold zdel; rw[uF]
  cases isZ m e<;>rfl
def fldD (m:GMessage)(one:GType→GRaw→GTree×Int):List GRaw→List GEntry→List GRaw→GTree×Int
 |[],es,rest=>(⟨3,0,[],zdel m es,srt rest⟩,0)
 |r::q,es,rest=>
  if (zw m r.fTag).2=true then
   (if (one (zw m r.fTag).1.fType r).2=0 then
    (if putN r.fTag ((zw m r.fTag).1.fLabel=3) es≤64 then fldD m one q (vaJ r.fTag ((zw m r.fTag).1.fLabel=3) (one (zw m r.fTag).1.fType r).1 es) rest else (zTree,4))
   else (zTree,(one (zw m r.fTag).1.fType r).2))
  else fldD m one q es (rest++[r])
theorem YN {m:GMessage}{t:Int}(h:(zw m t).2=true):(zw m t).1.fTag=t∧(zw m t).1∈m.fFields:=by
 have key:∀ (l:List GField) (i:Int),(zw.l4 t l i).2=true→(zw.l4 t l i).1.fTag=t∧(zw.l4 t l i).1∈l:=by
  intro l
  induction l with
  |nil=>intro i h; cases h
  |cons f l ih=>
   intro i h
   rw[zw.l4] at h ⊢
   split at h
   · rename_i hf
     rw[if_pos hf]; exact⟨hf,qo ..⟩
   rename_i hf
   rw[if_neg hf];obtain⟨h1,h2⟩:=ih _ h;exact⟨h1,qm _ h2⟩
 exact key m.fFields 0 h
theorem fldD_eq {self:GSchema→GType→GRaw→Int→Option (GTree×Int)}{s:GSchema}{m:GMessage}{deep:Int}{one:GType→GRaw→GTree×Int}:
 ∀ {l:List GRaw} {es:List GEntry} {rest:List GRaw},(∀ r∈l,1≤r.fTag∧r.fTag≤500)→(∀ r∈l,∀ y,self s y r deep=some (one y r))→es.Pairwise Xr→(∀ e∈es,(1≤e.fTag∧e.fTag≤500)∧e.fTrees≠[]∧e.fTrees.length≤64)→es.length+l.length<100000→rest.length+l.length<100000→
 zz.l self s m deep l es rest=some (fldD m one l es rest)
 |[],es,rest,_,_,_,he,hn,hn'=>by
  rw[zz.l,xK (by simp only[ql] at hn; omega),qg,vaE fun e h=>(he e h).2.1,qg,sorted_eq (by simp only[ql] at hn'; omega),qg,fldD]
 |r::l,es,rest,ht,ho,hs,he,hn,hn'=>by
  rw[qj] at hn hn';have hr:=ht r (qo ..)
  have ht':∀ r∈l,1≤r.fTag∧r.fTag≤500:=fun x hx=>ht x (qm _ hx)
  have ho':∀ r∈l,∀ y,self s y r deep=some (one y r):=fun x hx=>ho x (qm _ hx)
  rw[zz.l,bnd,fldD]
  by_cases hf:(zw m r.fTag).2=true
  · obtain⟨hft,_⟩:=YN hf;rw[if_pos hf,if_pos hf,ho r (qo ..),qg]
    by_cases h0:(one (zw m r.fTag).1.fType r).2=0
    · rw[if_pos h0,if_pos h0,decode_put_eq hs (fun e h=>(he e h).1) (by rw[hft]; exact hr) (by omega) (fun e h=>by have:=(he e h).2.2; omega),qg,hft]
      by_cases hp:putN r.fTag ((zw m r.fTag).1.fLabel=3) es≤64
      · rw[if_pos hp,if_pos (decide_eq_true hp)];refine fldD_eq (es:=vaJ r.fTag ((zw m r.fTag).1.fLabel=3) (one (zw m r.fTag).1.fType r).1 es) ht' ho' (vad hs) ?_ (by have:=putE_len (t:=r.fTag) (rep:=(zw m r.fTag).1.fLabel=3) (x:=(one (zw m r.fTag).1.fType r).1) (es:=es); omega) (by omega)
        intro e h
        rcases putE_all h with h|⟨h1,h2,h3⟩
        · exact he e h
        exact⟨by rw[h1]; exact hr,h3,by omega⟩
      rw[if_neg hp,if_neg (by simpa using hp)]; rfl
    rw[if_neg h0,if_neg h0]; rfl
  rw[if_neg hf,if_neg hf,xK (by omega),qg];exact fldD_eq ht' ho' hs he (by omega) (by rw[qi,qC]; omega)
def vaQ (s:GSchema)(n:List UInt8):GMessage:=(zG s n).1
def oneD (msg:GMessage→List UInt8→GTree×Int)(s:GSchema)(y:GType)(r:GRaw):GTree×Int:=
 if (if y.fKind=4∨y.fKind=5∨y.fKind=7 then r.fWire=1 else r.fWire=0) then
  (if y.fKind=3∨y.fKind=6 then (if xH y r.fN=true then (⟨1,r.fN,[],[],[]⟩,0) else (zTree,11))
  else if y.fKind=4 then (if vbP r.fB=true then (⟨2,0,r.fB,[],[]⟩,0) else (zTree,9))
  else if y.fKind=7 then msg (vaQ s y.fName) r.fB
  else (if r.fWire=1 then ⟨2,0,r.fB,[],[]⟩ else ⟨1,r.fN,[],[],[]⟩,0))
 else (zTree,8)
theorem oneD_eq {self:GSchema→GMessage→List UInt8→Int→Option (GTree×Int)}{self2:GSchema→GType→GRaw→Int→Option (GTree×Int)}{s:GSchema}{y:GType}{r:GRaw}{deep:Int}{msg:GMessage→List UInt8→GTree×Int}(hw:r.fWire=0∨r.fWire=1)(hb:r.fB.length≤4096)(hd:deep<1000)(hd':0≤deep)(hs:self s (vaQ s y.fName) r.fB (deep+1)=some (msg (vaQ s y.fName) r.fB)):
 zP.body self self2 s y r deep=some (oneD msg s y r):=by
 have hv:=runesV_eq (a:=r.fB) (by omega);have ed:IntKind.i64.wrap (deep+1)=deep+1:=yu (by omega) (by omega)
 have hm:∀ z:GTree×Int,some (z.1,z.2)=some z:=fun z=>rfl
 unfold zP.body zP.j2 zP.j26 zP.j3 zP.j6 zP.j4 oneD bnd;unfold vaQ at hs ⊢;simp only[Y2 (show r.fB.length≤9223372036854775807 by omega),hv,ed,qg,hs]
 rcases hw with hw|hw<;>simp only[hw,reduceIte,reduceCtorEq,uW] <;>
  by_cases k4:y.fKind=4<;>by_cases k5:y.fKind=5<;>by_cases k7:y.fKind=7<;>by_cases k3:y.fKind=3<;>by_cases k6:y.fKind=6 <;>
  first
   |(exfalso; omega)
   |(simp only[k4,k5,k7,k3,k6,reduceIte,reduceCtorEq,uW,decide_true,decide_false,or_true,true_or,or_false,false_or,or_self,uc]<;>first|rfl|(cases xH y r.fN<;>rfl)|(cases vbP r.fB<;>rfl))
def getD (b:List UInt8):List GRaw×Int:=(xG b).getD ([],99)
theorem getD_eq (b:List UInt8):xG b=some (getD b):=by
 obtain⟨r,e,_⟩:=va4 b
 unfold getD; rw[e]; rfl
theorem getD_ok {b:List UInt8}(h:(getD b).2=0):b=Yn (getD b).1∧b.length≤4096∧∀ x∈(getD b).1,XK x:=by
 obtain⟨r,e,i,_⟩:=va4 b;rw[getD_eq] at e;obtain rfl:=Option.some.inj e;exact i h
theorem XV : ∀ l:List GRaw,2*l.length≤(Yn l).length
 |[]=>uq _
 |r::l=>by
  rw[rawsB_cons,qi,qj]
  have:=XV l; have:=rawB_pos r; omega
def decM (s:GSchema):Nat→GMessage→List UInt8→GTree×Int
 |0,_,_=>(zTree,10)
 |d+1,m,b=>if (getD b).2=0 then fldD m (oneD (decM s d) s) (getD b).1 [] [] else (zTree,(getD b).2)
theorem ZW (s:GSchema):∀ (d k:Nat) (m:GMessage) (b:List UInt8) (deep:Int),d≤10→deep=11-d→2*d+1≤k→zz k s m b deep=some (decM s d m b)
 |d,0,m,b,deep,_,_,h=>by omega
 |0,k+1,m,b,deep,_,h,_=>by
  rw[zz,zz.body,if_pos (by omega)]; rfl
 |d+1,k+1,m,b,deep,h10,hd,hk=>by
  rw[zz,zz.body,if_neg (by omega),getD_eq,qg,decM]
  by_cases h0:(getD b).2=0
  · rw[if_pos h0,if_pos h0];obtain⟨hb,hl,hok⟩:=getD_ok h0
    have hlen:(getD b).1.length<100000:=by
     have:=XV (getD b).1
     rw[← hb] at this; omega
    refine fldD_eq ?_ ?_ List.Pairwise.nil (fun _ h=>by cases h) (by rw[ql]; omega) (by rw[ql]; omega)
    · intro r hr
      have:=ZH (hok r hr).1;exact⟨this.1,this.2.1⟩
    intro r hr y
    obtain⟨k',rfl⟩:∃ k',k=k'+1:=⟨k-1,by omega⟩
    rw[zP];have hc:=(ZH (hok r hr).1).2.2
    have hbl:r.fB.length≤4096:=by
     rcases hc with ⟨_,hc⟩|⟨_,_,hc⟩
     · rw[hc]; decide
     exact hc
    refine oneD_eq (by rcases hc with hc|hc; exact Or.inl hc.1; exact Or.inr hc.1) hbl (by omega) (by omega) ?_;exact ZW s d k' _ _ _ (by omega) (by omega) (by omega)
  rw[if_neg h0,if_neg h0]; rfl
theorem decode_eq {s:GSchema}{name b:List UInt8}(hc:zx s=some 0)(hm:(zG s name).2=true):xp s name b=some (decM s 10 (vaQ s name) b):=by
 rw[xp,hc,qg,if_pos rfl,bnd,hm,if_neg (by decide),ZW s 10 rounds _ b 1 (qu _) rfl (by have:=yF; omega),qg]; rfl
end
section
set_option maxRecDepth 4000
open AM
def maxD (f:GTree→Nat):List GTree→Nat→Nat
 |[],d=>d
 |x::l,d=>maxD f l (max d (f x))
theorem maxD_ge {f:GTree→Nat}:∀ (l:List GTree) (d:Nat),d≤maxD f l d
 |[],d=>qu _
 |x::l,d=>uA (Nat.le_max_left _ _) (maxD_ge l _)
theorem maxD_mem {f:GTree→Nat}{x:GTree}:∀ {l:List GTree} {d:Nat},x∈l→f x≤maxD f l d
 |y::l,d,h=>by
  rw[maxD]
  rcases qA.1 h with rfl|h
  · exact uA (Nat.le_max_right _ _) (maxD_ge l _)
  exact maxD_mem h
theorem maxD_le {f:GTree→Nat}{n:Nat}:∀ {l:List GTree} {d:Nat},d≤n→(∀ x∈l,f x≤n)→maxD f l d≤n
 |[],d,h,_=>h
 |x::l,d,h,hl=>maxD_le (l:=l) (Nat.max_le.2 ⟨h,hl x (qo ..)⟩) fun y hy=>hl y (qm _ hy)
theorem maxD_app (f:GTree→Nat):∀ (l m:List GTree) (d:Nat),maxD f (l++m) d=maxD f m (maxD f l d)
 |[],_,_=>rfl
 |x::l,m,d=>maxD_app f l m _
def kids (t:GTree):List GTree:=t.fEntries.flatMap GEntry.fTrees
def XQ : Nat→GTree→Nat
 |0,_=>0
 |m+1,t=>if t.fKind=3 then maxD (XQ m) (kids t) 0+1 else 0
theorem depT_le : ∀ (m:Nat) (t:GTree),XQ m t≤m
 |0,_=>qu _
 |m+1,t=>by
  rw[XQ]; split
  · exact Nat.succ_le_succ (maxD_le (uq _) fun x _=>depT_le m x)
  exact uq _
theorem deep_l20 {self:GTree→Int→Option Int}{m:Nat}(hm:m<1000)(hs:∀ x,self x (m:Int)=some ((XQ m x:Nat):Int)){x7:Int}{rec10:Int→Int→Option Int}:∀ (l:List GTree) (i:Int) (d:Nat),
 z7.l20 self ((m+1:Nat):Int) x7 rec10 l i (d:Int)=rec10 (x7+1) ((maxD (XQ m) l d:Nat):Int)
 |[],i,d=>rfl
 |x::l,i,d=>by
  rw[z7.l20,show IntKind.i64.wrap (((m+1:Nat):Int)-1)=(m:Int) by rw[yu (by omega) (by omega)]; omega,hs,qg,maxD]
  have e:(if (d:Int)<((XQ m x:Nat):Int) then ((XQ m x:Nat):Int) else (d:Int))=((max d (XQ m x):Nat):Int):=by split<;>omega
  rw[e]; exact deep_l20 hm hs l _ _
theorem deep_l10 {self:GTree→Int→Option Int}{m:Nat}(hm:m<1000)(hs:∀ x,self x (m:Int)=some ((XQ m x:Nat):Int)):∀ (l:List GEntry) (i:Int) (d:Nat),d≤1000→
 z7.l10 self ((m+1:Nat):Int) l i (d:Int)=some ((maxD (XQ m) (l.flatMap GEntry.fTrees) d+1:Nat):Int)
 |[],i,d,hd=>by
  rw[z7.l10,yu (by omega) (by omega),un,maxD]; rfl
 |e::l,i,d,hd=>by
  rw[z7.l10,deep_l20 hm hs,deep_l10 hm hs l _ _ (maxD_le hd fun x _=>uA (depT_le m x) (by omega)),qN,maxD_app]
theorem deep_eq : ∀ (m k:Nat) (t:GTree),m<1000→m<k→z7 k t (m:Int)=some ((XQ m t:Nat):Int)
 |m,0,t,_,h=>by omega
 |0,k+1,t,_,_=>by
  rw[z7,z7.body,if_pos (by simp)]; rfl
 |m+1,k+1,t,hm,hk=>by
  rw[z7,z7.body,XQ]
  by_cases h3:t.fKind=3
  · rw[if_neg (by simp only[h3,decide_true,qX,uI,decide_eq_true_eq]; omega),if_pos h3];exact deep_l10 (by omega) (fun x=>deep_eq m k x (by omega) (by omega)) t.fEntries 0 0 (by omega)
  rw[if_pos (by simp[h3]),if_neg h3]; rfl
theorem Depth_eq (t:GTree):wJ t=some ((XQ 101 t:Nat):Int):=by
 rw[wJ,show (101:Int)=((101:Nat):Int) from rfl,deep_eq 101 rounds t (by omega) (by have:=yF; omega)]; rfl
def risB : List GRaw→Bool
 |a::b::l=>decide (a.fTag≤b.fTag)&&risB (b::l)
 |_=>true
theorem risB_iff : ∀ {l:List GRaw},risB l=true↔l.Pairwise TagLe
 |[]=>by simp[risB]
 |[a]=>by simp[risB]
 |a::b::l=>by
  rw[risB,qn,decide_eq_true_eq,risB_iff,uv (a:=a)]
  constructor
  · rintro ⟨h1,h2⟩;refine⟨?_,h2⟩
    intro c hc
    rcases qA.1 hc with rfl|hc
    · exact h1
    have:=(uv.1 h2).1 c hc; unfold TagLe at *; omega
  rintro ⟨h1,h2⟩;exact⟨h1 b (qo ..),h2⟩
theorem rising_l {L:List GRaw}(hL:L.length<4611686018427387904):∀ (k:Nat) (A:List GRaw) (a:GRaw) (B:List GRaw),L=A++a::B→B.length<k→xd.l4 L k ((A.length+1:Nat):Int)=some (risB (a::B))
 |0,_,_,_,_,h=>by omega
 |k+1,A,a,[],h,_=>by
  rw[xd.l4,if_neg (by rw[h,qi,qC]; omega)]; rfl
 |k+1,A,a,b::B,h,hk=>by
  have hl:L.length=A.length+(B.length+2):=by rw[h,qi,qj,qj]
  have e1:Zt L ((A.length+1:Nat):Int)=some b:=by
   rw[h,show A++a::b::B=(A++[a])++b::B by rw[qq]; rfl];exact Yx (by rw[qi,qC])
  have e2:IntKind.i64.wrap (((A.length+1:Nat):Int)-1)=(A.length:Int):=by rw[yu (by omega) (by omega)]; omega
  have e3:Zt L (A.length:Int)=some a:=by rw[h]; exact Yx rfl
  have e4:IntKind.i64.wrap (((A.length+1:Nat):Int)+1)=(((A++[a]).length+1:Nat):Int):=by rw[yu (by omega) (by omega),qi,qC]; omega
  rw[xd.l4,if_pos (by omega),e1,qg,e2,e3,qg,risB]
  by_cases hlt:b.fTag<a.fTag
  · rw[if_pos hlt,decide_eq_false (by omega)]; rfl
  rw[if_neg hlt,e4,rising_l hL k (A++[a]) b B (by rw[h,qq]; rfl) (by simpa using hk),decide_eq_true (by omega),uB]
theorem rising_eq {l:List GRaw}(h:l.length<4611686018427387904):xd l=some (risB l):=by
 cases l with
 |nil=>rfl
 |cons a l=>exact rising_l h rounds [] a l rfl (by have:=yF; rw[qj] at h; omega)
def restB (t:GTree):Bool:=t.fRest.all (fun r=>yp r && !(t.fEntries.any fun e=>decide (e.fTag=r.fTag)))&&risB t.fRest
theorem rest_l16 {x2:Int}{rec4:Int→Option Bool}{y:GRaw}:∀ (l:List GEntry) (i:Int),yJ.l16 x2 rec4 y l i=if (l.any fun e=>decide (e.fTag=y.fTag))=true then some false else rec4 (x2+1)
 |[],i=>by rw[yJ.l16]; rfl
 |e::l,i=>by
  rw[yJ.l16,List.any_cons]
  by_cases h:e.fTag=y.fTag
  · rw[if_pos h,decide_eq_true h,Bool.true_or,if_pos rfl]
  rw[if_neg h,decide_eq_false h,uI,rest_l16]
theorem rest_l4 {t:GTree}(hr:t.fRest.length<4611686018427387904):∀ (l:List GRaw) (i:Int),yJ.l4 t l i=some (l.all (fun r=>yp r && !(t.fEntries.any fun e=>decide (e.fTag=r.fTag)))&&risB t.fRest)
 |[],i=>by rw[yJ.l4,rising_eq hr]; rfl
 |r::l,i=>by
  rw[yJ.l4,bnd,qV]
  cases hc:yp r with
  |false=>rfl
  |true=>
   rw[if_neg (by decide),rest_l16]
   cases ha:t.fEntries.any fun e=>decide (e.fTag=r.fTag) with
   |true=>rfl
   |false=>rw[if_neg (by decide),rest_l4 hr l]; rfl
theorem rest_eq {t:GTree}(hr:t.fRest.length<4611686018427387904):yJ t=some (restB t):=rest_l4 hr _ _
def entB (f:GTree→Bool):Int→List GEntry→Bool
 |_,[]=>true
 |last,e::l=>decide (last<e.fTag∧e.fTag≤500∧1≤e.fTrees.length∧e.fTrees.length≤64)&&(e.fTrees.all fun x=>decide (x.fKind=(e.fTrees.headD zTree).fKind)&&f x)&&entB f e.fTag l
def leafB (t:GTree):Bool:=
 if t.fKind=1 then decide (t.fS=[])&&decide ((qc t.fEntries:Int)=0)&&decide ((qc t.fRest:Int)=0)
 else if t.fKind=2 then decide (t.fN=0)&&decide ((qc t.fEntries:Int)=0)&&decide ((qc t.fRest:Int)=0)
 else false
def Za : Nat→GTree→Bool
 |0,t=>leafB t
 |d+1,t=>if t.fKind=3 then decide (t.fN=0)&&decide (t.fS=[])&&entB (Za d) 0 t.fEntries&&restB t else leafB t
def ownS (t:GTree):Prop:=In64 t.fN∧t.fRest.length≤900000∧∀ r∈t.fRest,In64 r.fN
def szT : Nat→GTree→Prop
 |0,t=>ownS t
 |d+1,t=>ownS t∧∀ x∈kids t,szT d x
theorem vcf {self:GTree→Option Bool}{f:GTree→Bool}{x3:Int}{rec6:Int→Int→Option Bool}{y:GEntry}(hy:1≤y.fTrees.length):∀ (l:List GTree) (i:Int),(∀ x∈l,self x=some (f x))→
 zy.l18 self x3 rec6 y l i=if (l.all fun x=>decide (x.fKind=(y.fTrees.headD zTree).fKind)&&f x)=true then rec6 (x3+1) y.fTag else some false
 |[],i,_=>by rw[zy.l18]; rfl
 |x::l,i,h=>by
  have e1:Zt y.fTrees 0=some (y.fTrees.headD zTree):=by
   cases ht:y.fTrees with
   |nil=>rw[ht] at hy; exact absurd hy (by decide)
   |cons a l=>rfl
  rw[zy.l18,e1,qg,qV]
  by_cases hk:x.fKind=(y.fTrees.headD zTree).fKind
  · rw[if_pos hk,h x (qo ..),qg,decide_eq_true hk,uB]
    cases f x with
    |false=>rfl
    |true=>
     rw[zy.j25,if_neg (by decide),vcf hy l _ fun z hz=>h z (qm _ hz),uB]
  rw[if_neg hk,decide_eq_false hk]; rfl
theorem entries_l6 {self:GTree→Option Bool}{f:GTree→Bool}:∀ (l:List GEntry) (i last:Int),(∀ e∈l,∀ x∈e.fTrees,self x=some (f x))→zy.l6 self l i last=some (entB f last l)
 |[],i,last,_=>rfl
 |e::l,i,last,h=>by
  rw[zy.l6,entB]
  by_cases hc:last<e.fTag∧e.fTag≤500∧1≤e.fTrees.length∧e.fTrees.length≤64
  · rw[if_neg (by simp only[qG,decide_eq_true_eq]; omega),vcf hc.2.2.1 e.fTrees 0 (h e (qo ..)),decide_eq_true hc,uB]
    cases ha:e.fTrees.all fun x=>decide (x.fKind=(e.fTrees.headD zTree).fKind)&&f x with
    |false=>rfl
    |true=>rw[if_pos rfl,entries_l6 l _ _ fun y hy=>h y (qm _ hy),uB]
  rw[if_pos (by simp only[qG,decide_eq_true_eq]; omega),decide_eq_false hc]; rfl
theorem Yc {t:GTree}{e:GEntry}{x:GTree}(he:e∈t.fEntries)(hx:x∈e.fTrees):x∈kids t:=List.mem_flatMap.2 ⟨e,he,hx⟩
theorem right_eq : ∀ (d m k:Nat) (t:GTree),d<m→XQ m t≤d→2*d<k→szT d t→xe k t=some (Za d t)
 |d,m,0,t,_,_,h,_=>by omega
 |0,m+1,k+1,t,_,hd,_,hz=>by
  have h3:¬ t.fKind=3:=by
   intro h; rw[XQ,if_pos h] at hd; omega
  rw[xe,xe.body,Za,leafB,if_neg h3]
  split<;>first|rfl|(split<;>rfl)
 |d+1,m+1,k+1,t,hm,hd,hk,hz=>by
  rw[xe,xe.body,Za]
  by_cases h3:t.fKind=3
  · have hd':maxD (XQ m) (kids t) 0≤d:=by rw[XQ,if_pos h3] at hd; omega
    obtain⟨k',rfl⟩:∃ k',k=k'+1:=⟨k-1,by omega⟩
    have he:zy (k'+1) t=some (entB (Za d) 0 t.fEntries):=by
     rw[zy,zy.body]
     exact entries_l6 t.fEntries 0 0 fun e he x hx=>right_eq d m k' x (by omega) (uA (maxD_mem (Yc he hx)) hd') (by omega) (hz.2 x (Yc he hx))
    rw[if_neg (by omega),if_neg (by omega),if_pos h3,if_pos h3,he,rest_eq (by have:=hz.1.2.1; omega)]
    cases decide (t.fN=0)&&decide (t.fS=[]) with
    |false=>rfl
    |true=>cases entB (Za d) 0 t.fEntries<;>rfl
  rw[if_neg h3,if_neg h3,leafB]
  split<;>first|rfl|(split<;>rfl)
def YB (t:GTree):Bool:=decide (XQ 101 t≤10)&&Za 10 t
theorem check_eq {t:GTree}(hz:szT 10 t):wK t=some (YB t):=by
 rw[wK,Depth_eq,qg,YB]
 by_cases h:XQ 101 t≤10
 · rw[if_pos (by omega),right_eq 10 101 rounds t (by omega) h (by have:=yF; omega) hz,decide_eq_true h,uB]; rfl
 rw[if_neg (by omega),decide_eq_false h]; rfl
end
section
set_option maxRecDepth 4000
open AM
theorem in0 : In64 0:=⟨by decide,by decide⟩
def rawT (enc:GTree→Option (List UInt8))(tag:Int)(x:GTree):Option GRaw:=
 if x.fKind=1 then some ⟨tag,0,x.fN,[]⟩
 else if x.fKind=2 then (if 4096<x.fS.length then none else some ⟨tag,1,0,x.fS⟩)
 else (enc x).bind fun b=>some ⟨tag,1,0,b⟩
def rawL (enc:GTree→Option (List UInt8))(tag:Int):List GTree→Option (List GRaw)
 |[]=>some []
 |x::l=>(rawT enc tag x).bind fun r=>(rawL enc tag l).bind fun m=>some (r::m)
def rawE (enc:GTree→Option (List UInt8)):List GEntry→Option (List GRaw)
 |[]=>some []
 |e::l=>(rawL enc e.fTag e.fTrees).bind fun a=>(rawE enc l).bind fun m=>some (a++m)
def putB (l:List GRaw):Option (List UInt8):=if 4096<(Yn l).length then none else some (Yn l)
def vaA : Nat→GTree→Option (List UInt8)
 |0,_=>none
 |d+1,t=>(rawE (vaA d) t.fEntries).bind fun L=>putB (srt (t.fRest++L))
def X1 : Nat→GTree→GValueValue
 |0,t=>if t.fKind=1 then .num t.fN else if t.fKind=2 then .str t.fS else .node [] t.fRest
 |d+1,t=>if t.fKind=1 then .num t.fN else if t.fKind=2 then .str t.fS else .node (t.fEntries.map fun e=>⟨e.fTag,e.fTrees.map (X1 d)⟩) t.fRest
theorem made_l62 {self:GTree→Option GValueValue}{f:GTree→GValueValue}{t:GTree}{r12:List GRaw}{y:GEntry}:∀ (l:List GTree) (i:Int) (acc:List GValueValue),(∀ x∈l,self x=some (f x))→acc.length+l.length≤64→
 zL.l62 self t r12 y l i acc=zL.l20 self t r12 rounds [⟨y.fTag,acc++l.map f⟩] 1
 |[],i,acc,_,_=>by
  rw[zL.l62,qx,qz,yu (by decide) (by decide)]; rfl
 |x::l,i,acc,h,hl=>by
  rw[qj] at hl
  rw[zL.l62,h x (qo ..),qg,xK (by omega),qg,made_l62 l _ _ (fun z hz=>h z (qm _ hz)) (by rw[qi,qC]; omega),qq]; rfl
theorem made_l35 {self:GTree→Option GValueValue}{f:GTree→GValueValue}{l14:List GValueEntry}{x16:Int}{rec20:List GValueEntry→Int→Option GValueValue}{y:GEntry}(hl14:l14.length≤1000):∀ (l:List GTree) (i:Int) (acc:List GValueValue),(∀ x∈l,self x=some (f x))→acc.length+l.length≤64→
 zL.l35 self l14 x16 rec20 y l i acc=rec20 (l14++[⟨y.fTag,acc++l.map f⟩]) (IntKind.i64.wrap (x16+1))
 |[],i,acc,_,_=>by
  rw[zL.l35,qx,qz,xK (by omega),qg]
 |x::l,i,acc,h,hl=>by
  rw[qj] at hl
  rw[zL.l35,h x (qo ..),qg,xK (by omega),qg,made_l35 hl14 l _ _ (fun z hz=>h z (qm _ hz)) (by rw[qi,qC]; omega),qq]; rfl
def entV (f:GTree→GValueValue)(e:GEntry):GValueEntry:=⟨e.fTag,e.fTrees.map f⟩
theorem made_l20 {self:GTree→Option GValueValue}{f:GTree→GValueValue}{t:GTree}{r12:List GRaw}(hn:t.fEntries.length≤1000)(hs:∀ e∈t.fEntries,e.fTrees.length≤64∧∀ x∈e.fTrees,self x=some (f x)):∀ (k:Nat) (A B:List GEntry),t.fEntries=A++B→B.length<k→
 zL.l20 self t r12 k (A.map (entV f)) (A.length:Int)=some (.node (t.fEntries.map (entV f)) r12)
 |0,A,B,_,h=>by omega
 |k+1,A,[],h,_=>by
  rw[qz] at h;rw[zL.l20,if_neg (by rw[h]; omega),h]
 |k+1,A,e::B,h,hk=>by
  rw[qj] at hk
  have hl:t.fEntries.length=A.length+(B.length+1):=by rw[h,qi,qj]
  have he:=hs e (by rw[h]; exact q1 _ (qo ..))
  have ei:Zt t.fEntries (A.length:Int)=some e:=by rw[h]; exact Yx rfl
  rw[zL.l20,if_pos (by omega),ei,qg,made_l35 (f:=f) (by rw[q2]; omega) e.fTrees 0 [] he.2 (by rw[ql]; omega),yu (by omega) (by omega)];have:=made_l20 (self:=self) (f:=f) (r12:=r12) hn hs k (A++[e]) B (by rw[h,qq]; rfl) (by omega);rw[qK,qi,qC] at this;rw[show (A.length:Int)+1=((A.length+1:Nat):Int) by omega];exact this
theorem Yr {f:GTree→Bool}:∀ {l:List GEntry} {last:Int},entB f last l=true→∀ e∈l,last<e.fTag∧e.fTag≤500∧1≤e.fTrees.length∧e.fTrees.length≤64∧(∀ x∈e.fTrees,x.fKind=(e.fTrees.headD zTree).fKind∧f x=true)
 |[],_,_,e,he=>by cases he
 |a::l,last,h,e,he=>by
  rw[entB,qn,qn,decide_eq_true_eq] at h
  rcases qA.1 he with rfl|he
  · refine⟨h.1.1.1,h.1.1.2.1,h.1.1.2.2.1,h.1.1.2.2.2,fun x hx=>?_⟩;have:=ue.1 h.1.2 x hx;rw[qn,decide_eq_true_eq] at this;exact this
  obtain⟨h1,h2⟩:=Yr h.2 e he;exact⟨by omega,h2⟩
theorem Xm {f:GTree→Bool}:∀ {l:List GEntry} {last:Int},entB f last l=true→l.Pairwise Xr
 |[],_,_=>List.Pairwise.nil
 |a::l,last,h=>by
  rw[entB,qn,qn] at h;rw[uv];exact⟨fun e he=>(Yr h.2 e he).1,Xm h.2⟩
theorem sorted_len {n:Nat}:∀ {l:List GEntry} {lo:Int},l.Pairwise Xr→(∀ e∈l,lo<e.fTag∧e.fTag≤lo+n)→l.length≤n
 |[],_,_,_=>uq _
 |a::l,lo,h,hl=>by
  rw[uv] at h;have ha:=hl a (qo ..)
  cases n with
  |zero=>omega
  |succ n=>
   rw[qj];refine Nat.succ_le_succ (sorted_len (n:=n) (lo:=lo+1) h.2 fun e he=>?_);have h1:=h.1 e he;have h2:=hl e (qm _ he)
   unfold Xr at h1; omega
theorem XW {d:Nat}{t:GTree}(h:Za (d+1) t=true)(h3:t.fKind=3):t.fEntries.length≤500∧entB (Za d) 0 t.fEntries=true∧restB t=true∧t.fN=0∧t.fS=[]:=by
 rw[Za,if_pos h3] at h;simp only[qn,decide_eq_true_eq] at h;refine⟨?_,h.1.2,h.2,h.1.1.1,h.1.1.2⟩
 exact sorted_len (n:=500) (lo:=0) (Xm h.1.2) fun e he=>by
  have:=Yr h.1.2 e he; omega
theorem XM {t:GTree}(h:leafB t=true):t.fKind=1∨t.fKind=2:=by
 unfold leafB at h
 split at h
 · exact Or.inl ‹_›
 split at h
 · exact Or.inr ‹_›
 cases h
theorem XU {d:Nat}{t:GTree}(h:Za d t=true):t.fKind=1∨t.fKind=2∨t.fKind=3:=by
 cases d with
 |zero=>rcases XM h with h|h; exact Or.inl h; exact Or.inr (Or.inl h)
 |succ d=>
  rw[Za] at h
  split at h
  · exact Or.inr (Or.inr ‹_›)
  rcases XM h with h|h; exact Or.inl h; exact Or.inr (Or.inl h)
theorem made_eq : ∀ (d k:Nat) (t:GTree),d<k→Za d t=true→szT d t→zL k t=some (X1 d t)
 |d,0,t,h,_,_=>by omega
 |0,k+1,t,_,hr,_=>by
  rw[zL,zL.body,X1]
  rcases XM hr with h|h
  · rw[if_pos h,if_pos h]; rfl
  rw[if_neg (by omega),if_pos h,if_neg (by omega),if_pos h]; rfl
 |d+1,k+1,t,hk,hr,hz=>by
  rw[zL,zL.body,X1]
  by_cases h1:t.fKind=1
  · rw[if_pos h1,if_pos h1]; rfl
  by_cases h2:t.fKind=2
  · rw[if_neg h1,if_pos h2,if_neg h1,if_pos h2]; rfl
  have h3:t.fKind=3:=by rcases XU hr with h|h|h<;>omega
  obtain⟨hl,he,_,_,_⟩:=XW hr h3
  have hs:∀ e∈t.fEntries,e.fTrees.length≤64∧∀ x∈e.fTrees,zL k x=some (X1 d x):=fun e hm=>by
   have:=Yr he e hm;exact⟨this.2.2.2.1,fun x hx=>made_eq d k x (by omega) (this.2.2.2.2 x hx).2 (hz.2 x (Yc hm hx))⟩
  rw[if_neg h1,if_neg h2,if_neg h1,if_neg h2,yV,xK (by have:=hz.1.2.1; omega),qg,qg]
  cases hE:t.fEntries with
  |nil=>rfl
  |cons a E=>
   rw[if_pos (by rw[qj]; omega)];have ha:=hs a (by rw[hE]; exact qo ..);rw[idx_t (u6 0) (show (a::E)[qB 0]?=some a from rfl),qg,made_l62 (f:=X1 d) a.fTrees 0 [] ha.2 (by rw[ql]; omega)];have:=made_l20 (self:=zL k) (f:=X1 d) (r12:=t.fRest) (by omega) hs rounds [a] E (by rw[hE]; rfl) (by have:=yF; rw[hE,qj] at hl; omega);rw[hE] at this;exact this
theorem of_eq {t:GTree}(hz:szT 10 t):Yb t=some (if YB t=true then (X1 10 t,true) else (.nil,false)):=by
 rw[Yb,check_eq hz,qg]
 by_cases h:YB t=true
 · rw[h]
   have hr:Za 10 t=true:=by unfold YB at h; rw[qn] at h; exact h.2
   rw[if_neg (by decide),made_eq 10 rounds t (by have:=yF; omega) hr hz]; rfl
 rw[if_pos (by simpa using h),if_neg h]
theorem tags_l8 : ∀ (l:List GValueEntry) (i:Int) (acc:List Int),acc.length+l.length≤1000→yd.l8 l i acc=some (acc++l.map GValueEntry.ftag)
 |[],i,acc,_=>by rw[yd.l8,qx,qz]
 |e::l,i,acc,h=>by
  rw[qj] at h
  rw[yd.l8,xK (by omega),qg,tags_l8 l _ _ (by rw[qi,qC]; omega),qq]; rfl
theorem get_l4 {f:GTree→GValueValue}{e:GEntry}{B:List GEntry}(he:e.fTrees.length≤64):∀ (A:List GEntry) (i:Int),(∀ a∈A,a.fTag≠e.fTag)→yA.l4 e.fTag ((A++e::B).map (entV f)) i=some (e.fTrees.map f)
 |[],i,_=>by
  rw[qw,qJ,yA.l4,if_pos (show (entV f e).ftag=e.fTag from rfl),show (entV f e).fl=e.fTrees.map f from rfl,wB,xK (by rw[q2]; omega)]; rfl
 |a::A,i,h=>by
  rw[qD,qJ,yA.l4,if_neg (show ¬ (entV f a).ftag=e.fTag from h a (qo ..))]
  exact get_l4 he A _ fun b hb=>h b (qm _ hb)
theorem rawL_len {enc:GTree→Option (List UInt8)}{tag:Int}:∀ {l:List GTree} {m:List GRaw},rawL enc tag l=some m→m.length=l.length
 |[],m,h=>by cases h; rfl
 |x::l,m,h=>by
  obtain⟨r,_,h⟩:=bind_some h;obtain⟨m',h1,h⟩:=bind_some h;cases h;rw[qj,qj,rawL_len h1]
def YX (o:Option (List GRaw))(k:List GRaw→Option (List GRaw×Int)):Option (List GRaw×Int):=
 match o with
 |some m=>k m
 |none=>some ([],4)
theorem raws_l24 {selfR:Int→GValueValue→Option (GRaw×Int)}{f:GTree→GValueValue}{enc:GTree→Option (List UInt8)}{x6:Int}{rec10:Int→List GRaw→Option (List GRaw×Int)}{tag:Int}:∀ (l:List GTree) (i:Int) (acc:List GRaw),(∀ x∈l,selfR tag (f x)=some (match rawT enc tag x with|some r=>(r,0)|none=>(⟨0,0,0,[]⟩,4)))→acc.length+l.length<3518437208882→
 zQ.l24 selfR x6 rec10 tag (l.map f) i acc=YX (rawL enc tag l) fun m=>rec10 (x6+1) (acc++m)
 |[],i,acc,_,_=>by rw[qx,zQ.l24,rawL,YX,qz]
 |x::l,i,acc,h,hl=>by
  rw[qj] at hl;rw[qJ,zQ.l24,h x (qo ..),qg,rawL]
  cases hx:rawT enc tag x with
  |none=>rfl
  |some r=>
   dsimp only
   rw[if_pos rfl,xK (by omega),qg,raws_l24 l _ _ (fun z hz=>h z (qm _ hz)) (by rw[qi,qC]; omega),qg]
   cases rawL enc tag l with
   |none=>rfl
   |some m=>simp only[YX,qg,qq,qD,qw]
theorem raws_l10 {selfR:Int→GValueValue→Option (GRaw×Int)}{f:GTree→GValueValue}{enc:GTree→Option (List UInt8)}{E:List GEntry}{rest:List GRaw}(hs:E.Pairwise Xr)(ht:∀ e∈E,e.fTrees.length≤64∧∀ x∈e.fTrees,selfR e.fTag (f x)=some (match rawT enc e.fTag x with|some r=>(r,0)|none=>(⟨0,0,0,[]⟩,4)))(hn:E.length≤500):
 ∀ (B A:List GEntry) (i:Int) (acc:List GRaw),E=A++B→acc.length≤900000+64*A.length→zQ.l10 selfR ⟨E.map (entV f),rest⟩ (B.map GEntry.fTag) i acc=YX (rawE enc B) fun m=>some (srt (acc++m),0)
 |[],A,i,acc,h,ha=>by
  have hl:E.length=A.length:=by rw[h,qz]
  rw[qx,zQ.l10,sorted_eq (by omega),rawE,YX,qz]; rfl
 |e::B,A,i,acc,h,ha=>by
  have hl:E.length=A.length+(B.length+1):=by rw[h,qi,qj]
  have he:=ht e (by rw[h]; exact q1 _ (qo ..))
  have hA:∀ a∈A,a.fTag≠e.fTag:=fun a hm=>by
   rw[h] at hs;have:=(List.pairwise_append.1 hs).2.2 a hm e (qo ..)
   unfold Xr at this; omega
  have hg:yA ⟨E.map (entV f),rest⟩ e.fTag=some (e.fTrees.map f):=by
   rw[yA,h]; exact get_l4 he.1 A 0 hA
  rw[qJ,zQ.l10,hg,qg,raws_l24 (enc:=enc) e.fTrees 0 acc he.2 (by omega),rawE]
  cases hL:rawL enc e.fTag e.fTrees with
  |none=>rfl
  |some m=>
   have hm:=rawL_len hL;rw[YX,raws_l10 hs ht hn B (A++[e]) _ _ (by rw[h,qq]; rfl) (by rw[qi,qi,qC]; omega),qg]
   cases rawE enc B with
   |none=>rfl
   |some m'=>simp only[YX,qg,qq]
end
section
set_option maxRecDepth 4000
open AM
theorem putB_some {l:List GRaw}{b:List UInt8}(h:putB l=some b):b=Yn l∧b.length≤4096:=by
 unfold putB at h
 split at h
 · cases h
 cases h; exact⟨rfl,by omega⟩
theorem vcg {d:Nat}{t:GTree}{b:List UInt8}(h:vaA d t=some b):b.length≤4096:=by
 cases d with
 |zero=>cases h
 |succ d=>
  rw[vaA] at h;obtain⟨L,_,h⟩:=bind_some h;exact (putB_some h).2
theorem rawT_ok {d:Nat}{tag:Int}{x:GTree}{r:GRaw}(h1:1≤tag)(h2:tag≤500)(hx:In64 x.fN)(h:rawT (vaA d) tag x=some r):XK r∧r.fTag=tag:=by
 unfold rawT at h
 split at h
 · cases h; exact⟨⟨check_num h1 h2,hx⟩,rfl⟩
 split at h
 · split at h
   · cases h
   cases h; exact⟨⟨va1 h1 h2 (by omega),in0⟩,rfl⟩
 obtain⟨b,hb,h⟩:=bind_some h
 cases h; exact⟨⟨va1 h1 h2 (vcg hb),in0⟩,rfl⟩
theorem rawL_ok {d:Nat}{tag:Int}(h1:1≤tag)(h2:tag≤500):∀ {l:List GTree} {m:List GRaw},(∀ x∈l,In64 x.fN)→rawL (vaA d) tag l=some m→∀ r∈m,XK r∧r.fTag=tag
 |[],m,_,h,r,hr=>by cases h; cases hr
 |x::l,m,hx,h,r,hr=>by
  obtain⟨a,ha,h⟩:=bind_some h;obtain⟨m',hm,h⟩:=bind_some h;cases h
  rcases qA.1 hr with rfl|hr
  · exact rawT_ok h1 h2 (hx x (qo ..)) ha
  exact rawL_ok h1 h2 (fun z hz=>hx z (qm _ hz)) hm r hr
theorem rawE_ok {d:Nat}:∀ {l:List GEntry} {m:List GRaw},(∀ e∈l,1≤e.fTag∧e.fTag≤500∧∀ x∈e.fTrees,In64 x.fN)→rawE (vaA d) l=some m→∀ r∈m,XK r∧∃ e∈l,r.fTag=e.fTag
 |[],m,_,h,r,hr=>by cases h; cases hr
 |e::l,m,hx,h,r,hr=>by
  obtain⟨a,ha,h⟩:=bind_some h;obtain⟨m',hm,h⟩:=bind_some h;cases h;have he:=hx e (qo ..)
  rcases uh.1 hr with hr|hr
  · have:=rawL_ok he.1 he.2.1 he.2.2 ha r hr;exact⟨this.1,e,qo ..,this.2⟩
  obtain⟨h1,e',h2,h3⟩:=rawE_ok (fun z hz=>hx z (qm _ hz)) hm r hr;exact⟨h1,e',qm _ h2,h3⟩
theorem szT_own {d:Nat}{t:GTree}(h:szT d t):ownS t:=by
 cases d with
 |zero=>exact h
 |succ d=>exact h.1
theorem restB_mem {t:GTree}(h:restB t=true):(∀ r∈t.fRest,yp r=true∧∀ e∈t.fEntries,e.fTag≠r.fTag)∧t.fRest.Pairwise TagLe:=by
 unfold restB at h;rw[qn] at h;refine⟨fun r hr=>?_,risB_iff.1 h.2⟩;have:=ue.1 h.1 r hr;rw[qn,uS] at this;refine⟨this.1,fun e he hc=>?_⟩;have h2:=List.any_eq_false.1 this.2 e he;exact h2 (decide_eq_true hc)
theorem raws_ok {d:Nat}{t:GTree}{L:List GRaw}(hr:Za (d+1) t=true)(h3:t.fKind=3)(hz:szT (d+1) t)(hL:rawE (vaA d) t.fEntries=some L):∀ r∈srt (t.fRest++L),XK r:=by
 obtain⟨_,he,hb,_,_⟩:=XW hr h3
 intro r hm
 rw[srt_mem] at hm
 rcases uh.1 hm with hm|hm
 · exact⟨((restB_mem hb).1 r hm).1,hz.1.2.2 r hm⟩
 exact (rawE_ok (fun e hm=>by
  have:=Yr he e hm
  exact⟨by omega,this.2.1,fun x hx=>(szT_own (hz.2 x (Yc hm hx))).1⟩) hL r hm).1
def vb2 (o:Option (List UInt8)):List UInt8×Int:=
 match o with
 |some b=>(b,0)
 |none=>([],4)
theorem vae {l:List GRaw}(h:∀ r∈l,XK r):yg l=some (vb2 (putB l)):=by
 rw[putAll_eq fun r hr=>(h r hr).2,if_pos (ue.2 fun r hr=>(h r hr).1),putB]
 split
 · rfl
 rfl
theorem tags_eq {f:GTree→GValueValue}{E:List GEntry}{rest:List GRaw}(h:E.length≤500):yd ⟨E.map (entV f),rest⟩=some (E.map GEntry.fTag):=by
 rw[yd];have:=tags_l8 (E.map (entV f)) 0 [] (by rw[ql,q2]; omega)
 rw[this,qw,List.map_map]; rfl
theorem raws_eq {selfB:GValueNode→Option (List UInt8×Int)}{selfR:Int→GValueValue→Option (GRaw×Int)}{selfS:GValueNode→Option (List GRaw×Int)}{f:GTree→GValueValue}{enc:GTree→Option (List UInt8)}{E:List GEntry}{rest:List GRaw}(hs:E.Pairwise Xr)(ht:∀ e∈E,e.fTrees.length≤64∧∀ x∈e.fTrees,selfR e.fTag (f x)=some (match rawT enc e.fTag x with|some r=>(r,0)|none=>(⟨0,0,0,[]⟩,4)))(hn:E.length≤500)(hr:rest.length≤900000):
 zQ.body selfB selfR selfS ⟨E.map (entV f),rest⟩=YX (rawE enc E) fun m=>some (srt (rest++m),0):=by
 rw[zQ.body,tags_eq hn,wQ,yV,xK (by dsimp only; omega),qg,qg,qg,qg];exact raws_l10 hs ht hn E [] 0 rest rfl (by rw[ql]; omega)
theorem bytes_eq : ∀ (d k:Nat) (t:GTree) (es:List GValueEntry) (rs:List GRaw),3*d≤k→Za d t=true→t.fKind=3→szT d t→X1 d t=.node es rs→xo k ⟨es,rs⟩=some (vb2 (vaA d t))
 |0,k,t,es,rs,_,hr,h3,_,_=>by
  rcases XM hr with h|h<;>omega
 |d+1,k,t,es,rs,hk,hr,h3,hz,hv=>by
  obtain⟨k',rfl⟩:∃ k',k=k'+3:=⟨k-3,by omega⟩
  obtain⟨hl,he,hb,_,_⟩:=XW hr h3;rw[X1,if_neg (by omega),if_neg (by omega)] at hv;cases hv
  have hs:∀ e∈t.fEntries,e.fTrees.length≤64∧∀ x∈e.fTrees,yN (k'+1) e.fTag (X1 d x)=some (match rawT (vaA d) e.fTag x with|some r=>(r,0)|none=>(⟨0,0,0,[]⟩,4)):=by
   intro e hm
   have h1:=Yr he e hm;refine⟨h1.2.2.2.1,fun x hx=>?_⟩;have hrx:=(h1.2.2.2.2 x hx).2;have hzx:=hz.2 x (Yc hm hx);rw[yN,yN.body,rawT]
   rcases XU hrx with h|h|h
   · have hv:X1 d x=.num x.fN:=by cases d<;>rw[X1,if_pos h]
     rw[hv,if_pos h]; rfl
   · have hv:X1 d x=.str x.fS:=by cases d<;>rw[X1,if_neg (by omega),if_pos h]
     rw[hv,if_neg (by omega),if_pos h,show wn (.str x.fS)=some (.str x.fS) from rfl,qg]
     dsimp only
     rw[yN.j3]
     by_cases hc:4096<x.fS.length
     · rw[if_pos hc,if_pos (by dsimp only; omega)]
     rw[if_neg hc,if_neg (by dsimp only; omega)]
   have h1':¬ x.fKind=1:=by omega
   have h2':¬ x.fKind=2:=by omega
   obtain⟨es,rs,hv⟩:∃ es rs,X1 d x=.node es rs:=by cases d<;>exact⟨_,_,by rw[X1,if_neg h1',if_neg h2']⟩
   rw[hv,if_neg h1',if_neg h2',show wn (.node es rs)=some (.node es rs) from rfl,qg]
   dsimp only
   rw[bytes_eq d k' x es rs (by omega) hrx h hzx hv,qg]
   cases hx':vaA d x with
   |none=>rfl
   |some b=>
    have hbl:=vcg hx'
    rw[vb2]; dsimp only
    rw[if_pos rfl,yN.j3,if_neg (by dsimp only; omega),qg]
  have hR:zQ (k'+2) ⟨t.fEntries.map fun e=>⟨e.fTag,e.fTrees.map (X1 d)⟩,t.fRest⟩=YX (rawE (vaA d) t.fEntries) fun m=>some (srt (t.fRest++m),0):=by
   rw[zQ];exact raws_eq (f:=X1 d) (Xm he) hs hl hz.1.2.1
  rw[xo,xo.body,hR,vaA]
  cases hL:rawE (vaA d) t.fEntries with
  |none=>rfl
  |some L=>
   rw[YX,qg]; dsimp only
   rw[if_pos rfl,vae (raws_ok hr h3 hz hL),qg,qg]
theorem rawE_eq {d k:Nat}{t:GTree}(hk:3*d+2≤k)(hr:Za (d+1) t=true)(h3:t.fKind=3)(hz:szT (d+1) t):zQ k ⟨t.fEntries.map (entV (X1 d)),t.fRest⟩=YX (rawE (vaA d) t.fEntries) fun m=>some (srt (t.fRest++m),0):=by
 obtain⟨k',rfl⟩:∃ k',k=k'+2:=⟨k-2,by omega⟩
 obtain⟨hl,he,hb,_,_⟩:=XW hr h3;rw[zQ];refine raws_eq (f:=X1 d) (Xm he) ?_ hl hz.1.2.1
 intro e hm
 have h1:=Yr he e hm;refine⟨h1.2.2.2.1,fun x hx=>?_⟩;have hrx:=(h1.2.2.2.2 x hx).2;have hzx:=hz.2 x (Yc hm hx);rw[yN,yN.body,rawT]
 rcases XU hrx with h|h|h
 · have hv:X1 d x=.num x.fN:=by cases d<;>rw[X1,if_pos h]
   rw[hv,if_pos h]; rfl
 · have hv:X1 d x=.str x.fS:=by cases d<;>rw[X1,if_neg (by omega),if_pos h]
   rw[hv,if_neg (by omega),if_pos h,show wn (.str x.fS)=some (.str x.fS) from rfl,qg]
   dsimp only
   rw[yN.j3]
   by_cases hc:4096<x.fS.length
   · rw[if_pos hc,if_pos (by dsimp only; omega)]
   rw[if_neg hc,if_neg (by dsimp only; omega)]
 have h1':¬ x.fKind=1:=by omega
 have h2':¬ x.fKind=2:=by omega
 obtain⟨es,rs,hv⟩:∃ es rs,X1 d x=.node es rs:=by cases d<;>exact⟨_,_,by rw[X1,if_neg h1',if_neg h2']⟩
 rw[hv,if_neg h1',if_neg h2',show wn (.node es rs)=some (.node es rs) from rfl,qg]
 dsimp only
 rw[bytes_eq d k' x es rs (by omega) hrx h hzx hv,qg]
 cases hx':vaA d x with
 |none=>rfl
 |some b=>
  have hbl:=vcg hx'
  rw[vb2]; dsimp only
  rw[if_pos rfl,yN.j3,if_neg (by dsimp only; omega),qg]
theorem vag {t:GTree}(h:YB t=true):Za 10 t=true∧XQ 101 t≤10:=by
 unfold YB at h;rw[qn,decide_eq_true_eq] at h;exact⟨h.2,h.1⟩
theorem Raws_eq {t:GTree}(hz:szT 10 t):wO t=some (if YB t=true∧t.fKind=3 then (match rawE (vaA 9) t.fEntries with|some L=>(srt (t.fRest++L),(0:Int))|none=>([],4)) else ([],1)):=by
 rw[wO,of_eq hz,qg]
 by_cases hc:YB t=true
 · rw[if_pos hc]
   by_cases h3:t.fKind=3
   · rw[if_neg (by rw[decide_eq_true h3]; exact uM),if_pos ⟨hc,h3⟩]
     have hv:X1 10 t=.node (t.fEntries.map (entV (X1 9))) t.fRest:=by rw[X1,if_neg (by omega),if_neg (by omega)]; rfl
     rw[hv,show yI (.node (t.fEntries.map (entV (X1 9))) t.fRest)=some ⟨t.fEntries.map (entV (X1 9)),t.fRest⟩ from rfl,qg,rawE_eq (d:=9) (by have:=yF; omega) (vag hc).1 h3 hz]
     cases rawE (vaA 9) t.fEntries<;>rfl
   rw[if_pos (by rw[decide_eq_false h3]; rfl),if_neg (fun h=>h3 h.2)]
 rw[if_neg hc,if_pos (by rfl),if_neg (fun h=>hc h.1)]
theorem Encode_eq {t:GTree}(hz:szT 10 t):xV t=some (if YB t=true∧t.fKind=3 then vb2 (vaA 10 t) else ([],1)):=by
 rw[xV,Raws_eq hz,qg]
 by_cases hc:YB t=true∧t.fKind=3
 · rw[if_pos hc,if_pos hc,vaA]
   cases hL:rawE (vaA 9) t.fEntries with
   |none=>rfl
   |some L=>
    dsimp only
    rw[if_pos rfl,vae (raws_ok (vag hc.1).1 hc.2 hz hL),qg,qg]
 rw[if_neg hc,if_neg hc]; rfl
end
section
set_option maxRecDepth 4000
open AM
theorem ref_more (n:Nat):q5 (qB (IntKind.u8.wrap ((IntKind.u8.wrap ((n:Int).tmod 128))+128)))=q5 (n % 128+128):=by
 have e:(n:Int).tmod 128=((n % 128:Nat):Int):=by rw[Int.tmod_eq_emod_of_nonneg (by omega)]; omega
 rw[e,u8w,show ((n % 128 % 256:Nat):Int)+128=((n % 128+128:Nat):Int) by omega,u8w,qR]
 congr 1; omega
theorem ref_next {n:Nat}(h:n<2^64):IntKind.u64.wrap ((n:Int).tdiv 128)=((n / 128:Nat):Int):=by
 rw[Int.tdiv_eq_ediv_of_nonneg (by omega),u64i (by omega) (by omega)]; omega
theorem ref02_l : ∀ (k n:Nat) (l:List UInt8),n<2^64→(vb n).length≤k→l.length+k≤1000000→y7.l8 k l (n:Int)=some (l++vb n)
 |0,n,l,_,h,_=>by have:=vb_pos n; omega
 |k+1,n,l,hn,h,hl=>by
  by_cases h1:n<128
  · rw[y7.l8,if_neg (by omega),xK (by omega),qg,lastByte n h1,vb_lt h1]
  rw[vb_ge h1,qj] at h
  rw[y7.l8,if_pos (by omega),xK (by omega),qg,ref_more,ref_next hn,vb_ge h1,ref02_l k (n / 128) _ (by omega) (by omega) (by rw[qi,qC]; omega),qq]; rfl
theorem ref02_m : ∀ (k j n:Nat) (l r:List UInt8),n<2^64→y7.l8 k l (n:Int)=some r→y7.l8 (k+j) l (n:Int)=some r
 |0,_,_,_,_,_,h=>by cases h
 |k+1,j,n,l,r,hn,h=>by
  rw[Nat.succ_add_eq_add_succ,Nat.add_succ]
  by_cases h1:(128:Int)≤(n:Int)
  · rw[y7.l8,if_pos h1] at h ⊢
    cases hr:Yk (qc l+1) 1 with
    |none=>rw[hr] at h; cases h
    |some u=>
     rw[hr,qg,ref_next hn] at h
     rw[qg,ref_next hn]; exact ref02_m k j _ _ _ (by omega) h
  rw[y7.l8,if_neg h1] at h ⊢; exact h
theorem XJ {n:Nat}(h:n<2^64):y7 (n:Int)=some (vb n):=by
 have:=ref02_m 10 999999999999999999990 n [] (vb n) h (ref02_l 10 n [] h (Ya h) (by decide));exact this
theorem ref02_Zig_eq {n:Int}(h:In64 n):Zx n=(zg n:Int):=by
 obtain⟨h1,h2⟩:=h;unfold Zx zg
 by_cases h0:0≤n
 · rw[if_pos h0,if_pos h0,u64i h0 (by omega),u64i (by omega) (by omega)]; omega
 rw[if_neg h0,if_neg h0,yu (x:=n+1) (by omega) (by omega),yu (by omega) (by omega),u64i (x:=0-(n+1)) (by omega) (by omega),u64i (x:=2*(0-(n+1))) (by omega) (by omega),u64i (by omega) (by omega)]; omega
theorem X3 (r:GRaw):wk r=yp r:=by
 unfold wk yp
 by_cases h0:r.fWire=0
 · simp only[h0,if_true]
 by_cases h1:r.fWire=1
 · simp only[h1,decide_true,uB,if_true]
 simp only[h0,h1,if_false,decide_false,Bool.false_and]
theorem ref04_Put_eq {r:GRaw}(h:XK r):wS r=some (vaI r):=by
 obtain⟨hc,hn⟩:=h;obtain⟨h1,h2,h3⟩:=ZH hc
 have ek:IntKind.u64.wrap (IntKind.i64.wrap ((IntKind.i64.wrap (2*r.fTag))+r.fWire))=((vbj r:Nat):Int):=by
  rw[yu (x:=2*r.fTag) (by omega) (by omega),yu (by omega) (by omega),u64i (by omega) (by omega),vbj]; omega
 have k1:vbj r<2^64:=by unfold vbj; omega
 have kl:=Ya k1;unfold wS;rw[ek,XJ k1,qg]
 rcases h3 with ⟨h3,h4⟩|⟨h3,h4,h5⟩
 · have hz:=Ya (zg_lt hn);rw[if_pos h3,bnd,ref02_Zig_eq hn,XJ (zg_lt hn),qg,xK (by omega),qg,vaI,if_pos h3]
 have hb:=Ya (n:=r.fB.length) (by omega);rw[if_neg (by omega),u64w (by omega),XJ (by omega),qg,xK (by omega),qg,xK (by rw[qi]; omega),qg,vaI,if_neg (by omega),qq]
theorem ref04_l13 : ∀ (q:List GRaw) (x:Int) (acc:List UInt8),(∀ r∈q,XK r)→acc.length≤4096→yj.l13 q x acc=some (if 4096<(acc++Yn q).length then ([],4) else (acc++Yn q,0))
 |[],x,acc,_,ha=>by
  rw[yj.l13,Yn,un,qz,if_neg (by omega)]
 |r::q,x,acc,h,ha=>by
  have hr:=h r (qo ..);have hrl:=rawB_le hr;rw[yj.l13,ref04_Put_eq hr,qg,xK (by omega),qg]
  have e:acc++Yn (r::q)=(acc++vaI r)++Yn q:=by rw[Yn,qN,qq]; rfl
  rw[e]
  by_cases h1:4096<(acc++vaI r).length
  · rw[if_pos (by omega),if_pos (by rw[qi]; omega)]
  rw[if_neg (by omega),ref04_l13 q (x+1) _ (fun s hs=>h s (qm _ hs)) (by omega)]
theorem ref04_l4 (a:List GRaw):∀ (q:List GRaw) (x:Int),yj.l4 a q x=if q.all yp then yj.l13 a 0 [] else some ([],1)
 |[],x=>by rw[yj.l4]; rfl
 |r::q,x=>by
  rw[yj.l4,bnd,qV,X3]
  by_cases h:yp r=true
  · rw[h,if_neg (by decide),ref04_l4 a q]; rfl
  rw[if_pos (by simpa using h),if_neg (by rw[qn]; exact fun hh=>h hh.1)]
theorem vbZ {l:List GRaw}(h:∀ r∈l,In64 r.fN):yj l=yg l:=by
 rw[putAll_eq h,yj,ref04_l4]
 by_cases h1:l.all yp=true
 · rw[if_pos h1,if_pos h1,ref04_l13 l 0 [] (fun r hr=>⟨ue.1 h1 r hr,h r hr⟩) (by decide)]; rfl
 rw[if_neg h1,if_neg h1]
theorem set_app0 {α:Type}{A B:List α}{x y:α}{i:Int}(h:i=A.length):setI (A++x::B) i y=A++y::B:=by
 subst h;rw[setI,qR,List.set_append_right _ _ (qu _),uN,uk]
theorem ref_l20 {r:GRaw}(x4:Int)(rec8:Int→List GRaw→Option (List GRaw)):∀ (k:Nat) (A B:List GRaw),A.Pairwise TagLe→(∀ b∈B,r.fTag<b.fTag)→A.length<k→A.length<1000000→
 zB.l20 x4 rec8 k (A++r::B) (A.length:Int)=rec8 (x4+1) (vb6 r (A++B))
 |0,A,B,_,_,h,_=>by omega
 |k+1,A,B,hA,hB,hk,hn=>by
  have stop:(∀ a∈A,a.fTag≤r.fTag)→zB.j23 x4 rec8 (A++r::B) (A.length:Int) (zB.l20 x4 rec8 k) false=rec8 (x4+1) (vb6 r (A++B)):=by
   intro hle
   rw[zB.j23,if_neg (by decide),insR_app hle hB]
  rcases List.eq_nil_or_concat A with rfl|⟨A',a,rfl⟩
  · rw[zB.l20,if_neg (by simp)];exact stop (fun a ha=>by cases ha)
  rw[List.concat_eq_append] at *
  have hlA:(A'++[a]).length=A'.length+1:=by rw[qi,qC]
  have e1:IntKind.i64.wrap (((A'++[a]).length:Int)-1)=(A'.length:Int):=by rw[yu (by omega) (by omega)]; omega
  have i1:Zt ((A'++[a])++r::B) (A'.length:Int)=some a:=by rw[qq]; exact Yx rfl
  have i2:Zt ((A'++[a])++r::B) ((A'++[a]).length:Int)=some r:=Yx rfl;rw[zB.l20,if_pos (by omega),e1,i1,qg,i2,qg]
  by_cases hgt:r.fTag<a.fTag
  · have s1:setI ((A'++[a])++r::B) (A'.length:Int) r=(A'++[r])++r::B:=by
     rw[qq,qq]; exact set_app0 rfl
    have i3:Zt ((A'++[r])++r::B) ((A'++[a]).length:Int)=some r:=Yx (by rw[hlA,qi,qC]);have s2:setI ((A'++[r])++r::B) ((A'++[a]).length:Int) a=(A'++[r])++a::B:=set_app0 (by rw[hlA,qi,qC]);rw[decide_eq_true hgt,zB.j23,if_pos rfl,i2,qg,e1,i1,qg,s1,i3,qg,s2,qq]
    have:=ref_l20 (r:=r) x4 rec8 k A' (a::B) (List.pairwise_append.1 hA).1 (fun b hb=>by
     rcases qA.1 hb with rfl|hb
     · exact hgt
     exact hB b hb) (by omega) (by omega)
    rw[qq];exact this
  rw[decide_eq_false hgt];refine stop ?_
  intro x hx
  rcases uh.1 hx with hx|hx
  · have:=(List.pairwise_append.1 hA).2.2 x hx a (uw.2 rfl)
    unfold TagLe at this; omega
  rw[uw] at hx; subst hx; omega
theorem ref_l8 : ∀ (q S:List GRaw) (x:Int),S.Pairwise TagLe→S.length+q.length<1000000→zB.l8 q x S=some (srtA q S)
 |[],S,x,_,_=>rfl
 |r::q,S,x,hS,hn=>by
  rw[qj] at hn;rw[zB.l8,xK (by omega),qg];have:=ref_l20 (r:=r) x (zB.l8 q) rounds S [] hS (fun b hb=>by cases hb) (by have:=yF; omega) (by omega);rw[qz] at this;rw[this,ref_l8 q (vb6 r S) _ (Yv hS) (by rw[vau]; omega),srtA]
theorem XI {l:List GRaw}(h:l.length<1000000):zB l=some (srt l):=
 ref_l8 l [] 0 List.Pairwise.nil (by rw[ql]; omega)
theorem ref04_ris : ∀ (L:List GRaw) (k:Nat) (x:Int),xy.l4 L k x=xd.l4 L k x
 |L,0,x=>rfl
 |L,k+1,x=>by
  rw[xy.l4,xd.l4];simp only[ref04_ris L k]
theorem vbY (l:List GRaw):xy l=xd l:=ref04_ris l rounds 1
theorem rdeep_l18 {self:GTree→Int→Option Int}{m:Nat}{a:Int}(ha:a=100-m)(hm:m≤100)(hs:∀ x,self x (a+1)=some ((XQ m x:Nat):Int)){x7:Int}{rec10:Int→Int→Option Int}:∀ (l:List GTree) (i:Int) (d:Nat),
 zT.l18 self a x7 rec10 l i (d:Int)=rec10 (x7+1) ((maxD (XQ m) l d:Nat):Int)
 |[],i,d=>rfl
 |x::l,i,d=>by
  rw[zT.l18,yu (by omega) (by omega),hs,qg,maxD]
  have e:(if (d:Int)<((XQ m x:Nat):Int) then ((XQ m x:Nat):Int) else (d:Int))=((max d (XQ m x):Nat):Int):=by split<;>omega
  rw[e]; exact rdeep_l18 ha hm hs l _ _
theorem rdeep_l10 {self:GTree→Int→Option Int}{m:Nat}{a:Int}(ha:a=100-m)(hm:m≤100)(hs:∀ x,self x (a+1)=some ((XQ m x:Nat):Int)):∀ (l:List GEntry) (i:Int) (d:Nat),d≤m→
 zT.l10 self a l i (d:Int)=some ((maxD (XQ m) (l.flatMap GEntry.fTrees) d+1:Nat):Int)
 |[],i,d,hd=>by
  rw[zT.l10,yu (by omega) (by omega),un,maxD,if_neg (by omega)]; rfl
 |e::l,i,d,hd=>by
  rw[zT.l10,rdeep_l18 ha hm hs,rdeep_l10 ha hm hs l _ _ (maxD_le hd fun x _=>depT_le m x),qN,maxD_app]
theorem rdeep_eq : ∀ (m k:Nat) (t:GTree) (a:Int),m≤101→m<k→a=101-m→zT k t a=some ((XQ m t:Nat):Int)
 |m,0,t,a,_,h,_=>by omega
 |0,k+1,t,a,_,_,ha=>by
  rw[zT,zT.body,if_pos (by simp only[qG,decide_eq_true_eq]; right; omega)]; rfl
 |m+1,k+1,t,a,hm,hk,ha=>by
  rw[zT,zT.body,XQ]
  by_cases h3:t.fKind=3
  · rw[if_neg (by simp only[h3,decide_true,qX,uI,decide_eq_true_eq]; omega),if_pos h3];exact rdeep_l10 (by omega) (by omega) (fun x=>rdeep_eq m k x _ (by omega) (by omega) (by omega)) t.fEntries 0 0 (uq _)
  rw[if_pos (by simp[h3]),if_neg h3]; rfl
theorem ref09_Depth_eq (t:GTree):wL t=some ((XQ 101 t:Nat):Int):=by
 rw[wL,rdeep_eq 101 rounds t 0 (by omega) (by have:=yF; omega) (by omega)]; rfl
theorem rhas_eq {a:Int}:∀ (l:List GEntry) (i:Int),wh.l4 a l i=l.any fun e=>decide (e.fTag=a)
 |[],i=>rfl
 |e::l,i=>by
  rw[wh.l4,List.any_cons]
  by_cases h:e.fTag=a
  · rw[if_pos h,decide_eq_true h,Bool.true_or]
  rw[if_neg h,decide_eq_false h,uI,rhas_eq]
theorem rrest_l4 {t:GTree}(hr:t.fRest.length<4611686018427387904):∀ (l:List GRaw) (i:Int),yP.l4 t l i=some (l.all (fun r=>yp r && !(t.fEntries.any fun e=>decide (e.fTag=r.fTag)))&&risB t.fRest)
 |[],i=>by rw[yP.l4,vbY,rising_eq hr]; rfl
 |r::l,i=>by
  rw[yP.l4,bnd,qV,X3]
  cases hc:yp r with
  |false=>rfl
  |true=>
   rw[if_neg (by decide),bnd,wh,rhas_eq]
   cases ha:t.fEntries.any fun e=>decide (e.fTag=r.fTag) with
   |true=>rfl
   |false=>rw[yP.j10,if_neg (by decide),rrest_l4 hr l]; rfl
theorem va7 {self:GTree→Option Bool}{f:GTree→Bool}{x3:Int}{rec6:Int→Int→Option Bool}{y:GEntry}(hy:1≤y.fTrees.length):∀ (l:List GTree) (i:Int),(∀ x∈l,self x=some (f x))→
 zA.l18 self x3 rec6 y l i=if (l.all fun x=>decide (x.fKind=(y.fTrees.headD zTree).fKind)&&f x)=true then rec6 (x3+1) y.fTag else some false
 |[],i,_=>by rw[zA.l18]; rfl
 |x::l,i,h=>by
  have e1:Zt y.fTrees 0=some (y.fTrees.headD zTree):=by
   cases ht:y.fTrees with
   |nil=>rw[ht] at hy; exact absurd hy (by decide)
   |cons a l=>rfl
  rw[zA.l18,e1,qg,qV]
  by_cases hk:x.fKind=(y.fTrees.headD zTree).fKind
  · rw[if_pos hk,h x (qo ..),qg,decide_eq_true hk,uB]
    cases f x with
    |false=>rfl
    |true=>
     rw[zA.j23,if_neg (by decide),va7 hy l _ fun z hz=>h z (qm _ hz),uB]
  rw[if_neg hk,decide_eq_false hk]; rfl
theorem vbV {self:GTree→Option Bool}{f:GTree→Bool}:∀ (l:List GEntry) (i last:Int),(∀ e∈l,∀ x∈e.fTrees,self x=some (f x))→zA.l6 self l i last=some (entB f last l)
 |[],i,last,_=>rfl
 |e::l,i,last,h=>by
  rw[zA.l6,entB]
  by_cases hc:last<e.fTag∧e.fTag≤500∧1≤e.fTrees.length∧e.fTrees.length≤64
  · rw[if_neg (by simp only[qG,decide_eq_true_eq]; omega),va7 hc.2.2.1 e.fTrees 0 (h e (qo ..)),decide_eq_true hc,uB]
    cases ha:e.fTrees.all fun x=>decide (x.fKind=(e.fTrees.headD zTree).fKind)&&f x with
    |false=>rfl
    |true=>rw[if_pos rfl,vbV l _ _ fun y hy=>h y (qm _ hy),uB]
  rw[if_pos (by simp only[qG,decide_eq_true_eq]; omega),decide_eq_false hc]; rfl
theorem rright_eq : ∀ (d m k:Nat) (t:GTree),d<m→XQ m t≤d→2*d<k→szT d t→yS k t=some (Za d t)
 |d,m,0,t,_,_,h,_=>by omega
 |0,m+1,k+1,t,_,hd,_,hz=>by
  have h3:¬ t.fKind=3:=by
   intro h; rw[XQ,if_pos h] at hd; omega
  rw[yS,yS.body,Za,leafB,if_neg h3]
  split<;>first|rfl|(split<;>rfl)
 |d+1,m+1,k+1,t,hm,hd,hk,hz=>by
  rw[yS,yS.body,Za]
  by_cases h3:t.fKind=3
  · have hd':maxD (XQ m) (kids t) 0≤d:=by rw[XQ,if_pos h3] at hd; omega
    obtain⟨k',rfl⟩:∃ k',k=k'+1:=⟨k-1,by omega⟩
    have he:zA (k'+1) t.fEntries=some (entB (Za d) 0 t.fEntries):=by
     rw[zA,zA.body]
     exact vbV t.fEntries 0 0 fun e he x hx=>rright_eq d m k' x (by omega) (uA (maxD_mem (Yc he hx)) hd') (by omega) (hz.2 x (Yc he hx))
    have hr:yP t=some (restB t):=rrest_l4 (by have:=hz.1.2.1; omega) _ _;rw[if_neg (by omega),if_neg (by omega),if_pos h3,if_pos h3,he,hr]
    cases decide (t.fN=0)&&decide (t.fS=[]) with
    |false=>rfl
    |true=>cases entB (Za d) 0 t.fEntries<;>rfl
  rw[if_neg h3,if_neg h3,leafB]
  split<;>first|rfl|(split<;>rfl)
theorem ref09_Check_eq {t:GTree}(hz:szT 10 t):wM t=some (YB t):=by
 rw[wM,ref09_Depth_eq,qg,YB]
 by_cases h:XQ 101 t≤10
 · rw[if_pos (by omega),rright_eq 10 101 rounds t (by omega) h (by have:=yF; omega) hz,decide_eq_true h,uB]; rfl
 rw[if_neg (by omega),decide_eq_false h]; rfl
end
section
set_option maxRecDepth 4000
open AM
theorem rraws_l22 {selfE:GTree→Option (List UInt8×Int)}{enc:GTree→Option (List UInt8)}{x4:Int}{rec8:Int→List GRaw→Option (List GRaw×Int)}{y:GEntry}:∀ (l:List GTree) (i:Int) (acc:List GRaw),(∀ x∈l,(x.fKind=1∨x.fKind=2∨x.fKind=3)∧(x.fKind=3→selfE x=some (vb2 (enc x))∧∀ b,enc x=some b→b.length≤4096))→acc.length+l.length<3000000→
 zS.l22 selfE x4 rec8 y l i acc=YX (rawL enc y.fTag l) fun m=>rec8 (x4+1) (acc++m)
 |[],i,acc,_,_=>by rw[zS.l22,rawL,YX,qz]
 |x::l,i,acc,h,hl=>by
  rw[qj] at hl;have hx:=h x (qo ..)
  have go:∀ r:GRaw,rawT enc y.fTag x=some r→r.fB.length≤4096→zS.j37 i acc (zS.l22 selfE x4 rec8 y l) r=YX (rawL enc y.fTag (x::l)) fun m=>rec8 (x4+1) (acc++m):=by
   intro r hr hb
   rw[zS.j37,if_neg (by omega),xK (by omega),qg,rraws_l22 l _ _ (fun z hz=>h z (qm _ hz)) (by rw[qi,qC]; omega),rawL,hr,qg]
   cases rawL enc y.fTag l with
   |none=>rfl
   |some m=>simp only[YX,qg,qq,qD,qw]
  rw[zS.l22]
  by_cases h1:x.fKind=1
  · rw[if_pos h1];exact go _ (by rw[rawT,if_pos h1]) (uq _)
  rw[if_neg h1]
  by_cases h2:x.fKind=2
  · rw[if_pos h2]
    by_cases hb:4096<x.fS.length
    · rw[zS.j37,if_pos (by dsimp only; omega),rawL,rawT,if_neg h1,if_pos h2,if_pos hb]; rfl
    exact go _ (by rw[rawT,if_neg h1,if_pos h2,if_neg hb]) (by dsimp only; omega)
  rw[if_neg h2];obtain⟨he,hl4⟩:=hx.2 (by rcases hx.1 with h|h|h<;>omega);rw[he,qg]
  cases hx':enc x with
  |none=>rw[rawL,rawT,if_neg h1,if_neg h2,hx']; rfl
  |some b=>
   rw[vb2]; dsimp only
   rw[if_pos rfl];exact go _ (by rw[rawT,if_neg h1,if_neg h2,hx',qg]) (hl4 b hx')
theorem rraws_l8 {selfE:GTree→Option (List UInt8×Int)}{enc:GTree→Option (List UInt8)}{t:GTree}(hr:t.fRest.length≤900000):∀ (l:List GEntry) (i:Int) (acc:List GRaw),(∀ e∈l,e.fTrees.length≤64∧∀ x∈e.fTrees,(x.fKind=1∨x.fKind=2∨x.fKind=3)∧(x.fKind=3→selfE x=some (vb2 (enc x))∧∀ b,enc x=some b→b.length≤4096))→acc.length+64*l.length≤64000→
 zS.l8 selfE t l i acc=YX (rawE enc l) fun m=>some (srt ((acc++m)++t.fRest),0)
 |[],i,acc,_,hl=>by
  rw[zS.l8,xK (by simp only[ql] at hl; omega),qg,XI (by rw[qi]; simp only[ql] at hl; omega),rawE,YX,qz]; rfl
 |e::l,i,acc,h,hl=>by
  rw[qj] at hl;have he:=h e (qo ..);rw[zS.l8,rraws_l22 e.fTrees 0 acc he.2 (by omega),rawE]
  cases hL:rawL enc e.fTag e.fTrees with
  |none=>rfl
  |some m=>
   have hm:=rawL_len hL;rw[YX,rraws_l8 hr l _ _ (fun z hz=>h z (qm _ hz)) (by rw[qi]; omega),qg]
   cases rawE enc l with
   |none=>rfl
   |some m'=>simp only[YX,qg,qq]
theorem vb8 {l:List GRaw}{t:Int}(h:∀ r∈l,r.fTag≠t):l.filter (fun x=>x.fTag=t)=[]:=by
 rw[List.filter_eq_nil_iff]
 intro r hr
 simpa using h r hr
theorem srt_swap {l m:List GRaw}(h:∀ a∈l,∀ b∈m,a.fTag≠b.fTag):srt (l++m)=srt (m++l):=by
 refine srt_of (srt_sorted _) fun t=>?_
 rw[srt_filter,List.filter_append,List.filter_append]
 by_cases hl:∃ a∈l,a.fTag=t
 · obtain⟨a,ha,rfl⟩:=hl;rw[vb8 (l:=m) (t:=a.fTag) fun b hb hc=>h a ha b hb hc.symm,qz,qw]
 rw[vb8 (l:=l) (t:=t) fun a ha hc=>hl ⟨a,ha,hc⟩,qz,qw]
theorem rest_apart {d:Nat}{t:GTree}{L:List GRaw}(hr:Za (d+1) t=true)(h3:t.fKind=3)(hz:szT (d+1) t)(hL:rawE (vaA d) t.fEntries=some L):∀ a∈L,∀ b∈t.fRest,a.fTag≠b.fTag:=by
 obtain⟨_,he,hb,_,_⟩:=XW hr h3
 intro a ha b hb' hc
 obtain⟨_,e,hm,he'⟩:=rawE_ok (fun e hm=>by
  have:=Yr he e hm
  exact⟨by omega,this.2.1,fun x hx=>(szT_own (hz.2 x (Yc hm hx))).1⟩) hL a ha
 exact ((restB_mem hb).1 b hb').2 e hm (he'.symm.trans hc)
theorem rencode_eq : ∀ (d k:Nat) (t:GTree),2*d≤k→Za d t=true→t.fKind=3→szT d t→yM k t=some (vb2 (vaA d t))
 |0,k,t,_,hr,h3,_=>by
  rcases XM hr with h|h<;>omega
 |d+1,k,t,hk,hr,h3,hz=>by
  obtain⟨k',rfl⟩:∃ k',k=k'+2:=⟨k-2,by omega⟩
  obtain⟨hl,he,hb,_,_⟩:=XW hr h3
  have hs:∀ e∈t.fEntries,e.fTrees.length≤64∧∀ x∈e.fTrees,(x.fKind=1∨x.fKind=2∨x.fKind=3)∧(x.fKind=3→yM k' x=some (vb2 (vaA d x))∧∀ b,vaA d x=some b→b.length≤4096):=by
   intro e hm
   have h1:=Yr he e hm;refine⟨h1.2.2.2.1,fun x hx=>?_⟩;have hrx:=(h1.2.2.2.2 x hx).2;exact⟨XU hrx,fun hx3=>⟨rencode_eq d k' x (by omega) hrx hx3 (hz.2 x (Yc hm hx)),fun b=>vcg⟩⟩
  rw[yM,yM.body,zS,zS.body,rraws_l8 (enc:=vaA d) hz.1.2.1 t.fEntries 0 [] hs (by rw[ql]; omega),vaA]
  cases hL:rawE (vaA d) t.fEntries with
  |none=>rfl
  |some L=>
   have hok:=raws_ok hr h3 hz hL
   rw[YX,qg,qw,srt_swap (rest_apart hr h3 hz hL)]; dsimp only
   rw[if_pos rfl,vbZ fun r hr=>(hok r hr).2,vae hok,qg,qg]
theorem vbX {t:GTree}(hz:szT 10 t):wg t=some (if YB t=true∧t.fKind=3 then vb2 (vaA 10 t) else ([],1)):=by
 rw[wg,ref09_Check_eq hz]
 by_cases h3:t.fKind=3
 · rw[if_pos h3,qg,qg]
   by_cases hc:YB t=true
   · rw[if_neg (by rw[hc]; decide),if_pos ⟨hc,h3⟩,rencode_eq 10 rounds t (by have:=yF; omega) (vag hc).1 h3 hz,qg]
   rw[if_pos (by simpa using hc),if_neg (fun h=>hc h.1)]
 rw[if_neg h3,qg,if_pos rfl,if_neg (fun h=>h3 h.2)]
end
section
set_option maxRecDepth 4000
open AM
theorem count_l (a:List UInt8):∀ (k p:Nat) (x:Int),0<k→a.length<p+k→∃ v,yR.l9 a k p x=some v
 |0,p,x,h0,hk=>by omega
 |k+1,p,x,_,hk=>by
  have hd:=YH a p;rw[yR.l9]
  split
  · exact count_l a k _ _ (by omega) (by omega)
  exact⟨_,rfl⟩
theorem count_t {a:List UInt8}(h:a.length≤9223372036854775807):∃ v,yR a=some v:=by
 rw[yR,runesV_eq h,qg]
 split
 · exact⟨_,rfl⟩
 exact count_l a rounds 0 0 (by have:=yF; omega) (by have:=yF; omega)
theorem name_l (a:List UInt8):∀ (k p:Nat),0<k→a.length<p+k→∃ v,yE.l11 a k p=some v
 |0,p,h0,hk=>by omega
 |k+1,p,_,hk=>by
  have hd:=YH a p;rw[yE.l11]
  split
  · obtain⟨v,e⟩:=name_l a k (p+(YO a p).2) (by omega) (by omega);rw[e];unfold bnd
    dsimp only
    repeat' split
    all_goals exact⟨_,rfl⟩
  exact⟨_,rfl⟩
def nameV (a:List UInt8):Bool:=(yE a).getD false
def nmOk (a:List UInt8):Prop:=a.length≤140737488351232
theorem nameV_eq {a:List UInt8}(h:nmOk a):yE a=some (nameV a):=by
 unfold nmOk at h
 have:∃ v,yE a=some v:=by
  obtain⟨v,e⟩:=count_t (a:=a) (by omega);rw[yE,e,qg];obtain⟨w,ew⟩:=name_l a rounds 0 (by have:=yF; omega) (by have:=yF; omega);rw[ew];unfold bnd
  dsimp only
  repeat' split
  all_goals exact⟨_,rfl⟩
 obtain⟨v,e⟩:=this
 unfold nameV; rw[e]; rfl
theorem vbK {m:List (List UInt8×Bool)}{a:List UInt8}(h:nmOk a):∃ r,yn m a=some r:=by
 rw[yn,nameV_eq h,qg]
 split<;>exact⟨_,rfl⟩
def nmM (m:GMessage):Prop:=nmOk m.fName∧∀ f∈m.fFields,nmOk f.fName
def nmE (e:GEnumeration):Prop:=nmOk e.fName∧∀ v∈e.fValues,nmOk v.fName
def nmS (s:GSchema):Prop:=nmOk s.fName∧(∀ m∈s.fMessages,nmM m)∧(∀ e∈s.fEnums,nmE e)∧∀ x∈s.fMethods,nmOk x.fName
theorem msg_l21 {s:GSchema}{r2:Bool×List (List UInt8×Bool)}:∀ (l:List GField) (i:Int) (a:List (Int×Bool)) (b:List (List UInt8×Bool)),(∀ f∈l,nmOk f.fName)→∃ r,zF.l21 s r2 l i a b=some r
 |[],i,a,b,_=>⟨_,rfl⟩
 |f::l,i,a,b,h=>by
  obtain⟨r,e⟩:=vbK (m:=b) (h f (qo ..));rw[zF.l21,e,qg]
  split
  · exact⟨_,rfl⟩
  unfold bnd
  dsimp only
  split
  · exact⟨_,rfl⟩
  split
  · exact⟨_,rfl⟩
  exact msg_l21 l _ _ _ fun g hg=>h g (qm _ hg)
theorem msg_l12 {s:GSchema}{m:GMessage}{r2:Bool×List (List UInt8×Bool)}(hm:∀ f∈m.fFields,nmOk f.fName):∀ (l:List Int) (i:Int) (a:List (Int×Bool)),∃ r,zF.l12 s m r2 l i a=some r
 |[],i,a=>msg_l21 _ _ _ _ hm
 |n::l,i,a=>by
  rw[zF.l12];unfold bnd
  dsimp only
  split
  · exact⟨_,rfl⟩
  exact msg_l12 hm l _ _
theorem msg_t {s:GSchema}{a:List (List UInt8×Bool)}{m:GMessage}(hm:nmM m):∃ r,zF s a m=some r:=by
 obtain⟨r,e⟩:=vbK (m:=a) hm.1;rw[zF,e,qg]
 split
 · exact⟨_,rfl⟩
 split
 · exact⟨_,rfl⟩
 exact msg_l12 hm.2 _ _ _
theorem enum_l23 {r2:Bool×List (List UInt8×Bool)}:∀ (l:List GNamed) (i:Int) (a:List (List UInt8×Bool)) (b:List (Int×Bool)),(∀ f∈l,nmOk f.fName)→∃ r,yy.l23 r2 l i a b=some r
 |[],i,a,b,_=>⟨_,rfl⟩
 |f::l,i,a,b,h=>by
  obtain⟨r,e⟩:=vbK (m:=a) (h f (qo ..));rw[yy.l23,e,qg]
  split
  · exact⟨_,rfl⟩
  split
  · exact⟨_,rfl⟩
  exact enum_l23 l _ _ _ fun g hg=>h g (qm _ hg)
theorem enum_l12 {x:GEnumeration}{r2:Bool×List (List UInt8×Bool)}(hx:∀ v∈x.fValues,nmOk v.fName):∀ (l:List GNamed) (i:Int) (z:Bool),∃ r,yy.l12 x r2 l i z=some r
 |[],i,z=>by
  rw[yy.l12]
  split
  · exact⟨_,rfl⟩
  exact enum_l23 _ _ _ _ hx
 |v::l,i,z=>by rw[yy.l12]; exact enum_l12 hx l _ _
theorem enum_t {a:List (List UInt8×Bool)}{x:GEnumeration}(hx:nmE x):∃ r,yy a x=some r:=by
 obtain⟨r,e⟩:=vbK (m:=a) hx.1;rw[yy,e,qg]
 split
 · exact⟨_,rfl⟩
 split
 · exact⟨_,rfl⟩
 exact enum_l12 hx.2 _ _ _
theorem chk_l29 {s:GSchema}:∀ (l:List GMethod) (i:Int) (a:List (List UInt8×Bool)),(∀ x∈l,nmOk x.fName)→∃ r,zx.l29 s l i a=some r
 |[],i,a,_=>⟨_,rfl⟩
 |x::l,i,a,h=>by
  obtain⟨r,e⟩:=vbK (m:=a) (h x (qo ..));rw[zx.l29];unfold bnd
  dsimp only
  rw[e,qg]
  split
  · exact⟨_,rfl⟩
  split
  · exact⟨_,rfl⟩
  exact chk_l29 l _ _ fun g hg=>h g (qm _ hg)
theorem chk_l22 {s:GSchema}(hs:∀ x∈s.fMethods,nmOk x.fName):∀ (l:List GEnumeration) (i:Int) (a:List (List UInt8×Bool)),(∀ x∈l,nmE x)→∃ r,zx.l22 s l i a=some r
 |[],i,a,_=>chk_l29 _ _ _ hs
 |x::l,i,a,h=>by
  obtain⟨r,e⟩:=enum_t (a:=a) (h x (qo ..));rw[zx.l22,e,qg]
  split
  · exact chk_l22 hs l _ _ fun g hg=>h g (qm _ hg)
  exact⟨_,rfl⟩
theorem chk_l15 {s:GSchema}(hs:nmS s):∀ (l:List GMessage) (i:Int) (a:List (List UInt8×Bool)),(∀ x∈l,nmM x)→∃ r,zx.l15 s l i a=some r
 |[],i,a,_=>chk_l22 hs.2.2.2 _ _ _ hs.2.2.1
 |x::l,i,a,h=>by
  obtain⟨r,e⟩:=msg_t (s:=s) (a:=a) (h x (qo ..));rw[zx.l15,e,qg]
  split
  · exact chk_l15 hs l _ _ fun g hg=>h g (qm _ hg)
  exact⟨_,rfl⟩
def chkV (s:GSchema):Int:=(zx s).getD 0
theorem vci {s:GSchema}(hs:nmS s):zx s=some (chkV s):=by
 have:∃ r,zx s=some r:=by
  rw[zx,nameV_eq hs.1,qg]
  split
  · exact⟨_,rfl⟩
  split
  · exact⟨_,rfl⟩
  split
  · exact⟨_,rfl⟩
  exact chk_l15 hs _ _ _ hs.2.1
 obtain⟨v,e⟩:=this
 unfold chkV; rw[e]; rfl
end
section
set_option maxRecDepth 4000
open AM
inductive Shuf : List GRaw→List GRaw→Prop
 |refl (l:List GRaw):Shuf l l
 |cons (a:GRaw) {l m:List GRaw}:Shuf l m→Shuf (a::l) (a::m)
 |swap {a b:GRaw} (h:a.fTag≠b.fTag) (l:List GRaw):Shuf (a::b::l) (b::a::l)
 |trans {l m n:List GRaw}:Shuf l m→Shuf m n→Shuf l n
theorem Shuf.app {l m:List GRaw}(h:Shuf l m)(k:List GRaw):Shuf (l++k) (m++k):=by
 induction h with
 |refl l=>exact .refl _
 |cons a _ ih=>exact .cons a ih
 |swap h l=>exact .swap h _
 |trans _ _ h1 h2=>exact .trans h1 h2
end
section
set_option maxRecDepth 4000
open AM

end
section
set_option maxRecDepth 4000
open AM

end
section
set_option maxRecDepth 4000
open AM

end
section
set_option maxRecDepth 4000
open AM
theorem msgI_l21 {s:GSchema}{r2:Bool×List (List UInt8×Bool)}{z:List (List UInt8×Bool)}:∀ {l:List GField} {i:Int} {a:List (Int×Bool)} {b:List (List UInt8×Bool)},zF.l21 s r2 l i a b=some (0,z)→∀ f∈l,1≤f.fType.fKind∧f.fType.fKind≤7
 |[],_,_,_,_,f,hf=>by cases hf
 |g::l,i,a,b,h,f,hf=>by
  rw[zF.l21] at h;obtain⟨r,_,h⟩:=bind_some h
  split at h
  · cases h
  unfold bnd at h
  dsimp only at h
  split at h
  · cases h
  split at h
  · cases h
  rename_i hc
  rcases qA.1 hf with rfl|hf
  · rw[uS,Bool.not_eq_false] at hc;unfold wb at hc
    split at hc
    · omega
    split at hc
    · omega
    simp only[qn,decide_eq_true_eq] at hc
    omega
  exact msgI_l21 h f hf
theorem msgI_l12 {s:GSchema}{m:GMessage}{r2:Bool×List (List UInt8×Bool)}{z:List (List UInt8×Bool)}:∀ {l:List Int} {i:Int} {a:List (Int×Bool)},zF.l12 s m r2 l i a=some (0,z)→∀ f∈m.fFields,1≤f.fType.fKind∧f.fType.fKind≤7
 |[],_,_,h=>msgI_l21 h
 |n::l,i,a,h=>by
  rw[zF.l12] at h;unfold bnd at h
  dsimp only at h
  split at h
  · cases h
  exact msgI_l12 h
theorem msgI {s:GSchema}{a z:List (List UInt8×Bool)}{m:GMessage}(h:zF s a m=some (0,z)):∀ f∈m.fFields,1≤f.fType.fKind∧f.fType.fKind≤7:=by
 rw[zF] at h;obtain⟨r,_,h⟩:=bind_some h
 split at h
 · cases h
 split at h
 · cases h
 exact msgI_l12 h
def kindsS (s:GSchema):Prop:=∀ m∈s.fMessages,∀ f∈m.fFields,1≤f.fType.fKind∧f.fType.fKind≤7
theorem chkI_l15 {s:GSchema}:∀ {l:List GMessage} {i:Int} {a:List (List UInt8×Bool)},zx.l15 s l i a=some 0→∀ m∈l,∀ f∈m.fFields,1≤f.fType.fKind∧f.fType.fKind≤7
 |[],_,_,_,m,hm=>by cases hm
 |x::l,i,a,h,m,hm=>by
  rw[zx.l15] at h;obtain⟨⟨v,z⟩,e,h⟩:=bind_some h
  dsimp only at h
  split at h
  · rename_i h0
    subst h0
    rcases qA.1 hm with rfl|hm
    · exact msgI e
    exact chkI_l15 h m hm
  rename_i h0
  exact absurd (Option.some.inj h) h0
theorem kindsS_of {s:GSchema}(h:zx s=some 0):kindsS s:=by
 rw[zx] at h;obtain⟨r,_,h⟩:=bind_some h
 split at h
 · cases h
 split at h
 · cases h
 split at h
 · cases h
 exact chkI_l15 h
theorem msg_mem {n:List UInt8}:∀ (l:List GMessage) (i:Int),((zG.l4 n l i).1∈l∧(zG.l4 n l i).2=true)∨((zG.l4 n l i).1.fFields=[]∧(zG.l4 n l i).2=false)
 |[],i=>Or.inr ⟨rfl,rfl⟩
 |m::l,i=>by
  rw[zG.l4]
  split
  · exact Or.inl ⟨qo ..,rfl⟩
  rcases msg_mem (n:=n) l (i+1) with h|h
  · exact Or.inl ⟨qm _ h.1,h.2⟩
  exact Or.inr h
def kindsM (m:GMessage):Prop:=∀ f∈m.fFields,1≤f.fType.fKind∧f.fType.fKind≤7
theorem kinds_msg {s:GSchema}(h:kindsS s)(n:List UInt8):kindsM (vaQ s n):=by
 rcases msg_mem (n:=n) s.fMessages 0 with e|e
 · exact h _ e.1
 intro f hf
 have:(vaQ s n).fFields=[]:=e.1
 rw[this] at hf; cases hf
end
section
set_option maxRecDepth 4000
open AM
def szS (s:GSchema):Prop:=nmS s∧s.fMessages.length*64≤140737488351232∧s.fEnums.length*40≤140737488351232∧s.fMethods.length*48≤140737488351232∧(∀ m∈s.fMessages,m.fFields.length*56≤140737488351232∧m.fReserved.length*8≤140737488351232)∧∀ e∈s.fEnums,e.fValues.length*24≤140737488351232
theorem ge_eta (e:GEnumeration):(⟨e.fName,e.fValues⟩:GEnumeration)=e:=rfl
theorem gm_eta (m:GMessage):(⟨m.fName,m.fFields,m.fReserved⟩:GMessage)=m:=rfl
theorem schema_l19 {s:GSchema}{M:List GMessage}(hs:szS s):∀ (B A:List GEnumeration) (i:Int),s.fEnums=A++B→ym.l19 s M B i A=some ⟨s.fName,M,s.fEnums,s.fMethods⟩
 |[],A,i,h=>by rw[ym.l19,h,qz]
 |e::B,A,i,h=>by
  have hl:s.fEnums.length=A.length+(B.length+1):=by rw[h,qi,qj]
  have h1:=hs.2.2.1;have h2:=hs.2.2.2.2.2 e (by rw[h]; exact q1 _ (qo ..));rw[ym.l19,xK (by omega),qg,xK (by omega),qg,ge_eta,schema_l19 hs B (A++[e]) _ (by rw[h,qq]; rfl)]
theorem schema_l10 {s:GSchema}(hs:szS s):∀ (B A:List GMessage) (i:Int),s.fMessages=A++B→ym.l10 s B i A=some s
 |[],A,i,h=>by
  rw[ym.l10,schema_l19 hs s.fEnums [] 0 rfl];rw[qz] at h;rw[← h]
 |m::B,A,i,h=>by
  have hl:s.fMessages.length=A.length+(B.length+1):=by rw[h,qi,qj]
  have h1:=hs.2.1;have h2:=hs.2.2.2.2.1 m (by rw[h]; exact q1 _ (qo ..));rw[ym.l10,xK (by omega),qg,wz,xK (by omega),qg,qg,xK (by omega),qg,gm_eta,schema_l10 hs B (A++[m]) _ (by rw[h,qq]; rfl)]
theorem schema_eq {s:GSchema}(hs:szS s):ym s=some s:=by
 have:=hs.2.2.2.1;rw[ym,xK (by omega),qg,schema_l10 hs s.fMessages [] 0 rfl]
theorem few_l25 {m:GMessage}{x2 x3:Int}{rec6:Int→Int→Option Bool}(hr:∃ b,rec6 (IntKind.i64.wrap (x2+(qc m.fName:Int))) (IntKind.i64.wrap (x3+1))=some b):∀ (l:List GField) (i:Int),∃ b,zH.l25 x2 x3 rec6 m l i=some b
 |[],_=>by rw[zH.l25]; exact hr
 |f::l,i=>by
  rw[zH.l25]
  split
  · exact⟨_,rfl⟩
  exact few_l25 hr l _
theorem few_l60 {x:Int}{rec43:Int→Option Bool}(hr:∃ b,rec43 (IntKind.i64.wrap (x+1))=some b):∀ (l:List GNamed) (i:Int),∃ b,zH.l60 x rec43 l i=some b
 |[],_=>by rw[zH.l60]; exact hr
 |f::l,i=>by
  rw[zH.l60]
  split
  · exact⟨_,rfl⟩
  exact few_l60 hr l _
theorem Xv {α:Type}{l:List α}{j:Nat}(h:j<l.length):Zt l (j:Int)=some (l[j]'h):=
 idx_t (by omega) (by rw[qR]; exact qW h)
theorem few_l78 {s:GSchema}{n:Int}:∀ (k j:Nat),20<k+j→j≤20→∃ b,zH.l78 s n k (j:Int)=some b
 |0,j,h,h'=>by omega
 |k+1,j,h,h'=>by
  rw[zH.l78]
  split
  · rename_i hc
    simp only[qn,decide_eq_true_eq] at hc;rw[Xv (show j<s.fMethods.length by omega),qg]
    split
    · exact⟨_,rfl⟩
    rw[yu (by omega) (by omega),show (j:Int)+1=((j+1:Nat):Int) by omega];exact few_l78 k (j+1) (by omega) (by omega)
  exact⟨_,rfl⟩
theorem few_l43 {s:GSchema}{n:Int}:∀ (k j:Nat),20<k+j→j≤20→∃ b,zH.l43 s n k (j:Int)=some b
 |0,j,h,h'=>by omega
 |k+1,j,h,h'=>by
  rw[zH.l43]
  split
  · rename_i hc
    simp only[qn,decide_eq_true_eq] at hc;rw[Xv (show j<s.fEnums.length by omega),qg]
    split
    · exact⟨_,rfl⟩
    refine few_l60 ?_ _ _;rw[yu (by omega) (by omega),show (j:Int)+1=((j+1:Nat):Int) by omega];exact few_l43 k (j+1) (by omega) (by omega)
  exact few_l78 rounds 0 (by have:=yF; omega) (by omega)
theorem few_l6 {s:GSchema}:∀ (k j:Nat) (n:Int),20<k+j→j≤20→∃ b,zH.l6 s k n (j:Int)=some b
 |0,j,n,h,h'=>by omega
 |k+1,j,n,h,h'=>by
  rw[zH.l6]
  split
  · rename_i hc
    simp only[qn,decide_eq_true_eq] at hc;rw[Xv (show j<s.fMessages.length by omega),qg]
    split
    · exact⟨_,rfl⟩
    refine few_l25 ?_ _ _;rw[yu (x:=(j:Int)+1) (by omega) (by omega),show (j:Int)+1=((j+1:Nat):Int) by omega];exact few_l6 k (j+1) _ (by omega) (by omega)
  exact few_l43 rounds 0 (by have:=yF; omega) (by omega)
theorem few_t (s:GSchema):∃ b,zH s=some b:=few_l6 rounds 0 _ (by have:=yF; omega) (by omega)
end
section
set_option maxRecDepth 4000
open AM
def bt (a:List UInt8)(i:Nat):Nat:=(a.getD i 0).toNat
theorem bt_lt (a:List UInt8)(i:Nat):bt a i<256:=UInt8.toNat_lt _
theorem bt_get {a:List UInt8}{i:Nat}(h:i<a.length):bt a i=(a[i]'h).toNat:=by
 unfold bt; rw[qt,qW h]; rfl
theorem bt_drop (a:List UInt8)(p i:Nat):bt (a.drop p) i=bt a (p+i):=by
 unfold bt; rw[qt,qt,List.getElem?_drop]
def decB (b:Nat→Nat)(n:Nat):Nat×Nat:=
 if b 0<128 then (b 0,1)
 else if b 0 / 32=6∧(1<n∧b 1 / 64=2) then
  (if 128≤b 0 % 32*64+b 1 % 64 then (b 0 % 32*64+b 1 % 64,2) else (65533,1))
 else if b 0 / 16=14∧(1<n∧b 1 / 64=2)∧(2<n∧b 2 / 64=2) then
  (if 2048≤b 0 % 16*4096+b 1 % 64*64+b 2 % 64∧Utf8.valid ((b 0 % 16*4096+b 1 % 64*64+b 2 % 64:Nat):Int)=true then (b 0 % 16*4096+b 1 % 64*64+b 2 % 64,3) else (65533,1))
 else if b 0 / 8=30∧(1<n∧b 1 / 64=2)∧(2<n∧b 2 / 64=2)∧(3<n∧b 3 / 64=2) then
  (if 65536≤b 0 % 8*262144+b 1 % 64*4096+b 2 % 64*64+b 3 % 64∧Utf8.valid ((b 0 % 8*262144+b 1 % 64*4096+b 2 % 64*64+b 3 % 64:Nat):Int)=true then (b 0 % 8*262144+b 1 % 64*4096+b 2 % 64*64+b 3 % 64,4) else (65533,1))
 else (65533,1)
theorem get_bt (a:List UInt8)(i:Nat):(ByteArray.get! ⟨a.toArray⟩ i).toNat=bt a i:=by
 unfold bt ByteArray.get!
 simp[qt,Array.getElem!_eq_getD]
 rfl
theorem decU_eq (a:List UInt8)(p:Nat):YO a p=decB (fun k=>bt a (p+k)) (a.length-p):=by
 have hs:(⟨a.toArray⟩:ByteArray).size=a.length:=rfl
 have hc:∀ k,(p+k<a.length)=(k<a.length-p):=fun k=>by rw[eq_iff_iff]; omega
 unfold YO Utf8.decode decB;simp only[get_bt,hs,hc,Utf8.runeError,qn,decide_eq_true_eq,beq_iff_eq,and_assoc,ge_iff_le]
theorem decU_drop (a:List UInt8)(p:Nat):YO (a.drop p) 0=YO a p:=by
 rw[decU_eq,decU_eq,uQ];simp only[bt_drop,qs,uP]
theorem tail_eq {a:List UInt8}{i:Nat}:Zf a (i:Int)=some (if i<a.length∧bt a i / 64=2 then ((bt a i % 64:Nat):Int) else -1):=by
 have hb:=bt_lt a i;rw[Zf]
 by_cases h:i<a.length
 · rw[if_neg (by omega),Xv h,qg,← bt_get h]
   by_cases h1:bt a i<128
   · rw[decide_eq_true (by omega),qg,if_pos rfl,qg,if_pos rfl,if_neg (by omega)]
   rw[decide_eq_false (by omega),qg,if_neg (by decide),qg,← bt_get h]
   by_cases h2:191<bt a i
   · rw[decide_eq_true (by omega),qg,if_pos rfl,if_neg (by omega)]
   rw[decide_eq_false (by omega),qg,if_neg (by decide),qg,← bt_get h,if_pos (by omega),yu (x:=(bt a i:Int)) (by omega) (by omega),yu (by omega) (by omega)]
   congr 1; omega
 rw[if_pos (by omega),qg,if_pos rfl,qg,if_pos rfl,if_neg (by omega)]
theorem i32_in {x:Int}(h:0≤x)(h':x<2147483648):IntKind.i32.wrap x=x:=by rw[IntKind.wrap_i32]; omega
theorem l17_go {a:List UInt8}{p n least k v:Nat}(j j':Nat)(hj':j'=j+1)(hj:j<n)(hp:p+j<4611686018427387904)(hv:v<1073741824):yB.l17 a (p:Int) (n:Int) (least:Int) (k+1) (v:Int) (j:Int)=
 if p+j<a.length∧bt a (p+j) / 64=2 then yB.l17 a (p:Int) (n:Int) (least:Int) k ((v*64+bt a (p+j) % 64:Nat):Int) (j':Int) else some (0,0,false):=by
 rw[yB.l17,if_pos (by omega),yu (x:=(p:Int)+j) (by omega) (by omega),show (p:Int)+(j:Int)=((p+j:Nat):Int) by omega,tail_eq,qg]
 by_cases h:p+j<a.length∧bt a (p+j) / 64=2
 · rw[if_pos h,if_pos h,if_neg (by omega),yu (x:=64*(v:Int)) (by omega) (by omega),yu (x:=64*(v:Int)+_) (by omega) (by omega),yu (x:=(j:Int)+1) (by omega) (by omega),show 64*(v:Int)+((bt a (p+j) % 64:Nat):Int)=((v*64+bt a (p+j) % 64:Nat):Int) by omega,show (j:Int)+1=(j':Int) by omega]
 rw[if_neg h,if_neg h,if_pos (by omega)]
theorem l17_end {a:List UInt8}{p n least k v:Nat}:yB.l17 a (p:Int) (n:Int) (least:Int) (k+1) (v:Int) (n:Int)=if v<least∨1114111<v∨(55296≤v∧v≤57343) then some (0,0,false) else some ((v:Int),(n:Int),true):=by
 rw[yB.l17,if_neg (by omega)]
 by_cases h:v<least∨1114111<v∨(55296≤v∧v≤57343)
 · rw[if_pos h,if_pos (by simp only[qG,qn,decide_eq_true_eq]; omega)]
 rw[if_neg h,if_neg (by simp only[qG,qn,decide_eq_true_eq]; omega),i32_in (by omega) (by omega)]
theorem next_eq {a:List UInt8}{p:Nat}(hp:p<a.length)(hl:a.length<2305843009213693952):(yB a (p:Int)=some (0,0,false)∧(YO a p)=(65533,1)) ∨
 ∃ c m:Nat,yB a (p:Int)=some ((c:Int),(m:Int),true)∧YO a p=(c,m)∧1≤m∧m≤4∧(c=65533→2≤m):=by
 obtain⟨K,hK⟩:∃ K,rounds=K+5:=⟨rounds-5,by have:=yF; omega⟩
 have h0:=bt_lt a p;have h1:=bt_lt a (p+1);have h2:=bt_lt a (p+2);have h3:=bt_lt a (p+3)
 have hn:∀ k,(k<a.length-p)=(p+k<a.length):=fun k=>by rw[eq_iff_iff]; omega
 rw[decU_eq,decB];simp only[hn,uV];rw[yB,if_neg (by simp only[qG,decide_eq_true_eq]; omega),Xv hp,qg,← bt_get hp,yu (x:=(bt a p:Int)) (by omega) (by omega)]
 by_cases c1:bt a p<128
 · right
   rw[if_pos c1,if_pos (by omega),i32_in (by omega) (by omega)];exact⟨bt a p,1,rfl,rfl,by omega,by omega,by omega⟩
 rw[if_neg c1,if_neg (by omega)]
 by_cases c2:bt a p / 32=6
 · rw[if_pos (by simp only[qn,decide_eq_true_eq]; omega),yB.j11,hK,yu (by omega) (by omega),show ((bt a p:Nat):Int)-192=((bt a p % 32:Nat):Int) by omega,show (2:Int)=((2:Nat):Int) from rfl,show (128:Int)=((128:Nat):Int) from rfl,show (1:Int)=((1:Nat):Int) from rfl,l17_go 1 2 rfl (by omega) (by omega) (by omega)]
   by_cases d1:p+1<a.length∧bt a (p+1) / 64=2
   · rw[if_pos d1,if_pos ⟨c2,d1⟩,show K+4=(K+3)+1 from rfl,l17_end]
     by_cases e1:128≤bt a p % 32*64+bt a (p+1) % 64
     · rw[if_neg (by omega),if_pos e1];exact Or.inr ⟨_,_,rfl,rfl,by omega,by omega,by omega⟩
     rw[if_pos (by omega),if_neg e1]; exact Or.inl ⟨rfl,rfl⟩
   rw[if_neg d1,if_neg (fun h=>d1 h.2),if_neg (by omega),if_neg (by omega)];exact Or.inl ⟨rfl,rfl⟩
 rw[if_neg (by simp only[qn,decide_eq_true_eq]; omega),if_neg (show ¬ (bt a p / 32=6∧_) from fun h=>c2 h.1)]
 by_cases c3:bt a p / 16=14
 · rw[if_pos (by simp only[qn,decide_eq_true_eq]; omega),yB.j11,hK,yu (by omega) (by omega),show ((bt a p:Nat):Int)-224=((bt a p % 16:Nat):Int) by omega,show (3:Int)=((3:Nat):Int) from rfl,show (2048:Int)=((2048:Nat):Int) from rfl,show (1:Int)=((1:Nat):Int) from rfl,l17_go 1 2 rfl (by omega) (by omega) (by omega)]
   by_cases d1:p+1<a.length∧bt a (p+1) / 64=2
   · rw[if_pos d1,show K+4=(K+3)+1 from rfl,l17_go 2 3 rfl (by omega) (by omega) (by omega)]
     by_cases d2:p+2<a.length∧bt a (p+2) / 64=2
     · rw[if_pos d2,if_pos ⟨c3,d1,d2⟩,show K+3=(K+2)+1 from rfl,l17_end]
       have ev:(bt a p % 16*64+bt a (p+1) % 64)*64+bt a (p+2) % 64=bt a p % 16*4096+bt a (p+1) % 64*64+bt a (p+2) % 64:=by omega
       rw[ev]
       by_cases e1:2048≤bt a p % 16*4096+bt a (p+1) % 64*64+bt a (p+2) % 64∧Utf8.valid ((bt a p % 16*4096+bt a (p+1) % 64*64+bt a (p+2) % 64:Nat):Int)=true
       · have e2:=e1.2;unfold Utf8.valid at e2;simp only[qG,qn,decide_eq_true_eq] at e2;rw[if_neg (by omega),if_pos e1];exact Or.inr ⟨_,_,rfl,rfl,by omega,by omega,by omega⟩
       have e2:=e1;unfold Utf8.valid at e2;simp only[qG,qn,decide_eq_true_eq] at e2
       rw[if_pos (by omega),if_neg e1]; exact Or.inl ⟨rfl,rfl⟩
     rw[if_neg d2,if_neg (fun h=>d2 h.2.2),if_neg (by omega)];exact Or.inl ⟨rfl,rfl⟩
   rw[if_neg d1,if_neg (fun h=>d1 h.2.1),if_neg (by omega)];exact Or.inl ⟨rfl,rfl⟩
 rw[if_neg (by simp only[qn,decide_eq_true_eq]; omega),if_neg (show ¬ (bt a p / 16=14∧_) from fun h=>c3 h.1)]
 by_cases c4:bt a p / 8=30
 · rw[if_pos (by simp only[qn,decide_eq_true_eq]; omega),yB.j11,hK,yu (by omega) (by omega),show ((bt a p:Nat):Int)-240=((bt a p % 8:Nat):Int) by omega,show (4:Int)=((4:Nat):Int) from rfl,show (65536:Int)=((65536:Nat):Int) from rfl,show (1:Int)=((1:Nat):Int) from rfl,l17_go 1 2 rfl (by omega) (by omega) (by omega)]
   by_cases d1:p+1<a.length∧bt a (p+1) / 64=2
   · rw[if_pos d1,show K+4=(K+3)+1 from rfl,l17_go 2 3 rfl (by omega) (by omega) (by omega)]
     by_cases d2:p+2<a.length∧bt a (p+2) / 64=2
     · rw[if_pos d2,show K+3=(K+2)+1 from rfl,l17_go 3 4 rfl (by omega) (by omega) (by omega)]
       by_cases d3:p+3<a.length∧bt a (p+3) / 64=2
       · rw[if_pos d3,if_pos ⟨c4,d1,d2,d3⟩,show K+2=(K+1)+1 from rfl,l17_end]
         have ev:((bt a p % 8*64+bt a (p+1) % 64)*64+bt a (p+2) % 64)*64+bt a (p+3) % 64=bt a p % 8*262144+bt a (p+1) % 64*4096+bt a (p+2) % 64*64+bt a (p+3) % 64:=by omega
         rw[ev]
         by_cases e1:65536≤bt a p % 8*262144+bt a (p+1) % 64*4096+bt a (p+2) % 64*64+bt a (p+3) % 64∧Utf8.valid ((bt a p % 8*262144+bt a (p+1) % 64*4096+bt a (p+2) % 64*64+bt a (p+3) % 64:Nat):Int)=true
         · have e2:=e1.2;unfold Utf8.valid at e2;simp only[qG,qn,decide_eq_true_eq] at e2;rw[if_neg (by omega),if_pos e1];exact Or.inr ⟨_,_,rfl,rfl,by omega,by omega,by omega⟩
         have e2:=e1;unfold Utf8.valid at e2;simp only[qG,qn,decide_eq_true_eq] at e2
         rw[if_pos (by omega),if_neg e1]; exact Or.inl ⟨rfl,rfl⟩
       rw[if_neg d3,if_neg (fun h=>d3 h.2.2.2)];exact Or.inl ⟨rfl,rfl⟩
     rw[if_neg d2,if_neg (fun h=>d2 h.2.2.1)];exact Or.inl ⟨rfl,rfl⟩
   rw[if_neg d1,if_neg (fun h=>d1 h.2.1)];exact Or.inl ⟨rfl,rfl⟩
 rw[if_neg (by simp only[qn,decide_eq_true_eq]; omega),if_neg (show ¬ (bt a p / 8=30∧_) from fun h=>c4 h.1)];exact Or.inl ⟨rfl,rfl⟩
end
section
set_option maxRecDepth 4000
open AM
def rl (a:List UInt8):Nat→Nat→Option (List Nat)
 |0,_=>none
 |k+1,p=>if p<a.length then (if YO a p=(65533,1) then none else (rl a k (p+(YO a p).2)).map ((YO a p).1 :: ·)) else some []
theorem rl_all {a:List UInt8}(hl:a.length≤30000):∀ (k p:Nat) (l:List Int),a.length<p+k→0<k→p≤40000→l.length+(a.length-p)≤40000→xQ.l8 a k l (p:Int)=some (match rl a k p with|some T=>(l++T.map (fun c:Nat=>(c:Int)),true)|none=>([],false))
 |0,p,l,h,h0,_,_=>by omega
 |k+1,p,l,h,_,hp,hll=>by
  rw[xQ.l8,rl]
  by_cases hpl:p<a.length
  · rw[if_pos (by omega),if_pos hpl]
    rcases next_eq hpl (by omega) with ⟨e,ed⟩|⟨c,m,e,ed,h1,h2,h3⟩
    · rw[e,qg,if_pos (by rfl),if_pos ed]
    rw[e,qg,if_neg (by simp),xK (by omega),qg,if_neg (fun h=>by rw[ed] at h; simp only[Prod.mk.injEq] at h; have:=h3 h.1; omega),ed]
    dsimp only
    rw[yu (by omega) (by omega),show (p:Int)+(m:Int)=((p+m:Nat):Int) by omega,rl_all hl k (p+m) _ (by omega) (by omega) (by omega) (by rw[qi,qC]; omega)]
    cases rl a k (p+m) with
    |none=>rfl
    |some T=>simp only[uE,qJ,qq,qD,qw]
  rw[if_neg (by omega),if_neg hpl]; simp only[qx,qz]
theorem cut_drop {a:List UInt8}{p:Nat}(h:p<a.length):Xa a (p:Int) (a.length:Int)=a.drop p:=by
 unfold Xa;rw[qR,qR,ul (by rw[uQ]; omega)]
theorem rnext_eq {a:List UInt8}{p:Nat}(h:p<a.length)(hl:a.length≤30000):∃ r,ww a (p:Int)=some r∧(r.2.2=true↔YO a p≠(65533,1)):=by
 have hd:ZS (Xa a (p:Int) (a.length:Int))=(((YO a p).1:Int),((YO a p).2:Int)):=by
  rw[cut_drop h,ZS,dec0,if_neg (fun hc=>by have:=congrArg qc hc; rw[uQ,ql] at this; omega),decU_drop]
 rw[ww,if_neg (by simp only[qG,decide_eq_true_eq]; omega),Y2 (by omega),qg,bnd,hd]
 rcases next_eq h (by omega) with ⟨_,ed⟩|⟨c,m,_,ed,h1,h2,h3⟩
 · rw[ed];refine⟨_,by rw[if_pos (by simp)],?_⟩
   simp
 rw[ed]
 have hne:¬ ((c,m)=(65533,1)):=fun hc=>by simp only[Prod.mk.injEq] at hc; have:=h3 hc.1; omega
 refine⟨_,by rw[if_neg (by simp only[qn,decide_eq_true_eq]; omega)],?_⟩
 simp[hne]
theorem rl_valid {a:List UInt8}(hl:a.length≤30000):∀ (k p:Nat),a.length<p+k→0<k→yC.l4 a k p=some (rl a k p).isSome
 |0,p,h,h0=>by omega
 |k+1,p,h,_=>by
  rw[yC.l4,rl]
  by_cases hpl:p<a.length
  · rw[if_pos hpl,if_pos hpl];have hm:=YH a p;have ih:=rl_valid hl k (p+(YO a p).2) (by omega) (by omega)
    by_cases hb:YO a p=(65533,1)
    · obtain⟨r,e,hr⟩:=rnext_eq hpl hl;rw[if_pos hb,if_pos (by rw[hb]; rfl),e,qg,if_pos]
      · rfl
      cases hv:r.2.2 with
      |true=>exact absurd hb (hr.1 hv)
      |false=>rfl
    rw[if_neg hb,Option.isSome_map]
    split
    · obtain⟨r,e,hr⟩:=rnext_eq hpl hl;rw[e,qg,if_neg (by rw[hr.2 hb]; decide),ih]
    exact ih
  rw[if_neg hpl,if_neg hpl]; rfl
theorem rl_count {a:List UInt8}(hl:a.length≤30000):∀ (k p:Nat) (x:Nat) (T:List Nat),x+(a.length-p)≤40000→rl a k p=some T→yR.l9 a k p (x:Int)=some ((x+T.length:Nat):Int)
 |0,p,x,T,_,h=>by cases h
 |k+1,p,x,T,hx,h=>by
  rw[rl] at h;rw[yR.l9]
  by_cases hpl:p<a.length
  · have hm:=YH a p;rw[if_pos hpl] at h ⊢
    split at h
    · cases h
    obtain⟨T',hT,rfl⟩:=Option.map_eq_some_iff.1 h;rw[yu (by omega) (by omega),show (x:Int)+1=((x+1:Nat):Int) by omega,rl_count hl k _ (x+1) T' (by omega) hT,qj]
    congr 2; omega
  rw[if_neg hpl] at h ⊢
  cases h; rfl
def lod (c:Nat):Bool:=xz (c:Int)||wm (c:Int)
theorem letter_eq (c:Int):xi c=xz c:=by
 rw[Bool.eq_iff_iff];unfold xi xi.j6 xz wC bnd
 by_cases h1:c=95
 · subst h1; decide
 by_cases h2:c=215
 · subst h2; decide
 by_cases h3:c=247
 · subst h3; decide
 by_cases h4:c=930
 · subst h4; decide
 simp only[h1,h2,h3,h4,if_false,decide_false,uc,Bool.ite_eq_true_distrib,qG,qn,decide_eq_true_eq,qE,and_true,or_false,ite_then_self]
 (repeat' split)<;>first|omega|simp_all|(simp_all; omega)
theorem digit_eq (c:Int):wY c=wm c:=rfl
theorem key_eq (a:List UInt8):xq a=xn a:=rfl
theorem rl_name {a:List UInt8}:∀ (k p:Nat) (T:List Nat),0<p→rl a k p=some T→yE.l11 a k p=some (T.all lod)
 |0,p,T,_,h=>by cases h
 |k+1,p,T,h0,h=>by
  rw[rl] at h;rw[yE.l11]
  by_cases hpl:p<a.length
  · have hm:=YH a p;rw[if_pos hpl] at h ⊢
    split at h
    · cases h
    obtain⟨T',hT,rfl⟩:=Option.map_eq_some_iff.1 h;have ih:=rl_name k _ T' (by omega) hT;rw[letter_eq,digit_eq,ih,qV,lod];unfold bnd
    dsimp only
    rw[if_neg (show ¬ ((p:Nat):Int)=0 by omega)]
    cases xz ((YO a p).1:Int)<;>cases wm ((YO a p).1:Int)<;>rfl
  rw[if_neg hpl] at h ⊢
  cases h; rfl
theorem ref_l14 {L:List Nat}{v:Bool}(hL:L.length≤40000):∀ (k i:Nat),L.length<k+i→i≤L.length→xg.l14 (L.map (fun c:Nat=>(c:Int)),v) k (i:Int)=some ((L.drop i).all lod)
 |0,i,h,h'=>by omega
 |k+1,i,h,h'=>by
  rw[xg.l14]
  by_cases hi:i<L.length
  · have hi':i<(L.map (fun c:Nat=>(c:Int))).length:=by rw[q2]; exact hi
    rw[if_pos (by dsimp only; omega),Xv hi',qg,List.getElem_map,yu (by omega) (by omega),show (i:Int)+1=((i+1:Nat):Int) by omega,ref_l14 hL k (i+1) (by omega) (by omega),uO hi,qV,lod];unfold bnd
    dsimp only
    cases xz (L[i]:Int)<;>cases wm (L[i]:Int)<;>rfl
  rw[if_neg (by dsimp only; rw[q2]; omega),List.drop_of_length_le (by omega)]; rfl
theorem rl_len {a:List UInt8}:∀ (k p:Nat) (T:List Nat),rl a k p=some T→T.length≤a.length-p
 |0,p,T,h=>by cases h
 |k+1,p,T,h=>by
  rw[rl] at h;have hm:=YH a p
  split at h
  · split at h
    · cases h
    obtain⟨T',hT,rfl⟩:=Option.map_eq_some_iff.1 h;have:=rl_len k _ T' hT
    rw[qj]; omega
  cases h; exact uq _
theorem name_eq {a:List UInt8}(hl:a.length≤30000):xg a=yE a:=by
 have hr:=yF;have e1:=rl_all hl rounds 0 [] (by omega) (by omega) (by omega) (by rw[ql]; omega);have e2:=rl_valid hl rounds 0 (by omega) (by omega)
 cases hT:rl a rounds 0 with
 |none=>
  rw[hT] at e1 e2
  rw[xg,yE,yR,show xQ a=_ from e1,show yC a=_ from e2]; rfl
 |some T=>
  rw[hT] at e1 e2;have hlen:=rl_len _ _ _ hT
  have e3:yR.l9 a rounds 0 0=some (T.length:Int):=by
   have:=rl_count hl rounds 0 0 T (by omega) hT
   rw[qs] at this; exact this
  have e1':xQ a=some (T.map (fun c:Nat=>(c:Int)),true):=e1;have e2':yC a=some true:=e2;rw[xg,yE,yR,e1',e2',qg,qg];have el:(T.map (fun c:Nat=>(c:Int))).length=T.length:=q2 _
  dsimp only
  rw[if_neg (show ¬ (!true)=true by decide),e3,qg,key_eq];unfold bnd
  dsimp only
  simp only[el]
  by_cases hn:T.length<1∨20<T.length
  · have hc:(decide ((T.length:Int)<1)||decide (20<(T.length:Int)))=true:=by simp only[qG,decide_eq_true_eq]; omega
    rw[qX,uI,hc,if_pos rfl,qg,if_pos rfl,if_pos rfl,if_pos rfl]
  have h1:0<T.length:=by omega
  have h1':0<(T.map (fun c:Nat=>(c:Int))).length:=by rw[q2]; exact h1
  have hc:(decide ((T.length:Int)<1)||decide (20<(T.length:Int)))=false:=by
   rw[Bool.eq_false_iff]
   simp only[ne_eq,qG,decide_eq_true_eq]; omega
  have ei:=Xv h1';have e14:=ref_l14 (v:=true) (L:=T) (by omega) rounds 1 (by omega) (by omega);rw[List.getElem_map] at ei;rw[qX,uI,hc,if_neg uM,show Zt (T.map (fun c:Nat=>(c:Int))) 0=_ from ei,qg,qg,if_neg uM,show xg.l14 (T.map (fun c:Nat=>(c:Int)),true) rounds 1=_ from e14]
  cases T with
  |nil=>exact absurd h1 (by decide)
  |cons c T=>
   obtain⟨k,hk⟩:∃ k,rounds=k+1:=⟨rounds-1,by omega⟩
   have hT':=hT;rw[hk,rl] at hT'
   split at hT'
   · rename_i hpl
     split at hT'
     · cases hT'
     obtain⟨T',hT2,hc⟩:=Option.map_eq_some_iff.1 hT'
     injection hc with hc1 hc2
     subst hc2;have hm:=YH a 0;have ih:=rl_name k _ T' (by omega) hT2;rw[hk,yE.l11,if_pos hpl,hc1,letter_eq,digit_eq,ih,List.drop_succ_cons,qI];unfold bnd
     dsimp only
     rw[List.getElem_cons_zero]
     cases xz (c:Int)<;>cases xn a<;>rfl
   cases hT'
end
section
set_option maxRecDepth 4000
open AM
def Rm {K:Type} [DecidableEq K](m:List (K×Bool))(l:List K):Prop:=∀ x,(vaV m x).getD false=true↔x∈l
theorem Rm.val {K:Type} [DecidableEq K]{m:List (K×Bool)}{l:List K}(h:Rm m l)(x:K) [inst:Decidable (x∈l)]:(vaV m x).getD false=decide (x∈l):=by
 rw[Bool.eq_iff_iff,h x,decide_eq_true_eq]
theorem getM_setM {K V:Type} [DecidableEq K](k x:K)(v:V):∀ (l:List (K×V)),vaV (va5 l k v) x=if x=k then some v else vaV l x
 |[]=>by simp only[va5,vaV]
 |(a,w)::l=>by
  rw[va5]
  split
  · rename_i h
    subst h;simp only[vaV]
    split<;>rfl
  rename_i h
  simp only[vaV,getM_setM k x v l]
  split
  · rename_i h2
    subst h2;rw[if_neg (fun hc=>h hc.symm)]
  rfl
theorem Rm_nil {K:Type} [DecidableEq K]:Rm ([]:List (K×Bool)) []:=fun x=>by simp[vaV]
theorem vbf {K:Type} [DecidableEq K]{m:List (K×Bool)}{l:List K}(h:Rm m l)(k:K):Rm (va5 m k true) (l++[k]):=fun x=>by
 rw[getM_setM]
 by_cases hx:x=k
 · rw[if_pos hx]; simp[hx]
 rw[if_neg hx,h x]; simp[hx]
theorem fresh_l (x:List UInt8):∀ (l:List (List UInt8)) (i:Int),yv.l4 x l i=if x∈l then some false else xg x
 |[],i=>by rw[yv.l4,if_neg (List.not_mem_nil)]; cases xg x<;>rfl
 |y::l,i=>by
  rw[yv.l4,fresh_l]
  by_cases h:y=x
  · rw[if_pos h,if_pos (by rw[h]; exact qo ..)]
  rw[if_neg h]
  by_cases h2:x∈l
  · rw[if_pos h2,if_pos (qm _ h2)]
  rw[if_neg h2,if_neg (fun hc=>by rcases qA.1 hc with e|e; exact h e.symm; exact h2 e)]
theorem vak {m:List (List UInt8×Bool)}{l:List (List UInt8)}{x:List UInt8}(h:Rm m l)(hx:x.length≤3000):∃ b,yv x l=some b∧yn m x=some (b,if b=true then va5 m x true else m):=by
 have hn:yE x=some (nameV x):=nameV_eq (by unfold nmOk; omega);rw[yv,fresh_l,yn,hn,qg,name_eq (by omega),hn,h.val x]
 by_cases hm:x∈l
 · refine⟨false,by rw[if_pos hm],?_⟩;rw[decide_eq_true hm,qU,if_pos rfl,if_neg uM]
 refine⟨nameV x,by rw[if_neg hm],?_⟩;rw[decide_eq_false hm,ud]
 cases nameV x<;>rfl
theorem vaN (t:Int):∀ (l:List Int) (i:Int),yw.l4 t l i=decide (t∈l)
 |[],i=>rfl
 |y::l,i=>by
  rw[yw.l4,vaN]
  by_cases h:y=t
  · rw[if_pos h,decide_eq_true (by rw[h]; exact qo ..)]
  rw[if_neg h];exact decide_eq_decide.2 ⟨fun hc=>qm _ hc,fun hc=>by rcases qA.1 hc with e|e; exact absurd e.symm h; exact e⟩
theorem field_l (t:Int):∀ (l:List GField) (i:Int),(yL.l4 t l i).2=decide (t∈l.map GField.fTag)
 |[],i=>rfl
 |y::l,i=>by
  rw[yL.l4,qJ]
  by_cases h:y.fTag=t
  · rw[if_pos h,decide_eq_true (by rw[h]; exact qo ..)]
  rw[if_neg h,field_l];exact decide_eq_decide.2 ⟨fun hc=>qm _ hc,fun hc=>by rcases qA.1 hc with e|e; exact absurd e.symm h; exact e⟩
theorem cut_app {α:Type}(A B:List α):Xa (A++B) 0 (A.length:Int)=A:=by
 unfold Xa;rw[qR,show qB 0=0 from rfl,qI,uP,List.take_left' rfl]
theorem enum_l (n:List UInt8):∀ (l:List GEnumeration) (i j:Int),xP.l4 n l i=xE.l4 n l j
 |[],_,_=>rfl
 |y::l,i,j=>by rw[xP.l4,xE.l4,enum_l n l (i+1) (j+1)]
theorem vas (n:List UInt8):∀ (l:List GMessage) (i j:Int),yb.l4 n l i=zG.l4 n l j
 |[],_,_=>rfl
 |y::l,i,j=>by rw[yb.l4,zG.l4,vas n l (i+1) (j+1)]
theorem kind_of (s:GSchema)(y:GType):y1 s y=(if y.fKind=6 then (xE s y.fName).2 else if y.fKind=7 then (zG s y.fName).2 else (decide (1≤y.fKind)&&decide (y.fName=[]))&&decide (y.fKind<6)):=by
 have e6:xP s y.fName=xE s y.fName:=enum_l _ _ _ _;have e7:yb s y.fName=zG s y.fName:=vas _ _ _ _
 have small:1≤y.fKind→y.fKind≤5→y1.j3 s y true=(if y.fKind=6 then (xE s y.fName).2 else if y.fKind=7 then (zG s y.fName).2 else (decide (1≤y.fKind)&&decide (y.fName=[]))&&decide (y.fKind<6)):=by
  intro h1 h2
  rw[y1.j3,if_pos rfl,if_neg (by omega),if_neg (by omega),decide_eq_true h1,decide_eq_true (show y.fKind<6 by omega),uB,q7]
 unfold y1
 by_cases k1:y.fKind=1
 · rw[if_pos k1,decide_eq_true k1]; exact small (by omega) (by omega)
 rw[if_neg k1]
 by_cases k2:y.fKind=2
 · rw[if_pos k2,decide_eq_true k2]; exact small (by omega) (by omega)
 rw[if_neg k2]
 by_cases k3:y.fKind=3
 · rw[if_pos k3,decide_eq_true k3]; exact small (by omega) (by omega)
 rw[if_neg k3]
 by_cases k4:y.fKind=4
 · rw[if_pos k4,decide_eq_true k4]; exact small (by omega) (by omega)
 rw[if_neg k4]
 by_cases k5:y.fKind=5
 · rw[decide_eq_true k5]; exact small (by omega) (by omega)
 rw[decide_eq_false k5,y1.j3,if_neg uM,bnd,bnd,e6,e7]
 split
 · rfl
 split
 · rfl
 rename_i h6 h7
 rw[Bool.eq_iff_iff];simp only[qn,decide_eq_true_eq,uc,false_iff]
 omega
theorem fieldOk_eq (s:GSchema)(f:GField):wb s f=(decide (1≤f.fLabel)&&decide (f.fLabel≤3)&&y1 s f.fType):=by
 rw[kind_of];unfold wb bnd
 split
 · rfl
 split
 · rfl
 simp only[Bool.and_assoc]
theorem msg_l21_eq {s:GSchema}{m:GMessage}{r2:Bool×List (List UInt8×Bool)}(hn:∀ f∈m.fFields,f.fName.length≤3000)(hl:m.fFields.length*56≤140737488351232):∀ (B A:List GField) (i:Int) (tm:List (Int×Bool)) (nm:List (List UInt8×Bool)),m.fFields=A++B→Rm tm (m.fReserved++A.map GField.fTag)→Rm nm (A.map GField.fName)→
 zF.l21 s r2 B i tm nm=(zE.l17 s m B (A.length:Int) (A.map GField.fName)).map fun v=>(v,r2.2)
 |[],A,i,tm,nm,_,_,_=>rfl
 |f::B,A,i,tm,nm,h,ht,hnm=>by
  have hlen:m.fFields.length=A.length+(B.length+1):=by rw[h,qi,qj]
  obtain⟨b,e1,e2⟩:=vak hnm (hn f (by rw[h]; exact q1 _ (qo ..)));rw[zF.l21,zE.l17,e1,e2,qg,qg]
  cases b with
  |false=>rfl
  |true=>
   dsimp only
   rw[if_neg (show ¬ (!true)=true by decide),if_neg (show ¬ (!true)=true by decide),if_pos rfl,xK (by rw[q2]; omega),qg,Y2 ⟨u6 _,by omega,by omega⟩,qg]
   have ec:Xa m.fFields 0 (A.length:Int)=A:=by rw[h]; exact cut_app A _
   have e3:(yL (⟨[],A,([]:List Int)⟩:GMessage) f.fTag).2=decide (f.fTag∈A.map GField.fTag):=field_l _ _ _;have e4:yw m f.fTag=decide (f.fTag∈m.fReserved):=vaN _ _ _;have e5:Zb f.fTag=(decide (1≤f.fTag)&&decide (f.fTag≤500)):=rfl;unfold bnd
   dsimp only
   rw[ec,e3,e4,e5,ht.val f.fTag]
   have e6:(if (decide (f.fTag∈A.map GField.fTag)||decide (f.fTag<1)||decide (500<f.fTag))=true then true else decide (f.fTag∈m.fReserved))=(!(decide (1≤f.fTag)&&decide (f.fTag≤500))||decide (f.fTag∈m.fReserved++A.map GField.fTag)):=by
    rw[Bool.eq_iff_iff]
    by_cases a1:f.fTag∈A.map GField.fTag
    · simp[a1]
    by_cases a2:f.fTag∈m.fReserved
    · simp[a2]
    rw[decide_eq_false a1,decide_eq_false a2,decide_eq_false (show ¬ f.fTag∈m.fReserved++A.map GField.fTag from fun hc=>by rcases uh.1 hc with e|e; exact a2 e; exact a1 e)];simp only[uI,ud,qG,uS,Bool.and_eq_false_iff,decide_eq_true_eq,decide_eq_false_iff_not]
    split<;>simp<;>omega
   rw[e6]
   generalize hc:(!(decide (1≤f.fTag)&&decide (f.fTag≤500))||decide (f.fTag∈m.fReserved++A.map GField.fTag))=c
   cases c with
   |true=>rfl
   |false=>
    rw[if_neg uM,if_neg uM]
    have e7:(if (decide (f.fLabel<1)||decide (3<f.fLabel))=true then true else !y1 s f.fType) = !wb s f:=by
     rw[fieldOk_eq,Bool.eq_iff_iff]
     cases y1 s f.fType<;>simp only[qG,decide_eq_true_eq,qE,qX,uf,q7,uS,Bool.and_eq_false_iff,decide_eq_false_iff_not]<;>split<;>simp<;>omega
    rw[e7]
    cases wb s f with
    |false=>rfl
    |true=>
     rw[if_neg (show ¬ (!true)=true by decide),if_neg (show ¬ (!true)=true by decide)];have:=msg_l21_eq (s:=s) (r2:=r2) hn hl B (A++[f]) (i+1) (va5 tm f.fTag true) (va5 nm f.fName true) (by rw[h,qq]; rfl) (by rw[qK,← qq]; exact vbf ht f.fTag) (by rw[qK]; exact vbf hnm f.fName)
     rw[this,qi,qC,qK,show (A.length:Int)+1=((A.length+1:Nat):Int) by omega]; rfl
theorem msg_l12_eq {s:GSchema}{m:GMessage}{r2:Bool×List (List UInt8×Bool)}(hn:∀ f∈m.fFields,f.fName.length≤3000)(hl:m.fFields.length*56≤140737488351232):∀ (B A:List Int) (i:Int) (tm:List (Int×Bool)),m.fReserved=A++B→Rm tm A→
 zF.l12 s m r2 B i tm=(zE.l8 s m B (A.length:Int)).map fun v=>(v,r2.2)
 |[],A,i,tm,h,ht=>by
  rw[qz] at h;rw[zF.l12,zE.l8];exact msg_l21_eq hn hl m.fFields [] 0 tm [] rfl (by rw[h,qx,qz]; exact ht) Rm_nil
 |n::B,A,i,tm,h,ht=>by
  have hlen:m.fReserved.length=A.length+(B.length+1):=by rw[h,qi,qj]
  have ih:=msg_l12_eq (s:=s) (r2:=r2) hn hl B (A++[n]) (i+1) (va5 tm n true) (by rw[h,qq]; rfl) (vbf ht n);have e5:Zb n=(decide (1≤n)&&decide (n≤500)):=rfl
  have ec:Xa m.fReserved 0 (A.length:Int)=A:=by rw[h]; exact cut_app A _
  have e4:yw (⟨[],([]:List GField),A⟩:GMessage) n=decide (n∈A):=vaN _ _ _;rw[zF.l12,zE.l8];unfold bnd
  dsimp only
  rw[e5,ht.val n]
  by_cases h1:n<1
  · rw[if_pos h1,decide_eq_false (show ¬ 1≤n by omega)]; rfl
  rw[if_neg h1]
  by_cases h2:500<n
  · rw[if_pos h2,decide_eq_false (show ¬ n≤500 by omega),uf]; rfl
  rw[if_neg h2,Y2 ⟨u6 _,by omega,by omega⟩,qg,ec,e4,decide_eq_true (show 1≤n by omega),decide_eq_true (show n≤500 by omega)]
  cases decide (n∈A) with
  |true=>rfl
  |false=>
   rw[zE.j43,if_neg uM]
   show zF.l12 s m r2 B (i+1) (va5 tm n true)=_
   rw[ih,qi,qC,show (A.length:Int)+1=((A.length+1:Nat):Int) by omega]
theorem msg_eq {s:GSchema}{m:GMessage}{a:List (List UInt8×Bool)}{l:List (List UInt8)}(ha:Rm a l)(hm:m.fName.length≤3000)(hn:∀ f∈m.fFields,f.fName.length≤3000)(hl:m.fFields.length*56≤140737488351232):
 (yv m.fName l=some false∧zF s a m=some (6,a))∨(yv m.fName l=some true∧zF s a m=(zE s m).map fun v=>(v,va5 a m.fName true)):=by
 obtain⟨b,e1,e2⟩:=vak ha hm;rw[zF,e2,qg]
 cases b with
 |false=>exact Or.inl ⟨e1,rfl⟩
 |true=>
  refine Or.inr ⟨e1,?_⟩
  dsimp only
  rw[if_neg (show ¬ (!true)=true by decide),if_pos rfl,zE]
  split
  · rfl
  exact msg_l12_eq hn hl m.fReserved [] 0 [] rfl Rm_nil
end
section
set_option maxRecDepth 4000
open AM
theorem enum_l38 {e:GEnumeration}{v:GNamed}{A B:List GNamed}{l15:List (List UInt8)}{rec21:Int→List (List UInt8)→Option Int}(h:e.fValues=A++v::B)(hA:A.length≤1000000):∀ (k j:Nat),A.length<k+j→j≤A.length→ya.l38 e (A.length:Int) l15 rec21 v k (j:Int)=if v.fN∈(A.drop j).map GNamed.fN then some 11 else rec21 ((A.length:Int)+1) (l15++[v.fName])
 |0,j,h1,h2=>by omega
 |k+1,j,h1,h2=>by
  rw[ya.l38]
  by_cases hj:j<A.length
  · have ei:Zt e.fValues (j:Int)=some (A[j]'hj):=by
     rw[h,Xv (show j<(A++v::B).length by rw[qi]; omega),List.getElem_append_left hj]
    rw[if_pos (by omega),ei,qg,uO hj,qJ]
    by_cases hv:(A[j]'hj).fN=v.fN
    · rw[if_pos hv,if_pos (by rw[hv]; exact qo ..)]
    rw[if_neg hv,yu (by omega) (by omega),show (j:Int)+1=((j+1:Nat):Int) by omega,enum_l38 h hA k (j+1) (by omega) (by omega)]
    by_cases hm:v.fN∈(A.drop (j+1)).map GNamed.fN
    · rw[if_pos hm,if_pos (qm _ hm)]
    rw[if_neg hm,if_neg (fun hc=>by rcases qA.1 hc with e1|e1; exact hv e1.symm; exact hm e1)]
  rw[if_neg (by omega),List.drop_of_length_le (by omega),if_neg (by simp)]
theorem vcd {e:GEnumeration}{r2:Bool×List (List UInt8×Bool)}(hn:∀ v∈e.fValues,v.fName.length≤3000)(hl:e.fValues.length≤1000):∀ (B A:List GNamed) (i:Int) (nm:List (List UInt8×Bool)) (km:List (Int×Bool)),e.fValues=A++B→Rm nm (A.map GNamed.fName)→Rm km (A.map GNamed.fN)→
 yy.l23 r2 B i nm km=(ya.l21 e B (A.length:Int) (A.map GNamed.fName)).map fun v=>(v,r2.2)
 |[],A,i,nm,km,_,_,_=>rfl
 |v::B,A,i,nm,km,h,hnm,hkm=>by
  have hlen:e.fValues.length=A.length+(B.length+1):=by rw[h,qi,qj]
  have hr:=yF;obtain⟨b,e1,e2⟩:=vak hnm (hn v (by rw[h]; exact q1 _ (qo ..)));rw[yy.l23,ya.l21,e1,e2,qg,qg]
  cases b with
  |false=>rfl
  |true=>
   dsimp only
   rw[if_neg (show ¬ (!true)=true by decide),if_neg (show ¬ (!true)=true by decide),if_pos rfl,xK (by rw[q2]; omega),qg,hkm.val v.fN]
   by_cases hb:(decide (v.fN<0)||decide (2147483647<v.fN))=true
   · rw[hb,if_pos rfl,Bool.true_or,if_pos rfl]; rfl
   rw[Bool.eq_false_iff.2 hb,if_neg uM,uI];have e38:=enum_l38 (l15:=A.map GNamed.fName) (rec21:=ya.l21 e B) h (by omega) rounds 0 (by omega) (by omega);rw[show ya.l38 e (A.length:Int) (A.map GNamed.fName) (ya.l21 e B) v rounds 0=_ from e38,qI]
   by_cases hm:v.fN∈A.map GNamed.fN
   · rw[decide_eq_true hm,if_pos rfl,if_pos hm]; rfl
   rw[decide_eq_false hm,if_neg uM,if_neg hm];have:=vcd (r2:=r2) hn hl B (A++[v]) (i+1) (va5 nm v.fName true) (va5 km v.fN true) (by rw[h,qq]; rfl) (by rw[qK]; exact vbf hnm v.fName) (by rw[qK]; exact vbf hkm v.fN)
   rw[this,qi,qC,qK,show (A.length:Int)+1=((A.length+1:Nat):Int) by omega]; rfl
theorem vce {e:GEnumeration}{r2:Bool×List (List UInt8×Bool)}(hn:∀ v∈e.fValues,v.fName.length≤3000)(hl:e.fValues.length≤1000):∀ (B:List GNamed) (i j:Int) (z:Bool),
 yy.l12 e r2 B i z=(ya.l10 e B j z).map fun v=>(v,r2.2)
 |[],i,j,z=>by
  rw[yy.l12,ya.l10]
  cases z with
  |false=>rfl
  |true=>exact vcd hn hl e.fValues [] 0 [] [] rfl Rm_nil Rm_nil
 |v::B,i,j,z=>by rw[yy.l12,ya.l10]; exact vce hn hl B _ _ _
theorem enum_eq {e:GEnumeration}{a:List (List UInt8×Bool)}{l:List (List UInt8)}(ha:Rm a l)(hm:e.fName.length≤3000)(hn:∀ v∈e.fValues,v.fName.length≤3000):
 (yv e.fName l=some false∧yy a e=some (6,a))∨(yv e.fName l=some true∧yy a e=(ya e).map fun v=>(v,va5 a e.fName true)):=by
 obtain⟨b,e1,e2⟩:=vak ha hm;rw[yy,e2,qg]
 cases b with
 |false=>exact Or.inl ⟨e1,rfl⟩
 |true=>
  refine Or.inr ⟨e1,?_⟩
  dsimp only
  rw[if_neg (show ¬ (!true)=true by decide),if_pos rfl,ya]
  split
  · rfl
  exact vce hn (by omega) e.fValues 0 0 false
theorem meth_eq {s:GSchema}:∀ (B:List GMethod) (i j:Int) (nm:List (List UInt8×Bool)) (l:List (List UInt8)),(∀ x∈B,x.fName.length≤3000)→l.length+B.length≤1000000→Rm nm l→zx.l29 s B i nm=yT.l22 s B j l
 |[],_,_,_,_,_,_,_=>rfl
 |x::B,i,j,nm,l,hn,hl,hr=>by
  rw[qj] at hl;obtain⟨b,e1,e2⟩:=vak hr (hn x (qo ..))
  have e7:∀ n,yb s n=zG s n:=fun n=>vas _ _ _ _
  rw[zx.l29,yT.l22,e1,e7,e7,qg];unfold bnd
  dsimp only
  rw[e2,qg]
  cases b with
  |false=>rfl
  |true=>
   dsimp only
   rw[if_neg (show ¬ (!true)=true by decide),if_neg (show ¬ (!true)=true by decide),if_pos rfl,xK (by omega),qg]
   split
   · rfl
   exact meth_eq B _ _ _ _ (fun y hy=>hn y (qm _ hy)) (by rw[qi,qC]; omega) (vbf hr x.fName)
def nm3 (s:GSchema):Prop:=s.fName.length≤3000∧(∀ m∈s.fMessages,m.fName.length≤3000∧(∀ f∈m.fFields,f.fName.length≤3000)∧m.fFields.length*56≤140737488351232)∧(∀ e∈s.fEnums,e.fName.length≤3000∧∀ v∈e.fValues,v.fName.length≤3000)∧∀ x∈s.fMethods,x.fName.length≤3000
theorem parts_l17 {s:GSchema}(hs:nm3 s)(hM:s.fMethods.length≤6):∀ (B:List GEnumeration) (i j:Int) (a:List (List UInt8×Bool)) (l:List (List UInt8)),(∀ e∈B,e∈s.fEnums)→l.length+B.length≤1000000→Rm a l→zx.l22 s B i a=(yD.l17 B j l).bind fun r=>if r=0 then yT.l22 s s.fMethods 0 [] else some r
 |[],i,j,a,l,_,_,_=>by
  rw[zx.l22,yD.l17,qg,if_pos rfl];exact meth_eq _ _ _ _ _ hs.2.2.2 (by rw[ql]; omega) Rm_nil
 |e::B,i,j,a,l,he,hl,hr=>by
  rw[qj] at hl;have hme:=hs.2.2.1 e (he e (qo ..));rw[zx.l22,yD.l17]
  rcases enum_eq hr hme.1 hme.2 with ⟨e1,e2⟩|⟨e1,e2⟩
  · rw[e1,e2]; rfl
  rw[e1,e2,qg,if_neg (show ¬ (!true)=true by decide),xK (by omega),qg]
  cases ya e with
  |none=>rfl
  |some v=>
   rw[uE,qg,qg]
   dsimp only
   by_cases h0:v=0
   · rw[if_pos h0,if_pos h0];exact parts_l17 hs hM B _ _ _ _ (fun y hy=>he y (qm _ hy)) (by rw[qi,qC]; omega) (vbf hr e.fName)
   rw[if_neg h0,if_neg h0,qg,if_neg h0]
theorem parts_l8 {s:GSchema}(hs:nm3 s)(hM:s.fMethods.length≤6)(hE:s.fEnums.length≤6):∀ (B:List GMessage) (i j:Int) (a:List (List UInt8×Bool)) (l:List (List UInt8)),(∀ e∈B,e∈s.fMessages)→l.length+B.length≤1000→Rm a l→zx.l15 s B i a=(yD.l8 s B j l).bind fun r=>if r=0 then yT.l22 s s.fMethods 0 [] else some r
 |[],i,j,a,l,_,hl,hr=>by
  rw[zx.l15,yD.l8];exact parts_l17 hs hM _ _ _ _ _ (fun _ h=>h) (by rw[ql] at hl; omega) hr
 |m::B,i,j,a,l,he,hl,hr=>by
  rw[qj] at hl;have hme:=hs.2.1 m (he m (qo ..));rw[zx.l15,yD.l8]
  rcases msg_eq (s:=s) hr hme.1 hme.2.1 hme.2.2 with ⟨e1,e2⟩|⟨e1,e2⟩
  · rw[e1,e2]; rfl
  rw[e1,e2,qg,if_neg (show ¬ (!true)=true by decide),xK (by omega),qg]
  cases zE s m with
  |none=>rfl
  |some v=>
   rw[uE,qg,qg]
   dsimp only
   by_cases h0:v=0
   · rw[if_pos h0,if_pos h0];exact parts_l8 hs hM hE B _ _ _ _ (fun y hy=>he y (qm _ hy)) (by rw[qi,qC]; omega) (vbf hr m.fName)
   rw[if_neg h0,if_neg h0,qg,if_neg h0]
theorem check07_eq {s:GSchema}(hs:nm3 s):yT s=zx s:=by
 rw[yT,zx,name_eq (by have:=hs.1; omega)]
 cases yE s.fName with
 |none=>rfl
 |some b=>
  rw[qg,qg]
  cases b with
  |false=>rfl
  |true=>
   rw[if_neg (show ¬ (!true)=true by decide),if_neg (show ¬ (!true)=true by decide)]
   by_cases h0:(s.fMessages.length:Int)=0
   · rw[if_pos h0,if_pos h0]
   rw[if_neg h0,if_neg h0]
   by_cases hc:(((decide (10<(qc s.fMessages:Int)))||(decide (6<(qc s.fEnums:Int))))||(decide (6<(qc s.fMethods:Int))))=true
   · rw[if_pos hc,if_pos hc]
   rw[if_neg hc,if_neg hc];simp only[qG,decide_eq_true_eq,not_or] at hc
   rw[parts_l8 hs (by omega) (by omega) s.fMessages 0 0 [] [] (fun _ h=>h) (by rw[ql]; omega) Rm_nil]; rfl
theorem fewI_l25 {m:GMessage}{x2 x3:Int}{rec6:Int→Int→Option Bool}:∀ (l:List GField) (i:Int),zH.l25 x2 x3 rec6 m l i=some true→(∀ f∈l,f.fName.length≤200)∧rec6 (IntKind.i64.wrap (x2+(qc m.fName:Int))) (IntKind.i64.wrap (x3+1))=some true
 |[],_,h=>⟨(fun _ h=>by cases h),h⟩
 |f::l,i,h=>by
  rw[zH.l25] at h
  split at h
  · cases h
  rename_i hc
  simp only[qG,decide_eq_true_eq,not_or] at hc;obtain⟨h1,h2⟩:=fewI_l25 l _ h;refine⟨fun g hg=>?_,h2⟩
  rcases qA.1 hg with rfl|hg
  · omega
  exact h1 g hg
theorem fewI_l60 {x:Int}{rec43:Int→Option Bool}:∀ (l:List GNamed) (i:Int),zH.l60 x rec43 l i=some true→(∀ f∈l,f.fName.length≤200)∧rec43 (IntKind.i64.wrap (x+1))=some true
 |[],_,h=>⟨(fun _ h=>by cases h),h⟩
 |f::l,i,h=>by
  rw[zH.l60] at h
  split at h
  · cases h
  obtain⟨h1,h2⟩:=fewI_l60 l _ h;refine⟨fun g hg=>?_,h2⟩
  rcases qA.1 hg with rfl|hg
  · omega
  exact h1 g hg
theorem fewI_l78 {s:GSchema}{n:Int}:∀ (k j:Nat),j≤20→zH.l78 s n k (j:Int)=some true→n<3000∧s.fMessages.length≤14∧s.fEnums.length≤10∧s.fMethods.length≤10∧∀ x∈s.fMethods.drop j,x.fName.length≤200
 |0,j,_,h=>by cases h
 |k+1,j,hj,h=>by
  rw[zH.l78] at h
  split at h
  · rename_i hc
    simp only[qn,decide_eq_true_eq] at hc
    have hj2:j<s.fMethods.length:=by omega
    rw[Xv hj2,qg] at h
    split at h
    · cases h
    rename_i hb
    simp only[qG,decide_eq_true_eq,not_or] at hb;rw[yu (by omega) (by omega),show (j:Int)+1=((j+1:Nat):Int) by omega] at h;obtain⟨h1,h2,h3,h4,h5⟩:=fewI_l78 k (j+1) (by omega) h;refine⟨h1,h2,h3,h4,fun x hx=>?_⟩;rw[uO hj2] at hx
    rcases qA.1 hx with rfl|hx
    · omega
    exact h5 x hx
  rename_i hc
  simp only[qn,decide_eq_true_eq,not_and] at hc;have h:=Option.some.inj h;simp only[qn,decide_eq_true_eq] at h;refine⟨h.1.1.1,by omega,by omega,by omega,fun x hx=>?_⟩
  rw[List.drop_of_length_le (by omega)] at hx; cases hx
theorem fewI_l43 {s:GSchema}{n:Int}:∀ (k j:Nat),j≤20→zH.l43 s n k (j:Int)=some true→n<3000∧s.fMessages.length≤14∧s.fEnums.length≤10∧(∀ x∈s.fMethods,x.fName.length≤200)∧∀ x∈s.fEnums.drop j,x.fName.length≤200∧∀ v∈x.fValues,v.fName.length≤200
 |0,j,_,h=>by cases h
 |k+1,j,hj,h=>by
  rw[zH.l43] at h
  split at h
  · rename_i hc
    simp only[qn,decide_eq_true_eq] at hc
    have hj2:j<s.fEnums.length:=by omega
    rw[Xv hj2,qg] at h
    split at h
    · cases h
    rename_i hb
    simp only[qG,decide_eq_true_eq,not_or] at hb;obtain⟨hv,h⟩:=fewI_l60 _ _ h;rw[yu (by omega) (by omega),show (j:Int)+1=((j+1:Nat):Int) by omega] at h;obtain⟨h1,h2,h3,h4,h5⟩:=fewI_l43 k (j+1) (by omega) h;refine⟨h1,h2,h3,h4,fun x hx=>?_⟩;rw[uO hj2] at hx
    rcases qA.1 hx with rfl|hx
    · exact⟨by omega,hv⟩
    exact h5 x hx
  rename_i hc
  simp only[qn,decide_eq_true_eq,not_and] at hc;obtain⟨h1,h2,h3,h4,h5⟩:=fewI_l78 rounds 0 (by omega) h;rw[qI] at h5;refine⟨h1,h2,h3,h5,fun x hx=>?_⟩
  rw[List.drop_of_length_le (by omega)] at hx; cases hx
theorem fewI_l6 {s:GSchema}(hs:nmS s):∀ (k j:Nat) (n:Int),j≤20→0≤n→n+(20-j)*140737488351232≤9000000000000000→zH.l6 s k n (j:Int)=some true→n<3000∧s.fMessages.length≤14∧(∀ x∈s.fMethods,x.fName.length≤200)∧(∀ x∈s.fEnums,x.fName.length≤200∧∀ v∈x.fValues,v.fName.length≤200)∧∀ x∈s.fMessages.drop j,x.fName.length≤3000∧x.fFields.length≤20∧∀ v∈x.fFields,v.fName.length≤200
 |0,j,n,_,_,_,h=>by cases h
 |k+1,j,n,hj,h0,hn,h=>by
  rw[zH.l6] at h
  split at h
  · rename_i hc
    simp only[qn,decide_eq_true_eq] at hc
    have hj2:j<s.fMessages.length:=by omega
    have hm:=(hs.2.1 _ (List.getElem_mem hj2)).1;unfold nmOk at hm;rw[Xv hj2,qg] at h
    split at h
    · cases h
    rename_i hb
    simp only[qG,decide_eq_true_eq,not_or] at hb;obtain⟨hv,h⟩:=fewI_l25 _ _ h;rw[yu (x:=(j:Int)+1) (by omega) (by omega),show (j:Int)+1=((j+1:Nat):Int) by omega,yu (by omega) (by omega)] at h;obtain⟨h1,h2,h3,h4,h5⟩:=fewI_l6 hs k (j+1) _ (by omega) (by omega) (by omega) h;refine⟨by omega,h2,h3,h4,fun x hx=>?_⟩;rw[uO hj2] at hx
    rcases qA.1 hx with rfl|hx
    · exact⟨by omega,by omega,hv⟩
    exact h5 x hx
  rename_i hc
  simp only[qn,decide_eq_true_eq,not_and] at hc;obtain⟨h1,h2,h3,h4,h5⟩:=fewI_l43 rounds 0 (by omega) h;rw[qI] at h5;refine⟨h1,h2,h4,h5,fun x hx=>?_⟩
  rw[List.drop_of_length_le (by omega)] at hx; cases hx
theorem few_names {s:GSchema}(hs:nmS s)(h:zH s=some true):nm3 s:=by
 have h0:=hs.1;unfold nmOk at h0;obtain⟨h1,h2,h3,h4,h5⟩:=fewI_l6 hs rounds 0 (s.fName.length:Int) (by omega) (by omega) (by omega) h;rw[qI] at h5;exact⟨by omega,fun m hm=>⟨(h5 m hm).1,fun f hf=>uA ((h5 m hm).2.2 f hf) (by decide),by have:=(h5 m hm).2.1; omega⟩,fun e he=>⟨uA (h4 e he).1 (by decide),fun v hv=>uA ((h4 e he).2 v hv) (by decide)⟩,fun x hx=>uA (h3 x hx) (by decide)⟩
end
section
set_option maxRecDepth 4000
open AM

end
end Go.Proofs.YtaddlmlpeghonaaGreatDoor
