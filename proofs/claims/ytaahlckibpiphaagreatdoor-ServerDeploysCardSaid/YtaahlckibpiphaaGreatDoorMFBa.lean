/- Parts of the proof, cut down to what it needs. -/
import Derived.Test.YtaahlckibpiphaaGreatDoorMFB
set_option linter.constructorNameAsVariable false
set_option linter.unusedSimpArgs false
set_option linter.unusedVariables false
namespace Go.Proofs.YtaahlckibpiphaaGreatDoor
open _root_.List renaming length → qg, flatMap → qh, length_append → qk, length_cons → qp, drop_zero → qq, map_nil → qr, map_append → qs, map_cons → qt, append_assoc → qu, length_nil → qz, append_nil → qB, flatMap_cons → qC, flatMap_append → qD, nil_append → qE, cons_append → qF, flatMap_nil → qG, range_zero → qN, all_cons → qS, all_nil → qV, range_succ → qY, eq_nil_of_length_eq_zero → ub, take_length → uc, range → uG

open _root_.Nat renaming reduceEqDiff → qa, reduceLeDiff → qb, reduceAdd → qc, reduceMul → qd, reduceLT → qe, reduceSub → qf, zero_add → ql, lt_succ_self → qH, le_refl → qI, zero_le → qW, reduceMod → q1, zero_mul → um, add_assoc → uv
open _root_.Bool renaming not_false → qn, and_true → qo, or_true → qv, not_true → qw, and_false → qx, or_false → qy, and_self → qJ, false_eq_true → q2, true_and → ui, true_or → uE, false_or → uM
open _root_.Int renaming toNat → qQ
open _root_.BitVec renaming ofInt → qM, toNat → ur

open _root_.UInt8 renaming ofNat → ua


open _root_.Go.Proofs.Tryz renaming prog → qi
section
set_option maxRecDepth 4000
set_option maxHeartbeats 1000000
open AM
def yO.l29 (a0:zP):List Zn→Int→List (List UInt8×Bool)→Option Int
 |[],x26,l25=>some 0
 |y29::q29,x26,l25=>bnd (yy a0 y29.fIn) fun r35=>bnd (yy a0 y29.fOut) fun r36=>(xQ l25 y29.fName).bind fun r37=>(if (!r37.1)=true then some 6 else (if ((!r35.2)||(!r36.2))=true then some 8 else ((yO.l29 a0 q29) (x26+1) r37.2)))
def yO.l22 (a0:zP):List wK→Int→List (List UInt8×Bool)→Option Int
 |[],x19,l18=>(yO.l29 a0 a0.fMethods 0 [])
 |y22::q22,x19,l18=>(w7 l18 y22).bind fun r44=>(if r44.1=0 then ((yO.l22 a0 q22) (x19+1) r44.2) else some r44.1)
def yO.l15 (a0:zP):List yN→Int→List (List UInt8×Bool)→Option Int
 |[],x12,l11=>(yO.l22 a0 a0.fEnums 0 l11)
 |y15::q15,x12,l11=>(we a0 l11 y15).bind fun r52=>(if r52.1=0 then ((yO.l15 a0 q15) (x12+1) r52.2) else some r52.1)
def yO (a0:zP):Option Int:=
 (ZK a0.fName).bind fun r2=>(if (!r2)=true then some 6 else (if (qg a0.fMessages:Int)=0 then some 12 else (if (((decide (10<(qg a0.fMessages:Int)))||(decide (6<(qg a0.fEnums:Int))))||(decide (6<(qg a0.fMethods:Int))))=true then some 4 else (yO.l15 a0 a0.fMessages 0 []))))
theorem yO.ok {a0 r}(h:yO a0=some r):ACalls qi 82 [.agg (zb a0)] [] (fun r' _=>r'=.int .i64 r):=by
 refine zw (rs:=[.tmp 2]) tok Tryz.func82 rfl Tryz.ntmps82 rfl Tryz.call82 (by simp) ?_;refine zC [(0,.agg (zb a0))] ⟨rfl,trivial⟩ ?_;unfold yO at h
 refine rg tok [1] fun K hK=>?_
 simp only[go_sem,qe,qb,qa,qc,qd,qf,reduceIte,reduceCtorEq,zb];apply hK
 refine ze fun Z1 hZ1=>?_
 apply zt
 refine rc [1,17] fun K hK=>?_
 obtain⟨r2,hr2,h⟩:=bind_some h;refine rnN 2 ?_;refine clN rfl rfl rfl ((ZK.ok hr2).c _) ?_;refine rnN 2 ?_;refine nkN hK ?_;refine zY (b:=(!r2)) rfl (fun hc3=>?_) (fun hc3=>?_)
 · rw[if_pos hc3] at h;refine rgN [2] ?_;cases h;exact rtA
 rw[Zg hc3] at h
 refine rg tok [1,22] fun K hK=>?_
 simp only[go_sem,qe,qb,qa,qc,qd,qf,reduceIte,reduceCtorEq,zV];apply hK
 refine yn rfl (fun hc4=>?_) (fun hc4=>?_)
 · rw[if_pos hc4] at h;have t5:=eq_true hc4
   refine rg tok [2] fun K hK=>?_
   simp only[go_sem,qe,qb,qa,qc,qd,qf,reduceIte,reduceCtorEq,t5];apply hK
   cases h;exact rtA
 rw[if_neg hc4] at h;have t6:=eq_false hc4
 refine rc [1,27] fun K hK=>?_
 refine zd tok 5 ?_;simp only[go_sem,qe,qb,qa,qc,qd,qf,reduceIte,reduceCtorEq,zV,t6];refine zI 5 (fun L τ=>L=[(1,.op 0 0 0),(37,.bool ((decide (10<(qg a0.fMessages:Int)))||(decide (6<(qg a0.fEnums:Int)))))]∧τ=([.cells 0 (zb a0)]:zi)) ?_ ?_
 · refine wr 32 rfl (fun hg32=>?_) (fun hg32=>?_)
   · have t7:=eq_true hg32;refine zd tok 5 ?_;simp only[go_sem,qe,qb,qa,qc,qd,qf,reduceIte,reduceCtorEq,zV,t6];refine zm ⟨rfl,_,_,⟨rfl,rfl⟩,.p t7⟩
   have t8:=eq_false hg32;refine zd tok 5 ?_;simp only[go_sem,qe,qb,qa,qc,qd,qf,reduceIte,reduceCtorEq,zV,t6];refine zm ⟨rfl,_,_,⟨rfl,rfl⟩,.p t8⟩
 rintro _ _ ⟨rfl,rfl⟩;refine zd tok 1 ?_;simp only[go_sem,qe,qb,qa,qc,qd,qf,reduceIte,reduceCtorEq,t6];refine zI 5 (fun L τ=>L=[(1,.op 0 0 0),(43,.bool (((decide (10<(qg a0.fMessages:Int)))||(decide (6<(qg a0.fEnums:Int))))||(decide (6<(qg a0.fMethods:Int)))))]∧τ=([.cells 0 (zb a0)]:zi)) ?_ ?_
 · refine yz (b:=((decide (10<(qg a0.fMessages:Int)))||(decide (6<(qg a0.fEnums:Int))))) 38 rfl (fun hg38=>?_) (fun hg38=>?_)
   · refine zd tok 5 ?_;simp only[go_sem,qe,qb,qa,qc,qd,qf,reduceIte,reduceCtorEq,zV,t6];refine zm ⟨rfl,_,_,⟨rfl,rfl⟩,.b hg38⟩
   refine zd tok 5 ?_;simp only[go_sem,qe,qb,qa,qc,qd,qf,reduceIte,reduceCtorEq,zV,t6];refine zm ⟨rfl,_,_,⟨rfl,rfl⟩,.b hg38⟩
 rintro _ _ ⟨rfl,rfl⟩;refine zd tok 1 ?_;simp only[go_sem,qe,qb,qa,qc,qd,qf,reduceIte,reduceCtorEq,t6];refine nkN hK ?_;refine zY (b:=(((decide (10<(qg a0.fMessages:Int)))||(decide (6<(qg a0.fEnums:Int))))||(decide (6<(qg a0.fMethods:Int))))) rfl (fun hc9=>?_) (fun hc9=>?_)
 · rw[if_pos hc9] at h
   refine rg tok [2] fun K hK=>?_
   simp only[go_sem,qe,qb,qa,qc,qd,qf,reduceIte,reduceCtorEq,t6];apply hK
   cases h;exact rtA
 rw[Zg hc9] at h;apply zp;apply hZ1
 refine rg tok [1,3] fun K hK=>?_
 simp only[go_sem,qe,qb,qa,qc,qd,qf,reduceIte,reduceCtorEq,t6];apply hK
 refine Xp 1 rfl (τ:=[.cells 0 (zb a0),.map (yK AV.str AV.bool [])]) rfl ?_;refine y5 (L:=[(1,.op 0 0 0),(3,.mp 1)]) (τ:=[.cells 0 (zb a0),.map (yK AV.str AV.bool [])]) .s ?_
 refine ze fun Z10 hZ10=>?_
 refine rg tok [1,3,46,47,48] fun K hK=>?_
 simp only[go_sem,qe,qb,qa,qc,qd,qf,reduceIte,reduceCtorEq,t6];apply hK
 apply zt
 refine xv 46 fun hb15=>?_
 replace hb15:qg a0.fMessages≤9223372036854775807:=hb15.1;refine yh (fun m L τ=>∃ (p15 q15:List yN) (x12:Int) (l11:List (List UInt8×Bool)),m=qg q15∧L=[(1,.op 0 0 0),(3,.mp 1),(46,.ds true (qh zf a0.fMessages) (qg a0.fMessages) false),(47,.int .i64 (qg a0.fMessages:Int)),(48,.int .i64 x12)]∧τ=([.cells 0 (zb a0),.map (yK AV.str AV.bool l11)]:zi)∧a0.fMessages=p15++q15∧x12=(qg p15:Int)∧yO.l15 a0 q15 x12 l11=some r) _ ⟨[],a0.fMessages,0,[],rfl,rfl,rfl,rfl,rfl,h⟩ .s ?_;rintro m L τ ⟨p15,q15,x12,l11,rfl,rfl,rfl,hE15,hi15,h⟩
 rcases q15 with _|⟨y15,q15⟩
 · have hz15:=xE hE15 hi15;simp only[yO.l15] at h
   refine rg tok [1,3,46,47,48,49] fun K hK=>?_
   simp only[go_sem,qe,qb,qa,qc,qd,qf,reduceIte,reduceCtorEq,zV,t6,hz15];apply hK
   refine ze fun Z16 hZ16=>?_
   refine zK rfl ?_;apply ye;apply hZ10
   refine ze fun Z17 hZ17=>?_
   refine rg tok [1,3,61,62,63] fun K hK=>?_
   simp only[go_sem,qe,qb,qa,qc,qd,qf,reduceIte,reduceCtorEq,t6,hz15];apply hK
   apply zt
   refine xv 61 fun hb22=>?_
   replace hb22:qg a0.fEnums≤9223372036854775807:=hb22.1;refine yh (fun m L τ=>∃ (p22 q22:List wK) (x19:Int) (l18:List (List UInt8×Bool)),m=qg q22∧L=[(1,.op 0 0 0),(3,.mp 1),(61,.ds true (qh zj a0.fEnums) (qg a0.fEnums) false),(62,.int .i64 (qg a0.fEnums:Int)),(63,.int .i64 x19)]∧τ=([.cells 0 (zb a0),.map (yK AV.str AV.bool l18)]:zi)∧a0.fEnums=p22++q22∧x19=(qg p22:Int)∧yO.l22 a0 q22 x19 l18=some r) _ ⟨[],a0.fEnums,0,l11,rfl,rfl,rfl,rfl,rfl,h⟩ .s ?_;rintro m L τ ⟨p22,q22,x19,l18,rfl,rfl,rfl,hE22,hi22,h⟩
   rcases q22 with _|⟨y22,q22⟩
   · have hz22:=xE hE22 hi22;simp only[yO.l22] at h
     refine rg tok [1,3,61,62,63,64] fun K hK=>?_
     simp only[go_sem,qe,qb,qa,qc,qd,qf,reduceIte,reduceCtorEq,zV,t6,hz15,hz22];apply hK
     refine ze fun Z23 hZ23=>?_
     refine zK rfl ?_;apply ye;apply hZ17
     refine rg tok [1,10] fun K hK=>?_
     simp only[go_sem,qe,qb,qa,qc,qd,qf,reduceIte,reduceCtorEq,t6,hz15,hz22];apply hK
     refine Xp 2 rfl (τ:=[.cells 0 (zb a0),.map (yK AV.str AV.bool l18),.map (yK AV.str AV.bool [])]) rfl ?_;refine y5 (L:=[(1,.op 0 0 0),(10,.mp 2)]) (τ:=[.cells 0 (zb a0),.map (yK AV.str AV.bool l18),.map (yK AV.str AV.bool [])]) .s ?_
     refine ze fun Z24 hZ24=>?_
     refine rg tok [1,10,76,77,78] fun K hK=>?_
     simp only[go_sem,qe,qb,qa,qc,qd,qf,reduceIte,reduceCtorEq,t6,hz15,hz22];apply hK
     apply zt
     refine xv 76 fun hb29=>?_
     replace hb29:qg a0.fMethods≤9223372036854775807:=hb29.1;refine yh (fun m L τ=>∃ (p29 q29:List Zn) (x26:Int) (l25:List (List UInt8×Bool)),m=qg q29∧L=[(1,.op 0 0 0),(10,.mp 1),(76,.ds true (qh zr a0.fMethods) (qg a0.fMethods) false),(77,.int .i64 (qg a0.fMethods:Int)),(78,.int .i64 x26)]∧τ=([.cells 0 (zb a0),.map (yK AV.str AV.bool l25)]:zi)∧a0.fMethods=p29++q29∧x26=(qg p29:Int)∧yO.l29 a0 q29 x26 l25=some r) _ ⟨[],a0.fMethods,0,[],rfl,rfl,rfl,rfl,rfl,h⟩ (.t [0,2] false) ?_;rintro m L τ ⟨p29,q29,x26,l25,rfl,rfl,rfl,hE29,hi29,h⟩
     rcases q29 with _|⟨y29,q29⟩
     · have hz29:=xE hE29 hi29;simp only[yO.l29] at h
       refine rg tok [1,10,76,77,78,79] fun K hK=>?_
       simp only[go_sem,qe,qb,qa,qc,qd,qf,reduceIte,reduceCtorEq,zV,t6,hz15,hz22,hz29];apply hK
       refine ze fun Z30 hZ30=>?_
       refine zK rfl ?_;apply ye;apply hZ24
       refine rg tok [2] fun K hK=>?_
       simp only[go_sem,qe,qb,qa,qc,qd,qf,reduceIte,reduceCtorEq,t6,hz15,hz22,hz29];apply hK
       cases h;exact rtA
     obtain⟨hz29,hw29,hx29,hE'29,hi'29⟩:=yZ hE29 hi29 hb29;simp only[yO.l29] at h
     refine rg tok [1,10,76,77,78,79] fun K hK=>?_
     simp only[go_sem,qe,qb,qa,qc,qd,qf,reduceIte,reduceCtorEq,zV,t6,hz15,hz22,hz29,hw29];apply hK
     refine ze fun Z31 hZ31=>?_
     refine zQ rfl ?_;apply zp;apply hZ31
     refine ze fun Z32 hZ32=>?_
     apply zt;have f33:=E29.idxS hx29;have f34:=E29.loadS rfl rfl hx29
     refine rg tok [1,10,12,76,77,78] fun K hK=>?_
     simp only[go_sem,qe,qb,qa,qc,qd,qf,reduceIte,reduceCtorEq,zr,t6,hz15,hz22,hz29,hw29,f33,f34];apply hK
     refine rc [1,10,12,14,76,77,78] fun K hK=>?_
     obtain⟨r35,hr35,h⟩:=yi h;refine zd tok 3 ?_;simp only[go_sem,qe,qb,qa,qc,qd,qf,reduceIte,reduceCtorEq,zb,t6,hz15,hz22,hz29,hw29];refine clN rfl rfl rfl ((yy.ok hr35).c _) ?_;refine zd tok 6 ?_;simp only[go_sem,qe,qb,qa,qc,qd,qf,reduceIte,reduceCtorEq,zf,zb,t6,hz15,hz22,hz29,hw29];refine nkN hK ?_
     refine rc [1,10,12,14,16,76,77,78] fun K hK=>?_
     obtain⟨r36,hr36,h⟩:=yi h;refine zd tok 3 ?_;simp only[go_sem,qe,qb,qa,qc,qd,qf,reduceIte,reduceCtorEq,zb,t6,hz15,hz22,hz29,hw29];refine clN rfl rfl rfl ((yy.ok hr36).c _) ?_;refine zd tok 6 ?_;simp only[go_sem,qe,qb,qa,qc,qd,qf,reduceIte,reduceCtorEq,zf,zb,t6,hz15,hz22,hz29,hw29];refine nkN hK ?_;apply zt
     refine rc [1,10,14,16,76,77,78,96] fun K hK=>?_
     obtain⟨r37,hr37,h⟩:=bind_some h;refine zd tok 3 ?_;simp only[go_sem,qe,qb,qa,qc,qd,qf,reduceIte,reduceCtorEq,t6,hz15,hz22,hz29,hw29];refine clN rfl rfl rfl (@id (ACalls qi 128 [.mp 1,.str y29.fName] [.cells 0 (zb a0),.map (yK AV.str AV.bool l25),.cells 0 [.str y29.fName,.str y29.fIn,.str y29.fOut],.cells 0 (zf r35.1),.cells 0 (zf r36.1)] (fun r' σ'=>r'=.bool r37.1∧σ'=[.cells 0 (zb a0),.map (yK AV.str AV.bool r37.2),.cells 0 [.str y29.fName,.str y29.fIn,.str y29.fOut],.cells 0 (zf r35.1),.cells 0 (zf r36.1)])) ((xQ.ok hr37).i [1])) ?_;refine zd tok 2 ?_;simp only[go_sem,qe,qb,qa,qc,qd,qf,reduceIte,reduceCtorEq,t6,hz15,hz22,hz29,hw29];refine nkN hK ?_;refine zY (b:=(!r37.1)) rfl (fun hc38=>?_) (fun hc38=>?_)
     · rw[if_pos hc38] at h
       refine rg tok [2] fun K hK=>?_
       simp only[go_sem,qe,qb,qa,qc,qd,qf,reduceIte,reduceCtorEq,t6,hz15,hz22,hz29,hw29];apply hK
       cases h;exact rtA
     rw[Zg hc38] at h
     refine rc [1,10,76,77,78,102] fun K hK=>?_
     refine zd tok 3 ?_;simp only[go_sem,qe,qb,qa,qc,qd,qf,reduceIte,reduceCtorEq,t6,hz15,hz22,hz29,hw29];refine zI 3 (fun L τ=>L=[(1,.op 0 0 0),(10,.mp 1),(76,.ds true (qh zr a0.fMethods) (qg a0.fMethods) false),(77,.int .i64 (qg a0.fMethods:Int)),(78,.int .i64 x26),(108,.bool ((!r35.2)||(!r36.2)))]∧τ=([.cells 0 (zb a0),.map (yK AV.str AV.bool r37.2),.cells 0 [.str y29.fName,.str y29.fIn,.str y29.fOut],.cells 0 (zf r35.1),.cells 0 (zf r36.1)]:zi)) ?_ ?_
     · refine yz (b:=(!r35.2)) 105 rfl (fun hg105=>?_) (fun hg105=>?_)
       · refine zd tok 3 ?_;simp only[go_sem,qe,qb,qa,qc,qd,qf,reduceIte,reduceCtorEq,t6,hz15,hz22,hz29,hw29];refine zm ⟨rfl,_,_,⟨rfl,rfl⟩,.b hg105⟩
       refine zd tok 3 ?_;simp only[go_sem,qe,qb,qa,qc,qd,qf,reduceIte,reduceCtorEq,t6,hz15,hz22,hz29,hw29];refine zm ⟨rfl,_,_,⟨rfl,rfl⟩,.b hg105⟩
     rintro _ _ ⟨rfl,rfl⟩;refine zd tok 1 ?_;simp only[go_sem,qe,qb,qa,qc,qd,qf,reduceIte,reduceCtorEq,t6,hz15,hz22,hz29,hw29];refine nkN hK ?_;refine zY (b:=((!r35.2)||(!r36.2))) rfl (fun hc39=>?_) (fun hc39=>?_)
     · rw[if_pos hc39] at h
       refine rg tok [2] fun K hK=>?_
       simp only[go_sem,qe,qb,qa,qc,qd,qf,reduceIte,reduceCtorEq,t6,hz15,hz22,hz29,hw29];apply hK
       cases h;exact rtA
     rw[Zg hc39] at h;apply zp;apply hZ32
     refine rgE tok [1,10,76,77,78] fun K hK=>?_
     simp only[go_sem,qe,qb,qa,qc,qd,qf,reduceIte,reduceCtorEq,zV,t6,hz15,hz22,hz29,hw29];apply hK
     exact⟨_,_,_,qH q29.length,⟨p29++[y29],q29,x26+1,r37.2,rfl,rfl,rfl,hE'29,hi'29,h⟩,(.t [0,1] false)⟩
   obtain⟨hz22,hw22,hx22,hE'22,hi'22⟩:=yZ hE22 hi22 hb22;simp only[yO.l22] at h
   refine rg tok [1,3,61,62,63,64] fun K hK=>?_
   simp only[go_sem,qe,qb,qa,qc,qd,qf,reduceIte,reduceCtorEq,zV,t6,hz15,hz22,hw22];apply hK
   refine ze fun Z40 hZ40=>?_
   refine zQ rfl ?_;apply zp;apply hZ40
   refine ze fun Z41 hZ41=>?_
   apply zt;have f42:=E28.idxS hx22;have f43:=E28.loadS rfl rfl hx22
   refine rg tok [1,3,8,61,62,63] fun K hK=>?_
   simp only[go_sem,qe,qb,qa,qc,qd,qf,reduceIte,reduceCtorEq,zj,t6,hz15,hz22,hw22,f42,f43];apply hK
   refine rc [1,3,9,61,62,63] fun K hK=>?_
   obtain⟨r44,hr44,h⟩:=bind_some h;refine zd tok 2 ?_;simp only[go_sem,qe,qb,qa,qc,qd,qf,reduceIte,reduceCtorEq,zj,t6,hz15,hz22,hw22];refine clN rfl rfl rfl (@id (ACalls qi 127 [.mp 1,.agg (zj y22)] [.cells 0 (zb a0),.map (yK AV.str AV.bool l18),.cells 0 (zj y22)] (fun r' σ'=>r'=.int .i64 r44.1∧σ'=[.cells 0 (zb a0),.map (yK AV.str AV.bool r44.2),.cells 0 (zj y22)])) ((w7.ok hr44).i [1])) ?_;refine zd tok 1 ?_;simp only[go_sem,qe,qb,qa,qc,qd,qf,reduceIte,reduceCtorEq,zj,t6,hz15,hz22,hw22];refine nkN hK ?_
   refine rg tok [1,3,9,61,62,63,71] fun K hK=>?_
   simp only[go_sem,qe,qb,qa,qc,qd,qf,reduceIte,reduceCtorEq,zV,t6,hz15,hz22,hw22];apply hK
   refine yn rfl (fun hc45=>?_) (fun hc45=>?_)
   · rw[if_neg hc45] at h;have t46:=eq_false hc45
     refine rg tok [2] fun K hK=>?_
     simp only[go_sem,qe,qb,qa,qc,qd,qf,reduceIte,reduceCtorEq,t6,hz15,hz22,hw22,t46];apply hK
     cases h;exact rtA
   rw[if_pos hc45] at h;have t47:=eq_true hc45;apply zp;apply hZ41
   refine rgE tok [1,3,61,62,63] fun K hK=>?_
   simp only[go_sem,qe,qb,qa,qc,qd,qf,reduceIte,reduceCtorEq,zV,t6,hz15,hz22,hw22,t47];apply hK
   exact⟨_,_,_,qH q22.length,⟨p22++[y22],q22,x19+1,r44.2,rfl,rfl,rfl,hE'22,hi'22,h⟩,(.t [0,1] false)⟩
 obtain⟨hz15,hw15,hx15,hE'15,hi'15⟩:=yZ hE15 hi15 hb15;simp only[yO.l15] at h
 refine rg tok [1,3,46,47,48,49] fun K hK=>?_
 simp only[go_sem,qe,qb,qa,qc,qd,qf,reduceIte,reduceCtorEq,zV,t6,hz15,hw15];apply hK
 refine ze fun Z48 hZ48=>?_
 refine zQ rfl ?_;apply zp;apply hZ48
 refine ze fun Z49 hZ49=>?_
 apply zt;have f50:=E27.idxS hx15;have f51:=E27.loadS rfl rfl hx15
 refine rg tok [1,3,5,46,47,48] fun K hK=>?_
 simp only[go_sem,qe,qb,qa,qc,qd,qf,reduceIte,reduceCtorEq,zf,t6,hz15,hw15,f50,f51];apply hK
 refine rc [1,3,6,46,47,48] fun K hK=>?_
 obtain⟨r52,hr52,h⟩:=bind_some h;refine zd tok 3 ?_;simp only[go_sem,qe,qb,qa,qc,qd,qf,reduceIte,reduceCtorEq,zf,zb,t6,hz15,hw15];refine clN rfl rfl rfl (@id (ACalls qi 126 [.agg (zb a0),.mp 1,.agg (zf y15)] [.cells 0 (zb a0),.map (yK AV.str AV.bool l11),.cells 0 (zf y15)] (fun r' σ'=>r'=.int .i64 r52.1∧σ'=[.cells 0 (zb a0),.map (yK AV.str AV.bool r52.2),.cells 0 (zf y15)])) ((we.ok hr52).i [1])) ?_;refine zd tok 1 ?_;simp only[go_sem,qe,qb,qa,qc,qd,qf,reduceIte,reduceCtorEq,zf,zb,t6,hz15,hw15];refine nkN hK ?_
 refine rg tok [1,3,6,46,47,48,57] fun K hK=>?_
 simp only[go_sem,qe,qb,qa,qc,qd,qf,reduceIte,reduceCtorEq,zV,t6,hz15,hw15];apply hK
 refine yn rfl (fun hc53=>?_) (fun hc53=>?_)
 · rw[if_neg hc53] at h;have t54:=eq_false hc53
   refine rg tok [2] fun K hK=>?_
   simp only[go_sem,qe,qb,qa,qc,qd,qf,reduceIte,reduceCtorEq,t6,hz15,hw15,t54];apply hK
   cases h;exact rtA
 rw[if_pos hc53] at h;have t55:=eq_true hc53;apply zp;apply hZ49
 refine rgE tok [1,3,46,47,48] fun K hK=>?_
 simp only[go_sem,qe,qb,qa,qc,qd,qf,reduceIte,reduceCtorEq,zV,t6,hz15,hw15,t55];apply hK
 exact⟨_,_,_,qH q15.length,⟨p15++[y15],q15,x12+1,r52.2,rfl,rfl,rfl,hE'15,hi'15,h⟩,(.t [0,1] false)⟩
def w6.l10 (a2:List zP):List Int→Int→Int→Option Bool
 |[],x7,x6=>some true
 |y10::q10,x7,x6=>(if ((decide (y10≤x6))||(decide (12<y10)))=true then some true else (YN a2 x7).bind fun y19=>(yO y19).bind fun r22=>some (!(decide (r22=0)))).bind fun c19=>(if c19=true then some false else ((w6.l10 a2 q10) (x7+1) y10))
def w6 (a0:Int)(a1:List Int)(a2:List zP):Option Bool:=
 (if (((((decide ((qg a1:Int)<1))||(decide (12<(qg a1:Int))))||(!(decide ((qg a2:Int)=(qg a1:Int)))))||(decide (a0<0)))||(decide (255<a0)))=true then some false else (w6.l10 a2 a1 0 0))
theorem w6.ok {a0 a1 a2 r}(h:w6 a0 a1 a2=some r):ACalls qi 58 [.int .i64 a0,.ds true (qh wH a1) (qg a1) false,.ds true (qh zb a2) (qg a2) false] [] (fun r' _=>r'=.bool r):=by
 refine zw (rs:=[.tmp 6]) tok Tryz.func58 rfl Tryz.ntmps58 rfl Tryz.call58 (by simp) ?_;refine zC [(0,.int .i64 a0),(1,.ds true (qh wH a1) (qg a1) false),(2,.ds true (qh zb a2) (qg a2) false)] ⟨rfl,rfl,rfl,trivial⟩ ?_;unfold w6 at h;refine rgN [0,1,2] ?_
 refine ze fun Z1 hZ1=>?_
 refine rc [1,2,32] fun K hK=>?_
 refine zd tok 4 ?_;simp only[go_sem,qe,qb,qa,qc,qd,qf,reduceIte,reduceCtorEq,zV];refine zI 4 (fun L τ=>L=[(0,.int .i64 a0),(1,.ds true (qh wH a1) (qg a1) false),(2,.ds true (qh zb a2) (qg a2) false),(17,.bool ((decide ((qg a1:Int)<1))||(decide (12<(qg a1:Int)))))]∧τ=([]:zi)) ?_ ?_
 · refine wr 13 rfl (fun hg13=>?_) (fun hg13=>?_)
   · have t2:=eq_true hg13;refine zd tok 4 ?_;simp only[go_sem,qe,qb,qa,qc,qd,qf,reduceIte,reduceCtorEq,zV];refine zm ⟨rfl,_,_,⟨rfl,rfl⟩,.p t2⟩
   have t3:=eq_false hg13;refine zd tok 4 ?_;simp only[go_sem,qe,qb,qa,qc,qd,qf,reduceIte,reduceCtorEq,zV];refine zm ⟨rfl,_,_,⟨rfl,rfl⟩,.p t3⟩
 rintro _ _ ⟨rfl,rfl⟩;refine rnN 1 ?_;refine zI 6 (fun L τ=>L=[(0,.int .i64 a0),(1,.ds true (qh wH a1) (qg a1) false),(2,.ds true (qh zb a2) (qg a2) false),(24,.bool (((decide ((qg a1:Int)<1))||(decide (12<(qg a1:Int))))||(!(decide ((qg a2:Int)=(qg a1:Int))))))]∧τ=([]:zi)) ?_ ?_
 · refine yz (b:=((decide ((qg a1:Int)<1))||(decide (12<(qg a1:Int))))) 18 rfl (fun hg18=>?_) (fun hg18=>?_)
   · refine zd tok 6 ?_;simp only[go_sem,qe,qb,qa,qc,qd,qf,reduceIte,reduceCtorEq,zV];refine zm ⟨rfl,_,_,⟨rfl,rfl⟩,.b hg18⟩
   refine zd tok 6 ?_;simp only[go_sem,qe,qb,qa,qc,qd,qf,reduceIte,reduceCtorEq,zV];refine zm ⟨rfl,_,_,⟨rfl,rfl⟩,.b hg18⟩
 rintro _ _ ⟨rfl,rfl⟩;refine rnN 1 ?_;refine zI 3 (fun L τ=>L=[(0,.int .i64 a0),(1,.ds true (qh wH a1) (qg a1) false),(2,.ds true (qh zb a2) (qg a2) false),(28,.bool ((((decide ((qg a1:Int)<1))||(decide (12<(qg a1:Int))))||(!(decide ((qg a2:Int)=(qg a1:Int)))))||(decide (a0<0))))]∧τ=([]:zi)) ?_ ?_
 · refine yz (b:=(((decide ((qg a1:Int)<1))||(decide (12<(qg a1:Int))))||(!(decide ((qg a2:Int)=(qg a1:Int)))))) 25 rfl (fun hg25=>?_) (fun hg25=>?_)
   · refine zd tok 3 ?_;simp only[go_sem,qe,qb,qa,qc,qd,qf,reduceIte,reduceCtorEq,zV];refine zm ⟨rfl,_,_,⟨rfl,rfl⟩,.b hg25⟩
   refine zd tok 3 ?_;simp only[go_sem,qe,qb,qa,qc,qd,qf,reduceIte,reduceCtorEq,zV];refine zm ⟨rfl,_,_,⟨rfl,rfl⟩,.b hg25⟩
 rintro _ _ ⟨rfl,rfl⟩;refine rnN 1 ?_;refine zI 3 (fun L τ=>L=[(1,.ds true (qh wH a1) (qg a1) false),(2,.ds true (qh zb a2) (qg a2) false),(32,.bool (((((decide ((qg a1:Int)<1))||(decide (12<(qg a1:Int))))||(!(decide ((qg a2:Int)=(qg a1:Int)))))||(decide (a0<0)))||(decide (255<a0))))]∧τ=([]:zi)) ?_ ?_
 · refine yz (b:=((((decide ((qg a1:Int)<1))||(decide (12<(qg a1:Int))))||(!(decide ((qg a2:Int)=(qg a1:Int)))))||(decide (a0<0)))) 29 rfl (fun hg29=>?_) (fun hg29=>?_)
   · refine zd tok 3 ?_;simp only[go_sem,qe,qb,qa,qc,qd,qf,reduceIte,reduceCtorEq,zV];refine zm ⟨rfl,_,_,⟨rfl,rfl⟩,.b hg29⟩
   refine zd tok 3 ?_;simp only[go_sem,qe,qb,qa,qc,qd,qf,reduceIte,reduceCtorEq,zV];refine zm ⟨rfl,_,_,⟨rfl,rfl⟩,.b hg29⟩
 rintro _ _ ⟨rfl,rfl⟩;refine nkN hK ?_;refine zY (b:=(((((decide ((qg a1:Int)<1))||(decide (12<(qg a1:Int))))||(!(decide ((qg a2:Int)=(qg a1:Int)))))||(decide (a0<0)))||(decide (255<a0)))) rfl (fun hc4=>?_) (fun hc4=>?_)
 · rw[if_pos hc4] at h;refine rgN [6] ?_;cases h;exact rtA
 rw[Zg hc4] at h;apply zp;apply hZ1;refine rgN [1,2,7] ?_
 refine ze fun Z5 hZ5=>?_
 refine rgN [2,7,33,34,35] ?_;apply zt
 refine xv 33 fun hb10=>?_
 replace hb10:qg a1≤9223372036854775807:=hb10.1;refine yh (fun m L τ=>∃ (p10 q10:List Int) (x7:Int) (x6:Int),m=qg q10∧L=[(2,.ds true (qh zb a2) (qg a2) false),(7,.int .i64 x6),(33,.ds true (qh wH a1) (qg a1) false),(34,.int .i64 (qg a1:Int)),(35,.int .i64 x7)]∧τ=([]:zi)∧a1=p10++q10∧x7=(qg p10:Int)∧w6.l10 a2 q10 x7 x6=some r) _ ⟨[],a1,0,0,rfl,rfl,rfl,rfl,rfl,h⟩ .s ?_;rintro m L τ ⟨p10,q10,x7,x6,rfl,rfl,rfl,hE10,hi10,h⟩
 rcases q10 with _|⟨y10,q10⟩
 · have hz10:=xE hE10 hi10;simp only[w6.l10] at h
   refine rg tok [2,7,33,34,35,36] fun K hK=>?_
   simp only[go_sem,qe,qb,qa,qc,qd,qf,reduceIte,reduceCtorEq,zV,hz10];apply hK
   refine ze fun Z11 hZ11=>?_
   refine zK rfl ?_;apply ye;apply hZ5
   refine rg tok [6] fun K hK=>?_
   simp only[go_sem,qe,qb,qa,qc,qd,qf,reduceIte,reduceCtorEq,hz10];apply hK
   cases h;exact rtA
 obtain⟨hz10,hw10,hx10,hE'10,hi'10⟩:=yZ hE10 hi10 hb10;simp only[w6.l10] at h
 refine rg tok [2,7,33,34,35,36] fun K hK=>?_
 simp only[go_sem,qe,qb,qa,qc,qd,qf,reduceIte,reduceCtorEq,zV,hz10,hw10];apply hK
 refine ze fun Z12 hZ12=>?_
 refine zQ rfl ?_;apply zp;apply hZ12
 refine ze fun Z13 hZ13=>?_
 apply zt;have f14:=E26.idxS hx10;have f15:=E26.fldS0 (f:=3) rfl rfl hx10
 refine rg tok [2,7,8,9,33,34,35] fun K hK=>?_
 simp only[go_sem,qe,qb,qa,qc,qd,qf,reduceIte,reduceCtorEq,wH,hz10,hw10,f14,f15];apply hK
 refine ze fun Z16 hZ16=>?_
 refine rc [2,9,33,34,35,54] fun K hK=>?_
 refine zd tok 4 ?_;simp only[go_sem,qe,qb,qa,qc,qd,qf,reduceIte,reduceCtorEq,zV,hz10,hw10];refine zI 3 (fun L τ=>L=[(2,.ds true (qh zb a2) (qg a2) false),(8,.int .i64 x7),(9,.int .i64 y10),(33,.ds true (qh wH a1) (qg a1) false),(34,.int .i64 (qg a1:Int)),(35,.int .i64 x7),(46,.bool ((decide (y10≤x6))||(decide (12<y10))))]∧τ=([]:zi)) ?_ ?_
 · refine wr 43 rfl (fun hg43=>?_) (fun hg43=>?_)
   · have t17:=eq_true hg43;refine zd tok 3 ?_;simp only[go_sem,qe,qb,qa,qc,qd,qf,reduceIte,reduceCtorEq,zV,hz10,hw10];refine zm ⟨rfl,_,_,⟨rfl,rfl⟩,.p t17⟩
   have t18:=eq_false hg43;refine zd tok 3 ?_;simp only[go_sem,qe,qb,qa,qc,qd,qf,reduceIte,reduceCtorEq,zV,hz10,hw10];refine zm ⟨rfl,_,_,⟨rfl,rfl⟩,.p t18⟩
 rintro _ _ ⟨rfl,rfl⟩;refine zd tok 1 ?_;simp only[go_sem,qe,qb,qa,qc,qd,qf,reduceIte,reduceCtorEq,hz10,hw10];obtain⟨c19,hc19,h⟩:=bind_some h;refine zI 7 (fun L τ=>L=[(2,.ds true (qh zb a2) (qg a2) false),(9,.int .i64 y10),(33,.ds true (qh wH a1) (qg a1) false),(34,.int .i64 (qg a1:Int)),(35,.int .i64 x7),(54,.bool c19)]∧τ=([]:zi)) ?_ ?_
 · refine yz (b:=((decide (y10≤x6))||(decide (12<y10)))) 47 rfl (fun hg47=>?_) (fun hg47=>?_)
   · rw[if_pos hg47] at hc19;refine zd tok 7 ?_;simp only[go_sem,qe,qb,qa,qc,qd,qf,reduceIte,reduceCtorEq,zV,zb,hz10,hw10];cases hc19;refine zm ⟨rfl,_,_,⟨rfl,rfl⟩,.b hg47⟩
   rw[Zg hg47] at hc19;obtain⟨y20,hy20,hc19⟩:=bind_some hc19;have f21:=E33.idxS hy20;have f22:=E33.loadS rfl rfl hy20;obtain⟨r23,hr23,hc19⟩:=bind_some hc19;refine zd tok 4 ?_;simp only[go_sem,qe,qb,qa,qc,qd,qf,reduceIte,reduceCtorEq,zb,hz10,hw10,f21,f22];refine clN rfl rfl rfl ((yO.ok hr23).c _) ?_;refine zd tok 2 ?_;simp only[go_sem,qe,qb,qa,qc,qd,qf,reduceIte,reduceCtorEq,zV,zb,hz10,hw10];cases hc19;refine zm ⟨rfl,_,_,⟨rfl,rfl⟩,.b hg47⟩
 rintro _ _ ⟨rfl,rfl⟩;refine nkN hK ?_;refine zY (b:=c19) rfl (fun hc24=>?_) (fun hc24=>?_)
 · rw[if_pos hc24] at h
   refine rg tok [6] fun K hK=>?_
   simp only[go_sem,qe,qb,qa,qc,qd,qf,reduceIte,reduceCtorEq,hz10,hw10];apply hK
   cases h;exact rtA
 rw[Zg hc24] at h;apply zp;apply hZ16
 refine rgE tok [2,7,33,34,35] fun K hK=>?_
 simp only[go_sem,qe,qb,qa,qc,qd,qf,reduceIte,reduceCtorEq,hz10,hw10];apply hK
 apply hZ13
 refine rgE tok [2,7,33,34,35] fun K hK=>?_
 simp only[go_sem,qe,qb,qa,qc,qd,qf,reduceIte,reduceCtorEq,zV,hz10,hw10];apply hK
 exact⟨_,_,_,qH q10.length,⟨p10++[y10],q10,x7+1,y10,rfl,rfl,rfl,hE'10,hi'10,h⟩,.s⟩
def wh.l4 (a1:List UInt8):List Zn→Int→Zn×Bool
 |[],x2=>((⟨[],[],[]⟩:Zn),false)
 |y4::q4,x2=>(if y4.fName=a1 then (y4,true) else ((wh.l4 a1 q4) (x2+1)))
def wh (a0:zP)(a1:List UInt8):Zn×Bool:=
 (wh.l4 a1 a0.fMethods 0)
theorem wh.ok {a0 a1 r}(h:wh a0 a1=r):ACalls qi 59 [.agg (zb a0),.str a1] [] (fun r' _=>r'=.tup [.agg (zr r.1),.bool r.2]):=by
 refine zw (rs:=[.cell 4 61,.tmp 5]) tok Tryz.func59 rfl Tryz.ntmps59 rfl Tryz.call59 (by simp) ?_;refine zC [(0,.agg (zb a0)),(1,.str a1)] ⟨rfl,rfl,trivial⟩ ?_;unfold wh at h
 refine rg tok [1,2,4] fun K hK=>?_
 simp only[go_sem,qe,qb,qa,qc,qd,qf,reduceIte,reduceCtorEq,zb];apply hK
 refine ze fun Z1 hZ1=>?_
 refine rgN [1,4,9,10,11] ?_;apply zt
 refine xv 9 fun hb4=>?_
 replace hb4:qg a0.fMethods≤9223372036854775807:=hb4.1;refine yh (fun m L τ=>∃ (p4 q4:List Zn) (x2:Int),m=qg q4∧L=[(1,.str a1),(4,.op 0 0 0),(9,.ds true (qh zr a0.fMethods) (qg a0.fMethods) false),(10,.int .i64 (qg a0.fMethods:Int)),(11,.int .i64 x2)]∧τ=([.cells 0 [.str [],.str [],.str []]]:zi)∧a0.fMethods=p4++q4∧x2=(qg p4:Int)∧wh.l4 a1 q4 x2=r) _ ⟨[],a0.fMethods,0,rfl,rfl,rfl,rfl,rfl,h⟩ (.t [1] false) ?_;rintro m L τ ⟨p4,q4,x2,rfl,rfl,rfl,hE4,hi4,h⟩
 rcases q4 with _|⟨y4,q4⟩
 · have hz4:=xE hE4 hi4;simp only[wh.l4] at h
   refine rg tok [1,4,9,10,11,12] fun K hK=>?_
   simp only[go_sem,qe,qb,qa,qc,qd,qf,reduceIte,reduceCtorEq,zV,hz4];apply hK
   refine ze fun Z5 hZ5=>?_
   refine zK rfl ?_;apply ye;apply hZ1
   refine rg tok [4,5] fun K hK=>?_
   simp only[go_sem,qe,qb,qa,qc,qd,qf,reduceIte,reduceCtorEq,zr,hz4];apply hK
   cases h;exact rtA
 obtain⟨hz4,hw4,hx4,hE'4,hi'4⟩:=yZ hE4 hi4 hb4;simp only[wh.l4] at h
 refine rg tok [1,4,9,10,11,12] fun K hK=>?_
 simp only[go_sem,qe,qb,qa,qc,qd,qf,reduceIte,reduceCtorEq,zV,hz4,hw4];apply hK
 refine ze fun Z6 hZ6=>?_
 refine zQ rfl ?_;apply zp;apply hZ6
 refine ze fun Z7 hZ7=>?_
 apply zt;have f8:=E29.idxS hx4;have f9:=E29.loadS rfl rfl hx4
 refine rg tok [1,4,7,9,10,11] fun K hK=>?_
 simp only[go_sem,qe,qb,qa,qc,qd,qf,reduceIte,reduceCtorEq,zr,hz4,hw4,f8,f9];apply hK
 refine rg tok [1,4,7,9,10,11,18] fun K hK=>?_
 simp only[go_sem,qe,qb,qa,qc,qd,qf,reduceIte,reduceCtorEq,zV,hz4,hw4];apply hK
 refine yn rfl (fun hc10=>?_) (fun hc10=>?_)
 · rw[if_pos hc10] at h;have t11:=eq_true hc10
   refine rg tok [4,5] fun K hK=>?_
   simp only[go_sem,qe,qb,qa,qc,qd,qf,reduceIte,reduceCtorEq,zr,hz4,hw4,t11];apply hK
   cases h;exact rtA
 rw[if_neg hc10] at h;have t12:=eq_false hc10;apply zp;apply hZ7
 refine rgE tok [1,4,9,10,11] fun K hK=>?_
 simp only[go_sem,qe,qb,qa,qc,qd,qf,reduceIte,reduceCtorEq,zV,hz4,hw4,t12];apply hK
 exact⟨_,_,_,qH q4.length,⟨p4++[y4],q4,x2+1,rfl,rfl,rfl,hE'4,hi'4,h⟩,(.t [0] false)⟩
def y0.l20 (wo:zq→Int→Option Int)(a1:Int)(x7:Int)(rec10:Int→Int→Option Int):List zq→Int→Int→Option Int
 |[],x17,x16=>(rec10 (x7+1) x16)
 |y20::q20,x17,x16=>(wo y20 (IntKind.i64.wrap (a1-1))).bind fun r26=>((y0.l20 wo a1 x7 rec10 q20) (x17+1) (if x16<r26 then r26 else x16))
def y0.l10 (wo:zq→Int→Option Int)(a1:Int):List zA→Int→Int→Option Int
 |[],x7,x6=>some (IntKind.i64.wrap (x6+1))
 |y10::q10,x7,x6=>(y0.l20 wo a1 x7 (y0.l10 wo a1 q10) y10.fTrees 0 x6)
def y0.body (wo:zq→Int→Option Int)(a0:zq)(a1:Int):Option Int:=
 (if ((!(decide (a0.fKind=3)))||(decide (a1=0)))=true then some 0 else (y0.l10 wo a1 a0.fEntries 0 0))
theorem y0.step (wo:zq→Int→Option Int)(ih_value_deep:∀ (a0:zq) (a1:Int) (r:Int),wo a0 a1=some r→ACalls qi 179 [.agg (za a0),.int .i64 a1] [] (fun r' _=>r'=.int .i64 r))(a0:zq)(a1:Int)(r:Int)(h:y0.body wo a0 a1=some r):ACalls qi 179 [.agg (za a0),.int .i64 a1] [] (fun r' _=>r'=.int .i64 r):=by
 have ev_value_deep:=fun a0 a1 r h σ=>(ih_value_deep a0 a1 r h).c σ
 refine zw (rs:=[.tmp 4]) tok Tryz.func179 rfl Tryz.ntmps179 rfl Tryz.call179 (by simp) ?_;refine zC [(0,.agg (za a0)),(1,.int .i64 a1)] ⟨rfl,rfl,trivial⟩ ?_;unfold y0.body at h
 refine rg tok [1,2] fun K hK=>?_
 simp only[go_sem,qe,qb,qa,qc,qd,qf,reduceIte,reduceCtorEq,za,zh];apply hK
 refine ze fun Z1 hZ1=>?_
 refine rc [1,2,16] fun K hK=>?_
 refine zd tok 4 ?_;simp only[go_sem,qe,qb,qa,qc,qd,qf,reduceIte,reduceCtorEq,zV];refine zI 3 (fun L τ=>L=[(1,.int .i64 a1),(2,.op 0 0 0),(16,.bool ((!(decide (a0.fKind=3)))||(decide (a1=0))))]∧τ=([.cells 0 (za a0)]:zi)) ?_ ?_
 · refine wr 13 rfl (fun hg13=>?_) (fun hg13=>?_)
   · have t2:=eq_false hg13;refine zd tok 3 ?_;simp only[go_sem,qe,qb,qa,qc,qd,qf,reduceIte,reduceCtorEq,zV];refine zm ⟨rfl,_,_,⟨rfl,rfl⟩,.p t2⟩
   have t3:=eq_true hg13;refine zd tok 3 ?_;simp only[go_sem,qe,qb,qa,qc,qd,qf,reduceIte,reduceCtorEq,zV];refine zm ⟨rfl,_,_,⟨rfl,rfl⟩,.p t3⟩
 rintro _ _ ⟨rfl,rfl⟩;refine nkN hK ?_;refine zY (b:=((!(decide (a0.fKind=3)))||(decide (a1=0)))) rfl (fun hc4=>?_) (fun hc4=>?_)
 · rw[if_pos hc4] at h;refine rgN [4] ?_;cases h;exact rtA
 rw[Zg hc4] at h;apply zp;apply hZ1;refine rgN [1,2,5] ?_
 refine ze fun Z5 hZ5=>?_
 refine rgN [1,5,18,19,20] ?_;apply zt
 refine xv 18 fun hb10=>?_
 replace hb10:qg a0.fEntries≤9223372036854775807:=hb10.1;refine yh (fun m L τ=>∃ (p10 q10:List zA) (x7:Int) (x6:Int),m=qg q10∧L=[(1,.int .i64 a1),(5,.int .i64 x6),(18,.ds true (qh zz a0.fEntries) (qg a0.fEntries) false),(19,.int .i64 (qg a0.fEntries:Int)),(20,.int .i64 x7)]∧τ=([]:zi)∧a0.fEntries=p10++q10∧x7=(qg p10:Int)∧y0.l10 wo a1 q10 x7 x6=some r) _ ⟨[],a0.fEntries,0,0,rfl,rfl,rfl,rfl,rfl,h⟩ (.t [] false) ?_;rintro m L τ ⟨p10,q10,x7,x6,rfl,rfl,rfl,hE10,hi10,h⟩
 rcases q10 with _|⟨y10,q10⟩
 · have hz10:=xE hE10 hi10;simp only[y0.l10] at h
   refine rg tok [1,5,18,19,20,21] fun K hK=>?_
   simp only[go_sem,qe,qb,qa,qc,qd,qf,reduceIte,reduceCtorEq,zV,hz10];apply hK
   refine ze fun Z11 hZ11=>?_
   refine zK rfl ?_;apply ye;apply hZ5
   refine rg tok [4] fun K hK=>?_
   simp only[go_sem,qe,qb,qa,qc,qd,qf,reduceIte,reduceCtorEq,zV,hz10];apply hK
   cases h;exact rtA
 obtain⟨hz10,hw10,hx10,hE'10,hi'10⟩:=yZ hE10 hi10 hb10;simp only[y0.l10] at h
 refine rg tok [1,5,18,19,20,21] fun K hK=>?_
 simp only[go_sem,qe,qb,qa,qc,qd,qf,reduceIte,reduceCtorEq,zV,hz10,hw10];apply hK
 refine ze fun Z12 hZ12=>?_
 refine zQ rfl ?_;apply zp;apply hZ12
 refine ze fun Z13 hZ13=>?_
 apply zt;have f14:=E34.idxS hx10;have f15:=E34.loadS rfl rfl hx10
 refine rg tok [1,5,7,18,19,20] fun K hK=>?_
 simp only[go_sem,qe,qb,qa,qc,qd,qf,reduceIte,reduceCtorEq,zF,z8,hz10,hw10,f14,f15];apply hK
 refine rg tok [1,5,18,19,20,25,26,27] fun K hK=>?_
 simp only[go_sem,qe,qb,qa,qc,qd,qf,reduceIte,reduceCtorEq,hz10,hw10];apply hK
 apply zt
 refine xv 25 fun hb20=>?_
 replace hb20:qg y10.fTrees≤9223372036854775807:=hb20.1;refine yh (fun m L τ=>∃ (p20 q20:List zq) (x17:Int) (x16:Int),m=qg q20∧L=[(1,.int .i64 a1),(5,.int .i64 x16),(18,.ds true (qh zz a0.fEntries) (qg a0.fEntries) false),(19,.int .i64 (qg a0.fEntries:Int)),(20,.int .i64 x7),(25,.ds true (qh ym y10.fTrees) (qg y10.fTrees) false),(26,.int .i64 (qg y10.fTrees:Int)),(27,.int .i64 x17)]∧τ=([]:zi)∧y10.fTrees=p20++q20∧x17=(qg p20:Int)∧y0.l20 wo a1 x7 (y0.l10 wo a1 q10) q20 x17 x16=some r) _ ⟨[],y10.fTrees,0,x6,rfl,rfl,rfl,rfl,rfl,h⟩ (.t [] false) ?_;rintro m L τ ⟨p20,q20,x17,x16,rfl,rfl,rfl,hE20,hi20,h⟩
 rcases q20 with _|⟨y20,q20⟩
 · have hz20:=xE hE20 hi20;simp only[y0.l20] at h
   refine rg tok [1,5,18,19,20,25,26,27,28] fun K hK=>?_
   simp only[go_sem,qe,qb,qa,qc,qd,qf,reduceIte,reduceCtorEq,zV,hz10,hw10,hz20];apply hK
   refine ze fun Z21 hZ21=>?_
   refine zK rfl ?_;apply ye;apply hZ13
   refine rgE tok [1,5,18,19,20] fun K hK=>?_
   simp only[go_sem,qe,qb,qa,qc,qd,qf,reduceIte,reduceCtorEq,zV,hz10,hw10,hz20];apply hK
   exact⟨_,_,_,qH q10.length,⟨p10++[y10],q10,x7+1,x16,rfl,rfl,rfl,hE'10,hi'10,h⟩,.s⟩
 obtain⟨hz20,hw20,hx20,hE'20,hi'20⟩:=yZ hE20 hi20 hb20;simp only[y0.l20] at h
 refine rg tok [1,5,18,19,20,25,26,27,28] fun K hK=>?_
 simp only[go_sem,qe,qb,qa,qc,qd,qf,reduceIte,reduceCtorEq,zV,hz10,hw10,hz20,hw20];apply hK
 refine ze fun Z22 hZ22=>?_
 refine zQ rfl ?_;apply zp;apply hZ22
 refine ze fun Z23 hZ23=>?_
 apply zt;have f24:=E38.idxS hx20;have f25:=E38.loadS rfl rfl hx20
 refine rg tok [1,5,9,18,19,20,25,26,27] fun K hK=>?_
 simp only[go_sem,qe,qb,qa,qc,qd,qf,reduceIte,reduceCtorEq,za,zh,hz10,hw10,hz20,hw20,f24,f25];apply hK
 refine rcE [1,5,18,19,20,25,26,27] fun K hK=>?_
 obtain⟨r26,hr26,h⟩:=bind_some h;refine zd tok 4 ?_;simp only[go_sem,qe,qb,qa,qc,qd,qf,reduceIte,reduceCtorEq,zV,za,zh,hz10,hw10,hz20,hw20];refine clN rfl rfl rfl (ev_value_deep y20 (IntKind.i64.wrap (a1-1)) r26 hr26 _) ?_;refine zd tok 2 ?_;simp only[go_sem,qe,qb,qa,qc,qd,qf,reduceIte,reduceCtorEq,vbt,vdz,vcf,za,zh,hz10,hw10,hz20,hw20];refine nkN hK ?_;apply hZ23
 refine rgE tok [1,5,18,19,20,25,26,27] fun K hK=>?_
 simp only[go_sem,qe,qb,qa,qc,qd,qf,reduceIte,reduceCtorEq,zV,hz10,hw10,hz20,hw20];apply hK
 exact⟨_,_,_,qH q20.length,⟨p20++[y20],q20,x17+1,(if x16<r26 then r26 else x16),rfl,rfl,rfl,hE'20,hi'20,h⟩,(.t [] false)⟩
def y0 : Nat→zq→Int→Option Int
 |0,_,_=>none
 |k+1,a0,a1=>y0.body (y0 k) a0 a1
theorem y0.all (k:Nat):(∀ (a0:zq) (a1:Int) (r:Int),y0 k a0 a1=some r→ACalls qi 179 [.agg (za a0),.int .i64 a1] [] (fun r' _=>r'=.int .i64 r)):=by
 induction k with
 |zero=>exact (fun a0 a1 r h=>by simp only[y0] at h; cases h)
 |succ k ih=>exact (fun a0 a1 r h=>y0.step _ ih a0 a1 r (by simpa only [y0] using h))
theorem y0.ev (k:Nat)(a0:zq)(a1:Int)(r:Int)(h:y0 k a0 a1=some r)(σ:zi):ACalls qi 179 [.agg (za a0),.int .i64 a1] σ (fun r' σ'=>r'=.int .i64 r∧σ'=σ):=
 ((y0.all k) a0 a1 r h).c σ
def YS (a0:zq):Option Int:=
 (y0 xG a0 101).bind fun r1=>some r1
theorem YS.ok {a0 r}(h:YS a0=some r):ACalls qi 139 [.agg (za a0)] [] (fun r' _=>r'=.int .i64 r):=by
 refine zw (rs:=[.tmp 2]) tok Tryz.func139 rfl Tryz.ntmps139 rfl Tryz.call139 (by simp) ?_;refine zC [(0,.agg (za a0))] ⟨rfl,trivial⟩ ?_;unfold YS at h
 refine rg tok [1] fun K hK=>?_
 simp only[go_sem,qe,qb,qa,qc,qd,qf,reduceIte,reduceCtorEq,za,zh];apply hK
 refine rc [2] fun K hK=>?_
 obtain⟨r1,hr1,h⟩:=bind_some h;refine zd tok 1 ?_;simp only[go_sem,qe,qb,qa,qc,qd,qf,reduceIte,reduceCtorEq,za,zh];refine clN rfl rfl rfl (y0.ev xG a0 101 r1 hr1 _) ?_;refine zd tok 1 ?_;simp only[go_sem,qe,qb,qa,qc,qd,qf,reduceIte,reduceCtorEq,za,zh];refine nkN hK ?_;cases h;exact rtA
def xF (a0:yo):Bool:=
 (if ((decide (a0.fTag<1))||(decide (500<a0.fTag)))=true then false else (if a0.fWire=0 then decide (a0.fB=[]) else (if a0.fWire=1 then ((decide (a0.fN=0))&&(decide ((qg a0.fB:Int)≤4096))) else false)))
theorem xF.ok {a0 r}(h:xF a0=r):ACalls qi 147 [.agg (zu a0)] [] (fun r' _=>r'=.bool r):=by
 refine zw (rs:=[.tmp 2]) tok Tryz.func147 rfl Tryz.ntmps147 rfl Tryz.call147 (by simp) ?_;refine zC [(0,.agg (zu a0))] ⟨rfl,trivial⟩ ?_;unfold xF at h
 refine rg tok [1] fun K hK=>?_
 simp only[go_sem,qe,qb,qa,qc,qd,qf,reduceIte,reduceCtorEq,zu];apply hK
 refine ze fun Z1 hZ1=>?_
 refine rc [1,10] fun K hK=>?_
 refine zd tok 4 ?_;simp only[go_sem,qe,qb,qa,qc,qd,qf,reduceIte,reduceCtorEq,zV];refine zI 4 (fun L τ=>L=[(1,.op 0 0 0),(10,.bool ((decide (a0.fTag<1))||(decide (500<a0.fTag))))]∧τ=([.cells 0 [.int .i64 a0.fTag,.int .i64 a0.fWire,.int .i64 a0.fN,.str a0.fB]]:zi)) ?_ ?_
 · refine wr 6 rfl (fun hg6=>?_) (fun hg6=>?_)
   · have t2:=eq_true hg6;refine zd tok 4 ?_;simp only[go_sem,qe,qb,qa,qc,qd,qf,reduceIte,reduceCtorEq,zV];refine zm ⟨rfl,_,_,⟨rfl,rfl⟩,.p t2⟩
   have t3:=eq_false hg6;refine zd tok 4 ?_;simp only[go_sem,qe,qb,qa,qc,qd,qf,reduceIte,reduceCtorEq,zV];refine zm ⟨rfl,_,_,⟨rfl,rfl⟩,.p t3⟩
 rintro _ _ ⟨rfl,rfl⟩;refine nkN hK ?_;refine zY (b:=((decide (a0.fTag<1))||(decide (500<a0.fTag)))) rfl (fun hc4=>?_) (fun hc4=>?_)
 · rw[if_pos hc4] at h;refine rgN [2] ?_;cases h;exact rtA
 rw[Zg hc4] at h;apply zp;apply hZ1
 refine ze fun Z5 hZ5=>?_
 refine rgN [1,12] ?_;apply zt
 refine rg tok [1,12,13] fun K hK=>?_
 simp only[go_sem,qe,qb,qa,qc,qd,qf,reduceIte,reduceCtorEq,zV];apply hK
 refine yn rfl (fun hc6=>?_) (fun hc6=>?_)
 · rw[if_pos hc6] at h;have t7:=eq_true hc6
   refine rg tok [2] fun K hK=>?_
   simp only[go_sem,qe,qb,qa,qc,qd,qf,reduceIte,reduceCtorEq,zV,t7];apply hK
   cases h;exact rtA
 rw[if_neg hc6] at h;have t8:=eq_false hc6
 refine rg tok [1,18] fun K hK=>?_
 simp only[go_sem,qe,qb,qa,qc,qd,qf,reduceIte,reduceCtorEq,zV,t8];apply hK
 refine yn rfl (fun hc9=>?_) (fun hc9=>?_)
 · rw[if_pos hc9] at h;have t10:=eq_true hc9
   refine rc [2] fun K hK=>?_
   refine zd tok 4 ?_;simp only[go_sem,qe,qb,qa,qc,qd,qf,reduceIte,reduceCtorEq,zV,t8,t10];refine zI 5 (fun L τ=>L=[(28,.bool ((decide (a0.fN=0))&&(decide ((qg a0.fB:Int)≤4096))))]∧τ=([.cells 0 [.int .i64 a0.fTag,.int .i64 a0.fWire,.int .i64 a0.fN,.str a0.fB]]:zi)) ?_ ?_
   · refine wr 23 rfl (fun hg23=>?_) (fun hg23=>?_)
     · have t11:=eq_true hg23;refine zd tok 5 ?_;simp only[go_sem,qe,qb,qa,qc,qd,qf,reduceIte,reduceCtorEq,zV,t8,t10];refine zm ⟨rfl,_,_,⟨rfl,rfl⟩,.p t11⟩
     have t12:=eq_false hg23;refine zd tok 5 ?_;simp only[go_sem,qe,qb,qa,qc,qd,qf,reduceIte,reduceCtorEq,zV,t8,t10];refine zm ⟨rfl,_,_,⟨rfl,rfl⟩,.p t12⟩
   rintro _ _ ⟨rfl,rfl⟩;refine zd tok 1 ?_;simp only[go_sem,qe,qb,qa,qc,qd,qf,reduceIte,reduceCtorEq,t8,t10];refine nkN hK ?_;cases h;exact rtA
 rw[if_neg hc9] at h;have t13:=eq_false hc9;apply zp;apply hZ5
 refine rg tok [2] fun K hK=>?_
 simp only[go_sem,qe,qb,qa,qc,qd,qf,reduceIte,reduceCtorEq,t8,t13];apply hK
 cases h;exact rtA
def wI.l4 (a0:List yo):Nat→Int→Option Bool
 |0,_=>none
 |k4+1,x2=>(if x2<(qg a0:Int) then (YN a0 x2).bind fun y9=>(YN a0 (IntKind.i64.wrap (x2-1))).bind fun y12=>(if y9.fTag<y12.fTag then some false else ((wI.l4 a0 k4) (IntKind.i64.wrap (x2+1)))) else some true)
def wI (a0:List yo):Option Bool:=
 (wI.l4 a0 xG 1)
theorem wI.ok {a0 r}(h:wI a0=some r):ACalls qi 223 [.ds true (qh zu a0) (qg a0) false] [] (fun r' _=>r'=.bool r):=by
 refine zw (rs:=[.tmp 2]) tok Tryz.func223 rfl Tryz.ntmps223 rfl Tryz.call223 (by simp) ?_;refine zC [(0,.ds true (qh zu a0) (qg a0) false)] ⟨rfl,trivial⟩ ?_;unfold wI at h;refine rgN [0] ?_
 refine ze fun Z1 hZ1=>?_
 refine rgN [0,3] ?_;apply zt;refine yh (fun m L τ=>∃ (k4:Nat) (x2:Int),m=0+k4∧L=[(0,.ds true (qh zu a0) (qg a0) false),(3,.int .i64 x2)]∧τ=([]:zi)∧wI.l4 a0 k4 x2=some r) _ ⟨xG,1,rfl,rfl,rfl,h⟩ .s ?_;rintro m L τ ⟨k4,x2,rfl,rfl,rfl,h⟩
 rcases k4 with _|k4
 · cases h
 simp only[wI.l4] at h
 refine ze fun Z5 hZ5=>?_
 refine rg tok [0,3,7] fun K hK=>?_
 simp only[go_sem,qe,qb,qa,qc,qd,qf,reduceIte,reduceCtorEq,zV];apply hK
 refine yn rfl (fun hc6=>?_) (fun hc6=>?_)
 · rw[if_pos hc6] at h;have t7:=eq_true hc6;apply zp;apply hZ5
   refine ze fun Z8 hZ8=>?_
   apply zt;obtain⟨y9,hy9,h⟩:=bind_some h;have f10:=E35.idxS hy9;have f11:=E35.fldS0 (f:=3) rfl rfl hy9;obtain⟨y12,hy12,h⟩:=bind_some h;have f13:=E35.idxS hy12;have f14:=E35.fldS0 (f:=3) rfl rfl hy12
   refine rd [0,3,21] fun K hK=>?_
   refine DW.start (T:=tab) [.any,.any,.any,.any,.at [],.any,.any,.any,.any,.any,.at [],.any] [] ?_;refine DW.runN tok 8 ?_;simp only[go_sem,qe,qb,qa,qc,qd,qf,reduceIte,reduceCtorEq,zV,zu,t7,f10,f11,f13,f14];refine DW.runN tok 4 ?_;simp only[go_sem,qe,qb,qa,qc,qd,qf,reduceIte,reduceCtorEq,zV,zu,t7,f10,f11,f13,f14];refine DW.fin tok (by decide +kernel) rfl ?_;simp only[zG,yE,yV,ZS,upd,qa,reduceIte,xl,xU];apply hK
   refine yn rfl (fun hc15=>?_) (fun hc15=>?_)
   · rw[if_pos hc15] at h;have t16:=eq_true hc15
     refine rg tok [2] fun K hK=>?_
     simp only[go_sem,qe,qb,qa,qc,qd,qf,reduceIte,reduceCtorEq,t7,t16];apply hK
     cases h;exact rtA
   rw[if_neg hc15] at h;have t17:=eq_false hc15;apply zp;apply hZ8
   refine rgE tok [0,3] fun K hK=>?_
   simp only[go_sem,qe,qb,qa,qc,qd,qf,reduceIte,reduceCtorEq,zV,t7,t17];apply hK
   exact⟨_,_,_,qH (0+k4),⟨k4,IntKind.i64.wrap (x2+1),rfl,rfl,rfl,h⟩,.s⟩
 rw[if_neg hc6] at h;have t18:=eq_false hc6;apply ye;apply hZ1
 refine rg tok [2] fun K hK=>?_
 simp only[go_sem,qe,qb,qa,qc,qd,qf,reduceIte,reduceCtorEq,t18];apply hK
 cases h;exact rtA
def xX.l16 (x2:Int)(rec4:Int→Option Bool)(y4:yo):List zA→Int→Option Bool
 |[],x14=>(rec4 (x2+1))
 |y16::q16,x14=>(if y16.fTag=y4.fTag then some false else ((xX.l16 x2 rec4 y4 q16) (x14+1)))
def xX.l4 (a0:zq):List yo→Int→Option Bool
 |[],x2=>(wI a0.fRest).bind fun r6=>some r6
 |y4::q4,x2=>bnd (xF y4) fun r12=>(if (!r12)=true then some false else (xX.l16 x2 (xX.l4 a0 q4) y4 a0.fEntries 0))
def xX (a0:zq):Option Bool:=
 (xX.l4 a0 a0.fRest 0)
theorem xX.ok {a0 r}(h:xX a0=some r):ACalls qi 181 [.agg (za a0)] [] (fun r' _=>r'=.bool r):=by
 refine zw (rs:=[.tmp 2]) tok Tryz.func181 rfl Tryz.ntmps181 rfl Tryz.call181 (by simp) ?_;refine zC [(0,.agg (za a0))] ⟨rfl,trivial⟩ ?_;unfold xX at h
 refine rg tok [1] fun K hK=>?_
 simp only[go_sem,qe,qb,qa,qc,qd,qf,reduceIte,reduceCtorEq,za,zh];apply hK
 refine ze fun Z1 hZ1=>?_
 refine rgN [1,8,9,10] ?_;apply zt
 refine xv 8 fun hb4=>?_
 replace hb4:qg a0.fRest≤9223372036854775807:=hb4.1;refine yh (fun m L τ=>∃ (p4 q4:List yo) (x2:Int),m=qg q4∧L=[(1,.op 0 0 0),(8,.ds true (qh zu a0.fRest) (qg a0.fRest) false),(9,.int .i64 (qg a0.fRest:Int)),(10,.int .i64 x2)]∧τ=([.cells 0 (za a0)]:zi)∧a0.fRest=p4++q4∧x2=(qg p4:Int)∧xX.l4 a0 q4 x2=some r) _ ⟨[],a0.fRest,0,rfl,rfl,rfl,rfl,rfl,h⟩ .s ?_;rintro m L τ ⟨p4,q4,x2,rfl,rfl,rfl,hE4,hi4,h⟩
 rcases q4 with _|⟨y4,q4⟩
 · have hz4:=xE hE4 hi4;simp only[xX.l4] at h
   refine rg tok [1,8,9,10,11] fun K hK=>?_
   simp only[go_sem,qe,qb,qa,qc,qd,qf,reduceIte,reduceCtorEq,zV,hz4];apply hK
   refine ze fun Z5 hZ5=>?_
   refine zK rfl ?_;apply ye;apply hZ1
   refine rc [2] fun K hK=>?_
   obtain⟨r6,hr6,h⟩:=bind_some h;refine zd tok 2 ?_;simp only[go_sem,qe,qb,qa,qc,qd,qf,reduceIte,reduceCtorEq,hz4];refine clN rfl rfl rfl ((wI.ok hr6).c _) ?_;refine zd tok 1 ?_;simp only[go_sem,qe,qb,qa,qc,qd,qf,reduceIte,reduceCtorEq,hz4];refine nkN hK ?_;cases h;exact rtA
 obtain⟨hz4,hw4,hx4,hE'4,hi'4⟩:=yZ hE4 hi4 hb4;simp only[xX.l4] at h
 refine rg tok [1,8,9,10,11] fun K hK=>?_
 simp only[go_sem,qe,qb,qa,qc,qd,qf,reduceIte,reduceCtorEq,zV,hz4,hw4];apply hK
 refine ze fun Z7 hZ7=>?_
 refine zQ rfl ?_;apply zp;apply hZ7
 refine ze fun Z8 hZ8=>?_
 apply zt;have f9:=E35.idxS hx4;have f10:=E35.loadS rfl rfl hx4
 refine rg tok [1,4,8,9,10] fun K hK=>?_
 simp only[go_sem,qe,qb,qa,qc,qd,qf,reduceIte,reduceCtorEq,zu,hz4,hw4,f9,f10];apply hK
 refine ze fun Z11 hZ11=>?_
 refine rc [1,4,8,9,10,16] fun K hK=>?_
 obtain⟨r12,hr12,h⟩:=yi h;refine zd tok 1 ?_;simp only[go_sem,qe,qb,qa,qc,qd,qf,reduceIte,reduceCtorEq,zu,hz4,hw4];refine clN rfl rfl rfl ((xF.ok hr12).c _) ?_;refine zd tok 1 ?_;simp only[go_sem,qe,qb,qa,qc,qd,qf,reduceIte,reduceCtorEq,zu,hz4,hw4];refine nkN hK ?_;refine zY (b:=(!r12)) rfl (fun hc13=>?_) (fun hc13=>?_)
 · rw[if_pos hc13] at h
   refine rg tok [2] fun K hK=>?_
   simp only[go_sem,qe,qb,qa,qc,qd,qf,reduceIte,reduceCtorEq,hz4,hw4];apply hK
   cases h;exact rtA
 rw[Zg hc13] at h;apply zp;apply hZ11
 refine rg tok [1,4,8,9,10,18,19,20] fun K hK=>?_
 simp only[go_sem,qe,qb,qa,qc,qd,qf,reduceIte,reduceCtorEq,hz4,hw4];apply hK
 apply zt
 refine xv 18 fun hb16=>?_
 replace hb16:qg a0.fEntries≤9223372036854775807:=hb16.1;refine yh (fun m L τ=>∃ (p16 q16:List zA) (x14:Int),m=qg q16∧L=[(1,.op 0 0 0),(4,.op 1 0 0),(8,.ds true (qh zu a0.fRest) (qg a0.fRest) false),(9,.int .i64 (qg a0.fRest:Int)),(10,.int .i64 x2),(18,.ds true (qh zz a0.fEntries) (qg a0.fEntries) false),(19,.int .i64 (qg a0.fEntries:Int)),(20,.int .i64 x14)]∧τ=([.cells 0 (za a0),.cells 0 [.int .i64 y4.fTag,.int .i64 y4.fWire,.int .i64 y4.fN,.str y4.fB]]:zi)∧a0.fEntries=p16++q16∧x14=(qg p16:Int)∧xX.l16 x2 (xX.l4 a0 q4) y4 q16 x14=some r) _ ⟨[],a0.fEntries,0,rfl,rfl,rfl,rfl,rfl,h⟩ .s ?_;rintro m L τ ⟨p16,q16,x14,rfl,rfl,rfl,hE16,hi16,h⟩
 rcases q16 with _|⟨y16,q16⟩
 · have hz16:=xE hE16 hi16;simp only[xX.l16] at h
   refine rg tok [1,4,8,9,10,18,19,20,21] fun K hK=>?_
   simp only[go_sem,qe,qb,qa,qc,qd,qf,reduceIte,reduceCtorEq,zV,hz4,hw4,hz16];apply hK
   refine ze fun Z17 hZ17=>?_
   refine zK rfl ?_;apply ye;apply hZ8
   refine rgE tok [1,8,9,10] fun K hK=>?_
   simp only[go_sem,qe,qb,qa,qc,qd,qf,reduceIte,reduceCtorEq,zV,hz4,hw4,hz16];apply hK
   exact⟨_,_,_,qH q4.length,⟨p4++[y4],q4,x2+1,rfl,rfl,rfl,hE'4,hi'4,h⟩,(.t [0] false)⟩
 obtain⟨hz16,hw16,hx16,hE'16,hi'16⟩:=yZ hE16 hi16 hb16;simp only[xX.l16] at h
 refine rg tok [1,4,8,9,10,18,19,20,21] fun K hK=>?_
 simp only[go_sem,qe,qb,qa,qc,qd,qf,reduceIte,reduceCtorEq,zV,hz4,hw4,hz16,hw16];apply hK
 refine ze fun Z18 hZ18=>?_
 refine zQ rfl ?_;apply zp;apply hZ18
 refine ze fun Z19 hZ19=>?_
 apply zt;have f20:=E34.idxS hx16;have f21:=E34.loadS rfl rfl hx16
 refine rg tok [1,4,6,8,9,10,18,19,20] fun K hK=>?_
 simp only[go_sem,qe,qb,qa,qc,qd,qf,reduceIte,reduceCtorEq,zF,z8,hz4,hw4,hz16,hw16,f20,f21];apply hK
 refine rg tok [1,4,8,9,10,18,19,20,28] fun K hK=>?_
 simp only[go_sem,qe,qb,qa,qc,qd,qf,reduceIte,reduceCtorEq,zV,hz4,hw4,hz16,hw16];apply hK
 refine yn rfl (fun hc22=>?_) (fun hc22=>?_)
 · rw[if_pos hc22] at h;have t23:=eq_true hc22
   refine rg tok [2] fun K hK=>?_
   simp only[go_sem,qe,qb,qa,qc,qd,qf,reduceIte,reduceCtorEq,hz4,hw4,hz16,hw16,t23];apply hK
   cases h;exact rtA
 rw[if_neg hc22] at h;have t24:=eq_false hc22;apply zp;apply hZ19
 refine rgE tok [1,4,8,9,10,18,19,20] fun K hK=>?_
 simp only[go_sem,qe,qb,qa,qc,qd,qf,reduceIte,reduceCtorEq,zV,hz4,hw4,hz16,hw16,t24];apply hK
 exact⟨_,_,_,qH q16.length,⟨p16++[y16],q16,x14+1,rfl,rfl,rfl,hE'16,hi'16,h⟩,(.t [0,1] false)⟩
def ya.j25 (x16:Int)(rec18:Int→Option Bool)(x24:Bool):Option Bool:=
 (if x24=true then some false else (rec18 (x16+1)))
def ya.l18 (xb:zq→Option Bool)(x3:Int)(rec6:Int→Int→Option Bool)(y6:zA):List zq→Int→Option Bool
 |[],x16=>(rec6 (x3+1) y6.fTag)
 |y18::q18,x16=>(YN y6.fTrees 0).bind fun y27=>(if y18.fKind=y27.fKind then (xb y18).bind fun r32=>(ya.j25 x16 (ya.l18 xb x3 rec6 y6 q18) (!r32)) else (ya.j25 x16 (ya.l18 xb x3 rec6 y6 q18) true))
def ya.l6 (xb:zq→Option Bool):List zA→Int→Int→Option Bool
 |[],x3,x2=>some true
 |y6::q6,x3,x2=>(if ((((decide (y6.fTag≤x2))||(decide (500<y6.fTag)))||(decide ((qg y6.fTrees:Int)<1)))||(decide (64<(qg y6.fTrees:Int))))=true then some false else (ya.l18 xb x3 (ya.l6 xb q6) y6 y6.fTrees 0))
def ya.body (wO:zq→Option Bool)(xb:zq→Option Bool)(a0:zq):Option Bool:=
 (ya.l6 xb a0.fEntries 0 0)
theorem ya.step (wO:zq→Option Bool)(xb:zq→Option Bool)(XF:∀ (a0:zq) (r:Bool),wO a0=some r→ACalls qi 180 [.agg (za a0)] [] (fun r' _=>r'=.bool r))(vat:∀ (a0:zq) (r:Bool),xb a0=some r→ACalls qi 140 [.agg (za a0)] [] (fun r' _=>r'=.bool r))(a0:zq)(r:Bool)(h:ya.body wO xb a0=some r):ACalls qi 180 [.agg (za a0)] [] (fun r' _=>r'=.bool r):=by
 have ev_value_entries:=fun a0 r h σ=>(XF a0 r h).c σ
 have ev_value_right:=fun a0 r h σ=>(vat a0 r h).c σ
 refine zw (rs:=[.tmp 2]) tok Tryz.func180 rfl Tryz.ntmps180 rfl Tryz.call180 (by simp) ?_;refine zC [(0,.agg (za a0))] ⟨rfl,trivial⟩ ?_;unfold ya.body at h
 refine rg tok [1] fun K hK=>?_
 simp only[go_sem,qe,qb,qa,qc,qd,qf,reduceIte,reduceCtorEq,za,zh];apply hK
 refine rgN [1,3] ?_
 refine ze fun Z1 hZ1=>?_
 refine rgN [3,9,10,11] ?_;apply zt
 refine xv 9 fun hb6=>?_
 replace hb6:qg a0.fEntries≤9223372036854775807:=hb6.1;refine yh (fun m L τ=>∃ (p6 q6:List zA) (x3:Int) (x2:Int),m=qg q6∧L=[(3,.int .i64 x2),(9,.ds true (qh zz a0.fEntries) (qg a0.fEntries) false),(10,.int .i64 (qg a0.fEntries:Int)),(11,.int .i64 x3)]∧τ=([]:zi)∧a0.fEntries=p6++q6∧x3=(qg p6:Int)∧ya.l6 xb q6 x3 x2=some r) _ ⟨[],a0.fEntries,0,0,rfl,rfl,rfl,rfl,rfl,h⟩ (.t [] false) ?_;rintro m L τ ⟨p6,q6,x3,x2,rfl,rfl,rfl,hE6,hi6,h⟩
 rcases q6 with _|⟨y6,q6⟩
 · have hz6:=xE hE6 hi6;simp only[ya.l6] at h
   refine rg tok [3,9,10,11,12] fun K hK=>?_
   simp only[go_sem,qe,qb,qa,qc,qd,qf,reduceIte,reduceCtorEq,zV,hz6];apply hK
   refine ze fun Z7 hZ7=>?_
   refine zK rfl ?_;apply ye;apply hZ1
   refine rg tok [2] fun K hK=>?_
   simp only[go_sem,qe,qb,qa,qc,qd,qf,reduceIte,reduceCtorEq,hz6];apply hK
   cases h;exact rtA
 obtain⟨hz6,hw6,hx6,hE'6,hi'6⟩:=yZ hE6 hi6 hb6;simp only[ya.l6] at h
 refine rg tok [3,9,10,11,12] fun K hK=>?_
 simp only[go_sem,qe,qb,qa,qc,qd,qf,reduceIte,reduceCtorEq,zV,hz6,hw6];apply hK
 refine ze fun Z8 hZ8=>?_
 refine zQ rfl ?_;apply zp;apply hZ8
 refine ze fun Z9 hZ9=>?_
 apply zt;have f10:=E34.idxS hx6;have f11:=E34.loadS rfl rfl hx6
 refine rg tok [3,5,9,10,11] fun K hK=>?_
 simp only[go_sem,qe,qb,qa,qc,qd,qf,reduceIte,reduceCtorEq,zF,z8,hz6,hw6,f10,f11];apply hK
 refine ze fun Z12 hZ12=>?_
 refine rc [5,9,10,11,35] fun K hK=>?_
 refine zd tok 5 ?_;simp only[go_sem,qe,qb,qa,qc,qd,qf,reduceIte,reduceCtorEq,zV,hz6,hw6];refine zI 4 (fun L τ=>L=[(5,.op 0 0 0),(9,.ds true (qh zz a0.fEntries) (qg a0.fEntries) false),(10,.int .i64 (qg a0.fEntries:Int)),(11,.int .i64 x3),(23,.bool ((decide (y6.fTag≤x2))||(decide (500<y6.fTag))))]∧τ=([.cells 0 (zF y6)]:zi)) ?_ ?_
 · refine wr 19 rfl (fun hg19=>?_) (fun hg19=>?_)
   · have t13:=eq_true hg19;refine zd tok 4 ?_;simp only[go_sem,qe,qb,qa,qc,qd,qf,reduceIte,reduceCtorEq,zV,hz6,hw6];refine zm ⟨rfl,_,_,⟨rfl,rfl⟩,.p t13⟩
   have t14:=eq_false hg19;refine zd tok 4 ?_;simp only[go_sem,qe,qb,qa,qc,qd,qf,reduceIte,reduceCtorEq,zV,hz6,hw6];refine zm ⟨rfl,_,_,⟨rfl,rfl⟩,.p t14⟩
 rintro _ _ ⟨rfl,rfl⟩;refine zd tok 1 ?_;simp only[go_sem,qe,qb,qa,qc,qd,qf,reduceIte,reduceCtorEq,hz6,hw6];refine zI 5 (fun L τ=>L=[(5,.op 0 0 0),(9,.ds true (qh zz a0.fEntries) (qg a0.fEntries) false),(10,.int .i64 (qg a0.fEntries:Int)),(11,.int .i64 x3),(29,.bool (((decide (y6.fTag≤x2))||(decide (500<y6.fTag)))||(decide ((qg y6.fTrees:Int)<1))))]∧τ=([.cells 0 (zF y6)]:zi)) ?_ ?_
 · refine yz (b:=((decide (y6.fTag≤x2))||(decide (500<y6.fTag)))) 24 rfl (fun hg24=>?_) (fun hg24=>?_)
   · refine zd tok 5 ?_;simp only[go_sem,qe,qb,qa,qc,qd,qf,reduceIte,reduceCtorEq,zV,hz6,hw6];refine zm ⟨rfl,_,_,⟨rfl,rfl⟩,.b hg24⟩
   refine zd tok 5 ?_;simp only[go_sem,qe,qb,qa,qc,qd,qf,reduceIte,reduceCtorEq,zV,hz6,hw6];refine zm ⟨rfl,_,_,⟨rfl,rfl⟩,.b hg24⟩
 rintro _ _ ⟨rfl,rfl⟩;refine zd tok 1 ?_;simp only[go_sem,qe,qb,qa,qc,qd,qf,reduceIte,reduceCtorEq,hz6,hw6];refine zI 5 (fun L τ=>L=[(5,.op 0 0 0),(9,.ds true (qh zz a0.fEntries) (qg a0.fEntries) false),(10,.int .i64 (qg a0.fEntries:Int)),(11,.int .i64 x3),(35,.bool ((((decide (y6.fTag≤x2))||(decide (500<y6.fTag)))||(decide ((qg y6.fTrees:Int)<1)))||(decide (64<(qg y6.fTrees:Int)))))]∧τ=([.cells 0 (zF y6)]:zi)) ?_ ?_
 · refine yz (b:=(((decide (y6.fTag≤x2))||(decide (500<y6.fTag)))||(decide ((qg y6.fTrees:Int)<1)))) 30 rfl (fun hg30=>?_) (fun hg30=>?_)
   · refine zd tok 5 ?_;simp only[go_sem,qe,qb,qa,qc,qd,qf,reduceIte,reduceCtorEq,zV,hz6,hw6];refine zm ⟨rfl,_,_,⟨rfl,rfl⟩,.b hg30⟩
   refine zd tok 5 ?_;simp only[go_sem,qe,qb,qa,qc,qd,qf,reduceIte,reduceCtorEq,zV,hz6,hw6];refine zm ⟨rfl,_,_,⟨rfl,rfl⟩,.b hg30⟩
 rintro _ _ ⟨rfl,rfl⟩;refine nkN hK ?_;refine zY (b:=((((decide (y6.fTag≤x2))||(decide (500<y6.fTag)))||(decide ((qg y6.fTrees:Int)<1)))||(decide (64<(qg y6.fTrees:Int))))) rfl (fun hc15=>?_) (fun hc15=>?_)
 · rw[if_pos hc15] at h
   refine rg tok [2] fun K hK=>?_
   simp only[go_sem,qe,qb,qa,qc,qd,qf,reduceIte,reduceCtorEq,hz6,hw6];apply hK
   cases h;exact rtA
 rw[Zg hc15] at h;apply zp;apply hZ12
 refine rg tok [3,5,9,10,11] fun K hK=>?_
 simp only[go_sem,qe,qb,qa,qc,qd,qf,reduceIte,reduceCtorEq,hz6,hw6];apply hK
 refine rg tok [3,5,9,10,11,39,40,41] fun K hK=>?_
 simp only[go_sem,qe,qb,qa,qc,qd,qf,reduceIte,reduceCtorEq,hz6,hw6];apply hK
 apply zt
 refine xv 39 fun hb18=>?_
 replace hb18:qg y6.fTrees≤9223372036854775807:=hb18.1;refine yh (fun m L τ=>∃ (p18 q18:List zq) (x16:Int),m=qg q18∧L=[(3,.int .i64 y6.fTag),(5,.op 0 0 0),(9,.ds true (qh zz a0.fEntries) (qg a0.fEntries) false),(10,.int .i64 (qg a0.fEntries:Int)),(11,.int .i64 x3),(39,.ds true (qh ym y6.fTrees) (qg y6.fTrees) false),(40,.int .i64 (qg y6.fTrees:Int)),(41,.int .i64 x16)]∧τ=([.cells 0 (zF y6)]:zi)∧y6.fTrees=p18++q18∧x16=(qg p18:Int)∧ya.l18 xb x3 (ya.l6 xb q6) y6 q18 x16=some r) _ ⟨[],y6.fTrees,0,rfl,rfl,rfl,rfl,rfl,h⟩ .s ?_;rintro m L τ ⟨p18,q18,x16,rfl,rfl,rfl,hE18,hi18,h⟩
 rcases q18 with _|⟨y18,q18⟩
 · have hz18:=xE hE18 hi18;simp only[ya.l18] at h
   refine rg tok [3,5,9,10,11,39,40,41,42] fun K hK=>?_
   simp only[go_sem,qe,qb,qa,qc,qd,qf,reduceIte,reduceCtorEq,zV,hz6,hw6,hz18];apply hK
   refine ze fun Z19 hZ19=>?_
   refine zK rfl ?_;apply ye;apply hZ9
   refine rgE tok [3,9,10,11] fun K hK=>?_
   simp only[go_sem,qe,qb,qa,qc,qd,qf,reduceIte,reduceCtorEq,zV,hz6,hw6,hz18];apply hK
   exact⟨_,_,_,qH q6.length,⟨p6++[y6],q6,x3+1,y6.fTag,rfl,rfl,rfl,hE'6,hi'6,h⟩,(.t [] false)⟩
 obtain⟨hz18,hw18,hx18,hE'18,hi'18⟩:=yZ hE18 hi18 hb18;simp only[ya.l18] at h
 refine rg tok [3,5,9,10,11,39,40,41,42] fun K hK=>?_
 simp only[go_sem,qe,qb,qa,qc,qd,qf,reduceIte,reduceCtorEq,zV,hz6,hw6,hz18,hw18];apply hK
 refine ze fun Z20 hZ20=>?_
 refine zQ rfl ?_;apply zp;apply hZ20
 refine ze fun Z21 hZ21=>?_
 apply zt;have f22:=E38.idxS hx18;have f23:=E38.loadS rfl rfl hx18
 refine rg tok [3,5,7,9,10,11,39,40,41] fun K hK=>?_
 simp only[go_sem,qe,qb,qa,qc,qd,qf,reduceIte,reduceCtorEq,za,zh,hz6,hw6,hz18,hw18,f22,f23];apply hK
 refine xV (fun L τ=>∃ (x24:Bool),L=[(3,.int .i64 y6.fTag),(5,.op 0 0 0),(9,.ds true (qh zz a0.fEntries) (qg a0.fEntries) false),(10,.int .i64 (qg a0.fEntries:Int)),(11,.int .i64 x3),(39,.ds true (qh ym y6.fTrees) (qg y6.fTrees) false),(40,.int .i64 (qg y6.fTrees:Int)),(41,.int .i64 x16),(57,.bool x24)]∧τ=([.cells 0 (zF y6)]:zi)∧ya.j25 x16 (ya.l18 xb x3 (ya.l6 xb q6) y6 q18) x24=some r) ?_ ?_
 · refine rdE [3,5,9,10,11,39,40,41,57] fun K hK=>?_
   refine DW.start (T:=tab) [.any,.at [],.any,.at [],.any,.any,.at [],.any,.any,.at [],.eff,.any,.any] [] ?_;obtain⟨y27,hy27,h⟩:=bind_some h;have f28:=E38.idxS hy27;have f29:=E38.fldS0 (f:=3) rfl rfl hy27;refine DW.runN tok 8 ?_;simp only[go_sem,qe,qb,qa,qc,qd,qf,reduceIte,reduceCtorEq,zV,za,zh,hz6,hw6,hz18,hw18,f28,f29];refine DW.runN tok 1 ?_;simp only[go_sem,qe,qb,qa,qc,qd,qf,reduceIte,reduceCtorEq,za,zh,hz6,hw6,hz18,hw18,f28,f29]
   refine DW.if 53 rfl (fun hg53=>?_) (fun hg53=>?_)
   · rw[if_neg hg53] at h;have t30:=eq_false hg53;refine DW.runN tok 4 ?_;simp only[go_sem,qe,qb,qa,qc,qd,qf,reduceIte,reduceCtorEq,za,zh,hz6,hw6,hz18,hw18,t30];refine DW.fin tok (by decide +kernel) rfl ?_;simp only[zG,yE,yV,ZS,upd,qa,reduceIte,xl,xU];apply hK
     exact⟨_,_,⟨true,rfl,rfl,h⟩,(.t [0] false)⟩
   rw[if_pos hg53] at h;have t31:=eq_true hg53;obtain⟨r32,hr32,h⟩:=bind_some h;refine DW.runN tok 1 ?_;simp only[go_sem,qe,qb,qa,qc,qd,qf,reduceIte,reduceCtorEq,za,zh,hz6,hw6,hz18,hw18,t31];refine DW.call rfl rfl rfl (ev_value_right y18 r32 hr32 _) ?_;refine DW.runN tok 2 ?_;simp only[go_sem,qe,qb,qa,qc,qd,qf,reduceIte,reduceCtorEq,za,zh,hz6,hw6,hz18,hw18,t31];refine DW.fin tok (by decide +kernel) rfl ?_;simp only[zG,yE,yV,ZS,upd,qa,reduceIte,xl,xU];apply hK
   exact⟨_,_,⟨!r32,rfl,rfl,h⟩,(.t [0] false)⟩
 rintro _ _ ⟨x24,rfl,rfl,h⟩;unfold ya.j25 at h;refine zY (b:=x24) rfl (fun hc26=>?_) (fun hc26=>?_)
 · rw[if_pos hc26] at h
   refine rg tok [2] fun K hK=>?_
   simp only[go_sem,qe,qb,qa,qc,qd,qf,reduceIte,reduceCtorEq,hz6,hw6,hz18,hw18];apply hK
   cases h;exact rtA
 rw[Zg hc26] at h;apply zp;apply hZ21
 refine rgE tok [3,5,9,10,11,39,40,41] fun K hK=>?_
 simp only[go_sem,qe,qb,qa,qc,qd,qf,reduceIte,reduceCtorEq,zV,hz6,hw6,hz18,hw18];apply hK
 exact⟨_,_,_,qH q18.length,⟨p18++[y18],q18,x16+1,rfl,rfl,rfl,hE'18,hi'18,h⟩,.s⟩
def wm.body (wO:zq→Option Bool)(xb:zq→Option Bool)(a0:zq):Option Bool:=
 (if a0.fKind=1 then some (((decide (a0.fS=[]))&&(decide ((qg a0.fEntries:Int)=0)))&&(decide ((qg a0.fRest:Int)=0))) else (if a0.fKind=2 then some (((decide (a0.fN=0))&&(decide ((qg a0.fEntries:Int)=0)))&&(decide ((qg a0.fRest:Int)=0))) else (if a0.fKind=3 then (if ((decide (a0.fN=0))&&(decide (a0.fS=[])))=true then (wO a0).bind fun r16=>some r16 else some false).bind fun c16=>(if c16=true then (xX a0).bind fun r18=>some r18 else some false).bind fun c18=>some c18 else some false)))
theorem wm.step (wO:zq→Option Bool)(xb:zq→Option Bool)(XF:∀ (a0:zq) (r:Bool),wO a0=some r→ACalls qi 180 [.agg (za a0)] [] (fun r' _=>r'=.bool r))(vat:∀ (a0:zq) (r:Bool),xb a0=some r→ACalls qi 140 [.agg (za a0)] [] (fun r' _=>r'=.bool r))(a0:zq)(r:Bool)(h:wm.body wO xb a0=some r):ACalls qi 140 [.agg (za a0)] [] (fun r' _=>r'=.bool r):=by
 have ev_value_entries:=fun a0 r h σ=>(XF a0 r h).c σ
 have ev_value_right:=fun a0 r h σ=>(vat a0 r h).c σ
 refine zw (rs:=[.tmp 2]) tok Tryz.func140 rfl Tryz.ntmps140 rfl Tryz.call140 (by simp) ?_;refine zC [(0,.agg (za a0))] ⟨rfl,trivial⟩ ?_;unfold wm.body at h
 refine rg tok [1] fun K hK=>?_
 simp only[go_sem,qe,qb,qa,qc,qd,qf,reduceIte,reduceCtorEq,za,zh];apply hK
 refine ze fun Z1 hZ1=>?_
 refine rgN [1,4] ?_;apply zt
 refine rg tok [1,4,5] fun K hK=>?_
 simp only[go_sem,qe,qb,qa,qc,qd,qf,reduceIte,reduceCtorEq,zV];apply hK
 refine yn rfl (fun hc2=>?_) (fun hc2=>?_)
 · rw[if_pos hc2] at h;have t3:=eq_true hc2
   refine rc [2] fun K hK=>?_
   refine zd tok 4 ?_;simp only[go_sem,qe,qb,qa,qc,qd,qf,reduceIte,reduceCtorEq,zV,t3];refine zI 5 (fun L τ=>L=[(1,.op 0 0 0),(15,.bool ((decide (a0.fS=[]))&&(decide ((qg a0.fEntries:Int)=0))))]∧τ=([.cells 0 (za a0)]:zi)) ?_ ?_
   · refine wr 10 rfl (fun hg10=>?_) (fun hg10=>?_)
     · have t4:=eq_true hg10;refine zd tok 5 ?_;simp only[go_sem,qe,qb,qa,qc,qd,qf,reduceIte,reduceCtorEq,zV,t3];refine zm ⟨rfl,_,_,⟨rfl,rfl⟩,.p t4⟩
     have t5:=eq_false hg10;refine zd tok 5 ?_;simp only[go_sem,qe,qb,qa,qc,qd,qf,reduceIte,reduceCtorEq,zV,t3];refine zm ⟨rfl,_,_,⟨rfl,rfl⟩,.p t5⟩
   rintro _ _ ⟨rfl,rfl⟩;refine zd tok 1 ?_;simp only[go_sem,qe,qb,qa,qc,qd,qf,reduceIte,reduceCtorEq,t3];refine zI 5 (fun L τ=>L=[(21,.bool (((decide (a0.fS=[]))&&(decide ((qg a0.fEntries:Int)=0)))&&(decide ((qg a0.fRest:Int)=0))))]∧τ=([.cells 0 (za a0)]:zi)) ?_ ?_
   · refine yz (b:=((decide (a0.fS=[]))&&(decide ((qg a0.fEntries:Int)=0)))) 16 rfl (fun hg16=>?_) (fun hg16=>?_)
     · refine zd tok 5 ?_;simp only[go_sem,qe,qb,qa,qc,qd,qf,reduceIte,reduceCtorEq,zV,t3];refine zm ⟨rfl,_,_,⟨rfl,rfl⟩,.b hg16⟩
     refine zd tok 5 ?_;simp only[go_sem,qe,qb,qa,qc,qd,qf,reduceIte,reduceCtorEq,zV,t3];refine zm ⟨rfl,_,_,⟨rfl,rfl⟩,.b hg16⟩
   rintro _ _ ⟨rfl,rfl⟩;refine zd tok 1 ?_;simp only[go_sem,qe,qb,qa,qc,qd,qf,reduceIte,reduceCtorEq,t3];refine nkN hK ?_;cases h;exact rtA
 rw[if_neg hc2] at h;have t6:=eq_false hc2
 refine rg tok [1,4,22] fun K hK=>?_
 simp only[go_sem,qe,qb,qa,qc,qd,qf,reduceIte,reduceCtorEq,zV,t6];apply hK
 refine yn rfl (fun hc7=>?_) (fun hc7=>?_)
 · rw[if_pos hc7] at h;have t8:=eq_true hc7
   refine rc [2] fun K hK=>?_
   refine zd tok 4 ?_;simp only[go_sem,qe,qb,qa,qc,qd,qf,reduceIte,reduceCtorEq,zV,t6,t8];refine zI 5 (fun L τ=>L=[(1,.op 0 0 0),(32,.bool ((decide (a0.fN=0))&&(decide ((qg a0.fEntries:Int)=0))))]∧τ=([.cells 0 (za a0)]:zi)) ?_ ?_
   · refine wr 27 rfl (fun hg27=>?_) (fun hg27=>?_)
     · have t9:=eq_true hg27;refine zd tok 5 ?_;simp only[go_sem,qe,qb,qa,qc,qd,qf,reduceIte,reduceCtorEq,zV,t6,t8];refine zm ⟨rfl,_,_,⟨rfl,rfl⟩,.p t9⟩
     have t10:=eq_false hg27;refine zd tok 5 ?_;simp only[go_sem,qe,qb,qa,qc,qd,qf,reduceIte,reduceCtorEq,zV,t6,t8];refine zm ⟨rfl,_,_,⟨rfl,rfl⟩,.p t10⟩
   rintro _ _ ⟨rfl,rfl⟩;refine zd tok 1 ?_;simp only[go_sem,qe,qb,qa,qc,qd,qf,reduceIte,reduceCtorEq,t6,t8];refine zI 5 (fun L τ=>L=[(38,.bool (((decide (a0.fN=0))&&(decide ((qg a0.fEntries:Int)=0)))&&(decide ((qg a0.fRest:Int)=0))))]∧τ=([.cells 0 (za a0)]:zi)) ?_ ?_
   · refine yz (b:=((decide (a0.fN=0))&&(decide ((qg a0.fEntries:Int)=0)))) 33 rfl (fun hg33=>?_) (fun hg33=>?_)
     · refine zd tok 5 ?_;simp only[go_sem,qe,qb,qa,qc,qd,qf,reduceIte,reduceCtorEq,zV,t6,t8];refine zm ⟨rfl,_,_,⟨rfl,rfl⟩,.b hg33⟩
     refine zd tok 5 ?_;simp only[go_sem,qe,qb,qa,qc,qd,qf,reduceIte,reduceCtorEq,zV,t6,t8];refine zm ⟨rfl,_,_,⟨rfl,rfl⟩,.b hg33⟩
   rintro _ _ ⟨rfl,rfl⟩;refine zd tok 1 ?_;simp only[go_sem,qe,qb,qa,qc,qd,qf,reduceIte,reduceCtorEq,t6,t8];refine nkN hK ?_;cases h;exact rtA
 rw[if_neg hc7] at h;have t11:=eq_false hc7
 refine rg tok [1,39] fun K hK=>?_
 simp only[go_sem,qe,qb,qa,qc,qd,qf,reduceIte,reduceCtorEq,zV,t6,t11];apply hK
 refine yn rfl (fun hc12=>?_) (fun hc12=>?_)
 · rw[if_pos hc12] at h;have t13:=eq_true hc12
   refine rc [2] fun K hK=>?_
   refine zd tok 4 ?_;simp only[go_sem,qe,qb,qa,qc,qd,qf,reduceIte,reduceCtorEq,zV,t6,t11,t13];refine zI 4 (fun L τ=>L=[(1,.op 0 0 0),(48,.bool ((decide (a0.fN=0))&&(decide (a0.fS=[]))))]∧τ=([.cells 0 (za a0)]:zi)) ?_ ?_
   · refine wr 44 rfl (fun hg44=>?_) (fun hg44=>?_)
     · have t14:=eq_true hg44;refine zd tok 4 ?_;simp only[go_sem,qe,qb,qa,qc,qd,qf,reduceIte,reduceCtorEq,zV,t6,t11,t13];refine zm ⟨rfl,_,_,⟨rfl,rfl⟩,.p t14⟩
     have t15:=eq_false hg44;refine zd tok 4 ?_;simp only[go_sem,qe,qb,qa,qc,qd,qf,reduceIte,reduceCtorEq,zV,t6,t11,t13];refine zm ⟨rfl,_,_,⟨rfl,rfl⟩,.p t15⟩
   rintro _ _ ⟨rfl,rfl⟩;refine zd tok 1 ?_;simp only[go_sem,qe,qb,qa,qc,qd,qf,reduceIte,reduceCtorEq,t6,t11,t13];obtain⟨c16,hc16,h⟩:=bind_some h;refine zI 3 (fun L τ=>L=[(1,.op 0 0 0),(52,.bool c16)]∧τ=([.cells 0 (za a0)]:zi)) ?_ ?_
   · refine yz (b:=((decide (a0.fN=0))&&(decide (a0.fS=[])))) 49 rfl (fun hg49=>?_) (fun hg49=>?_)
     · rw[if_pos hg49] at hc16;obtain⟨r17,hr17,hc16⟩:=bind_some hc16;refine zd tok 1 ?_;simp only[go_sem,qe,qb,qa,qc,qd,qf,reduceIte,reduceCtorEq,za,zh,t6,t11,t13];refine clN rfl rfl rfl (ev_value_entries a0 r17 hr17 _) ?_;refine zd tok 1 ?_;simp only[go_sem,qe,qb,qa,qc,qd,qf,reduceIte,reduceCtorEq,za,zh,t6,t11,t13];cases hc16;refine zm ⟨rfl,_,_,⟨rfl,rfl⟩,.b hg49⟩
     rw[Zg hg49] at hc16;refine zd tok 3 ?_;simp only[go_sem,qe,qb,qa,qc,qd,qf,reduceIte,reduceCtorEq,za,zh,t6,t11,t13];cases hc16;refine zm ⟨rfl,_,_,⟨rfl,rfl⟩,.b hg49⟩
   rintro _ _ ⟨rfl,rfl⟩;refine zd tok 1 ?_;simp only[go_sem,qe,qb,qa,qc,qd,qf,reduceIte,reduceCtorEq,za,zh,t6,t11,t13];obtain⟨c18,hc18,h⟩:=bind_some h;refine zI 3 (fun L τ=>L=[(56,.bool c18)]∧τ=([.cells 0 (za a0)]:zi)) ?_ ?_
   · refine yz (b:=c16) 53 rfl (fun hg53=>?_) (fun hg53=>?_)
     · rw[if_pos hg53] at hc18;obtain⟨r19,hr19,hc18⟩:=bind_some hc18;refine zd tok 1 ?_;simp only[go_sem,qe,qb,qa,qc,qd,qf,reduceIte,reduceCtorEq,za,zh,t6,t11,t13];refine clN rfl rfl rfl ((xX.ok hr19).c _) ?_;refine zd tok 1 ?_;simp only[go_sem,qe,qb,qa,qc,qd,qf,reduceIte,reduceCtorEq,za,zh,t6,t11,t13];cases hc18;refine zm ⟨rfl,_,_,⟨rfl,rfl⟩,.b hg53⟩
     rw[Zg hg53] at hc18;refine zd tok 3 ?_;simp only[go_sem,qe,qb,qa,qc,qd,qf,reduceIte,reduceCtorEq,za,zh,t6,t11,t13];cases hc18;refine zm ⟨rfl,_,_,⟨rfl,rfl⟩,.b hg53⟩
   rintro _ _ ⟨rfl,rfl⟩;refine zd tok 1 ?_;simp only[go_sem,qe,qb,qa,qc,qd,qf,reduceIte,reduceCtorEq,za,zh,t6,t11,t13];refine nkN hK ?_;cases h;exact rtA
 rw[if_neg hc12] at h;have t20:=eq_false hc12;apply zp;apply hZ1
 refine rg tok [2] fun K hK=>?_
 simp only[go_sem,qe,qb,qa,qc,qd,qf,reduceIte,reduceCtorEq,t6,t11,t20];apply hK
 cases h;exact rtA
mutual
def ya : Nat→zq→Option Bool
 |0,_=>none
 |k+1,a0=>ya.body (ya k) (wm k) a0
def wm : Nat→zq→Option Bool
 |0,_=>none
 |k+1,a0=>wm.body (ya k) (wm k) a0
end
theorem ya.all (k:Nat):(∀ (a0:zq) (r:Bool),ya k a0=some r→ACalls qi 180 [.agg (za a0)] [] (fun r' _=>r'=.bool r))∧(∀ (a0:zq) (r:Bool),wm k a0=some r→ACalls qi 140 [.agg (za a0)] [] (fun r' _=>r'=.bool r)):=by
 induction k with
 |zero=>exact⟨(fun a0 r h=>by simp only[ya] at h; cases h),(fun a0 r h=>by simp only[wm] at h; cases h)⟩
 |succ k ih=>exact⟨(fun a0 r h=>ya.step _ _ ih.1 ih.2 a0 r (by simpa only [ya] using h)),(fun a0 r h=>wm.step _ _ ih.1 ih.2 a0 r (by simpa only [wm] using h))⟩
theorem wm.ev (k:Nat)(a0:zq)(r:Bool)(h:wm k a0=some r)(σ:zi):ACalls qi 140 [.agg (za a0)] σ (fun r' σ'=>r'=.bool r∧σ'=σ):=
 ((ya.all k).2 a0 r h).c σ
def Ya (a0:zq):Option Bool:=
 (YS a0).bind fun r1=>(if r1≤10 then (wm xG a0).bind fun r2=>some r2 else some false).bind fun c2=>some c2
theorem Ya.ok {a0 r}(h:Ya a0=some r):ACalls qi 93 [.agg (za a0)] [] (fun r' _=>r'=.bool r):=by
 refine zw (rs:=[.tmp 2]) tok Tryz.func93 rfl Tryz.ntmps93 rfl Tryz.call93 (by simp) ?_;refine zC [(0,.agg (za a0))] ⟨rfl,trivial⟩ ?_;unfold Ya at h
 refine rg tok [1] fun K hK=>?_
 simp only[go_sem,qe,qb,qa,qc,qd,qf,reduceIte,reduceCtorEq,za,zh];apply hK
 refine rc [2] fun K hK=>?_
 obtain⟨r1,hr1,h⟩:=bind_some h;refine zd tok 1 ?_;simp only[go_sem,qe,qb,qa,qc,qd,qf,reduceIte,reduceCtorEq,za,zh];refine clN rfl rfl rfl ((YS.ok hr1).c _) ?_;refine zd tok 2 ?_;simp only[go_sem,qe,qb,qa,qc,qd,qf,reduceIte,reduceCtorEq,zV,za,zh];obtain⟨c2,hc2,h⟩:=bind_some h;refine zI 3 (fun L τ=>L=[(9,.bool c2)]∧τ=([.cells 0 (za a0)]:zi)) ?_ ?_
 · refine wr 6 rfl (fun hg6=>?_) (fun hg6=>?_)
   · have t3:=eq_true hg6;rw[if_pos hg6] at hc2;obtain⟨r4,hr4,hc2⟩:=bind_some hc2;refine zd tok 1 ?_;simp only[go_sem,qe,qb,qa,qc,qd,qf,reduceIte,reduceCtorEq,za,zh];refine clN rfl rfl rfl (wm.ev xG a0 r4 hr4 _) ?_;refine zd tok 1 ?_;simp only[go_sem,qe,qb,qa,qc,qd,qf,reduceIte,reduceCtorEq,za,zh];cases hc2;refine zm ⟨rfl,_,_,⟨rfl,rfl⟩,.p t3⟩
   have t5:=eq_false hg6;rw[if_neg hg6] at hc2;refine zd tok 3 ?_;simp only[go_sem,qe,qb,qa,qc,qd,qf,reduceIte,reduceCtorEq,za,zh];cases hc2;refine zm ⟨rfl,_,_,⟨rfl,rfl⟩,.p t5⟩
 rintro _ _ ⟨rfl,rfl⟩;refine zd tok 1 ?_;simp only[go_sem,qe,qb,qa,qc,qd,qf,reduceIte,reduceCtorEq,za,zh];refine nkN hK ?_;cases h;exact rtA
def vbe (a0:Int):zs:=
 (zs.num a0)
theorem vbe.ok {a0 r}(h:vbe a0=r):ACalls qi 225 [.int .i64 a0] [] (fun r' _=>r'=.agg (zl r)):=by
 refine zw (rs:=[.cell 2 228]) tok Tryz.func225 rfl Tryz.ntmps225 rfl Tryz.call225 (by simp) ?_;refine zC [(0,.int .i64 a0)] ⟨rfl,trivial⟩ ?_;unfold vbe at h;refine rgN [0,2] ?_
 refine rg tok [2] fun K hK=>?_
 simp only[go_sem,qe,qb,qa,qc,qd,qf,reduceIte,reduceCtorEq,zl];apply hK
 cases h;exact rtA
def vbd (a0:List UInt8):zs:=
 (zs.str a0)
theorem vbd.ok {a0 r}(h:vbd a0=r):ACalls qi 226 [.str a0] [] (fun r' _=>r'=.agg (zl r)):=by
 refine zw (rs:=[.cell 2 228]) tok Tryz.func226 rfl Tryz.ntmps226 rfl Tryz.call226 (by simp) ?_;refine zC [(0,.str a0)] ⟨rfl,trivial⟩ ?_;unfold vbd at h;refine rgN [0,2] ?_
 refine rg tok [2] fun K hK=>?_
 simp only[go_sem,qe,qb,qa,qc,qd,qf,reduceIte,reduceCtorEq,zl];apply hK
 cases h;exact rtA
def xY (a0:List yo):Option (List yo):=(vai (qg a0) 40).bind fun _=>some a0
theorem xY.ok (a0 r:List yo)(h:xY a0=some r):ACalls qi 227 [.ds true (qh zu a0) (qg a0) false] [] (fun r' _=>r'=.ds true (qh zu r) (qg r) false):=by
 obtain⟨_u,hu,h⟩:=bind_some h;have gu:=xh hu;cases h
 have f1:=fun nl tt σ=>Zf E35.len a0 nl tt σ
 have f2:=zX E35.len a0;have f3:=Yq zu a0
 have fin:∀ σ id ver tt,zi.at σ id ver=some (qh zu a0)→tell σ [] true 12 (.os true 4 id ver 0 (qg a0) tt)=.ds true (qh zu a0) (qg a0) false:=by
  intro σ id ver tt hs
  simp only[ZI,Zi,hs,qq,ql];rw[if_pos (by rw[f2]; exact qI _),← f2,uc,zx]
 refine zw (rs:=[.tmp 2]) tok Tryz.func227 rfl Tryz.ntmps227 rfl Tryz.call227 (by simp) ?_;refine zC [(0,.ds true (qh zu a0) (qg a0) false)] ⟨rfl,trivial⟩ ?_;refine rgN [0] ?_
 refine ze fun Z1 hZ1=>?_
 refine rc [0,4] fun K hK=>?_
 refine rnN 1 ?_
 refine Xl tok rfl rfl rfl rfl rfl rfl fun b hnil=>?_
 have hb:b=true→a0=[]:=fun hb=>by
  have:=hnil hb;simp only[yU,go_sem,qe,qb,qa,qc,qd,qf,reduceIte,reduceCtorEq] at this;exact ub this
 clear hnil
 refine nkN hK ?_;cases b
 · refine zK rfl ?_;apply zp;apply hZ1
   refine rg tok [2] fun K hK=>?_
   by_cases h0:qg a0=0
   · obtain rfl:=ub h0;simp only[go_sem,qe,qb,qa,qc,qd,qf,reduceIte,reduceCtorEq,zU,yA,qN,qW,yR,yp,yU,xf,qG,qz,um,qV,gt_iff_lt];apply hK
     apply yk;simp only[ZA,yT,yY,xR,exists_eq_left',go_sem,qe,qb,qa,qc,qd,qf,reduceIte,reduceCtorEq]
     first|rfl|(simp only[go_sem,qe,qb,qa,qc,qd,qf,reduceIte,reduceCtorEq,ZI,Zi,qr]<;>rfl)
   have h1:=eq_false h0;simp only[go_sem,qe,qb,qa,qc,qd,qf,reduceIte,reduceCtorEq,zU,yA,qN,qW,yR,yp,yU,f1,f3,h1,gu,yP,gt_iff_lt,qr,qE,um];apply hK
   apply yk;simp only[ZA,yT,yY,xR,exists_eq_left',go_sem,qe,qb,qa,qc,qd,qf,reduceIte,reduceCtorEq];exact fin _ _ _ _ (by simp only[zi.at_hd,zi.at_tl,if_true])
 obtain rfl:=hb rfl;refine zQ rfl ?_;refine rgN [2] ?_;apply yk;simp only[ZA,yT,yY,xR,exists_eq_left',go_sem,qe,qb,qa,qc,qd,qf,reduceIte,reduceCtorEq]
 first|rfl|(simp only[go_sem,qe,qb,qa,qc,qd,qf,reduceIte,reduceCtorEq,Xj,qr,qv,qw,qx]<;>rfl)
theorem xY.own (a0 r:List yo)(h:xY a0=some r):ACalls qi 227 [.ds true (qh zu a0) (qg a0) false] [] (fun r' σ'=>r'=.os true 4 0 0 0 (qg r) false∧σ'=[.cells 0 (qh zu r)]):=by
 obtain⟨_u,hu,h⟩:=bind_some h;have gu:=xh hu;cases h
 have f1:=fun nl tt σ=>Zf E35.len a0 nl tt σ
 have f2:=zX E35.len a0;have f3:=Yq zu a0;refine vdI (rs:=[.tmp 2]) tok Tryz.func227 rfl Tryz.ntmps227 rfl Tryz.call227 (by simp) ?_;refine zC [(0,.ds true (qh zu a0) (qg a0) false)] ⟨rfl,trivial⟩ ?_;refine rgN [0] ?_
 refine ze fun Z1 hZ1=>?_
 refine rc [0,4] fun K hK=>?_
 refine rnN 1 ?_
 refine Xl tok rfl rfl rfl rfl rfl rfl fun b hnil=>?_
 have hb:b=true→a0=[]:=fun hb=>by
  have:=hnil hb;simp only[yU,go_sem,qe,qb,qa,qc,qd,qf,reduceIte,reduceCtorEq] at this;exact ub this
 clear hnil
 refine nkN hK ?_;cases b
 · refine zK rfl ?_;apply zp;apply hZ1
   refine rg tok [2] fun K hK=>?_
   by_cases h0:qg a0=0
   · obtain rfl:=ub h0;simp only[go_sem,qe,qb,qa,qc,qd,qf,reduceIte,reduceCtorEq,zU,yA,qN,qW,yR,yp,yU,xf,qG,qz,um,qV,gt_iff_lt];apply hK
     apply yk;simp only[ZA,yT,yY,xR,exists_eq_left',go_sem,qe,qb,qa,qc,qd,qf,reduceIte,reduceCtorEq];refine .inl ⟨0,true,by simp,?_,?_⟩
     · first|rfl|(simp only[go_sem,qe,qb,qa,qc,qd,qf,reduceIte,reduceCtorEq,ZI,Yp,if_true]<;>rfl)
     first|rfl|(simp only[go_sem,qe,qb,qa,qc,qd,qf,reduceIte,reduceCtorEq,YZ,Xz,Yv,Y1,Y0,qr]<;>rfl)
   have h1:=eq_false h0;simp only[go_sem,qe,qb,qa,qc,qd,qf,reduceIte,reduceCtorEq,zU,yA,qN,qW,yR,yp,yU,f1,f3,h1,gu,yP,gt_iff_lt,qr,qE,um];apply hK
   apply yk;simp only[ZA,yT,yY,xR,exists_eq_left',go_sem,qe,qb,qa,qc,qd,qf,reduceIte,reduceCtorEq];refine .inl ⟨1,false,by simp,?_,?_⟩
   · first|rfl|(simp only[go_sem,qe,qb,qa,qc,qd,qf,reduceIte,reduceCtorEq,ZI,Yp,if_true]<;>rfl)
   first|rfl|(simp only[go_sem,qe,qb,qa,qc,qd,qf,reduceIte,reduceCtorEq,YZ,Xz,Yv,Y1,Y0,zx]<;>rfl)
 obtain rfl:=hb rfl;refine zQ rfl ?_;refine rgN [2] ?_;apply yk;simp only[ZA,yT,yY,xR,exists_eq_left',go_sem,qe,qb,qa,qc,qd,qf,reduceIte,reduceCtorEq];refine .inr ?_
 first|rfl|(simp only[go_sem,qe,qb,qa,qc,qd,qf,reduceIte,reduceCtorEq,Xj,qr,qv,qy,qn,qo]<;>rfl)
theorem xY.ev (a0 r:List yo)(h:xY a0=some r)(σ:zi):ACalls qi 227 [.ds true (qh zu a0) (qg a0) false] σ (fun r' σ'=>r'=.ds true (qh zu r) (qg r) false∧σ'=σ):=
 (xY.ok a0 r h).pureAt (by simp only[AV.canon,xu,xD,ZQ,YD,wT,qJ,qo,ui,qn,uE]) (by simp only[AV.canon,xu,xD,ZQ,YD,wT,qJ,qo,ui,qn,uE]) σ
def yx.l35 (xC:zq→Option zs)(l14:List yJ)(x16:Int)(rec20:List yJ→Int→Option zs)(y25:zA):List zq→Int→List zs→Option zs
 |[],x31,l29=>(vai (qg l14+1) 32).bind fun _u37=>(rec20 (l14++[(⟨y25.fTag,l29⟩:yJ)]) (IntKind.i64.wrap (x16+1)))
 |y35::q35,x31,l29=>(xC y35).bind fun r43=>(vai (qg l29+1) 16).bind fun _u45=>((yx.l35 xC l14 x16 rec20 y25 q35) (x31+1) (l29++[r43]))
def yx.l20 (xC:zq→Option zs)(a0:zq)(r12:List yo):Nat→List yJ→Int→Option zs
 |0,_,_=>none
 |k20+1,l14,x16=>(if x16<(qg a0.fEntries:Int) then (YN a0.fEntries x16).bind fun y25=>(yx.l35 xC l14 x16 (yx.l20 xC a0 r12 k20) y25 y25.fTrees 0 ([]:List zs)) else some (zs.node l14 r12))
def yx.l62 (xC:zq→Option zs)(a0:zq)(r12:List yo)(y52:zA):List zq→Int→List zs→Option zs
 |[],x58,l56=>(yx.l20 xC a0 r12 xG [(⟨y52.fTag,l56⟩:yJ)] (IntKind.i64.wrap (0+1)))
 |y62::q62,x58,l56=>(xC y62).bind fun r68=>(vai (qg l56+1) 16).bind fun _u70=>((yx.l62 xC a0 r12 y52 q62) (x58+1) (l56++[r68]))
def yx.body (xC:zq→Option zs)(a0:zq):Option zs:=
 (if a0.fKind=1 then bnd (vbe a0.fN) fun r4=>some r4 else (if a0.fKind=2 then bnd (vbd a0.fS) fun r9=>some r9 else (xY a0.fRest).bind fun r12=>(if 0<(qg a0.fEntries:Int) then (YN a0.fEntries 0).bind fun y52=>(yx.l62 xC a0 r12 y52 y52.fTrees 0 ([]:List zs)) else some (zs.node ([]:List yJ) r12))))
theorem yx.step (xC:zq→Option zs)(ih_value_made:∀ (a0:zq) (r:zs),xC a0=some r→ACalls qi 185 [.agg (za a0)] [] (fun r' _=>r'=.agg (zl r)))(a0:zq)(r:zs)(h:yx.body xC a0=some r):ACalls qi 185 [.agg (za a0)] [] (fun r' _=>r'=.agg (zl r)):=by
 have ev_value_made:=fun a0 r h σ=>(ih_value_made a0 r h).c σ
 refine zw (rs:=[.cell 2 228]) tok Tryz.func185 rfl Tryz.ntmps185 rfl Tryz.call185 (by simp) ?_;refine zC [(0,.agg (za a0))] ⟨rfl,trivial⟩ ?_;unfold yx.body at h
 refine rg tok [1,2] fun K hK=>?_
 simp only[go_sem,qe,qb,qa,qc,qd,qf,reduceIte,reduceCtorEq,za,zh];apply hK
 refine ze fun Z1 hZ1=>?_
 refine rgN [1,2,10] ?_;apply zt
 refine rg tok [1,2,10,11] fun K hK=>?_
 simp only[go_sem,qe,qb,qa,qc,qd,qf,reduceIte,reduceCtorEq,zV];apply hK
 refine yn rfl (fun hc2=>?_) (fun hc2=>?_)
 · rw[if_pos hc2] at h;have t3:=eq_true hc2
   refine rc [2] fun K hK=>?_
   obtain⟨r4,hr4,h⟩:=yi h;refine zd tok 2 ?_;simp only[go_sem,qe,qb,qa,qc,qd,qf,reduceIte,reduceCtorEq,t3];refine clN rfl rfl rfl ((vbe.ok hr4).c _) ?_;have f5:=Yf r4;unfold AV.one at f5;refine zd tok 1 ?_;simp only[go_sem,qe,qb,qa,qc,qd,qf,reduceIte,reduceCtorEq,zl,t3,f5];refine nkN hK ?_;cases h;exact rtA
 rw[if_neg hc2] at h;have t6:=eq_false hc2
 refine rg tok [1,2,16] fun K hK=>?_
 simp only[go_sem,qe,qb,qa,qc,qd,qf,reduceIte,reduceCtorEq,zV,t6];apply hK
 refine yn rfl (fun hc7=>?_) (fun hc7=>?_)
 · rw[if_pos hc7] at h;have t8:=eq_true hc7
   refine rc [2] fun K hK=>?_
   obtain⟨r9,hr9,h⟩:=yi h;refine zd tok 2 ?_;simp only[go_sem,qe,qb,qa,qc,qd,qf,reduceIte,reduceCtorEq,t6,t8];refine clN rfl rfl rfl ((vbd.ok hr9).c _) ?_;have f10:=Yf r9;unfold AV.one at f10;refine zd tok 1 ?_;simp only[go_sem,qe,qb,qa,qc,qd,qf,reduceIte,reduceCtorEq,zl,t6,t8,f10];refine nkN hK ?_;cases h;exact rtA
 rw[if_neg hc7] at h;have t11:=eq_false hc7;apply zp;apply hZ1
 refine rc [1,2,3] fun K hK=>?_
 obtain⟨r12,hr12,h⟩:=bind_some h;refine zd tok 2 ?_;simp only[go_sem,qe,qb,qa,qc,qd,qf,reduceIte,reduceCtorEq,t6,t11];refine clN rfl rfl rfl (xY.ev a0.fRest r12 hr12 _) ?_;refine zd tok 3 ?_;simp only[go_sem,qe,qb,qa,qc,qd,qf,reduceIte,reduceCtorEq,zJ,t6,t11];refine nkN hK ?_
 refine ze fun Z13 hZ13=>?_
 refine rg tok [2,3,27,28,29] fun K hK=>?_
 simp only[go_sem,qe,qb,qa,qc,qd,qf,reduceIte,reduceCtorEq,t6,t11];apply hK
 apply zt;refine awp_loopS1 (fun m L τ=>∃ (k20:Nat) (l14:List yJ) (x16:Int) (v15:Nat),m=0+k20∧L=[(2,.op 0 0 0),(3,.op 1 0 0),(27,.ds true (qh zz a0.fEntries) (qg a0.fEntries) false),(28,.int .i64 (qg a0.fEntries:Int)),(29,.int .i64 x16)]∧τ=([.cells 0 [.nilI],.cells 0 [.os true 2 2 v15 0 (qg l14) false,.ds true (qh zu r12) (qg r12) false],.cells v15 (qh xa l14)]:zi)∧yx.l20 xC a0 r12 k20 l14 x16=some r) (xG+1) ?_ ?_
 · refine rg tok [2,3,27,28,29,30] fun K hK=>?_
   simp only[go_sem,qe,qb,qa,qc,qd,qf,reduceIte,reduceCtorEq,zV,t6,t11];apply hK
   refine ze fun Z48 hZ48=>?_
   refine yn rfl (fun hc49=>?_) (fun hc49=>?_)
   · rw[if_pos hc49] at h;have t50:=eq_true hc49;apply zp;apply hZ48
     refine ze fun Z51 hZ51=>?_
     apply zt;obtain⟨y52,hy52,h⟩:=bind_some h;have f53:=E34.idxS hy52;have f54:=E34.loadS rfl rfl hy52
     refine rg tok [2,3,5,27,28,29] fun K hK=>?_
     simp only[go_sem,qe,qb,qa,qc,qd,qf,reduceIte,reduceCtorEq,zF,z8,t6,t11,t50,f53,f54];apply hK
     refine rg tok [2,3,5,6,27,28,29] fun K hK=>?_
     simp only[go_sem,qe,qb,qa,qc,qd,qf,reduceIte,reduceCtorEq,yL,yH,t6,t11,t50];apply hK
     refine ZG 4 1 1 rfl (by simp) rfl (L:=[(2,.op 1 0 0),(3,.op 2 0 0),(5,.op 3 0 0),(6,.op 4 0 0),(27,.ds true (qh zz a0.fEntries) (qg a0.fEntries) false),(28,.int .i64 (qg a0.fEntries:Int)),(29,.int .i64 0)]) (τ:=[.cells 0 (za a0),.cells 0 [.nilI],.cells 0 [.ds true [] 0 true,.ds true (qh zu r12) (qg r12) false],.cells 0 (zF y52),.cells 0 [.int .i64 y52.fTag,.os true 1 5 0 0 (qg ([]:List zs)) false],.cells 0 (qh zl ([]:List zs))]) .s ?_
     refine ze fun Z55 hZ55=>?_
     refine rg tok [2,3,6,27,28,29,37,38,39] fun K hK=>?_
     simp only[go_sem,qe,qb,qa,qc,qd,qf,reduceIte,reduceCtorEq,t6,t11,t50];apply hK
     apply zt
     refine xv 37 fun hb62=>?_
     replace hb62:qg y52.fTrees≤9223372036854775807:=hb62.1;refine yh (fun m L τ=>∃ (p62 q62:List zq) (x58:Int) (l56:List zs) (v57:Nat),m=qg q62∧L=[(2,.op 0 0 0),(3,.op 1 0 0),(6,.op 2 0 0),(27,.ds true (qh zz a0.fEntries) (qg a0.fEntries) false),(28,.int .i64 (qg a0.fEntries:Int)),(29,.int .i64 0),(37,.ds true (qh ym y52.fTrees) (qg y52.fTrees) false),(38,.int .i64 (qg y52.fTrees:Int)),(39,.int .i64 x58)]∧τ=([.cells 0 [.nilI],.cells 0 [.ds true [] 0 true,.ds true (qh zu r12) (qg r12) false],.cells 0 [.int .i64 y52.fTag,.os true 1 3 v57 0 (qg l56) false],.cells v57 (qh zl l56)]:zi)∧y52.fTrees=p62++q62∧x58=(qg p62:Int)∧yx.l62 xC a0 r12 y52 q62 x58 l56=some r) _ ⟨[],y52.fTrees,0,([]:List zs),0,rfl,rfl,rfl,rfl,rfl,h⟩ (.t [1,2,4,5] false) ?_;rintro m L τ ⟨p62,q62,x58,l56,v57,rfl,rfl,rfl,hE62,hi62,h⟩
     rcases q62 with _|⟨y62,q62⟩
     · have hz62:=xE hE62 hi62;simp only[yx.l62] at h
       refine rg tok [2,3,6,27,28,29,37,38,39,40] fun K hK=>?_
       simp only[go_sem,qe,qb,qa,qc,qd,qf,reduceIte,reduceCtorEq,zV,t6,t11,t50,hz62];apply hK
       refine ze fun Z63 hZ63=>?_
       refine zK rfl ?_;apply ye;apply hZ55
       refine rdE [2,3,27,28,29] fun K hK=>?_
       refine DW.start (T:=tab) [.any,.any,.any,.any,.own 1 [],.at [],.eff,.eff,.any,.any,.eff] [(1,[])] ?_;refine DW.runN tok 8 ?_;simp only[go_sem,qe,qb,qa,qc,qd,qf,reduceIte,reduceCtorEq,zU,yA,qY,qN,qW,true_and,q1,yR,yp,yU,yL,yH,zJ,t6,t11,t50,hz62,yP,qV,qS,AV.one,qJ,qo,gt_iff_lt,zW,qD,qC,qG,qB,qE,qk,qp,qz,ql,qu,qF];refine DW.runN tok 3 ?_;simp only[go_sem,qe,qb,qa,qc,qd,qf,reduceIte,reduceCtorEq,yL,yH,zJ,t6,t11,t50,hz62,yP,qV,qS,AV.one,qJ,qo,gt_iff_lt,zW,qD,qC,qG,qB,qE,qk,qp,qz,ql,qu,qF];refine DW.fin tok (by decide +kernel) rfl ?_;simp only[zG,yE,yV,ZS,upd,qa,reduceIte,xl,xU];apply hK
       apply hZ51
       refine rgE tok [2,3,27,28,29] fun K hK=>?_
       simp only[go_sem,qe,qb,qa,qc,qd,qf,reduceIte,reduceCtorEq,zV,t6,t11,t50,hz62];apply hK
       exact⟨_,_,_,(Nat.lt_succ_of_le (Nat.le_of_eq (ql xG))),⟨xG,[(⟨y52.fTag,l56⟩:yJ)],IntKind.i64.wrap (0+1),0,rfl,rfl,rfl,h⟩,(.t [0,1,5] false)⟩
     obtain⟨hz62,hw62,hx62,hE'62,hi'62⟩:=yZ hE62 hi62 hb62;simp only[yx.l62] at h
     refine rg tok [2,3,6,27,28,29,37,38,39,40] fun K hK=>?_
     simp only[go_sem,qe,qb,qa,qc,qd,qf,reduceIte,reduceCtorEq,zV,t6,t11,t50,hz62,hw62];apply hK
     refine ze fun Z64 hZ64=>?_
     refine zQ rfl ?_;apply zp;apply hZ64
     refine ze fun Z65 hZ65=>?_
     apply zt;have f66:=E38.idxS hx62;have f67:=E38.loadS rfl rfl hx62
     refine rg tok [2,3,6,8,27,28,29,37,38,39] fun K hK=>?_
     simp only[go_sem,qe,qb,qa,qc,qd,qf,reduceIte,reduceCtorEq,za,zh,t6,t11,t50,hz62,hw62,f66,f67];apply hK
     obtain⟨r68,hr68,h⟩:=bind_some h;have f69:=Yf r68;unfold AV.one at f69;obtain⟨_u70,hu70,h⟩:=bind_some h;have gu70:=xh hu70;have f71:=(zX E282.len l56)
     refine rdE [2,3,6,27,28,29,37,38,39] fun K hK=>?_
     refine DW.start (T:=tab) [.any,.own 2 [],.at [],.eff,.eff,.eff,.any,.eff] [(2,[])] ?_;refine DW.runN tok 3 ?_;simp only[go_sem,qe,qb,qa,qc,qd,qf,reduceIte,reduceCtorEq,za,yL,zh,yH,zl,t6,t11,t50,hz62,hw62,f69,gu70,f71,yP,qV,qS,AV.one,qJ,qo,gt_iff_lt,zW,qD,qC,qG,qB,qE,qk,qp,qz,ql,qu,qF];refine DW.call rfl rfl rfl (ev_value_made y62 r68 hr68 _) ?_;refine DW.runN tok 4 ?_;simp only[go_sem,qe,qb,qa,qc,qd,qf,reduceIte,reduceCtorEq,zU,yA,qY,qN,qW,true_and,q1,yR,yp,yU,za,yL,zh,yH,zl,t6,t11,t50,hz62,hw62,f69,gu70,f71,yP,qV,qS,AV.one,qJ,qo,gt_iff_lt,zW,qD,qC,qG,qB,qE,qk,qp,qz,ql,qu,qF];refine DW.fin tok (by decide +kernel) rfl ?_;simp only[zG,yE,yV,ZS,upd,qa,reduceIte,xl,xU];apply hK
     apply hZ65
     refine rgE tok [2,3,6,27,28,29,37,38,39] fun K hK=>?_
     simp only[go_sem,qe,qb,qa,qc,qd,qf,reduceIte,reduceCtorEq,zV,t6,t11,t50,hz62,hw62];apply hK
     exact⟨_,_,_,qH q62.length,⟨p62++[y62],q62,x58+1,l56++[r68],v57+1,rfl,rfl,rfl,hE'62,hi'62,h⟩,(.t [0,1,2,3] false)⟩
   rw[if_neg hc49] at h;have t72:=eq_false hc49;apply ye;apply hZ13
   refine rg tok [2] fun K hK=>?_
   simp only[go_sem,qe,qb,qa,qc,qd,qf,reduceIte,reduceCtorEq,zl,t6,t11,t72];apply hK
   cases h;exact rtA
 clear h
 rintro m L τ ⟨k20,l14,x16,v15,rfl,rfl,rfl,h⟩
 rcases k20 with _|k20
 · cases h
 simp only[yx.l20] at h
 refine rg tok [2,3,27,28,29,30] fun K hK=>?_
 simp only[go_sem,qe,qb,qa,qc,qd,qf,reduceIte,reduceCtorEq,zV,t6,t11];apply hK
 refine ze fun Z21 hZ21=>?_
 refine yn rfl (fun hc22=>?_) (fun hc22=>?_)
 · rw[if_pos hc22] at h;have t23:=eq_true hc22;apply zp;apply hZ21
   refine ze fun Z24 hZ24=>?_
   apply zt;obtain⟨y25,hy25,h⟩:=bind_some h;have f26:=E34.idxS hy25;have f27:=E34.loadS rfl rfl hy25
   refine rg tok [2,3,5,27,28,29] fun K hK=>?_
   simp only[go_sem,qe,qb,qa,qc,qd,qf,reduceIte,reduceCtorEq,zF,z8,t6,t11,t23,f26,f27];apply hK
   refine rg tok [2,3,5,6,27,28,29] fun K hK=>?_
   simp only[go_sem,qe,qb,qa,qc,qd,qf,reduceIte,reduceCtorEq,yL,yH,t6,t11,t23];apply hK
   refine ZG 4 1 1 rfl (by simp) rfl (L:=[(2,.op 0 0 0),(3,.op 1 0 0),(5,.op 3 0 0),(6,.op 4 0 0),(27,.ds true (qh zz a0.fEntries) (qg a0.fEntries) false),(28,.int .i64 (qg a0.fEntries:Int)),(29,.int .i64 x16)]) (τ:=[.cells 0 [.nilI],.cells 0 [.os true 2 2 v15 0 (qg l14) false,.ds true (qh zu r12) (qg r12) false],.cells v15 (qh xa l14),.cells 0 (zF y25),.cells 0 [.int .i64 y25.fTag,.os true 1 5 0 0 (qg ([]:List zs)) false],.cells 0 (qh zl ([]:List zs))]) .s ?_
   refine ze fun Z28 hZ28=>?_
   refine rg tok [2,3,6,27,28,29,37,38,39] fun K hK=>?_
   simp only[go_sem,qe,qb,qa,qc,qd,qf,reduceIte,reduceCtorEq,t6,t11,t23];apply hK
   apply zt
   refine xv 37 fun hb35=>?_
   replace hb35:qg y25.fTrees≤9223372036854775807:=hb35.1;refine yh (fun m L τ=>∃ (p35 q35:List zq) (x31:Int) (l29:List zs) (v30:Nat),m=qg q35∧L=[(2,.op 0 0 0),(3,.op 1 0 0),(6,.op 3 0 0),(27,.ds true (qh zz a0.fEntries) (qg a0.fEntries) false),(28,.int .i64 (qg a0.fEntries:Int)),(29,.int .i64 x16),(37,.ds true (qh ym y25.fTrees) (qg y25.fTrees) false),(38,.int .i64 (qg y25.fTrees:Int)),(39,.int .i64 x31)]∧τ=([.cells 0 [.nilI],.cells 0 [.os true 2 2 v15 0 (qg l14) false,.ds true (qh zu r12) (qg r12) false],.cells v15 (qh xa l14),.cells 0 [.int .i64 y25.fTag,.os true 1 4 v30 0 (qg l29) false],.cells v30 (qh zl l29)]:zi)∧y25.fTrees=p35++q35∧x31=(qg p35:Int)∧yx.l35 xC l14 x16 (yx.l20 xC a0 r12 k20) y25 q35 x31 l29=some r) _ ⟨[],y25.fTrees,0,([]:List zs),0,rfl,rfl,rfl,rfl,rfl,h⟩ (.t [0,1,2,4,5] false) ?_;rintro m L τ ⟨p35,q35,x31,l29,v30,rfl,rfl,rfl,hE35,hi35,h⟩
   rcases q35 with _|⟨y35,q35⟩
   · have hz35:=xE hE35 hi35;simp only[yx.l35] at h
     refine rg tok [2,3,6,27,28,29,37,38,39,40] fun K hK=>?_
     simp only[go_sem,qe,qb,qa,qc,qd,qf,reduceIte,reduceCtorEq,zV,t6,t11,t23,hz35];apply hK
     refine ze fun Z36 hZ36=>?_
     refine zK rfl ?_;apply ye;apply hZ28;obtain⟨_u37,hu37,h⟩:=bind_some h;have gu37:=xh hu37;have f38:=(zX E324.len l14)
     refine rdE [2,3,27,28,29] fun K hK=>?_
     refine DW.start (T:=tab) [.any,.any,.any,.any,.own 1 [],.at [],.eff,.eff,.any,.any,.eff] [(1,[])] ?_;refine DW.runN tok 8 ?_;simp only[go_sem,qe,qb,qa,qc,qd,qf,reduceIte,reduceCtorEq,zU,yA,qY,qN,qW,true_and,q1,yR,yp,yU,yL,yH,zJ,t6,t11,t23,hz35,gu37,f38,yP,qV,qS,AV.one,qJ,qo,gt_iff_lt,zW,qD,qC,qG,qB,qE,qk,qp,qz,ql,qu,qF];refine DW.runN tok 3 ?_;simp only[go_sem,qe,qb,qa,qc,qd,qf,reduceIte,reduceCtorEq,yL,yH,zJ,t6,t11,t23,hz35,gu37,f38,yP,qV,qS,AV.one,qJ,qo,gt_iff_lt,zW,qD,qC,qG,qB,qE,qk,qp,qz,ql,qu,qF];refine DW.fin tok (by decide +kernel) rfl ?_;simp only[zG,yE,yV,ZS,upd,qa,reduceIte,xl,xU];apply hK
     apply hZ24
     refine rgE tok [2,3,27,28,29] fun K hK=>?_
     simp only[go_sem,qe,qb,qa,qc,qd,qf,reduceIte,reduceCtorEq,zV,t6,t11,t23,hz35];apply hK
     exact⟨_,_,_,qH (0+k20),⟨k20,l14++[(⟨y25.fTag,l29⟩:yJ)],IntKind.i64.wrap (x16+1),v15+1,rfl,rfl,rfl,h⟩,(.t [0,1,2] false)⟩
   obtain⟨hz35,hw35,hx35,hE'35,hi'35⟩:=yZ hE35 hi35 hb35;simp only[yx.l35] at h
   refine rg tok [2,3,6,27,28,29,37,38,39,40] fun K hK=>?_
   simp only[go_sem,qe,qb,qa,qc,qd,qf,reduceIte,reduceCtorEq,zV,t6,t11,t23,hz35,hw35];apply hK
   refine ze fun Z39 hZ39=>?_
   refine zQ rfl ?_;apply zp;apply hZ39
   refine ze fun Z40 hZ40=>?_
   apply zt;have f41:=E38.idxS hx35;have f42:=E38.loadS rfl rfl hx35
   refine rg tok [2,3,6,8,27,28,29,37,38,39] fun K hK=>?_
   simp only[go_sem,qe,qb,qa,qc,qd,qf,reduceIte,reduceCtorEq,za,zh,t6,t11,t23,hz35,hw35,f41,f42];apply hK
   obtain⟨r43,hr43,h⟩:=bind_some h;have f44:=Yf r43;unfold AV.one at f44;obtain⟨_u45,hu45,h⟩:=bind_some h;have gu45:=xh hu45;have f46:=(zX E282.len l29)
   refine rdE [2,3,6,27,28,29,37,38,39] fun K hK=>?_
   refine DW.start (T:=tab) [.any,.own 2 [],.at [],.eff,.eff,.eff,.any,.eff] [(2,[])] ?_;refine DW.runN tok 3 ?_;simp only[go_sem,qe,qb,qa,qc,qd,qf,reduceIte,reduceCtorEq,za,yL,zh,yH,zl,t6,t11,t23,hz35,hw35,f44,gu45,f46,yP,qV,qS,AV.one,qJ,qo,gt_iff_lt,zW,qD,qC,qG,qB,qE,qk,qp,qz,ql,qu,qF];refine DW.call rfl rfl rfl (ev_value_made y35 r43 hr43 _) ?_;refine DW.runN tok 4 ?_;simp only[go_sem,qe,qb,qa,qc,qd,qf,reduceIte,reduceCtorEq,zU,yA,qY,qN,qW,true_and,q1,yR,yp,yU,za,yL,zh,yH,zl,t6,t11,t23,hz35,hw35,f44,gu45,f46,yP,qV,qS,AV.one,qJ,qo,gt_iff_lt,zW,qD,qC,qG,qB,qE,qk,qp,qz,ql,qu,qF];refine DW.fin tok (by decide +kernel) rfl ?_;simp only[zG,yE,yV,ZS,upd,qa,reduceIte,xl,xU];apply hK
   apply hZ40
   refine rgE tok [2,3,6,27,28,29,37,38,39] fun K hK=>?_
   simp only[go_sem,qe,qb,qa,qc,qd,qf,reduceIte,reduceCtorEq,zV,t6,t11,t23,hz35,hw35];apply hK
   exact⟨_,_,_,qH q35.length,⟨p35++[y35],q35,x31+1,l29++[r43],v30+1,rfl,rfl,rfl,hE'35,hi'35,h⟩,(.t [0,1,2,3,4] false)⟩
 rw[if_neg hc22] at h;have t47:=eq_false hc22;apply ye;apply hZ13
 refine rg tok [2] fun K hK=>?_
 simp only[go_sem,qe,qb,qa,qc,qd,qf,reduceIte,reduceCtorEq,zl,t6,t11,t47];apply hK
 cases h;exact rtA
def yx : Nat→zq→Option zs
 |0,_=>none
 |k+1,a0=>yx.body (yx k) a0
theorem yx.all (k:Nat):(∀ (a0:zq) (r:zs),yx k a0=some r→ACalls qi 185 [.agg (za a0)] [] (fun r' _=>r'=.agg (zl r))):=by
 induction k with
 |zero=>exact (fun a0 r h=>by simp only[yx] at h; cases h)
 |succ k ih=>exact (fun a0 r h=>yx.step _ ih a0 r (by simpa only [yx] using h))
theorem yx.ev (k:Nat)(a0:zq)(r:zs)(h:yx k a0=some r)(σ:zi):ACalls qi 185 [.agg (za a0)] σ (fun r' σ'=>r'=.agg (zl r)∧σ'=σ):=
 ((yx.all k) a0 r h).c σ
def Xq (a0:zq):Option (zs×Bool):=
 (Ya a0).bind fun r2=>(if (!r2)=true then some (zs.nil,false) else (yx xG a0).bind fun r4=>some (r4,true))
theorem Xq.ok {a0 r}(h:Xq a0=some r):ACalls qi 144 [.agg (za a0)] [] (fun r' _=>r'=.tup [.agg (zl r.1),.bool r.2]):=by
 refine zw (rs:=[.cell 2 228,.tmp 3]) tok Tryz.func144 rfl Tryz.ntmps144 rfl Tryz.call144 (by simp) ?_;refine zC [(0,.agg (za a0))] ⟨rfl,trivial⟩ ?_;unfold Xq at h
 refine rg tok [1,2] fun K hK=>?_
 simp only[go_sem,qe,qb,qa,qc,qd,qf,reduceIte,reduceCtorEq,za,zh];apply hK
 refine ze fun Z1 hZ1=>?_
 refine rc [1,2,6] fun K hK=>?_
 obtain⟨r2,hr2,h⟩:=bind_some h;refine zd tok 1 ?_;simp only[go_sem,qe,qb,qa,qc,qd,qf,reduceIte,reduceCtorEq,za,zh];refine clN rfl rfl rfl ((Ya.ok hr2).c _) ?_;refine zd tok 1 ?_;simp only[go_sem,qe,qb,qa,qc,qd,qf,reduceIte,reduceCtorEq,za,zh];refine nkN hK ?_;refine zY (b:=(!r2)) rfl (fun hc3=>?_) (fun hc3=>?_)
 · rw[if_pos hc3] at h
   refine rg tok [2,3] fun K hK=>?_
   simp only[go_sem,qe,qb,qa,qc,qd,qf,reduceIte,reduceCtorEq,zl];apply hK
   cases h;exact rtA
 rw[Zg hc3] at h;apply zp;apply hZ1
 refine rc [2,3] fun K hK=>?_
 obtain⟨r4,hr4,h⟩:=bind_some h;refine zd tok 1 ?_;simp only[go_sem,qe,qb,qa,qc,qd,qf,reduceIte,reduceCtorEq,za,zh];refine clN rfl rfl rfl (yx.ev xG a0 r4 hr4 _) ?_;have f5:=Yf r4;unfold AV.one at f5;refine zd tok 2 ?_;simp only[go_sem,qe,qb,qa,qc,qd,qf,reduceIte,reduceCtorEq,za,zh,zl,f5];refine nkN hK ?_;cases h;exact rtA
def xS (a0:zs):Option yg:=
 (match a0 with|.nil=>none|.num n2=>none|.str s2=>none|.node e2 r2=>some (⟨e2,r2⟩:yg))
theorem xS.ok {a0 r}(h:xS a0=some r):ACalls qi 146 [.agg (zl a0)] [] (fun r' _=>r'=.dp (zJ r) 0):=by
 refine zw (rs:=[.tmp 2]) tok Tryz.func146 rfl Tryz.ntmps146 rfl Tryz.call146 (by simp) ?_;refine zC [(0,.agg (zl a0))] ⟨rfl,trivial⟩ ?_;unfold xS at h;have f1:=Yf a0;unfold AV.one at f1
 refine rg tok [1] fun K hK=>?_
 simp only[go_sem,qe,qb,qa,qc,qd,qf,reduceIte,reduceCtorEq,zl,f1];apply hK
 rcases a0 with _|n2|s2|⟨e2,r2⟩
 · dsimp only at h
   try simp only[Xv,XW,zl]
   cases h
 · dsimp only at h
   try simp only[Xu,XV,zl]
   cases h
 · dsimp only at h
   try simp only[Xt,XU,zl]
   cases h
 dsimp only at h
 try simp only[Yz,Xh,zl]
 refine rg tok [2] fun K hK=>?_
 simp only[go_sem,qe,qb,qa,qc,qd,qf,reduceIte,reduceCtorEq,xI,xJ,TypeDesc.isIface];apply hK
 cases h;exact rtA
def wJ (a0:yg):Option (List yo):=
 (xY a0.frest).bind fun r1=>some r1
theorem wJ.own {a0 r}(h:wJ a0=some r):ACalls qi 186 [.dp (zJ a0) 0] [] (fun r' σ'=>r'=.os true 4 0 0 0 (qg r) false∧σ'=[.cells 0 (qh zu r)]):=by
 refine ACalls.own0 (by simp only[push_cast]) ?_;refine X1 (rs:=[.tmp 2]) tok Tryz.func186 rfl Tryz.ntmps186 rfl Tryz.call186 (by simp) ?_;refine zC [(0,.dp (zJ a0) 0)] ⟨rfl,trivial⟩ ?_;unfold wJ at h;refine rgN [0] ?_
 refine rc [2] fun K hK=>?_
 obtain⟨r1,hr1,h⟩:=bind_some h;refine zd tok 4 ?_;simp only[go_sem,qe,qb,qa,qc,qd,qf,reduceIte,reduceCtorEq,zJ,vbs];refine clN rfl rfl rfl (@id (ACalls qi 227 [.ds true (qh zu a0.frest) (qg a0.frest) false] [] (fun r' σ'=>r'=.os true 4 0 0 0 (qg r1) false∧σ'=[.cells 0 (qh zu r1)])) ((xY.own a0.frest r1 hr1).ownAt0 (by simp only[push_cast]) (by simp only[push_cast]) _)) ?_;refine zd tok 1 ?_;simp only[go_sem,qe,qb,qa,qc,qd,qf,reduceIte,reduceCtorEq,zJ];refine nkN hK ?_;apply yk;cases h;simp only[ZA,yT,yY,xR,exists_eq_left',go_sem,qe,qb,qa,qc,qd,qf,reduceIte,reduceCtorEq,zu];refine⟨0,0,by simp,?_,?_⟩
 · first|rfl|(simp only[go_sem,qe,qb,qa,qc,qd,qf,reduceIte,reduceCtorEq,push_cast,if_true,qq,ql,qt,qr,qs,qv,qy,qo,qx,qw,qn,zx,zu]<;>rfl)
 first|rfl|(simp only[go_sem,qe,qb,qa,qc,qd,qf,reduceIte,reduceCtorEq,push_cast,if_true,qq,ql,qt,qr,qs,qv,qy,qo,qx,qw,qn,zx,zu]<;>rfl)
theorem wJ.ok {a0 r}(h:wJ a0=some r):ACalls qi 186 [.dp (zJ a0) 0] [] (fun r' _=>r'=.ds true (qh zu r) (qg r) false):=
 (wJ.own h).ownData (zX E35.len r) (by simp only[push_cast])
end
section
set_option maxRecDepth 4000
set_option maxHeartbeats 1000000
open AM
def xy.l8 : List yJ→Int→List Int→Option (List Int)
 |[],x4,l2=>some l2
 |y8::q8,x4,l2=>(vai (qg l2+1) 8).bind fun _u14=>((xy.l8 q8) (x4+1) (l2++[y8.ftag]))
def xy (a0:yg):Option (List Int):=
 (xy.l8 a0.fentries 0 ([]:List Int))
theorem xy.own {a0 r}(h:xy a0=some r):ACalls qi 187 [.dp (zJ a0) 0] [] (fun r' σ'=>r'=.os true 1 0 0 0 (qg r) false∧σ'=[.cells 0 (qh wH r)]):=by
 refine ACalls.own0 (by simp only[push_cast]) ?_;refine X1 (rs:=[.tmp 2]) tok Tryz.func187 rfl Tryz.ntmps187 rfl Tryz.call187 (by simp) ?_;refine zC [(0,.dp (zJ a0) 0)] ⟨rfl,trivial⟩ ?_;unfold xy at h;refine rgN [0] ?_;refine rgN [0,3] ?_;refine YR 3 1 rfl ?_;refine y5 (L:=[(0,.dp (zJ a0) 0),(3,.os true 1 0 0 0 (qg ([]:List Int)) false)]) (τ:=[.cells 0 (qh wH ([]:List Int))]) .s ?_
 refine ze fun Z1 hZ1=>?_
 refine rg tok [3,9,10,11] fun K hK=>?_
 simp only[go_sem,qe,qb,qa,qc,qd,qf,reduceIte,reduceCtorEq,zJ,vbs];apply hK
 apply zt
 refine xv 9 fun hb8=>?_
 replace hb8:qg a0.fentries≤9223372036854775807:=hb8.1;refine yh (fun m L τ=>∃ (p8 q8:List yJ) (x4:Int) (l2:List Int) (v3:Nat),m=qg q8∧L=[(3,.os true 1 0 v3 0 (qg l2) false),(9,.ds true (qh xa a0.fentries) (qg a0.fentries) false),(10,.int .i64 (qg a0.fentries:Int)),(11,.int .i64 x4)]∧τ=([.cells v3 (qh wH l2)]:zi)∧a0.fentries=p8++q8∧x4=(qg p8:Int)∧xy.l8 q8 x4 l2=some r) _ ⟨[],a0.fentries,0,([]:List Int),0,rfl,rfl,rfl,rfl,rfl,h⟩ .s ?_;rintro m L τ ⟨p8,q8,x4,l2,v3,rfl,rfl,rfl,hE8,hi8,h⟩
 rcases q8 with _|⟨y8,q8⟩
 · have hz8:=xE hE8 hi8;simp only[xy.l8] at h
   refine rg tok [3,9,10,11,12] fun K hK=>?_
   simp only[go_sem,qe,qb,qa,qc,qd,qf,reduceIte,reduceCtorEq,zV,hz8];apply hK
   refine ze fun Z9 hZ9=>?_
   refine zK rfl ?_;apply ye;apply hZ1
   refine rg tok [2] fun K hK=>?_
   simp only[go_sem,qe,qb,qa,qc,qd,qf,reduceIte,reduceCtorEq,hz8];apply hK
   apply yk;cases h;simp only[ZA,yT,yY,xR,exists_eq_left',go_sem,qe,qb,qa,qc,qd,qf,reduceIte,reduceCtorEq];refine⟨0,v3,by simp,?_,?_⟩
   · first|rfl|(simp only[go_sem,qe,qb,qa,qc,qd,qf,reduceIte,reduceCtorEq,push_cast,if_true,qq,ql,qt,qr,qs,qv,qy,qo,qx,qw,qn,zx]<;>rfl)
   first|rfl|(simp only[go_sem,qe,qb,qa,qc,qd,qf,reduceIte,reduceCtorEq,push_cast,if_true,qq,ql,qt,qr,qs,qv,qy,qo,qx,qw,qn,zx]<;>rfl)
 obtain⟨hz8,hw8,hx8,hE'8,hi'8⟩:=yZ hE8 hi8 hb8;simp only[xy.l8] at h
 refine rg tok [3,9,10,11,12] fun K hK=>?_
 simp only[go_sem,qe,qb,qa,qc,qd,qf,reduceIte,reduceCtorEq,zV,hz8,hw8];apply hK
 refine ze fun Z10 hZ10=>?_
 refine zQ rfl ?_;apply zp;apply hZ10
 refine ze fun Z11 hZ11=>?_
 apply zt;have f12:=E324.idxS hx8;have f13:=E324.loadS rfl rfl hx8
 refine rg tok [3,5,9,10,11] fun K hK=>?_
 simp only[go_sem,qe,qb,qa,qc,qd,qf,reduceIte,reduceCtorEq,yL,yH,hz8,hw8,f12,f13];apply hK
 obtain⟨_u14,hu14,h⟩:=bind_some h;have gu14:=xh hu14;have f15:=(zX E26.len l2)
 refine rgE tok [3,9,10,11] fun K hK=>?_
 simp only[go_sem,qe,qb,qa,qc,qd,qf,reduceIte,reduceCtorEq,zU,yA,qY,qN,qW,true_and,q1,yR,yp,yU,wH,hz8,hw8,gu14,f15,yP,qV,qS,AV.one,qJ,qo,gt_iff_lt,zW,qD,qC,qG,qB,qE,qk,qp,qz,ql,qu,qF];apply hK
 apply hZ11
 refine rgE tok [3,9,10,11] fun K hK=>?_
 simp only[go_sem,qe,qb,qa,qc,qd,qf,reduceIte,reduceCtorEq,zV,hz8,hw8];apply hK
 exact⟨_,_,_,qH q8.length,⟨p8++[y8],q8,x4+1,l2++[y8.ftag],v3+1,rfl,rfl,rfl,hE'8,hi'8,h⟩,(.t [0] false)⟩
theorem xy.ok {a0 r}(h:xy a0=some r):ACalls qi 187 [.dp (zJ a0) 0] [] (fun r' _=>r'=.ds true (qh wH r) (qg r) false):=
 (xy.own h).ownData (zX E26.len r) (by simp only[push_cast])
def Za (a0:List zs):Option (List zs):=(vai (qg a0) 16).bind fun _=>some a0
theorem Za.own (a0 r:List zs)(h:Za a0=some r):ACalls qi 228 [.ds true (qh zl a0) (qg a0) false] [] (fun r' σ'=>r'=.os true 1 0 0 0 (qg r) false∧σ'=[.cells 0 (qh zl r)]):=by
 obtain⟨_u,hu,h⟩:=bind_some h;have gu:=xh hu;cases h
 have f1:=fun nl tt σ=>Zf E282.len a0 nl tt σ
 have f2:=zX E282.len a0;have f3:=Yq zl a0;refine vdI (rs:=[.tmp 2]) tok Tryz.func228 rfl Tryz.ntmps228 rfl Tryz.call228 (by simp) ?_;refine zC [(0,.ds true (qh zl a0) (qg a0) false)] ⟨rfl,trivial⟩ ?_;refine rgN [0] ?_
 refine ze fun Z1 hZ1=>?_
 refine rc [0,4] fun K hK=>?_
 refine rnN 1 ?_
 refine Xl tok rfl rfl rfl rfl rfl rfl fun b hnil=>?_
 have hb:b=true→a0=[]:=fun hb=>by
  have:=hnil hb;simp only[yU,go_sem,qe,qb,qa,qc,qd,qf,reduceIte,reduceCtorEq] at this;exact ub this
 clear hnil
 refine nkN hK ?_;cases b
 · refine zK rfl ?_;apply zp;apply hZ1
   refine rg tok [2] fun K hK=>?_
   by_cases h0:qg a0=0
   · obtain rfl:=ub h0;simp only[go_sem,qe,qb,qa,qc,qd,qf,reduceIte,reduceCtorEq,zU,yA,qN,qW,yR,yp,yU,xf,qG,qz,um,qV,gt_iff_lt];apply hK
     apply yk;simp only[ZA,yT,yY,xR,exists_eq_left',go_sem,qe,qb,qa,qc,qd,qf,reduceIte,reduceCtorEq];refine .inl ⟨0,true,by simp,?_,?_⟩
     · first|rfl|(simp only[go_sem,qe,qb,qa,qc,qd,qf,reduceIte,reduceCtorEq,ZI,Yp,if_true]<;>rfl)
     first|rfl|(simp only[go_sem,qe,qb,qa,qc,qd,qf,reduceIte,reduceCtorEq,YZ,Xz,Yv,Y1,Y0,qr]<;>rfl)
   have h1:=eq_false h0;simp only[go_sem,qe,qb,qa,qc,qd,qf,reduceIte,reduceCtorEq,zU,yA,qN,qW,yR,yp,yU,f1,f3,h1,gu,yP,gt_iff_lt,qr,qE,um];apply hK
   apply yk;simp only[ZA,yT,yY,xR,exists_eq_left',go_sem,qe,qb,qa,qc,qd,qf,reduceIte,reduceCtorEq];refine .inl ⟨1,false,by simp,?_,?_⟩
   · first|rfl|(simp only[go_sem,qe,qb,qa,qc,qd,qf,reduceIte,reduceCtorEq,ZI,Yp,if_true]<;>rfl)
   first|rfl|(simp only[go_sem,qe,qb,qa,qc,qd,qf,reduceIte,reduceCtorEq,YZ,Xz,Yv,Y1,Y0,zx]<;>rfl)
 obtain rfl:=hb rfl;refine zQ rfl ?_;refine rgN [2] ?_;apply yk;simp only[ZA,yT,yY,xR,exists_eq_left',go_sem,qe,qb,qa,qc,qd,qf,reduceIte,reduceCtorEq];refine .inr ?_
 first|rfl|(simp only[go_sem,qe,qb,qa,qc,qd,qf,reduceIte,reduceCtorEq,Xj,qr,qv,qy,qn,qo]<;>rfl)
def xx.l4 (a1:Int):List yJ→Int→Option (List zs)
 |[],x2=>some ([]:List zs)
 |y4::q4,x2=>(if y4.ftag=a1 then (Za y4.fl).bind fun r12=>some r12 else ((xx.l4 a1 q4) (x2+1)))
def xx (a0:yg)(a1:Int):Option (List zs):=
 (xx.l4 a1 a0.fentries 0)
theorem xx.ok {a0 a1 r}(h:xx a0 a1=some r):ACalls qi 188 [.dp (zJ a0) 0,.int .i64 a1] [] (fun r' _=>r'=.ds true (qh zl r) (qg r) false):=by
 refine zw (rs:=[.tmp 4]) tok Tryz.func188 rfl Tryz.ntmps188 rfl Tryz.call188 (by simp) ?_;refine zC [(0,.dp (zJ a0) 0),(1,.int .i64 a1)] ⟨rfl,rfl,trivial⟩ ?_;unfold xx at h;refine rgN [0,1] ?_
 refine ze fun Z1 hZ1=>?_
 refine rg tok [1,10,11,12] fun K hK=>?_
 simp only[go_sem,qe,qb,qa,qc,qd,qf,reduceIte,reduceCtorEq,zJ,vbs];apply hK
 apply zt
 refine xv 10 fun hb4=>?_
 replace hb4:qg a0.fentries≤9223372036854775807:=hb4.1;refine yh (fun m L τ=>∃ (p4 q4:List yJ) (x2:Int),m=qg q4∧L=[(1,.int .i64 a1),(10,.ds true (qh xa a0.fentries) (qg a0.fentries) false),(11,.int .i64 (qg a0.fentries:Int)),(12,.int .i64 x2)]∧τ=([]:zi)∧a0.fentries=p4++q4∧x2=(qg p4:Int)∧xx.l4 a1 q4 x2=some r) _ ⟨[],a0.fentries,0,rfl,rfl,rfl,rfl,rfl,h⟩ .s ?_;rintro m L τ ⟨p4,q4,x2,rfl,rfl,rfl,hE4,hi4,h⟩
 rcases q4 with _|⟨y4,q4⟩
 · have hz4:=xE hE4 hi4;simp only[xx.l4] at h
   refine rg tok [1,10,11,12,13] fun K hK=>?_
   simp only[go_sem,qe,qb,qa,qc,qd,qf,reduceIte,reduceCtorEq,zV,hz4];apply hK
   refine ze fun Z5 hZ5=>?_
   refine zK rfl ?_;apply ye;apply hZ1
   refine rg tok [4] fun K hK=>?_
   simp only[go_sem,qe,qb,qa,qc,qd,qf,reduceIte,reduceCtorEq,hz4];apply hK
   cases h;exact rtA
 obtain⟨hz4,hw4,hx4,hE'4,hi'4⟩:=yZ hE4 hi4 hb4;simp only[xx.l4] at h
 refine rg tok [1,10,11,12,13] fun K hK=>?_
 simp only[go_sem,qe,qb,qa,qc,qd,qf,reduceIte,reduceCtorEq,zV,hz4,hw4];apply hK
 refine ze fun Z6 hZ6=>?_
 refine zQ rfl ?_;apply zp;apply hZ6
 refine ze fun Z7 hZ7=>?_
 apply zt;have f8:=E324.idxS hx4;have f9:=E324.loadS rfl rfl hx4
 refine rg tok [1,6,10,11,12] fun K hK=>?_
 simp only[go_sem,qe,qb,qa,qc,qd,qf,reduceIte,reduceCtorEq,yL,yH,hz4,hw4,f8,f9];apply hK
 refine rg tok [1,6,10,11,12,19] fun K hK=>?_
 simp only[go_sem,qe,qb,qa,qc,qd,qf,reduceIte,reduceCtorEq,zV,hz4,hw4];apply hK
 refine yn rfl (fun hc10=>?_) (fun hc10=>?_)
 · rw[if_pos hc10] at h;have t11:=eq_true hc10
   refine rc [4] fun K hK=>?_
   obtain⟨r12,hr12,h⟩:=bind_some h;refine zd tok 2 ?_;simp only[go_sem,qe,qb,qa,qc,qd,qf,reduceIte,reduceCtorEq,hz4,hw4,t11];refine clN rfl rfl rfl (@id (ACalls qi 228 [.ds true (qh zl y4.fl) (qg y4.fl) false] [.cells 0 (yL y4)] (fun r' σ'=>r'=.os true 1 1 0 0 (qg r12) false∧σ'=[.cells 0 (yL y4),.cells 0 (qh zl r12)])) ((Za.own y4.fl r12 hr12).ownAt0 (by simp only[push_cast]) (by simp only[push_cast]) _)) ?_;refine zd tok 1 ?_;simp only[go_sem,qe,qb,qa,qc,qd,qf,reduceIte,reduceCtorEq,hz4,hw4,t11];refine nkN hK ?_;cases h;exact rtA
 rw[if_neg hc10] at h;have t13:=eq_false hc10;apply zp;apply hZ7
 refine rgE tok [1,10,11,12] fun K hK=>?_
 simp only[go_sem,qe,qb,qa,qc,qd,qf,reduceIte,reduceCtorEq,zV,hz4,hw4,t13];apply hK
 exact⟨_,_,_,qH q4.length,⟨p4++[y4],q4,x2+1,rfl,rfl,rfl,hE'4,hi'4,h⟩,(.t [] false)⟩
def Zk (a0:zs):Int×Bool:=
 (match a0 with|.nil=>(0,false)|.num n2=>(n2,true)|.str s2=>(0,false)|.node e2 r2=>(0,false))
theorem Zk.ok {a0 r}(h:Zk a0=r):ACalls qi 243 [.agg (zl a0)] [] (fun r' _=>r'=.tup [.int .i64 r.1,.bool r.2]):=by
 refine zw (rs:=[.tmp 2,.tmp 3]) tok Tryz.func243 rfl Tryz.ntmps243 rfl Tryz.call243 (by simp) ?_;refine zC [(0,.agg (zl a0))] ⟨rfl,trivial⟩ ?_;unfold Zk at h;have f1:=Yf a0;unfold AV.one at f1
 refine rg tok [1] fun K hK=>?_
 simp only[go_sem,qe,qb,qa,qc,qd,qf,reduceIte,reduceCtorEq,zl,f1];apply hK
 rcases a0 with _|n2|s2|⟨e2,r2⟩
 · dsimp only at h
   try simp only[Xv,XW,zl]
   refine rg tok [4,5] fun K hK=>?_
   simp only[go_sem,qe,qb,qa,qc,qd,qf,reduceIte,reduceCtorEq,xI,xJ,TypeDesc.isIface];apply hK
   refine rgN [2,3] ?_;cases h;exact rtA
 · dsimp only at h
   try simp only[Xu,XV,zl]
   refine rg tok [4,5] fun K hK=>?_
   simp only[go_sem,qe,qb,qa,qc,qd,qf,reduceIte,reduceCtorEq,xI,xJ,TypeDesc.isIface];apply hK
   refine rgN [2,3] ?_;cases h;exact rtA
 · dsimp only at h
   try simp only[Xt,XU,zl]
   refine rg tok [4,5] fun K hK=>?_
   simp only[go_sem,qe,qb,qa,qc,qd,qf,reduceIte,reduceCtorEq,xI,xJ,TypeDesc.isIface];apply hK
   refine rgN [2,3] ?_;cases h;exact rtA
 dsimp only at h
 try simp only[Yz,Xh,zl]
 refine rg tok [4,5] fun K hK=>?_
 simp only[go_sem,qe,qb,qa,qc,qd,qf,reduceIte,reduceCtorEq,xI,xJ,TypeDesc.isIface];apply hK
 refine rgN [2,3] ?_;cases h;exact rtA
def ZU (a0:zs):List UInt8×Bool:=
 (match a0 with|.nil=>([],false)|.num n2=>([],false)|.str s2=>(s2,true)|.node e2 r2=>([],false))
theorem ZU.ok {a0 r}(h:ZU a0=r):ACalls qi 244 [.agg (zl a0)] [] (fun r' _=>r'=.tup [.str r.1,.bool r.2]):=by
 refine zw (rs:=[.tmp 2,.tmp 3]) tok Tryz.func244 rfl Tryz.ntmps244 rfl Tryz.call244 (by simp) ?_;refine zC [(0,.agg (zl a0))] ⟨rfl,trivial⟩ ?_;unfold ZU at h;have f1:=Yf a0;unfold AV.one at f1
 refine rg tok [1] fun K hK=>?_
 simp only[go_sem,qe,qb,qa,qc,qd,qf,reduceIte,reduceCtorEq,zl,f1];apply hK
 rcases a0 with _|n2|s2|⟨e2,r2⟩
 · dsimp only at h
   try simp only[Xv,XW,zl]
   refine rg tok [4,5] fun K hK=>?_
   simp only[go_sem,qe,qb,qa,qc,qd,qf,reduceIte,reduceCtorEq,xI,xJ,TypeDesc.isIface];apply hK
   refine rgN [2,3] ?_;cases h;exact rtA
 · dsimp only at h
   try simp only[Xu,XV,zl]
   refine rg tok [4,5] fun K hK=>?_
   simp only[go_sem,qe,qb,qa,qc,qd,qf,reduceIte,reduceCtorEq,xI,xJ,TypeDesc.isIface];apply hK
   refine rgN [2,3] ?_;cases h;exact rtA
 · dsimp only at h
   try simp only[Xt,XU,zl]
   refine rg tok [4,5] fun K hK=>?_
   simp only[go_sem,qe,qb,qa,qc,qd,qf,reduceIte,reduceCtorEq,xI,xJ,TypeDesc.isIface];apply hK
   refine rgN [2,3] ?_;cases h;exact rtA
 dsimp only at h
 try simp only[Yz,Xh,zl]
 refine rg tok [4,5] fun K hK=>?_
 simp only[go_sem,qe,qb,qa,qc,qd,qf,reduceIte,reduceCtorEq,xI,xJ,TypeDesc.isIface];apply hK
 refine rgN [2,3] ?_;cases h;exact rtA
def Yj (a0:zs):Option zs:=
 bnd (Zk a0) fun r3=>(if r3.2=true then some (zs.num r3.1) else bnd (ZU a0) fun r6=>(if r6.2=true then some (zs.str r6.1) else (xS a0).bind fun r8=>some (zs.node r8.fentries r8.frest)))
theorem Yj.ok {a0 r}(h:Yj a0=some r):ACalls qi 229 [.agg (zl a0)] [] (fun r' _=>r'=anyV r):=by
 refine zw (rs:=[.tmp 2]) tok Tryz.func229 rfl Tryz.ntmps229 rfl Tryz.call229 (by simp) ?_;refine zC [(0,.agg (zl a0))] ⟨rfl,trivial⟩ ?_;unfold Yj at h;have f1:=Yf a0;unfold AV.one at f1
 refine rg tok [1] fun K hK=>?_
 simp only[go_sem,qe,qb,qa,qc,qd,qf,reduceIte,reduceCtorEq,zl,f1];apply hK
 refine ze fun Z2 hZ2=>?_
 refine rc [1,3,4] fun K hK=>?_
 obtain⟨r3,hr3,h⟩:=yi h;refine zd tok 1 ?_;simp only[go_sem,qe,qb,qa,qc,qd,qf,reduceIte,reduceCtorEq,zl];refine clN rfl rfl rfl ((Zk.ok hr3).c _) ?_;refine zd tok 5 ?_;simp only[go_sem,qe,qb,qa,qc,qd,qf,reduceIte,reduceCtorEq,zl];refine nkN hK ?_;refine rgN [1,3,12] ?_;refine zY (b:=r3.2) rfl (fun hc4=>?_) (fun hc4=>?_)
 · rw[if_pos hc4] at h;refine rgN [2] ?_;cases h;exact rtA
 rw[Zg hc4] at h;apply zp;apply hZ2
 refine ze fun Z5 hZ5=>?_
 refine rc [1,5,6] fun K hK=>?_
 obtain⟨r6,hr6,h⟩:=yi h;refine zd tok 1 ?_;simp only[go_sem,qe,qb,qa,qc,qd,qf,reduceIte,reduceCtorEq,zl];refine clN rfl rfl rfl ((ZU.ok hr6).c _) ?_;refine zd tok 5 ?_;simp only[go_sem,qe,qb,qa,qc,qd,qf,reduceIte,reduceCtorEq,zl];refine nkN hK ?_;refine rgN [1,5,20] ?_;refine zY (b:=r6.2) rfl (fun hc7=>?_) (fun hc7=>?_)
 · rw[if_pos hc7] at h;refine rgN [2] ?_;cases h;exact rtA
 rw[Zg hc7] at h;apply zp;apply hZ5
 refine rc [2] fun K hK=>?_
 obtain⟨r8,hr8,h⟩:=bind_some h;refine zd tok 1 ?_;simp only[go_sem,qe,qb,qa,qc,qd,qf,reduceIte,reduceCtorEq,zl];refine clN rfl rfl rfl ((xS.ok hr8).c _) ?_;refine zd tok 2 ?_;simp only[go_sem,qe,qb,qa,qc,qd,qf,reduceIte,reduceCtorEq,zl];refine nkN hK ?_;cases h;exact rtA
def wN.l9 : Nat→List UInt8→Int→Option (List UInt8)
 |0,_,_=>none
 |k9+1,l3,x5=>(if 128≤x5 then (vai (qg l3+1) 1).bind fun _u14=>((wN.l9 k9) (l3++[ua (qQ (IntKind.u8.wrap ((ur (qM 8 (IntKind.u8.wrap x5) ||| qM 8 128):Nat):Int)))]) (Int.fdiv x5 (2^(min (qQ 7) 64)))) else (vai (qg l3+1) 1).bind fun _u18=>some (l3++[ua (qQ (IntKind.u8.wrap x5))]))
def wN (a0:List UInt8)(a1:Int):Option (List UInt8):=
 (if 128≤a1 then (vai (qg a0+1) 1).bind fun _u24=>(wN.l9 xG (a0++[ua (qQ (IntKind.u8.wrap ((ur (qM 8 (IntKind.u8.wrap a1) ||| qM 8 128):Nat):Int)))]) (Int.fdiv a1 (2^(min (qQ 7) 64)))) else (vai (qg a0+1) 1).bind fun _u28=>some (a0++[ua (qQ (IntKind.u8.wrap a1))]))
theorem wN.own {a0 a1 r}(h:wN a0 a1=some r):ACalls qi 191 [.ds true (qh Zh a0) (qg a0) false,.int .u64 a1] [] (fun r' σ'=>r'=.os true 1 0 0 0 (qg r) false∧σ'=[.cells 0 (qh Zh r)]):=by
 refine ACalls.own0 (by simp only[push_cast]) ?_;refine X1 (rs:=[.tmp 4]) tok Tryz.func191 rfl Tryz.ntmps191 rfl Tryz.call191 (by simp) ?_;refine zC [(0,.ds true (qh Zh a0) (qg a0) false),(1,.int .u64 a1)] ⟨rfl,rfl,trivial⟩ ?_;unfold wN at h;refine rgN [0,1] ?_;have f1:=E48.sl_tight a0 .i64 .i64
 refine rg tok [0,1] fun K hK=>?_
 simp only[go_sem,qe,qb,qa,qc,qd,qf,reduceIte,reduceCtorEq,f1];apply hK
 refine ze fun Z2 hZ2=>?_
 apply zt;refine awp_loopS1 (fun m L τ=>∃ (k9:Nat) (l3:List UInt8) (x5:Int) (v4:Nat),m=0+k9∧L=[(0,.os true 1 0 v4 0 (qg l3) false),(1,.int .u64 x5)]∧τ=([.cells v4 (qh Zh l3)]:zi)∧wN.l9 k9 l3 x5=some r) (xG+1) ?_ ?_
 · refine ze fun Z20 hZ20=>?_
   refine rg tok [0,1,12] fun K hK=>?_
   simp only[go_sem,qe,qb,qa,qc,qd,qf,reduceIte,reduceCtorEq,zV];apply hK
   refine yn rfl (fun hc21=>?_) (fun hc21=>?_)
   · rw[if_pos hc21] at h;have t22:=eq_true hc21;apply zp;apply hZ20;apply zt;have f23:=Zc (T:=tab) (src:=287) (dst:=5) rfl rfl rfl;obtain⟨_u24,hu24,h⟩:=bind_some h;have gu24:=xh hu24;have f25:=app_tight E48.len a0 (m:=1) (by decide)
     refine rg tok [0,1] fun K hK=>?_
     simp only[go_sem,qe,qb,qa,qc,qd,qf,reduceIte,reduceCtorEq,zV,zU,yA,qY,qN,qW,true_and,q1,yR,yU,Zh,t22,f23,gu24,f25,yP,qV,qS,AV.one,qJ,qo,gt_iff_lt,zW,qD,qC,qG,qB,qE,qk,qp,qz,ql,qu,qF];apply hK
     refine y5 (L:=[(0,.os true 1 1 0 0 (qg (a0++[ua (qQ (IntKind.u8.wrap ((ur (qM 8 (IntKind.u8.wrap a1) ||| qM 8 128):Nat):Int)))])) false),(1,.int .u64 a1)]) (τ:=[.cells 0 [.int .u8 (IntKind.u8.wrap ((ur (qM 8 (IntKind.u8.wrap a1) ||| qM 8 128):Nat):Int))],.cells 0 (qh Zh (a0++[ua (qQ (IntKind.u8.wrap ((ur (qM 8 (IntKind.u8.wrap a1) ||| qM 8 128):Nat):Int)))]))]) (.same (by first|exact⟨rfl,rfl,trivial⟩|rfl|(simp only[go_sem,qe,qb,qa,qc,qd,qf,reduceIte,reduceCtorEq,vcM,Zh,wH,encS,encK,zW,qD,qC,qG,qB,qE,qk,qp,qz,ql,qu,qF,uv,Xi,and_self]<;>rfl)) (by first|exact⟨rfl,rfl,trivial⟩|rfl|(simp only[go_sem,qe,qb,qa,qc,qd,qf,reduceIte,reduceCtorEq,vcM,Zh,wH,encS,encK,zW,qD,qC,qG,qB,qE,qk,qp,qz,ql,qu,qF,uv,Xi,and_self]<;>rfl))) ?_
     refine rgE tok [0,1] fun K hK=>?_
     simp only[go_sem,qe,qb,qa,qc,qd,qf,reduceIte,reduceCtorEq,zV,t22,vaw,Int.reduceLT];apply hK
     exact⟨_,_,_,(Nat.lt_succ_of_le (Nat.le_of_eq (ql xG))),⟨xG,a0++[ua (qQ (IntKind.u8.wrap ((ur (qM 8 (IntKind.u8.wrap a1) ||| qM 8 128):Nat):Int)))],Int.fdiv a1 (2^(min (qQ 7) 64)),0,rfl,rfl,rfl,h⟩,(.t [1] false)⟩
   rw[if_neg hc21] at h;have t26:=eq_false hc21;apply ye;apply hZ2;have f27:=Zc (T:=tab) (src:=287) (dst:=5) rfl rfl rfl;obtain⟨_u28,hu28,h⟩:=bind_some h;have gu28:=xh hu28;have f29:=app_tight E48.len a0 (m:=1) (by decide)
   refine rg tok [4] fun K hK=>?_
   simp only[go_sem,qe,qb,qa,qc,qd,qf,reduceIte,reduceCtorEq,zU,yA,qY,qN,qW,true_and,q1,yR,yU,Zh,t26,f27,gu28,f29,yP,qV,qS,AV.one,qJ,qo,gt_iff_lt,zW,qD,qC,qG,qB,qE,qk,qp,qz,ql,qu,qF];apply hK
   refine y5 (L:=[(4,.os true 1 1 0 0 (qg (a0++[ua (qQ (IntKind.u8.wrap a1))])) false)]) (τ:=[.cells 0 [.int .u8 (IntKind.u8.wrap a1)],.cells 0 (qh Zh (a0++[ua (qQ (IntKind.u8.wrap a1))]))]) (.same (by first|exact⟨rfl,trivial⟩|rfl|(simp only[go_sem,qe,qb,qa,qc,qd,qf,reduceIte,reduceCtorEq,vcM,Zh,wH,encS,encK,zW,qD,qC,qG,qB,qE,qk,qp,qz,ql,qu,qF,uv,Xi,and_self]<;>rfl)) (by first|exact⟨rfl,trivial⟩|rfl|(simp only[go_sem,qe,qb,qa,qc,qd,qf,reduceIte,reduceCtorEq,vcM,Zh,wH,encS,encK,zW,qD,qC,qG,qB,qE,qk,qp,qz,ql,qu,qF,uv,Xi,and_self]<;>rfl))) ?_;apply yk;cases h;simp only[ZA,yT,yY,xR,exists_eq_left',go_sem,qe,qb,qa,qc,qd,qf,reduceIte,reduceCtorEq];refine⟨1,0,by simp,?_,?_⟩
   · first|rfl|(simp only[go_sem,qe,qb,qa,qc,qd,qf,reduceIte,reduceCtorEq,push_cast,if_true,qq,ql,qt,qr,qs,qv,qy,qo,qx,qw,qn,zx]<;>rfl)
   first|rfl|(simp only[go_sem,qe,qb,qa,qc,qd,qf,reduceIte,reduceCtorEq,push_cast,if_true,qq,ql,qt,qr,qs,qv,qy,qo,qx,qw,qn,zx]<;>rfl)
 clear h
 rintro m L τ ⟨k9,l3,x5,v4,rfl,rfl,rfl,h⟩
 rcases k9 with _|k9
 · cases h
 simp only[wN.l9] at h
 refine ze fun Z10 hZ10=>?_
 refine rg tok [0,1,12] fun K hK=>?_
 simp only[go_sem,qe,qb,qa,qc,qd,qf,reduceIte,reduceCtorEq,zV];apply hK
 refine yn rfl (fun hc11=>?_) (fun hc11=>?_)
 · rw[if_pos hc11] at h;have t12:=eq_true hc11;apply zp;apply hZ10;apply zt;have f13:=Zc (T:=tab) (src:=287) (dst:=5) rfl rfl rfl;obtain⟨_u14,hu14,h⟩:=bind_some h;have gu14:=xh hu14;have f15:=(zX E48.len l3)
   refine rg tok [0,1] fun K hK=>?_
   simp only[go_sem,qe,qb,qa,qc,qd,qf,reduceIte,reduceCtorEq,zV,zU,yA,qY,qN,qW,true_and,q1,yR,yp,yU,Zh,t12,f13,gu14,f15,yP,qV,qS,AV.one,qJ,qo,gt_iff_lt,zW,qD,qC,qG,qB,qE,qk,qp,qz,ql,qu,qF];apply hK
   refine y5 (L:=[(0,.os true 1 0 (v4+1) 0 (qg (l3++[ua (qQ (IntKind.u8.wrap ((ur (qM 8 (IntKind.u8.wrap x5) ||| qM 8 128):Nat):Int)))])) false),(1,.int .u64 x5)]) (τ:=[.cells (v4+1) (qh Zh (l3++[ua (qQ (IntKind.u8.wrap ((ur (qM 8 (IntKind.u8.wrap x5) ||| qM 8 128):Nat):Int)))])),.cells 0 [.int .u8 (IntKind.u8.wrap ((ur (qM 8 (IntKind.u8.wrap x5) ||| qM 8 128):Nat):Int))]]) (.same (by first|exact⟨rfl,rfl,trivial⟩|rfl|(simp only[go_sem,qe,qb,qa,qc,qd,qf,reduceIte,reduceCtorEq,vcM,Zh,wH,encS,encK,zW,qD,qC,qG,qB,qE,qk,qp,qz,ql,qu,qF,uv,Xi,and_self]<;>rfl)) (by first|exact⟨rfl,rfl,trivial⟩|rfl|(simp only[go_sem,qe,qb,qa,qc,qd,qf,reduceIte,reduceCtorEq,vcM,Zh,wH,encS,encK,zW,qD,qC,qG,qB,qE,qk,qp,qz,ql,qu,qF,uv,Xi,and_self]<;>rfl))) ?_
   refine rgE tok [0,1] fun K hK=>?_
   simp only[go_sem,qe,qb,qa,qc,qd,qf,reduceIte,reduceCtorEq,zV,t12,vaw,Int.reduceLT];apply hK
   exact⟨_,_,_,qH (0+k9),⟨k9,l3++[ua (qQ (IntKind.u8.wrap ((ur (qM 8 (IntKind.u8.wrap x5) ||| qM 8 128):Nat):Int)))],Int.fdiv x5 (2^(min (qQ 7) 64)),v4+1,rfl,rfl,rfl,h⟩,(.t [0] false)⟩
 rw[if_neg hc11] at h;have t16:=eq_false hc11;apply ye;apply hZ2;have f17:=Zc (T:=tab) (src:=287) (dst:=5) rfl rfl rfl;obtain⟨_u18,hu18,h⟩:=bind_some h;have gu18:=xh hu18;have f19:=(zX E48.len l3)
 refine rg tok [4] fun K hK=>?_
 simp only[go_sem,qe,qb,qa,qc,qd,qf,reduceIte,reduceCtorEq,zU,yA,qY,qN,qW,true_and,q1,yR,yp,yU,Zh,t16,f17,gu18,f19,yP,qV,qS,AV.one,qJ,qo,gt_iff_lt,zW,qD,qC,qG,qB,qE,qk,qp,qz,ql,qu,qF];apply hK
 refine y5 (L:=[(4,.os true 1 0 (v4+1) 0 (qg (l3++[ua (qQ (IntKind.u8.wrap x5))])) false)]) (τ:=[.cells (v4+1) (qh Zh (l3++[ua (qQ (IntKind.u8.wrap x5))])),.cells 0 [.int .u8 (IntKind.u8.wrap x5)]]) (.same (by first|exact⟨rfl,trivial⟩|rfl|(simp only[go_sem,qe,qb,qa,qc,qd,qf,reduceIte,reduceCtorEq,vcM,Zh,wH,encS,encK,zW,qD,qC,qG,qB,qE,qk,qp,qz,ql,qu,qF,uv,Xi,and_self]<;>rfl)) (by first|exact⟨rfl,trivial⟩|rfl|(simp only[go_sem,qe,qb,qa,qc,qd,qf,reduceIte,reduceCtorEq,vcM,Zh,wH,encS,encK,zW,qD,qC,qG,qB,qE,qk,qp,qz,ql,qu,qF,uv,Xi,and_self]<;>rfl))) ?_;apply yk;cases h;simp only[ZA,yT,yY,xR,exists_eq_left',go_sem,qe,qb,qa,qc,qd,qf,reduceIte,reduceCtorEq];refine⟨0,v4+1,by simp,?_,?_⟩
 · first|rfl|(simp only[go_sem,qe,qb,qa,qc,qd,qf,reduceIte,reduceCtorEq,push_cast,if_true,qq,ql,qt,qr,qs,qv,qy,qo,qx,qw,qn,zx]<;>rfl)
 first|rfl|(simp only[go_sem,qe,qb,qa,qc,qd,qf,reduceIte,reduceCtorEq,push_cast,if_true,qq,ql,qt,qr,qs,qv,qy,qo,qx,qw,qn,zx]<;>rfl)
theorem wN.ok {a0 a1 r}(h:wN a0 a1=some r):ACalls qi 191 [.ds true (qh Zh a0) (qg a0) false,.int .u64 a1] [] (fun r' _=>r'=.ds true (qh Zh r) (qg r) false):=
 (wN.own h).ownData (zX E48.len r) (by simp only[push_cast])
def vaS (a0:Int):Int:=
 IntKind.u64.wrap ((ur (qM 64 (IntKind.u64.wrap ((IntKind.u64.wrap a0)*2^(min (qQ 1) 64))) ^^^ qM 64 (IntKind.u64.wrap (Int.fdiv a0 (2^(min (qQ 63) 64))))):Nat):Int)
theorem vaS.ok {a0 r}(h:vaS a0=r):ACalls qi 192 [.int .i64 a0] [] (fun r' _=>r'=.int .u64 r):=by
 refine zw (rs:=[.tmp 2]) tok Tryz.func192 rfl Tryz.ntmps192 rfl Tryz.call192 (by simp) ?_;refine zC [(0,.int .i64 a0)] ⟨rfl,trivial⟩ ?_;unfold vaS at h;refine rgN [0] ?_;have f1:=Zc (T:=tab) (src:=3) (dst:=287) rfl rfl rfl;have f2:=Zc (T:=tab) (src:=3) (dst:=287) rfl rfl rfl
 refine rg tok [2] fun K hK=>?_
 simp only[go_sem,qe,qb,qa,qc,qd,qf,reduceIte,reduceCtorEq,zV,f1,f2,vaw,Int.reduceLT];apply hK
 cases h;exact rtA
def vaR (a0:List UInt8)(a1:yo):Option (List UInt8×Bool):=
 bnd (xF a1) fun r2=>(if (!r2)=true then some (a0,false) else (wN a0 (IntKind.u64.wrap (IntKind.i64.wrap ((IntKind.i64.wrap (2*a1.fTag))+a1.fWire)))).bind fun r5=>(if a1.fWire=0 then bnd (vaS a1.fN) fun r9=>(wN r5 r9).bind fun r10=>some (r10,true) else (wN r5 (IntKind.u64.wrap (qg a1.fB:Int))).bind fun r13=>(vai (qg r13+qg a1.fB) 1).bind fun _u14=>some (r13++a1.fB,true)))
theorem vaR.ok {a0 a1 r}(h:vaR a0 a1=some r):ACalls qi 148 [.ds true (qh Zh a0) (qg a0) false,.agg (zu a1)] [] (fun r' _=>r'=.tup [.ds true (qh Zh r.1) (qg r.1) false,.bool r.2]):=by
 refine zw (rs:=[.tmp 4,.tmp 5]) tok Tryz.func148 rfl Tryz.ntmps148 rfl Tryz.call148 (by simp) ?_;refine zC [(0,.ds true (qh Zh a0) (qg a0) false),(1,.agg (zu a1))] ⟨rfl,rfl,trivial⟩ ?_;unfold vaR at h
 refine rg tok [0,3] fun K hK=>?_
 simp only[go_sem,qe,qb,qa,qc,qd,qf,reduceIte,reduceCtorEq,zu];apply hK
 refine ze fun Z1 hZ1=>?_
 refine rc [0,3,9] fun K hK=>?_
 obtain⟨r2,hr2,h⟩:=yi h;refine zd tok 1 ?_;simp only[go_sem,qe,qb,qa,qc,qd,qf,reduceIte,reduceCtorEq,zu];refine clN rfl rfl rfl ((xF.ok hr2).c _) ?_;refine zd tok 1 ?_;simp only[go_sem,qe,qb,qa,qc,qd,qf,reduceIte,reduceCtorEq,zu];refine nkN hK ?_;refine zY (b:=(!r2)) rfl (fun hc3=>?_) (fun hc3=>?_)
 · rw[if_pos hc3] at h;refine rgN [4,5] ?_;cases h;exact rtA
 rw[Zg hc3] at h;apply zp;apply hZ1
 refine rc [3,6] fun K hK=>?_
 have f4:=Zc (T:=tab) (src:=3) (dst:=287) rfl rfl rfl;obtain⟨r5,hr5,h⟩:=bind_some h;refine zd tok 8 ?_;simp only[go_sem,qe,qb,qa,qc,qd,qf,reduceIte,reduceCtorEq,zV,f4];refine clN rfl rfl rfl ((wN.ok hr5).c _) ?_;refine rnN 1 ?_;refine nkN hK ?_
 refine ze fun Z6 hZ6=>?_
 refine rg tok [3,6,22] fun K hK=>?_
 simp only[go_sem,qe,qb,qa,qc,qd,qf,reduceIte,reduceCtorEq,zV];apply hK
 refine yn rfl (fun hc7=>?_) (fun hc7=>?_)
 · rw[if_pos hc7] at h;have t8:=eq_true hc7
   refine rc [4,5] fun K hK=>?_
   obtain⟨r9,hr9,h⟩:=yi h;refine zd tok 3 ?_;simp only[go_sem,qe,qb,qa,qc,qd,qf,reduceIte,reduceCtorEq,t8];refine clN rfl rfl rfl ((vaS.ok hr9).c _) ?_;obtain⟨r10,hr10,h⟩:=bind_some h;refine clN rfl rfl rfl ((wN.ok hr10).c _) ?_;refine zd tok 2 ?_;simp only[go_sem,qe,qb,qa,qc,qd,qf,reduceIte,reduceCtorEq,t8];refine nkN hK ?_;cases h;exact rtA
 rw[if_neg hc7] at h;have t11:=eq_false hc7;apply zp;apply hZ6;have f12:=Zc (T:=tab) (src:=3) (dst:=287) rfl rfl rfl;obtain⟨r13,hr13,h⟩:=bind_some h;obtain⟨_u14,hu14,h⟩:=bind_some h;have gu14:=xh hu14;have f15:=(zX E48.len r13)
 refine rd [4,5] fun K hK=>?_
 refine DW.start (T:=tab) [.any,.any,.at [],.at [],.at [],.eff,.any,.own 1 [],.eff,.any,.any] [(1,[])] ?_;refine DW.runN tok 5 ?_;simp only[go_sem,qe,qb,qa,qc,qd,qf,reduceIte,reduceCtorEq,Zh,t11,f12,gu14,f15,vcu,vad,vcL,Yq,qV,qS,AV.one,qJ,qo,gt_iff_lt,zW,qD,qC,qG,qB,qE,qk,qp,qz,ql,qu,qF];refine DW.callS rfl rfl rfl (@id (ACalls qi 191 [.ds true (qh Zh r5) (qg r5) false,.int .u64 (IntKind.u64.wrap (qg a1.fB:Int))] [.cells 0 [.int .i64 a1.fTag,.int .i64 a1.fWire,.int .i64 a1.fN,.str a1.fB]] (fun r' σ'=>r'=.os true 1 1 0 0 (qg r13) false∧σ'=[.cells 0 [.int .i64 a1.fTag,.int .i64 a1.fWire,.int .i64 a1.fN,.str a1.fB],.cells 0 (qh Zh r13)])) ((wN.own hr13).ownAt0 (by simp only[push_cast]) (by simp only[push_cast]) _)) (vaP (by simp only[go_sem,qe,qb,qa,qc,qd,qf,reduceIte,reduceCtorEq])) ?_;refine DW.runN tok 5 ?_;simp only[go_sem,qe,qb,qa,qc,qd,qf,reduceIte,reduceCtorEq,yR,yp,yU,true_and,Zh,t11,f12,gu14,f15,vcu,vad,vcL,Yq,qV,qS,AV.one,qJ,qo,gt_iff_lt,zW,qD,qC,qG,qB,qE,qk,qp,qz,ql,qu,qF];refine DW.fin tok (by decide +kernel) rfl ?_;simp only[zG,yE,yV,ZS,upd,qa,reduceIte,xl,xU];apply hK
 refine y5 (L:=[(4,.os true 1 1 (0+1) 0 (qg (r13++a1.fB)) false),(5,.bool true)]) (τ:=[.cells 0 [.int .i64 a1.fTag,.int .i64 a1.fWire,.int .i64 a1.fN,.str a1.fB],.cells (0+1) (qh Zh (r13++a1.fB))]) .s ?_;cases h;exact rtA
def xq.l11 : List yo→Int→List UInt8→Option (List UInt8×Int)
 |[],x8,x7=>some (x7,0)
 |y11::q11,x8,x7=>(vaR x7 y11).bind fun r17=>(if 4096<(qg r17.1:Int) then some (([]:List UInt8),4) else ((xq.l11 q11) (x8+1) r17.1))
def xq.l4 (a0:List yo):List yo→Int→Option (List UInt8×Int)
 |[],x2=>(xq.l11 a0 0 ([]:List UInt8))
 |y4::q4,x2=>bnd (xF y4) fun r25=>(if (!r25)=true then some (([]:List UInt8),1) else ((xq.l4 a0 q4) (x2+1)))
def xq (a0:List yo):Option (List UInt8×Int):=
 (xq.l4 a0 a0 0)
theorem xq.ok {a0 r}(h:xq a0=some r):ACalls qi 96 [.ds true (qh zu a0) (qg a0) false] [] (fun r' _=>r'=.tup [.ds true (qh Zh r.1) (qg r.1) false,.int .i64 r.2]):=by
 refine zw (rs:=[.tmp 2,.tmp 3]) tok Tryz.func96 rfl Tryz.ntmps96 rfl Tryz.call96 (by simp) ?_;refine zC [(0,.ds true (qh zu a0) (qg a0) false)] ⟨rfl,trivial⟩ ?_;unfold xq at h;refine rgN [0] ?_
 refine ze fun Z1 hZ1=>?_
 refine rgN [0,9,10,11] ?_;apply zt
 refine xv 0 fun hb4=>?_
 replace hb4:qg a0≤9223372036854775807:=hb4.1;refine yh (fun m L τ=>∃ (p4 q4:List yo) (x2:Int),m=qg q4∧L=[(0,.ds true (qh zu a0) (qg a0) false),(9,.ds true (qh zu a0) (qg a0) false),(10,.int .i64 (qg a0:Int)),(11,.int .i64 x2)]∧τ=([]:zi)∧a0=p4++q4∧x2=(qg p4:Int)∧xq.l4 a0 q4 x2=some r) _ ⟨[],a0,0,rfl,rfl,rfl,rfl,rfl,h⟩ .s ?_;rintro m L τ ⟨p4,q4,x2,rfl,rfl,rfl,hE4,hi4,h⟩
 rcases q4 with _|⟨y4,q4⟩
 · have hz4:=xE hE4 hi4;simp only[xq.l4] at h
   refine rg tok [0,9,10,11,12] fun K hK=>?_
   simp only[go_sem,qe,qb,qa,qc,qd,qf,reduceIte,reduceCtorEq,zV,hz4];apply hK
   refine ze fun Z5 hZ5=>?_
   refine zK rfl ?_;apply ye;apply hZ1
   refine rg tok [0,6] fun K hK=>?_
   simp only[go_sem,qe,qb,qa,qc,qd,qf,reduceIte,reduceCtorEq,hz4];apply hK
   refine ze fun Z6 hZ6=>?_
   refine rg tok [6,19,20,21] fun K hK=>?_
   simp only[go_sem,qe,qb,qa,qc,qd,qf,reduceIte,reduceCtorEq,hz4];apply hK
   apply zt
   refine xv 19 fun hb11=>?_
   replace hb11:qg a0≤9223372036854775807:=hb11.1;refine yh (fun m L τ=>∃ (p11 q11:List yo) (x8:Int) (x7:List UInt8),m=qg q11∧L=[(6,.ds true (qh Zh x7) (qg x7) false),(19,.ds true (qh zu a0) (qg a0) false),(20,.int .i64 (qg a0:Int)),(21,.int .i64 x8)]∧τ=([]:zi)∧a0=p11++q11∧x8=(qg p11:Int)∧xq.l11 q11 x8 x7=some r) _ ⟨[],a0,0,([]:List UInt8),rfl,rfl,rfl,rfl,rfl,h⟩ (.t [] true) ?_;rintro m L τ ⟨p11,q11,x8,x7,rfl,rfl,rfl,hE11,hi11,h⟩
   rcases q11 with _|⟨y11,q11⟩
   · have hz11:=xE hE11 hi11;simp only[xq.l11] at h
     refine rg tok [6,19,20,21,22] fun K hK=>?_
     simp only[go_sem,qe,qb,qa,qc,qd,qf,reduceIte,reduceCtorEq,zV,hz4,hz11];apply hK
     refine ze fun Z12 hZ12=>?_
     refine zK rfl ?_;apply ye;apply hZ6
     refine rg tok [2,3] fun K hK=>?_
     simp only[go_sem,qe,qb,qa,qc,qd,qf,reduceIte,reduceCtorEq,hz4,hz11];apply hK
     cases h;exact rtA
   obtain⟨hz11,hw11,hx11,hE'11,hi'11⟩:=yZ hE11 hi11 hb11;simp only[xq.l11] at h
   refine rg tok [6,19,20,21,22] fun K hK=>?_
   simp only[go_sem,qe,qb,qa,qc,qd,qf,reduceIte,reduceCtorEq,zV,hz4,hz11,hw11];apply hK
   refine ze fun Z13 hZ13=>?_
   refine zQ rfl ?_;apply zp;apply hZ13
   refine ze fun Z14 hZ14=>?_
   apply zt;have f15:=E35.idxS hx11;have f16:=E35.loadS rfl rfl hx11
   refine rg tok [6,8,19,20,21] fun K hK=>?_
   simp only[go_sem,qe,qb,qa,qc,qd,qf,reduceIte,reduceCtorEq,zu,hz4,hz11,hw11,f15,f16];apply hK
   refine rc [6,19,20,21] fun K hK=>?_
   obtain⟨r17,hr17,h⟩:=bind_some h;refine zd tok 2 ?_;simp only[go_sem,qe,qb,qa,qc,qd,qf,reduceIte,reduceCtorEq,zu,hz4,hz11,hw11];refine clN rfl rfl rfl ((vaR.ok hr17).c _) ?_;refine zd tok 4 ?_;simp only[go_sem,qe,qb,qa,qc,qd,qf,reduceIte,reduceCtorEq,zu,hz4,hz11,hw11];refine nkN hK ?_
   refine rg tok [6,19,20,21,33] fun K hK=>?_
   simp only[go_sem,qe,qb,qa,qc,qd,qf,reduceIte,reduceCtorEq,zV,hz4,hz11,hw11];apply hK
   refine yn rfl (fun hc18=>?_) (fun hc18=>?_)
   · rw[if_pos hc18] at h;have t19:=eq_true hc18
     refine rg tok [2,3] fun K hK=>?_
     simp only[go_sem,qe,qb,qa,qc,qd,qf,reduceIte,reduceCtorEq,hz4,hz11,hw11,t19];apply hK
     cases h;exact rtA
   rw[if_neg hc18] at h;have t20:=eq_false hc18;apply zp;apply hZ14
   refine rgE tok [6,19,20,21] fun K hK=>?_
   simp only[go_sem,qe,qb,qa,qc,qd,qf,reduceIte,reduceCtorEq,zV,hz4,hz11,hw11,t20];apply hK
   exact⟨_,_,_,qH q11.length,⟨p11++[y11],q11,x8+1,r17.1,rfl,rfl,rfl,hE'11,hi'11,h⟩,(.t [] false)⟩
 obtain⟨hz4,hw4,hx4,hE'4,hi'4⟩:=yZ hE4 hi4 hb4;simp only[xq.l4] at h
 refine rg tok [0,9,10,11,12] fun K hK=>?_
 simp only[go_sem,qe,qb,qa,qc,qd,qf,reduceIte,reduceCtorEq,zV,hz4,hw4];apply hK
 refine ze fun Z21 hZ21=>?_
 refine zQ rfl ?_;apply zp;apply hZ21
 refine ze fun Z22 hZ22=>?_
 apply zt;have f23:=E35.idxS hx4;have f24:=E35.loadS rfl rfl hx4
 refine rg tok [0,5,9,10,11] fun K hK=>?_
 simp only[go_sem,qe,qb,qa,qc,qd,qf,reduceIte,reduceCtorEq,zu,hz4,hw4,f23,f24];apply hK
 refine rc [0,9,10,11,17] fun K hK=>?_
 obtain⟨r25,hr25,h⟩:=yi h;refine zd tok 1 ?_;simp only[go_sem,qe,qb,qa,qc,qd,qf,reduceIte,reduceCtorEq,zu,hz4,hw4];refine clN rfl rfl rfl ((xF.ok hr25).c _) ?_;refine zd tok 1 ?_;simp only[go_sem,qe,qb,qa,qc,qd,qf,reduceIte,reduceCtorEq,zu,hz4,hw4];refine nkN hK ?_;refine zY (b:=(!r25)) rfl (fun hc26=>?_) (fun hc26=>?_)
 · rw[if_pos hc26] at h
   refine rg tok [2,3] fun K hK=>?_
   simp only[go_sem,qe,qb,qa,qc,qd,qf,reduceIte,reduceCtorEq,hz4,hw4];apply hK
   cases h;exact rtA
 rw[Zg hc26] at h;apply zp;apply hZ22
 refine rgE tok [0,9,10,11] fun K hK=>?_
 simp only[go_sem,qe,qb,qa,qc,qd,qf,reduceIte,reduceCtorEq,zV,hz4,hw4];apply hK
 exact⟨_,_,_,qH q4.length,⟨p4++[y4],q4,x2+1,rfl,rfl,rfl,hE'4,hi'4,h⟩,(.t [] false)⟩
end
section
set_option maxRecDepth 4000
set_option maxHeartbeats 1000000
open AM
def ww.body (wa:yg→Option (List UInt8×Int))(xg:Int→zs→Option (yo×Int))(wi:yg→Option (List yo×Int))(a0:yg):Option (List UInt8×Int):=
 (wi a0).bind fun r1=>(if r1.2=0 then (xq r1.1).bind fun r6=>some (r6.1,r6.2) else some (([]:List UInt8),r1.2))
theorem ww.step (wa:yg→Option (List UInt8×Int))(xg:Int→zs→Option (yo×Int))(wi:yg→Option (List yo×Int))(Yy:∀ (a0:yg) (r:List UInt8×Int),wa a0=some r→ACalls qi 230 [.dp (zJ a0) 0] [] (fun r' _=>r'=.tup [.ds true (qh Zh r.1) (qg r.1) false,.int .i64 r.2]))(Xa:∀ (a0:Int) (a1:zs) (r:yo×Int),xg a0 a1=some r→ACalls qi 189 [.int .i64 a0,.agg (zl a1)] [] (fun r' _=>r'=.tup [.agg (zu r.1),.int .i64 r.2]))(YP:∀ (a0:yg) (r:List yo×Int),wi a0=some r→ACalls qi 145 [.dp (zJ a0) 0] [] (fun r' _=>r'=.tup [.ds true (qh zu r.1) (qg r.1) false,.int .i64 r.2]))(a0:yg)(r:List UInt8×Int)(h:ww.body wa xg wi a0=some r):ACalls qi 230 [.dp (zJ a0) 0] [] (fun r' _=>r'=.tup [.ds true (qh Zh r.1) (qg r.1) false,.int .i64 r.2]):=by
 have ev_encode_bytes:=fun a0 r h σ=>(Yy a0 r h).c σ
 have ev_encode_raw:=fun a0 a1 r h σ=>(Xa a0 a1 r h).c σ
 have ev_encode_raws:=fun a0 r h σ=>(YP a0 r h).c σ
 refine zw (rs:=[.tmp 2,.tmp 3]) tok Tryz.func230 rfl Tryz.ntmps230 rfl Tryz.call230 (by simp) ?_;refine zC [(0,.dp (zJ a0) 0)] ⟨rfl,trivial⟩ ?_;unfold ww.body at h;refine rgN [0] ?_
 refine rc [4,5] fun K hK=>?_
 obtain⟨r1,hr1,h⟩:=bind_some h;refine rnN 1 ?_;refine clN rfl rfl rfl (ev_encode_raws a0 r1 hr1 _) ?_;refine rnN 5 ?_;refine nkN hK ?_
 refine ze fun Z2 hZ2=>?_
 refine rg tok [4,5,12] fun K hK=>?_
 simp only[go_sem,qe,qb,qa,qc,qd,qf,reduceIte,reduceCtorEq,zV];apply hK
 refine yn rfl (fun hc3=>?_) (fun hc3=>?_)
 · rw[if_neg hc3] at h;have t4:=eq_false hc3
   refine rg tok [2,3] fun K hK=>?_
   simp only[go_sem,qe,qb,qa,qc,qd,qf,reduceIte,reduceCtorEq,t4];apply hK
   cases h;exact rtA
 rw[if_pos hc3] at h;have t5:=eq_true hc3;apply zp;apply hZ2
 refine rc [2,3] fun K hK=>?_
 obtain⟨r6,hr6,h⟩:=bind_some h;refine zd tok 1 ?_;simp only[go_sem,qe,qb,qa,qc,qd,qf,reduceIte,reduceCtorEq,t5];refine clN rfl rfl rfl ((xq.ok hr6).c _) ?_;refine zd tok 4 ?_;simp only[go_sem,qe,qb,qa,qc,qd,qf,reduceIte,reduceCtorEq,t5];refine nkN hK ?_;cases h;exact rtA
def xP.j3 (m1_2:yo):Option (yo×Int):=
 (if 4096<(qg m1_2.fB:Int) then some ((⟨0,0,0,[]⟩:yo),4) else some (m1_2,0))
def xP.body (wa:yg→Option (List UInt8×Int))(xg:Int→zs→Option (yo×Int))(wi:yg→Option (List yo×Int))(a0:Int)(a1:zs):Option (yo×Int):=
 (Yj a1).bind fun r8=>(match r8 with|.nil=>(xP.j3 (⟨a0,1,0,[]⟩:yo))|.num n9=>some ((⟨a0,0,n9,[]⟩:yo),0)|.str s9=>(xP.j3 (⟨a0,1,0,s9⟩:yo))|.node e9 r9=>(wa (⟨e9,r9⟩:yg)).bind fun r10=>(if r10.2=0 then (xP.j3 (⟨a0,1,0,r10.1⟩:yo)) else some ((⟨0,0,0,[]⟩:yo),r10.2)))
theorem xP.step (wa:yg→Option (List UInt8×Int))(xg:Int→zs→Option (yo×Int))(wi:yg→Option (List yo×Int))(Yy:∀ (a0:yg) (r:List UInt8×Int),wa a0=some r→ACalls qi 230 [.dp (zJ a0) 0] [] (fun r' _=>r'=.tup [.ds true (qh Zh r.1) (qg r.1) false,.int .i64 r.2]))(Xa:∀ (a0:Int) (a1:zs) (r:yo×Int),xg a0 a1=some r→ACalls qi 189 [.int .i64 a0,.agg (zl a1)] [] (fun r' _=>r'=.tup [.agg (zu r.1),.int .i64 r.2]))(YP:∀ (a0:yg) (r:List yo×Int),wi a0=some r→ACalls qi 145 [.dp (zJ a0) 0] [] (fun r' _=>r'=.tup [.ds true (qh zu r.1) (qg r.1) false,.int .i64 r.2]))(a0:Int)(a1:zs)(r:yo×Int)(h:xP.body wa xg wi a0 a1=some r):ACalls qi 189 [.int .i64 a0,.agg (zl a1)] [] (fun r' _=>r'=.tup [.agg (zu r.1),.int .i64 r.2]):=by
 have ev_encode_bytes:=fun a0 r h σ=>(Yy a0 r h).c σ
 have ev_encode_raw:=fun a0 a1 r h σ=>(Xa a0 a1 r h).c σ
 have ev_encode_raws:=fun a0 r h σ=>(YP a0 r h).c σ
 refine zw (rs:=[.cell 4 139,.tmp 5]) tok Tryz.func189 rfl Tryz.ntmps189 rfl Tryz.call189 (by simp) ?_;refine zC [(0,.int .i64 a0),(1,.agg (zl a1))] ⟨rfl,rfl,trivial⟩ ?_;unfold xP.body at h;have f1:=Yf a1;unfold AV.one at f1
 refine rg tok [0,3,4] fun K hK=>?_
 simp only[go_sem,qe,qb,qa,qc,qd,qf,reduceIte,reduceCtorEq,zl,f1];apply hK
 refine rg tok [0,3,4,6] fun K hK=>?_
 simp only[go_sem,qe,qb,qa,qc,qd,qf,reduceIte,reduceCtorEq,zu];apply hK
 refine xV (fun L τ=>∃ (m1_2:yo),L=[(4,.op 0 0 0),(6,.op 1 0 0)]∧τ=([.cells 0 [.int .i64 0,.int .i64 0,.int .i64 0,.str []],.cells 0 [.int .i64 m1_2.fTag,.int .i64 m1_2.fWire,.int .i64 m1_2.fN,.str m1_2.fB]]:zi)∧xP.j3 m1_2=some r) ?_ ?_
 · refine rc [0,4,6,15] fun K hK=>?_
   obtain⟨r8,hr8,h⟩:=bind_some h;refine zd tok 1 ?_;simp only[go_sem,qe,qb,qa,qc,qd,qf,reduceIte,reduceCtorEq,zl];refine clN rfl rfl rfl ((Yj.ok hr8).c _) ?_;refine nkN hK ?_;apply zt
   rcases r8 with _|n9|s9|⟨e9,r9⟩
   · dsimp only at h
     try simp only[Xv,XW,zl]
     refine rg tok [0,4,6,15,17,18] fun K hK=>?_
     simp only[go_sem,qe,qb,qa,qc,qd,qf,reduceIte,reduceCtorEq,xI,xJ,TypeDesc.isIface];apply hK
     refine zK rfl ?_
     refine rg tok [4,6,15,23,24] fun K hK=>?_
     simp only[go_sem,qe,qb,qa,qc,qd,qf,reduceIte,reduceCtorEq,xI,xJ,TypeDesc.isIface];apply hK
     refine zK rfl ?_
     refine rg tok [4,6,28,29] fun K hK=>?_
     simp only[go_sem,qe,qb,qa,qc,qd,qf,reduceIte,reduceCtorEq,xI,xJ,TypeDesc.isIface];apply hK
     refine zK rfl ?_;apply zp;exact⟨_,_,⟨(⟨a0,1,0,[]⟩:yo),rfl,rfl,h⟩,(.t [1,2] false)⟩
   · dsimp only at h
     try simp only[Xu,XV,zl]
     refine rg tok [0,4,6,15,17,18] fun K hK=>?_
     simp only[go_sem,qe,qb,qa,qc,qd,qf,reduceIte,reduceCtorEq,xI,xJ,TypeDesc.isIface];apply hK
     refine zQ rfl ?_;refine rgN [0,4,7] ?_
     refine rg tok [4,5] fun K hK=>?_
     simp only[go_sem,qe,qb,qa,qc,qd,qf,reduceIte,reduceCtorEq,zu];apply hK
     cases h;exact rtA
   · dsimp only at h
     try simp only[Xt,XU,zl]
     refine rg tok [0,4,6,15,17,18] fun K hK=>?_
     simp only[go_sem,qe,qb,qa,qc,qd,qf,reduceIte,reduceCtorEq,xI,xJ,TypeDesc.isIface];apply hK
     refine zK rfl ?_
     refine rg tok [4,6,15,23,24] fun K hK=>?_
     simp only[go_sem,qe,qb,qa,qc,qd,qf,reduceIte,reduceCtorEq,xI,xJ,TypeDesc.isIface];apply hK
     refine zQ rfl ?_;refine rgN [4,6,8] ?_
     refine rgE tok [4,6] fun K hK=>?_
     simp only[go_sem,qe,qb,qa,qc,qd,qf,reduceIte,reduceCtorEq,zu];apply hK
     exact⟨_,_,⟨(⟨a0,1,0,s9⟩:yo),rfl,rfl,h⟩,(.t [1,2] false)⟩
   dsimp only at h
   try simp only[Yz,Xh,zl]
   refine rg tok [0,4,6,15,17,18] fun K hK=>?_
   simp only[go_sem,qe,qb,qa,qc,qd,qf,reduceIte,reduceCtorEq,xI,xJ,TypeDesc.isIface];apply hK
   refine zK rfl ?_
   refine rg tok [4,6,15,23,24] fun K hK=>?_
   simp only[go_sem,qe,qb,qa,qc,qd,qf,reduceIte,reduceCtorEq,xI,xJ,TypeDesc.isIface];apply hK
   refine zK rfl ?_
   refine rg tok [4,6,28,29] fun K hK=>?_
   simp only[go_sem,qe,qb,qa,qc,qd,qf,reduceIte,reduceCtorEq,xI,xJ,TypeDesc.isIface];apply hK
   refine zQ rfl ?_;refine rgN [4,6,9] ?_
   refine rc [4,6,10,11] fun K hK=>?_
   obtain⟨r10,hr10,h⟩:=bind_some h;refine rnN 1 ?_;refine clN rfl rfl rfl (ev_encode_bytes (⟨e9,r9⟩:yg) r10 hr10 _) ?_;refine rnN 5 ?_;refine nkN hK ?_
   refine ze fun Z11 hZ11=>?_
   refine rg tok [4,6,10,11,36] fun K hK=>?_
   simp only[go_sem,qe,qb,qa,qc,qd,qf,reduceIte,reduceCtorEq,zV];apply hK
   refine yn rfl (fun hc12=>?_) (fun hc12=>?_)
   · rw[if_neg hc12] at h;have t13:=eq_false hc12
     refine rg tok [4,5] fun K hK=>?_
     simp only[go_sem,qe,qb,qa,qc,qd,qf,reduceIte,reduceCtorEq,zu,t13];apply hK
     cases h;exact rtA
   rw[if_pos hc12] at h;have t14:=eq_true hc12;apply zp;apply hZ11;have f15:=vcl (T:=tab) (src:=48) (dst:=9) rfl rfl rfl rfl rfl rfl r10.1
   refine rgE tok [4,6] fun K hK=>?_
   simp only[go_sem,qe,qb,qa,qc,qd,qf,reduceIte,reduceCtorEq,zu,t14,f15];apply hK
   exact⟨_,_,⟨(⟨a0,1,0,r10.1⟩:yo),rfl,rfl,h⟩,(.t [1,2] false)⟩
 rintro _ _ ⟨m1_2,rfl,rfl,h⟩;unfold xP.j3 at h
 refine ze fun Z4 hZ4=>?_
 refine rg tok [4,6,45] fun K hK=>?_
 simp only[go_sem,qe,qb,qa,qc,qd,qf,reduceIte,reduceCtorEq,zV];apply hK
 refine yn rfl (fun hc5=>?_) (fun hc5=>?_)
 · rw[if_pos hc5] at h;have t6:=eq_true hc5
   refine rg tok [4,5] fun K hK=>?_
   simp only[go_sem,qe,qb,qa,qc,qd,qf,reduceIte,reduceCtorEq,zu,t6];apply hK
   cases h;exact rtA
 rw[if_neg hc5] at h;have t7:=eq_false hc5;apply zp;apply hZ4
 refine rg tok [4,5] fun K hK=>?_
 simp only[go_sem,qe,qb,qa,qc,qd,qf,reduceIte,reduceCtorEq,zu,t7];apply hK
 cases h;exact rtA
def yF.l24 (xg:Int→zs→Option (yo×Int))(x6:Int)(rec10:Int→List yo→Option (List yo×Int))(y10:Int):List zs→Int→List yo→Option (List yo×Int)
 |[],x20,l18=>(rec10 (x6+1) l18)
 |y24::q24,x20,l18=>(xg y10 y24).bind fun r31=>(if r31.2=0 then (vai (qg l18+1) 40).bind fun _u36=>((yF.l24 xg x6 rec10 y10 q24) (x20+1) (l18++[r31.1])) else some (([]:List yo),r31.2))
def yF.l10 (xg:Int→zs→Option (yo×Int))(a0:yg):List Int→Int→List yo→Option (List yo×Int)
 |[],x6,l4=>(yD l4).bind fun r12=>some (r12,0)
 |y10::q10,x6,l4=>(xx a0 y10).bind fun r17=>(yF.l24 xg x6 (yF.l10 xg a0 q10) y10 r17 0 l4)
def yF.body (wa:yg→Option (List UInt8×Int))(xg:Int→zs→Option (yo×Int))(wi:yg→Option (List yo×Int))(a0:yg):Option (List yo×Int):=
 (wJ a0).bind fun r1=>(xy a0).bind fun r3=>(yF.l10 xg a0 r3 0 r1)
theorem yF.step (wa:yg→Option (List UInt8×Int))(xg:Int→zs→Option (yo×Int))(wi:yg→Option (List yo×Int))(Yy:∀ (a0:yg) (r:List UInt8×Int),wa a0=some r→ACalls qi 230 [.dp (zJ a0) 0] [] (fun r' _=>r'=.tup [.ds true (qh Zh r.1) (qg r.1) false,.int .i64 r.2]))(Xa:∀ (a0:Int) (a1:zs) (r:yo×Int),xg a0 a1=some r→ACalls qi 189 [.int .i64 a0,.agg (zl a1)] [] (fun r' _=>r'=.tup [.agg (zu r.1),.int .i64 r.2]))(YP:∀ (a0:yg) (r:List yo×Int),wi a0=some r→ACalls qi 145 [.dp (zJ a0) 0] [] (fun r' _=>r'=.tup [.ds true (qh zu r.1) (qg r.1) false,.int .i64 r.2]))(a0:yg)(r:List yo×Int)(h:yF.body wa xg wi a0=some r):ACalls qi 145 [.dp (zJ a0) 0] [] (fun r' _=>r'=.tup [.ds true (qh zu r.1) (qg r.1) false,.int .i64 r.2]):=by
 have ev_encode_bytes:=fun a0 r h σ=>(Yy a0 r h).c σ
 have ev_encode_raw:=fun a0 a1 r h σ=>(Xa a0 a1 r h).c σ
 have ev_encode_raws:=fun a0 r h σ=>(YP a0 r h).c σ
 refine zw (rs:=[.tmp 2,.tmp 3]) tok Tryz.func145 rfl Tryz.ntmps145 rfl Tryz.call145 (by simp) ?_;refine zC [(0,.dp (zJ a0) 0)] ⟨rfl,trivial⟩ ?_;unfold yF.body at h;refine rgN [0] ?_
 refine rc [0,4] fun K hK=>?_
 obtain⟨r1,hr1,h⟩:=bind_some h;refine rnN 1 ?_;refine clN rfl rfl rfl (@id (ACalls qi 186 [.dp (zJ a0) 0] [] (fun r' σ'=>r'=.os true 4 0 0 0 (qg r1) false∧σ'=[.cells 0 (qh zu r1)])) ((wJ.own hr1).ownAt0 (by simp only[push_cast]) (by simp only[push_cast]) _)) ?_;refine rnN 1 ?_;refine nkN hK ?_
 refine ze fun Z2 hZ2=>?_
 refine rc [0,4,14,15,16] fun K hK=>?_
 obtain⟨r3,hr3,h⟩:=bind_some h;refine rnN 1 ?_;refine clN rfl rfl rfl ((xy.ok hr3).c _) ?_;refine rnN 2 ?_;refine nkN hK ?_;apply zt
 refine xv 14 fun hb10=>?_
 replace hb10:qg r3≤9223372036854775807:=hb10.1;refine yh (fun m L τ=>∃ (p10 q10:List Int) (x6:Int) (l4:List yo) (v5:Nat),m=qg q10∧L=[(0,.dp (zJ a0) 0),(4,.os true 4 0 v5 0 (qg l4) false),(14,.ds true (qh wH r3) (qg r3) false),(15,.int .i64 (qg r3:Int)),(16,.int .i64 x6)]∧τ=([.cells v5 (qh zu l4)]:zi)∧r3=p10++q10∧x6=(qg p10:Int)∧yF.l10 xg a0 q10 x6 l4=some r) _ ⟨[],r3,0,r1,0,rfl,rfl,rfl,rfl,rfl,h⟩ .s ?_;rintro m L τ ⟨p10,q10,x6,l4,v5,rfl,rfl,rfl,hE10,hi10,h⟩
 rcases q10 with _|⟨y10,q10⟩
 · have hz10:=xE hE10 hi10;simp only[yF.l10] at h
   refine rg tok [0,4,14,15,16,17] fun K hK=>?_
   simp only[go_sem,qe,qb,qa,qc,qd,qf,reduceIte,reduceCtorEq,zV,hz10];apply hK
   refine ze fun Z11 hZ11=>?_
   refine zK rfl ?_;apply ye;apply hZ2
   refine rc [2,3] fun K hK=>?_
   obtain⟨r12,hr12,h⟩:=bind_some h;refine zd tok 1 ?_;simp only[go_sem,qe,qb,qa,qc,qd,qf,reduceIte,reduceCtorEq,hz10];refine X5 (L:=[(43,.ds true (qh zu l4) (qg l4) false)]) (τ:=[]) (.t [] false) ?_;refine clN rfl rfl rfl ((yD.ok hr12).c _) ?_;refine zd tok 2 ?_;simp only[go_sem,qe,qb,qa,qc,qd,qf,reduceIte,reduceCtorEq,hz10];refine nkN hK ?_;cases h;exact rtA
 obtain⟨hz10,hw10,hx10,hE'10,hi'10⟩:=yZ hE10 hi10 hb10;simp only[yF.l10] at h
 refine rg tok [0,4,14,15,16,17] fun K hK=>?_
 simp only[go_sem,qe,qb,qa,qc,qd,qf,reduceIte,reduceCtorEq,zV,hz10,hw10];apply hK
 refine ze fun Z13 hZ13=>?_
 refine zQ rfl ?_;apply zp;apply hZ13
 refine ze fun Z14 hZ14=>?_
 apply zt;have f15:=E26.idxS hx10;have f16:=E26.fldS0 (f:=3) rfl rfl hx10
 refine rg tok [0,4,6,14,15,16] fun K hK=>?_
 simp only[go_sem,qe,qb,qa,qc,qd,qf,reduceIte,reduceCtorEq,wH,hz10,hw10,f15,f16];apply hK
 refine rc [0,4,6,14,15,16,22,23,24] fun K hK=>?_
 obtain⟨r17,hr17,h⟩:=bind_some h;refine zd tok 2 ?_;simp only[go_sem,qe,qb,qa,qc,qd,qf,reduceIte,reduceCtorEq,hz10,hw10];refine clN rfl rfl rfl ((xx.ok hr17).c _) ?_;refine zd tok 2 ?_;simp only[go_sem,qe,qb,qa,qc,qd,qf,reduceIte,reduceCtorEq,hz10,hw10];refine nkN hK ?_;apply zt
 refine xv 22 fun hb24=>?_
 replace hb24:qg r17≤9223372036854775807:=hb24.1;refine yh (fun m L τ=>∃ (p24 q24:List zs) (x20:Int) (l18:List yo) (v19:Nat),m=qg q24∧L=[(0,.dp (zJ a0) 0),(4,.os true 4 0 v19 0 (qg l18) false),(6,.int .i64 y10),(14,.ds true (qh wH r3) (qg r3) false),(15,.int .i64 (qg r3:Int)),(16,.int .i64 x6),(22,.ds true (qh zl r17) (qg r17) false),(23,.int .i64 (qg r17:Int)),(24,.int .i64 x20)]∧τ=([.cells v19 (qh zu l18)]:zi)∧r17=p24++q24∧x20=(qg p24:Int)∧yF.l24 xg x6 (yF.l10 xg a0 q10) y10 q24 x20 l18=some r) _ ⟨[],r17,0,l4,v5,rfl,rfl,rfl,rfl,rfl,h⟩ .s ?_;rintro m L τ ⟨p24,q24,x20,l18,v19,rfl,rfl,rfl,hE24,hi24,h⟩
 rcases q24 with _|⟨y24,q24⟩
 · have hz24:=xE hE24 hi24;simp only[yF.l24] at h
   refine rg tok [0,4,6,14,15,16,22,23,24,25] fun K hK=>?_
   simp only[go_sem,qe,qb,qa,qc,qd,qf,reduceIte,reduceCtorEq,zV,hz10,hw10,hz24];apply hK
   refine ze fun Z25 hZ25=>?_
   refine zK rfl ?_;apply ye;apply hZ14
   refine rgE tok [0,4,14,15,16] fun K hK=>?_
   simp only[go_sem,qe,qb,qa,qc,qd,qf,reduceIte,reduceCtorEq,zV,hz10,hw10,hz24];apply hK
   exact⟨_,_,_,qH q10.length,⟨p10++[y10],q10,x6+1,l18,v19,rfl,rfl,rfl,hE'10,hi'10,h⟩,.s⟩
 obtain⟨hz24,hw24,hx24,hE'24,hi'24⟩:=yZ hE24 hi24 hb24;simp only[yF.l24] at h
 refine rg tok [0,4,6,14,15,16,22,23,24,25] fun K hK=>?_
 simp only[go_sem,qe,qb,qa,qc,qd,qf,reduceIte,reduceCtorEq,zV,hz10,hw10,hz24,hw24];apply hK
 refine ze fun Z26 hZ26=>?_
 refine zQ rfl ?_;apply zp;apply hZ26
 refine ze fun Z27 hZ27=>?_
 apply zt;have f28:=E282.idxS hx24;have f29:=E282.loadS rfl rfl hx24;have f30:=Yf y24;unfold AV.one at f30
 refine rg tok [0,4,6,8,14,15,16,22,23,24] fun K hK=>?_
 simp only[go_sem,qe,qb,qa,qc,qd,qf,reduceIte,reduceCtorEq,zl,hz10,hw10,hz24,hw24,f28,f29,f30];apply hK
 refine rc [0,4,6,9,10,14,15,16,22,23,24] fun K hK=>?_
 obtain⟨r31,hr31,h⟩:=bind_some h;refine zd tok 2 ?_;simp only[go_sem,qe,qb,qa,qc,qd,qf,reduceIte,reduceCtorEq,zl,hz10,hw10,hz24,hw24];refine clN rfl rfl rfl (ev_encode_raw y10 y24 r31 hr31 _) ?_;refine zd tok 6 ?_;simp only[go_sem,qe,qb,qa,qc,qd,qf,reduceIte,reduceCtorEq,zu,zl,hz10,hw10,hz24,hw24];refine nkN hK ?_
 refine ze fun Z32 hZ32=>?_
 refine rg tok [0,4,6,9,10,14,15,16,22,23,24,35] fun K hK=>?_
 simp only[go_sem,qe,qb,qa,qc,qd,qf,reduceIte,reduceCtorEq,zV,hz10,hw10,hz24,hw24];apply hK
 refine yn rfl (fun hc33=>?_) (fun hc33=>?_)
 · rw[if_neg hc33] at h;have t34:=eq_false hc33
   refine rg tok [2,3] fun K hK=>?_
   simp only[go_sem,qe,qb,qa,qc,qd,qf,reduceIte,reduceCtorEq,hz10,hw10,hz24,hw24,t34];apply hK
   cases h;exact rtA
 rw[if_pos hc33] at h;have t35:=eq_true hc33;apply zp;apply hZ32;obtain⟨_u36,hu36,h⟩:=bind_some h;have gu36:=xh hu36;have f37:=(zX E35.len l18)
 refine rgE tok [0,4,6,14,15,16,22,23,24] fun K hK=>?_
 simp only[go_sem,qe,qb,qa,qc,qd,qf,reduceIte,reduceCtorEq,zU,yA,qY,qN,qW,true_and,q1,yR,yp,yU,zu,hz10,hw10,hz24,hw24,t35,gu36,f37,yP,qV,qS,AV.one,qJ,qo,gt_iff_lt,zW,qD,qC,qG,qB,qE,qk,qp,qz,ql,qu,qF];apply hK
 apply hZ27
 refine rgE tok [0,4,6,14,15,16,22,23,24] fun K hK=>?_
 simp only[go_sem,qe,qb,qa,qc,qd,qf,reduceIte,reduceCtorEq,zV,hz10,hw10,hz24,hw24,t35];apply hK
 exact⟨_,_,_,qH q24.length,⟨p24++[y24],q24,x20+1,l18++[r31.1],v19+1,rfl,rfl,rfl,hE'24,hi'24,h⟩,(.t [0] false)⟩
mutual
def ww : Nat→yg→Option (List UInt8×Int)
 |0,_=>none
 |k+1,a0=>ww.body (ww k) (xP k) (yF k) a0
def xP : Nat→Int→zs→Option (yo×Int)
 |0,_,_=>none
 |k+1,a0,a1=>xP.body (ww k) (xP k) (yF k) a0 a1
def yF : Nat→yg→Option (List yo×Int)
 |0,_=>none
 |k+1,a0=>yF.body (ww k) (xP k) (yF k) a0
end
theorem ww.all (k:Nat):(∀ (a0:yg) (r:List UInt8×Int),ww k a0=some r→ACalls qi 230 [.dp (zJ a0) 0] [] (fun r' _=>r'=.tup [.ds true (qh Zh r.1) (qg r.1) false,.int .i64 r.2]))∧(∀ (a0:Int) (a1:zs) (r:yo×Int),xP k a0 a1=some r→ACalls qi 189 [.int .i64 a0,.agg (zl a1)] [] (fun r' _=>r'=.tup [.agg (zu r.1),.int .i64 r.2]))∧(∀ (a0:yg) (r:List yo×Int),yF k a0=some r→ACalls qi 145 [.dp (zJ a0) 0] [] (fun r' _=>r'=.tup [.ds true (qh zu r.1) (qg r.1) false,.int .i64 r.2])):=by
 induction k with
 |zero=>exact⟨(fun a0 r h=>by simp only[ww] at h; cases h),(fun a0 a1 r h=>by simp only[xP] at h; cases h),(fun a0 r h=>by simp only[yF] at h; cases h)⟩
 |succ k ih=>exact⟨(fun a0 r h=>ww.step _ _ _ ih.1 ih.2.1 ih.2.2 a0 r (by simpa only [ww] using h)),(fun a0 a1 r h=>xP.step _ _ _ ih.1 ih.2.1 ih.2.2 a0 a1 r (by simpa only [xP] using h)),(fun a0 r h=>yF.step _ _ _ ih.1 ih.2.1 ih.2.2 a0 r (by simpa only [yF] using h))⟩
theorem yF.ev (k:Nat)(a0:yg)(r:List yo×Int)(h:yF k a0=some r)(σ:zi):ACalls qi 145 [.dp (zJ a0) 0] σ (fun r' σ'=>r'=.tup [.ds true (qh zu r.1) (qg r.1) false,.int .i64 r.2]∧σ'=σ):=
 ((ww.all k).2.2 a0 r h).c σ
def YX (a0:zq):Option (List yo×Int):=
 (Xq a0).bind fun r1=>(if ((!r1.2)||(!(decide (a0.fKind=3))))=true then some (([]:List yo),1) else (xS r1.1).bind fun r5=>(yF xG r5).bind fun r6=>some (r6.1,r6.2))
theorem YX.ok {a0 r}(h:YX a0=some r):ACalls qi 95 [.agg (za a0)] [] (fun r' _=>r'=.tup [.ds true (qh zu r.1) (qg r.1) false,.int .i64 r.2]):=by
 refine zw (rs:=[.tmp 2,.tmp 3]) tok Tryz.func95 rfl Tryz.ntmps95 rfl Tryz.call95 (by simp) ?_;refine zC [(0,.agg (za a0))] ⟨rfl,trivial⟩ ?_;unfold YX at h
 refine rg tok [1] fun K hK=>?_
 simp only[go_sem,qe,qb,qa,qc,qd,qf,reduceIte,reduceCtorEq,za,zh];apply hK
 refine rc [1,4,5] fun K hK=>?_
 obtain⟨r1,hr1,h⟩:=bind_some h;refine zd tok 1 ?_;simp only[go_sem,qe,qb,qa,qc,qd,qf,reduceIte,reduceCtorEq,za,zh];refine clN rfl rfl rfl ((Xq.ok hr1).c _) ?_;have f2:=Yf r1.1;unfold AV.one at f2;refine zd tok 6 ?_;simp only[go_sem,qe,qb,qa,qc,qd,qf,reduceIte,reduceCtorEq,za,zh,zl,f2];refine nkN hK ?_
 refine ze fun Z3 hZ3=>?_
 refine rc [4,17] fun K hK=>?_
 refine rnN 3 ?_;refine zI 4 (fun L τ=>L=[(4,.op 1 0 0),(17,.bool ((!r1.2)||(!(decide (a0.fKind=3)))))]∧τ=([.cells 0 (za a0),.cells 0 [vc0 r1.1]]:zi)) ?_ ?_
 · refine yz (b:=(!r1.2)) 13 rfl (fun hg13=>?_) (fun hg13=>?_)
   · refine zd tok 4 ?_;simp only[go_sem,qe,qb,qa,qc,qd,qf,reduceIte,reduceCtorEq,zV];refine zm ⟨rfl,_,_,⟨rfl,rfl⟩,.b hg13⟩
   refine zd tok 4 ?_;simp only[go_sem,qe,qb,qa,qc,qd,qf,reduceIte,reduceCtorEq,zV];refine zm ⟨rfl,_,_,⟨rfl,rfl⟩,.b hg13⟩
 rintro _ _ ⟨rfl,rfl⟩;refine nkN hK ?_;refine zY (b:=((!r1.2)||(!(decide (a0.fKind=3))))) rfl (fun hc4=>?_) (fun hc4=>?_)
 · rw[if_pos hc4] at h;refine rgN [2,3] ?_;cases h;exact rtA
 rw[Zg hc4] at h;apply zp;apply hZ3
 refine rc [2,3] fun K hK=>?_
 obtain⟨r5,hr5,h⟩:=bind_some h;refine zd tok 1 ?_;simp only[go_sem,qe,qb,qa,qc,qd,qf,reduceIte,reduceCtorEq,zl];refine clN rfl rfl rfl ((xS.ok hr5).c _) ?_;obtain⟨r6,hr6,h⟩:=bind_some h;refine clN rfl rfl rfl (yF.ev xG r5 r6 hr6 _) ?_;refine zd tok 4 ?_;simp only[go_sem,qe,qb,qa,qc,qd,qf,reduceIte,reduceCtorEq,zl];refine nkN hK ?_;cases h;exact rtA
def ZP (a0:zq):Option (List UInt8×Int):=
 (YX a0).bind fun r1=>(if r1.2=0 then (xq r1.1).bind fun r6=>some (r6.1,r6.2) else some (([]:List UInt8),r1.2))
theorem ZP.ok {a0 r}(h:ZP a0=some r):ACalls qi 62 [.agg (za a0)] [] (fun r' _=>r'=.tup [.ds true (qh Zh r.1) (qg r.1) false,.int .i64 r.2]):=by
 refine zw (rs:=[.tmp 2,.tmp 3]) tok Tryz.func62 rfl Tryz.ntmps62 rfl Tryz.call62 (by simp) ?_;refine zC [(0,.agg (za a0))] ⟨rfl,trivial⟩ ?_;unfold ZP at h
 refine rg tok [1] fun K hK=>?_
 simp only[go_sem,qe,qb,qa,qc,qd,qf,reduceIte,reduceCtorEq,za,zh];apply hK
 refine rc [4,5] fun K hK=>?_
 obtain⟨r1,hr1,h⟩:=bind_some h;refine zd tok 1 ?_;simp only[go_sem,qe,qb,qa,qc,qd,qf,reduceIte,reduceCtorEq,za,zh];refine clN rfl rfl rfl ((YX.ok hr1).c _) ?_;refine zd tok 5 ?_;simp only[go_sem,qe,qb,qa,qc,qd,qf,reduceIte,reduceCtorEq,za,zh];refine nkN hK ?_
 refine ze fun Z2 hZ2=>?_
 refine rg tok [4,5,12] fun K hK=>?_
 simp only[go_sem,qe,qb,qa,qc,qd,qf,reduceIte,reduceCtorEq,zV];apply hK
 refine yn rfl (fun hc3=>?_) (fun hc3=>?_)
 · rw[if_neg hc3] at h;have t4:=eq_false hc3
   refine rg tok [2,3] fun K hK=>?_
   simp only[go_sem,qe,qb,qa,qc,qd,qf,reduceIte,reduceCtorEq,t4];apply hK
   cases h;exact rtA
 rw[if_pos hc3] at h;have t5:=eq_true hc3;apply zp;apply hZ2
 refine rc [2,3] fun K hK=>?_
 obtain⟨r6,hr6,h⟩:=bind_some h;refine zd tok 1 ?_;simp only[go_sem,qe,qb,qa,qc,qd,qf,reduceIte,reduceCtorEq,t5];refine clN rfl rfl rfl ((xq.ok hr6).c _) ?_;refine zd tok 4 ?_;simp only[go_sem,qe,qb,qa,qc,qd,qf,reduceIte,reduceCtorEq,t5];refine nkN hK ?_;cases h;exact rtA
def wk.j6 (a0:ZH)(l2:List yX)(v3:Nat)(l4:List (yX×Int))(x5:Int):Option (Int×ZH):=
 some (x5,(⟨a0.ffrom,a0.fto,l2,v3,l4⟩:ZH))
def wk (a0:ZH)(a1:yX):Option (Int×ZH):=
 (if (!((XZ a0.fplace a1).isSome))=true then (vai (qg a0.fl+1) 32).bind fun _u9=>(wk.j6 a0 (a0.fl++[a1]) (a0.vl+1) (setM a0.fplace a1 (qg a0.fl:Int)) (qg a0.fl:Int)) else (wk.j6 a0 a0.fl a0.vl a0.fplace ((XZ a0.fplace a1).getD 0)))
theorem wk.ok {a0 a1 r}(h:wk a0 a1=some r):ACalls qi 150 [.op 0 0 0,.agg (zD a1)] [.cells 0 [.str a0.ffrom.fName,.ds true (qh zf a0.ffrom.fMessages) (qg a0.ffrom.fMessages) false,.ds true (qh zj a0.ffrom.fEnums) (qg a0.ffrom.fEnums) false,.ds true (qh zr a0.ffrom.fMethods) (qg a0.ffrom.fMethods) false,.str a0.fto.fName,.ds true (qh zf a0.fto.fMessages) (qg a0.fto.fMessages) false,.ds true (qh zj a0.fto.fEnums) (qg a0.fto.fEnums) false,.ds true (qh zr a0.fto.fMethods) (qg a0.fto.fMethods) false,.os true 2 1 (a0.vl) 0 (qg a0.fl) false,.mp 2],.cells (a0.vl) (qh zD a0.fl),.map (yK yB (AV.int .i64) a0.fplace)] (fun r' σ'=>r'=.int .i64 r.1∧σ'=[.cells 0 [.str r.2.ffrom.fName,.ds true (qh zf r.2.ffrom.fMessages) (qg r.2.ffrom.fMessages) false,.ds true (qh zj r.2.ffrom.fEnums) (qg r.2.ffrom.fEnums) false,.ds true (qh zr r.2.ffrom.fMethods) (qg r.2.ffrom.fMethods) false,.str r.2.fto.fName,.ds true (qh zf r.2.fto.fMessages) (qg r.2.fto.fMessages) false,.ds true (qh zj r.2.fto.fEnums) (qg r.2.fto.fEnums) false,.ds true (qh zr r.2.fto.fMethods) (qg r.2.fto.fMethods) false,.os true 2 1 (r.2.vl) 0 (qg r.2.fl) false,.mp 2],.cells (r.2.vl) (qh zD r.2.fl),.map (yK yB (AV.int .i64) r.2.fplace)]):=by
 refine Zy [0,1,2] (rs:=[.tmp 4]) tok Tryz.func150 rfl Tryz.ntmps150 rfl Tryz.call150 (by simp) rfl ?_;refine zC [(0,.op 0 0 0),(1,.agg (zD a1))] ⟨rfl,rfl,trivial⟩ ?_;unfold wk at h
 refine rg tok [0,3] fun K hK=>?_
 simp only[go_sem,qe,qb,qa,qc,qd,qf,reduceIte,reduceCtorEq,zD];apply hK
 have f1:=fun (o0:Yt) (o1:Yt) (x:zi)=>vaX (T:=tab) (t:=239) (ek:=yB) (ev:=(AV.int .i64)) (z:=0) KA245 rfl rfl rfl rfl a0.fplace a1 true (o0::o1::.map (yK yB (AV.int .i64) a0.fplace)::x) 2 rfl
 simp only[yB,zD] at f1
 refine rd [0,3,5,6] fun K hK=>?_
 refine DW.start (T:=tab) [.any,.any,.any,.at [],.at [],.at [],.any,.any,.any,.any,.any] [] ?_;refine DW.runN tok 8 ?_;simp only[go_sem,qe,qb,qa,qc,qd,qf,reduceIte,reduceCtorEq,XA,q2,if_false,if_true,zD,yB,f1];refine DW.runN tok 3 ?_;simp only[go_sem,qe,qb,qa,qc,qd,qf,reduceIte,reduceCtorEq,zD,yB,f1];refine DW.fin tok (by decide +kernel) rfl ?_;simp only[zG,yE,yV,ZS,upd,qa,reduceIte,xl,xU];apply hK
 refine xV (fun L τ=>∃ (l2:List yX) (v3:Nat) (l4:List (yX×Int)) (x5:Int),L=[(5,.int .i64 x5)]∧τ=([.cells 0 [.str a0.ffrom.fName,.ds true (qh zf a0.ffrom.fMessages) (qg a0.ffrom.fMessages) false,.ds true (qh zj a0.ffrom.fEnums) (qg a0.ffrom.fEnums) false,.ds true (qh zr a0.ffrom.fMethods) (qg a0.ffrom.fMethods) false,.str a0.fto.fName,.ds true (qh zf a0.fto.fMessages) (qg a0.fto.fMessages) false,.ds true (qh zj a0.fto.fEnums) (qg a0.fto.fEnums) false,.ds true (qh zr a0.fto.fMethods) (qg a0.fto.fMethods) false,.os true 2 1 v3 0 (qg l2) false,.mp 2],.cells v3 (qh zD l2),.map (yK yB (AV.int .i64) l4)]:zi)∧wk.j6 a0 l2 v3 l4 x5=some r) ?_ ?_
 · refine rgN [0,3,5,17] ?_;refine zY (b:=(!((XZ a0.fplace a1).isSome))) rfl (fun hc7=>?_) (fun hc7=>?_)
   · rw[if_pos hc7] at h;refine rgN [0,3,5] ?_
     have f8:=fun (o0:Yt) (o1:Yt) (x:zi)=>vb5 (T:=tab) (t:=239) (ek:=yB) (ev:=(AV.int .i64)) KA245 rfl rfl a0.fplace a1 (qg a0.fl:Int) (o0::o1::.map (yK yB (AV.int .i64) a0.fplace)::x) 2 rfl
     simp only[yB,zD] at f8
     refine rd [0,3,5] fun K hK=>?_
     refine DW.start (T:=tab) [.any,.any,.any,.at [],.at [],.any,.eff] [] ?_;refine DW.runN tok 7 ?_;simp only[go_sem,qe,qb,qa,qc,qd,qf,reduceIte,reduceCtorEq,zD,yB,f8];refine DW.fin tok (by decide +kernel) rfl ?_;simp only[zG,yE,yV,ZS,upd,qa,reduceIte,xl,xU];apply hK
     obtain⟨_u9,hu9,h⟩:=bind_some h;have gu9:=xh hu9;have f10:=(zX E240.len a0.fl)
     refine rdE [5] fun K hK=>?_
     refine DW.start (T:=tab) [.any,.any,.any,.any,.own 1 [],.at [],.eff,.eff,.any,.any,.eff] [(1,[])] ?_;refine DW.runN tok 8 ?_;simp only[go_sem,qe,qb,qa,qc,qd,qf,reduceIte,reduceCtorEq,zU,yA,qY,qN,qW,true_and,q1,yR,yp,yU,zD,zb,gu9,f10,yP,qV,qS,AV.one,qJ,qo,gt_iff_lt,zW,qD,qC,qG,qB,qE,qk,qp,qz,ql,qu,qF];refine DW.runN tok 3 ?_;simp only[go_sem,qe,qb,qa,qc,qd,qf,reduceIte,reduceCtorEq,zD,zb,gu9,f10,yP,qV,qS,AV.one,qJ,qo,gt_iff_lt,zW,qD,qC,qG,qB,qE,qk,qp,qz,ql,qu,qF];refine DW.fin tok (by decide +kernel) rfl ?_;simp only[zG,yE,yV,ZS,upd,qa,reduceIte,xl,xU];apply hK
     exact⟨_,_,⟨a0.fl++[a1],a0.vl+1,setM a0.fplace a1 (qg a0.fl:Int),(qg a0.fl:Int),rfl,rfl,h⟩,(.t [0,1,2] false)⟩
   rw[Zg hc7] at h;apply zp;exact⟨_,_,⟨a0.fl,a0.vl,a0.fplace,(XZ a0.fplace a1).getD 0,rfl,rfl,h⟩,(.t [0,1,2] false)⟩
 rintro _ _ ⟨l2,v3,l4,x5,rfl,rfl,h⟩;unfold wk.j6 at h;refine rgN [4] ?_;apply yk;cases h;simp only[ZA,yT,yY,xR,exists_eq_left',go_sem,qe,qb,qa,qc,qd,qf,reduceIte,reduceCtorEq,zD,zb];refine⟨by decide,by simp,?_,?_⟩
 · first|rfl|(simp only[go_sem,qe,qb,qa,qc,qd,qf,reduceIte,reduceCtorEq,push_cast,if_true,qq,ql,qt,qr,qs,qv,qy,qo,qx,qw,qn,zx,zD,zb]<;>rfl)
 first|rfl|(simp only[go_sem,qe,qb,qa,qc,qd,qf,reduceIte,reduceCtorEq,push_cast,if_true,qq,ql,qt,qr,qs,qv,qy,qo,qx,qw,qn,zx,zD,zb]<;>rfl)
def wj.j9 (m0__03:zP)(m0__14:zP)(l5:List yX)(v6:Nat)(l7:List (yX×Int))(m4_8:Zd):Option (Zd×Bool×ZH):=
 some (m4_8,true,(⟨m0__03,m0__14,l5,v6,l7⟩:ZH))
def wj (a0:ZH)(a1:yN)(a2:yN)(a3:Int):Option (Zd×Bool×ZH):=
 bnd (wy a1 a3) fun r1=>bnd (wy a2 a3) fun r2=>(if (((!r1.2)||(!r2.2))||(!(decide (r1.1.fLabel=r2.1.fLabel))))=true then some ((⟨0,0,0⟩:Zd),false,a0) else (if ((decide (r1.1.fType.fKind=7))&&(decide (r2.1.fType.fKind=7)))=true then (wk a0 (⟨r1.1.fType.fName,r2.1.fType.fName⟩:yX)).bind fun r14=>(if r1.1.fLabel=1 then (wj.j9 r14.2.ffrom r14.2.fto r14.2.fl r14.2.vl r14.2.fplace (⟨4,a3,r14.1⟩:Zd)) else (wj.j9 r14.2.ffrom r14.2.fto r14.2.fl r14.2.vl r14.2.fplace (⟨3,a3,r14.1⟩:Zd))) else (if ((decide (r1.1.fType.fKind=2))&&(decide (r2.1.fType.fKind=1)))=true then (wj.j9 a0.ffrom a0.fto a0.fl a0.vl a0.fplace (⟨2,a3,0⟩:Zd)) else (if ((!(decide (r1.1.fType.fKind=r2.1.fType.fKind)))&&((!(decide (r1.1.fType.fKind=1)))||(!(decide (r2.1.fType.fKind=2)))))=true then some ((⟨0,0,0⟩:Zd),false,a0) else (wj.j9 a0.ffrom a0.fto a0.fl a0.vl a0.fplace (⟨1,a3,0⟩:Zd))))))
theorem wj.ok {a0 a1 a2 a3 r}(h:wj a0 a1 a2 a3=some r):ACalls qi 151 [.op 0 0 0,.agg (zf a1),.agg (zf a2),.int .i64 a3] [.cells 0 [.str a0.ffrom.fName,.ds true (qh zf a0.ffrom.fMessages) (qg a0.ffrom.fMessages) false,.ds true (qh zj a0.ffrom.fEnums) (qg a0.ffrom.fEnums) false,.ds true (qh zr a0.ffrom.fMethods) (qg a0.ffrom.fMethods) false,.str a0.fto.fName,.ds true (qh zf a0.fto.fMessages) (qg a0.fto.fMessages) false,.ds true (qh zj a0.fto.fEnums) (qg a0.fto.fEnums) false,.ds true (qh zr a0.fto.fMethods) (qg a0.fto.fMethods) false,.os true 2 1 (a0.vl) 0 (qg a0.fl) false,.mp 2],.cells (a0.vl) (qh zD a0.fl),.map (yK yB (AV.int .i64) a0.fplace)] (fun r' σ'=>r'=.tup [.agg (yv r.1),.bool r.2.1]∧σ'=[.cells 0 [.str r.2.2.ffrom.fName,.ds true (qh zf r.2.2.ffrom.fMessages) (qg r.2.2.ffrom.fMessages) false,.ds true (qh zj r.2.2.ffrom.fEnums) (qg r.2.2.ffrom.fEnums) false,.ds true (qh zr r.2.2.ffrom.fMethods) (qg r.2.2.ffrom.fMethods) false,.str r.2.2.fto.fName,.ds true (qh zf r.2.2.fto.fMessages) (qg r.2.2.fto.fMessages) false,.ds true (qh zj r.2.2.fto.fEnums) (qg r.2.2.fto.fEnums) false,.ds true (qh zr r.2.2.fto.fMethods) (qg r.2.2.fto.fMethods) false,.os true 2 1 (r.2.2.vl) 0 (qg r.2.2.fl) false,.mp 2],.cells (r.2.2.vl) (qh zD r.2.2.fl),.map (yK yB (AV.int .i64) r.2.2.fplace)]):=by
 refine Zy [0,1,2] (rs:=[.cell 8 248,.tmp 9]) tok Tryz.func151 rfl Tryz.ntmps151 rfl Tryz.call151 (by simp) rfl ?_;refine zC [(0,.op 0 0 0),(1,.agg (zf a1)),(2,.agg (zf a2)),(3,.int .i64 a3)] ⟨rfl,rfl,rfl,rfl,trivial⟩ ?_;unfold wj at h
 refine rg tok [0,3,5,6,8] fun K hK=>?_
 simp only[go_sem,qe,qb,qa,qc,qd,qf,reduceIte,reduceCtorEq,zf];apply hK
 refine rc [0,3,6,8,10,11] fun K hK=>?_
 obtain⟨r1,hr1,h⟩:=yi h;refine zd tok 2 ?_;simp only[go_sem,qe,qb,qa,qc,qd,qf,reduceIte,reduceCtorEq,zf];refine clN rfl rfl rfl ((wy.ok hr1).c _) ?_;refine zd tok 6 ?_;simp only[go_sem,qe,qb,qa,qc,qd,qf,reduceIte,reduceCtorEq,yc,zf,xB];refine nkN hK ?_
 refine rc [0,3,8,10,11,12,13] fun K hK=>?_
 obtain⟨r2,hr2,h⟩:=yi h;refine zd tok 2 ?_;simp only[go_sem,qe,qb,qa,qc,qd,qf,reduceIte,reduceCtorEq,zf];refine clN rfl rfl rfl ((wy.ok hr2).c _) ?_;refine zd tok 6 ?_;simp only[go_sem,qe,qb,qa,qc,qd,qf,reduceIte,reduceCtorEq,yc,zf,xB];refine nkN hK ?_
 refine rg tok [0,8,10,11,12,13,14] fun K hK=>?_
 simp only[go_sem,qe,qb,qa,qc,qd,qf,reduceIte,reduceCtorEq,yv];apply hK
 refine xV (fun L τ=>∃ (m0__03:zP) (m0__14:zP) (l5:List yX) (v6:Nat) (l7:List (yX×Int)) (m4_8:Zd),L=[(8,.op 3 0 0),(14,.op 4 0 0)]∧τ=([.cells 0 [.str m0__03.fName,.ds true (qh zf m0__03.fMessages) (qg m0__03.fMessages) false,.ds true (qh zj m0__03.fEnums) (qg m0__03.fEnums) false,.ds true (qh zr m0__03.fMethods) (qg m0__03.fMethods) false,.str m0__14.fName,.ds true (qh zf m0__14.fMessages) (qg m0__14.fMessages) false,.ds true (qh zj m0__14.fEnums) (qg m0__14.fEnums) false,.ds true (qh zr m0__14.fMethods) (qg m0__14.fMethods) false,.os true 2 1 v6 0 (qg l5) false,.mp 2],.cells v6 (qh zD l5),.map (yK yB (AV.int .i64) l7),.cells 0 [.int .i64 0,.int .i64 0,.int .i64 0],.cells 0 [.int .i64 m4_8.fOp,.int .i64 m4_8.fTag,.int .i64 m4_8.fSub]]:zi)∧wj.j9 m0__03 m0__14 l5 v6 l7 m4_8=some r) ?_ ?_
 · refine rd [0,8,10,11,12,13,14,15,16] fun K hK=>?_
   refine DW.start (T:=tab) [.any,.any,.at [],.any,.any,.at [],.any,.any] [] ?_;refine DW.runN tok 8 ?_;simp only[go_sem,qe,qb,qa,qc,qd,qf,reduceIte,reduceCtorEq];refine DW.fin tok (by decide +kernel) rfl ?_;simp only[zG,yE,yV,ZS,upd,qa,reduceIte,xl,xU];apply hK
   apply zt
   refine rc [0,8,10,12,14,15,16,37] fun K hK=>?_
   refine rnN 3 ?_;refine zI 3 (fun L τ=>L=[(0,.op 0 0 0),(8,.op 5 0 0),(10,.op 6 0 0),(12,.op 7 0 0),(14,.op 8 0 0),(15,.int .i64 r1.1.fType.fKind),(16,.int .i64 r2.1.fType.fKind),(43,.bool ((!r1.2)||(!r2.2)))]∧τ=([.cells 0 [.str a0.ffrom.fName,.ds true (qh zf a0.ffrom.fMessages) (qg a0.ffrom.fMessages) false,.ds true (qh zj a0.ffrom.fEnums) (qg a0.ffrom.fEnums) false,.ds true (qh zr a0.ffrom.fMethods) (qg a0.ffrom.fMethods) false,.str a0.fto.fName,.ds true (qh zf a0.fto.fMessages) (qg a0.fto.fMessages) false,.ds true (qh zj a0.fto.fEnums) (qg a0.fto.fEnums) false,.ds true (qh zr a0.fto.fMethods) (qg a0.fto.fMethods) false,.os true 2 1 (a0.vl) 0 (qg a0.fl) false,.mp 2],.cells (a0.vl) (qh zD a0.fl),.map (yK yB (AV.int .i64) a0.fplace),.cells 0 (zf a1),.cells 0 (zf a2),.cells 0 [.int .i64 0,.int .i64 0,.int .i64 0],.cells 0 (yc r1.1),.cells 0 (yc r2.1),.cells 0 [.int .i64 1,.int .i64 a3,.int .i64 0]]:zi)) ?_ ?_
   · refine yz (b:=(!r1.2)) 40 rfl (fun hg40=>?_) (fun hg40=>?_)
     · refine rnN 3 ?_;refine zm ⟨rfl,_,_,⟨rfl,rfl⟩,.b hg40⟩
     refine rnN 3 ?_;refine zm ⟨rfl,_,_,⟨rfl,rfl⟩,.b hg40⟩
   rintro _ _ ⟨rfl,rfl⟩;refine rnN 1 ?_;refine zI 6 (fun L τ=>L=[(0,.op 0 0 0),(8,.op 5 0 0),(10,.op 6 0 0),(12,.op 7 0 0),(14,.op 8 0 0),(15,.int .i64 r1.1.fType.fKind),(16,.int .i64 r2.1.fType.fKind),(50,.bool (((!r1.2)||(!r2.2))||(!(decide (r1.1.fLabel=r2.1.fLabel)))))]∧τ=([.cells 0 [.str a0.ffrom.fName,.ds true (qh zf a0.ffrom.fMessages) (qg a0.ffrom.fMessages) false,.ds true (qh zj a0.ffrom.fEnums) (qg a0.ffrom.fEnums) false,.ds true (qh zr a0.ffrom.fMethods) (qg a0.ffrom.fMethods) false,.str a0.fto.fName,.ds true (qh zf a0.fto.fMessages) (qg a0.fto.fMessages) false,.ds true (qh zj a0.fto.fEnums) (qg a0.fto.fEnums) false,.ds true (qh zr a0.fto.fMethods) (qg a0.fto.fMethods) false,.os true 2 1 (a0.vl) 0 (qg a0.fl) false,.mp 2],.cells (a0.vl) (qh zD a0.fl),.map (yK yB (AV.int .i64) a0.fplace),.cells 0 (zf a1),.cells 0 (zf a2),.cells 0 [.int .i64 0,.int .i64 0,.int .i64 0],.cells 0 (yc r1.1),.cells 0 (yc r2.1),.cells 0 [.int .i64 1,.int .i64 a3,.int .i64 0]]:zi)) ?_ ?_
   · refine yz (b:=((!r1.2)||(!r2.2))) 44 rfl (fun hg44=>?_) (fun hg44=>?_)
     · refine zd tok 6 ?_;simp only[go_sem,qe,qb,qa,qc,qd,qf,reduceIte,reduceCtorEq,zV];refine zm ⟨rfl,_,_,⟨rfl,rfl⟩,.b hg44⟩
     refine zd tok 6 ?_;simp only[go_sem,qe,qb,qa,qc,qd,qf,reduceIte,reduceCtorEq,zV];refine zm ⟨rfl,_,_,⟨rfl,rfl⟩,.b hg44⟩
   rintro _ _ ⟨rfl,rfl⟩;refine rnN 1 ?_;refine nkN hK ?_;refine zY (b:=(((!r1.2)||(!r2.2))||(!(decide (r1.1.fLabel=r2.1.fLabel))))) rfl (fun hc10=>?_) (fun hc10=>?_)
   · rw[if_pos hc10] at h
     refine rg tok [8,9] fun K hK=>?_
     simp only[go_sem,qe,qb,qa,qc,qd,qf,reduceIte,reduceCtorEq,yv];apply hK
     apply yk;cases h;simp only[ZA,yT,yY,xR,exists_eq_left',go_sem,qe,qb,qa,qc,qd,qf,reduceIte,reduceCtorEq,zD,zb,yv];refine⟨by decide,by simp,?_,?_⟩
     · first|rfl|(simp only[go_sem,qe,qb,qa,qc,qd,qf,reduceIte,reduceCtorEq,push_cast,if_true,qq,ql,qt,qr,qs,qv,qy,qo,qx,qw,qn,zx,zD,zb,yv]<;>rfl)
     first|rfl|(simp only[go_sem,qe,qb,qa,qc,qd,qf,reduceIte,reduceCtorEq,push_cast,if_true,qq,ql,qt,qr,qs,qv,qy,qo,qx,qw,qn,zx,zD,zb,yv]<;>rfl)
   rw[Zg hc10] at h
   refine rc [0,8,10,12,14,15,16,52] fun K hK=>?_
   refine zd tok 3 ?_;simp only[go_sem,qe,qb,qa,qc,qd,qf,reduceIte,reduceCtorEq,zV];refine zI 3 (fun L τ=>L=[(0,.op 0 0 0),(8,.op 5 0 0),(10,.op 6 0 0),(12,.op 7 0 0),(14,.op 8 0 0),(15,.int .i64 r1.1.fType.fKind),(16,.int .i64 r2.1.fType.fKind),(58,.bool ((decide (r1.1.fType.fKind=7))&&(decide (r2.1.fType.fKind=7))))]∧τ=([.cells 0 [.str a0.ffrom.fName,.ds true (qh zf a0.ffrom.fMessages) (qg a0.ffrom.fMessages) false,.ds true (qh zj a0.ffrom.fEnums) (qg a0.ffrom.fEnums) false,.ds true (qh zr a0.ffrom.fMethods) (qg a0.ffrom.fMethods) false,.str a0.fto.fName,.ds true (qh zf a0.fto.fMessages) (qg a0.fto.fMessages) false,.ds true (qh zj a0.fto.fEnums) (qg a0.fto.fEnums) false,.ds true (qh zr a0.fto.fMethods) (qg a0.fto.fMethods) false,.os true 2 1 (a0.vl) 0 (qg a0.fl) false,.mp 2],.cells (a0.vl) (qh zD a0.fl),.map (yK yB (AV.int .i64) a0.fplace),.cells 0 (zf a1),.cells 0 (zf a2),.cells 0 [.int .i64 0,.int .i64 0,.int .i64 0],.cells 0 (yc r1.1),.cells 0 (yc r2.1),.cells 0 [.int .i64 1,.int .i64 a3,.int .i64 0]]:zi)) ?_ ?_
   · refine wr 55 rfl (fun hg55=>?_) (fun hg55=>?_)
     · have t11:=eq_true hg55;refine zd tok 3 ?_;simp only[go_sem,qe,qb,qa,qc,qd,qf,reduceIte,reduceCtorEq,zV];refine zm ⟨rfl,_,_,⟨rfl,rfl⟩,.p t11⟩
     have t12:=eq_false hg55;refine zd tok 3 ?_;simp only[go_sem,qe,qb,qa,qc,qd,qf,reduceIte,reduceCtorEq,zV];refine zm ⟨rfl,_,_,⟨rfl,rfl⟩,.p t12⟩
   rintro _ _ ⟨rfl,rfl⟩;refine rnN 1 ?_;refine nkN hK ?_;refine zY (b:=((decide (r1.1.fType.fKind=7))&&(decide (r2.1.fType.fKind=7)))) rfl (fun hc13=>?_) (fun hc13=>?_)
   · rw[if_pos hc13] at h
     refine rc [8,10,14] fun K hK=>?_
     obtain⟨r14,hr14,h⟩:=bind_some h;refine rnN 8 ?_;refine clN rfl rfl rfl (@id (ACalls qi 150 [.op 0 0 0,.agg [.str r1.1.fType.fName,.str r2.1.fType.fName]] [.cells 0 [.str a0.ffrom.fName,.ds true (qh zf a0.ffrom.fMessages) (qg a0.ffrom.fMessages) false,.ds true (qh zj a0.ffrom.fEnums) (qg a0.ffrom.fEnums) false,.ds true (qh zr a0.ffrom.fMethods) (qg a0.ffrom.fMethods) false,.str a0.fto.fName,.ds true (qh zf a0.fto.fMessages) (qg a0.fto.fMessages) false,.ds true (qh zj a0.fto.fEnums) (qg a0.fto.fEnums) false,.ds true (qh zr a0.fto.fMethods) (qg a0.fto.fMethods) false,.os true 2 1 (a0.vl) 0 (qg a0.fl) false,.mp 2],.cells (a0.vl) (qh zD a0.fl),.map (yK yB (AV.int .i64) a0.fplace),.cells 0 (zf a1),.cells 0 (zf a2),.cells 0 [.int .i64 0,.int .i64 0,.int .i64 0],.cells 0 (yc r1.1),.cells 0 (yc r2.1),.cells 0 [.int .i64 1,.int .i64 a3,.int .i64 0]] (fun r' σ'=>r'=.int .i64 r14.1∧σ'=[.cells 0 [.str r14.2.ffrom.fName,.ds true (qh zf r14.2.ffrom.fMessages) (qg r14.2.ffrom.fMessages) false,.ds true (qh zj r14.2.ffrom.fEnums) (qg r14.2.ffrom.fEnums) false,.ds true (qh zr r14.2.ffrom.fMethods) (qg r14.2.ffrom.fMethods) false,.str r14.2.fto.fName,.ds true (qh zf r14.2.fto.fMessages) (qg r14.2.fto.fMessages) false,.ds true (qh zj r14.2.fto.fEnums) (qg r14.2.fto.fEnums) false,.ds true (qh zr r14.2.fto.fMethods) (qg r14.2.fto.fMethods) false,.os true 2 1 (r14.2.vl) 0 (qg r14.2.fl) false,.mp 2],.cells (r14.2.vl) (qh zD r14.2.fl),.map (yK yB (AV.int .i64) r14.2.fplace),.cells 0 (zf a1),.cells 0 (zf a2),.cells 0 [.int .i64 0,.int .i64 0,.int .i64 0],.cells 0 (yc r1.1),.cells 0 (yc r2.1),.cells 0 [.int .i64 1,.int .i64 a3,.int .i64 0]])) ((wk.ok hr14).ix [0,1,2])) ?_;refine zd tok 4 ?_;simp only[go_sem,qe,qb,qa,qc,qd,qf,reduceIte,reduceCtorEq,yv];refine nkN hK ?_
     refine rg tok [8,14,72] fun K hK=>?_
     simp only[go_sem,qe,qb,qa,qc,qd,qf,reduceIte,reduceCtorEq,zV];apply hK
     refine yn rfl (fun hc15=>?_) (fun hc15=>?_)
     · rw[if_pos hc15] at h;have t16:=eq_true hc15
       refine rgE tok [8,14] fun K hK=>?_
       simp only[go_sem,qe,qb,qa,qc,qd,qf,reduceIte,reduceCtorEq,yv,t16];apply hK
       exact⟨_,_,⟨r14.2.ffrom,r14.2.fto,r14.2.fl,r14.2.vl,r14.2.fplace,(⟨4,a3,r14.1⟩:Zd),rfl,rfl,h⟩,(.t [0,1,2,5,8] false)⟩
     rw[if_neg hc15] at h;have t17:=eq_false hc15;apply zp;exact⟨_,_,⟨r14.2.ffrom,r14.2.fto,r14.2.fl,r14.2.vl,r14.2.fplace,(⟨3,a3,r14.1⟩:Zd),rfl,rfl,h⟩,(.t [0,1,2,5,8] false)⟩
   rw[Zg hc13] at h
   refine rc [8,14,15,16,74] fun K hK=>?_
   refine zd tok 3 ?_;simp only[go_sem,qe,qb,qa,qc,qd,qf,reduceIte,reduceCtorEq,zV];refine zI 3 (fun L τ=>L=[(8,.op 5 0 0),(14,.op 8 0 0),(15,.int .i64 r1.1.fType.fKind),(16,.int .i64 r2.1.fType.fKind),(80,.bool ((decide (r1.1.fType.fKind=2))&&(decide (r2.1.fType.fKind=1))))]∧τ=([.cells 0 [.str a0.ffrom.fName,.ds true (qh zf a0.ffrom.fMessages) (qg a0.ffrom.fMessages) false,.ds true (qh zj a0.ffrom.fEnums) (qg a0.ffrom.fEnums) false,.ds true (qh zr a0.ffrom.fMethods) (qg a0.ffrom.fMethods) false,.str a0.fto.fName,.ds true (qh zf a0.fto.fMessages) (qg a0.fto.fMessages) false,.ds true (qh zj a0.fto.fEnums) (qg a0.fto.fEnums) false,.ds true (qh zr a0.fto.fMethods) (qg a0.fto.fMethods) false,.os true 2 1 (a0.vl) 0 (qg a0.fl) false,.mp 2],.cells (a0.vl) (qh zD a0.fl),.map (yK yB (AV.int .i64) a0.fplace),.cells 0 (zf a1),.cells 0 (zf a2),.cells 0 [.int .i64 0,.int .i64 0,.int .i64 0],.cells 0 (yc r1.1),.cells 0 (yc r2.1),.cells 0 [.int .i64 1,.int .i64 a3,.int .i64 0]]:zi)) ?_ ?_
   · refine wr 77 rfl (fun hg77=>?_) (fun hg77=>?_)
     · have t18:=eq_true hg77;refine zd tok 3 ?_;simp only[go_sem,qe,qb,qa,qc,qd,qf,reduceIte,reduceCtorEq,zV];refine zm ⟨rfl,_,_,⟨rfl,rfl⟩,.p t18⟩
     have t19:=eq_false hg77;refine zd tok 3 ?_;simp only[go_sem,qe,qb,qa,qc,qd,qf,reduceIte,reduceCtorEq,zV];refine zm ⟨rfl,_,_,⟨rfl,rfl⟩,.p t19⟩
   rintro _ _ ⟨rfl,rfl⟩;refine rnN 1 ?_;refine nkN hK ?_;refine zY (b:=((decide (r1.1.fType.fKind=2))&&(decide (r2.1.fType.fKind=1)))) rfl (fun hc20=>?_) (fun hc20=>?_)
   · rw[if_pos hc20] at h
     refine rgE tok [8,14] fun K hK=>?_
     simp only[go_sem,qe,qb,qa,qc,qd,qf,reduceIte,reduceCtorEq,yv];apply hK
     exact⟨_,_,⟨a0.ffrom,a0.fto,a0.fl,a0.vl,a0.fplace,(⟨2,a3,0⟩:Zd),rfl,rfl,h⟩,(.t [0,1,2,5,8] false)⟩
   rw[Zg hc20] at h
   refine rc [8,14,82] fun K hK=>?_
   refine zd tok 4 ?_;simp only[go_sem,qe,qb,qa,qc,qd,qf,reduceIte,reduceCtorEq,zV];refine zI 7 (fun L τ=>L=[(8,.op 5 0 0),(14,.op 8 0 0),(93,.bool ((!(decide (r1.1.fType.fKind=r2.1.fType.fKind)))&&((!(decide (r1.1.fType.fKind=1)))||(!(decide (r2.1.fType.fKind=2))))))]∧τ=([.cells 0 [.str a0.ffrom.fName,.ds true (qh zf a0.ffrom.fMessages) (qg a0.ffrom.fMessages) false,.ds true (qh zj a0.ffrom.fEnums) (qg a0.ffrom.fEnums) false,.ds true (qh zr a0.ffrom.fMethods) (qg a0.ffrom.fMethods) false,.str a0.fto.fName,.ds true (qh zf a0.fto.fMessages) (qg a0.fto.fMessages) false,.ds true (qh zj a0.fto.fEnums) (qg a0.fto.fEnums) false,.ds true (qh zr a0.fto.fMethods) (qg a0.fto.fMethods) false,.os true 2 1 (a0.vl) 0 (qg a0.fl) false,.mp 2],.cells (a0.vl) (qh zD a0.fl),.map (yK yB (AV.int .i64) a0.fplace),.cells 0 (zf a1),.cells 0 (zf a2),.cells 0 [.int .i64 0,.int .i64 0,.int .i64 0],.cells 0 (yc r1.1),.cells 0 (yc r2.1),.cells 0 [.int .i64 1,.int .i64 a3,.int .i64 0]]:zi)) ?_ ?_
   · refine wr 86 rfl (fun hg86=>?_) (fun hg86=>?_)
     · have t21:=eq_false hg86;refine zd tok 3 ?_;simp only[go_sem,qe,qb,qa,qc,qd,qf,reduceIte,reduceCtorEq,zV];refine zI 3 (fun L τ=>L=[(8,.op 5 0 0),(14,.op 8 0 0),(86,.bool true),(92,.bool ((!(decide (r1.1.fType.fKind=1)))||(!(decide (r2.1.fType.fKind=2)))))]∧τ=([.cells 0 [.str a0.ffrom.fName,.ds true (qh zf a0.ffrom.fMessages) (qg a0.ffrom.fMessages) false,.ds true (qh zj a0.ffrom.fEnums) (qg a0.ffrom.fEnums) false,.ds true (qh zr a0.ffrom.fMethods) (qg a0.ffrom.fMethods) false,.str a0.fto.fName,.ds true (qh zf a0.fto.fMessages) (qg a0.fto.fMessages) false,.ds true (qh zj a0.fto.fEnums) (qg a0.fto.fEnums) false,.ds true (qh zr a0.fto.fMethods) (qg a0.fto.fMethods) false,.os true 2 1 (a0.vl) 0 (qg a0.fl) false,.mp 2],.cells (a0.vl) (qh zD a0.fl),.map (yK yB (AV.int .i64) a0.fplace),.cells 0 (zf a1),.cells 0 (zf a2),.cells 0 [.int .i64 0,.int .i64 0,.int .i64 0],.cells 0 (yc r1.1),.cells 0 (yc r2.1),.cells 0 [.int .i64 1,.int .i64 a3,.int .i64 0]]:zi)) ?_ ?_
       · refine wr 89 rfl (fun hg89=>?_) (fun hg89=>?_)
         · have t22:=eq_false hg89;refine zd tok 3 ?_;simp only[go_sem,qe,qb,qa,qc,qd,qf,reduceIte,reduceCtorEq,zV];refine zm ⟨rfl,_,_,⟨rfl,rfl⟩,.p t22⟩
         have t23:=eq_true hg89;refine zd tok 3 ?_;simp only[go_sem,qe,qb,qa,qc,qd,qf,reduceIte,reduceCtorEq,zV];refine zm ⟨rfl,_,_,⟨rfl,rfl⟩,.p t23⟩
       rintro _ _ ⟨rfl,rfl⟩;refine rnN 1 ?_;refine zm ⟨rfl,_,_,⟨rfl,rfl⟩,.p t21⟩
     have t24:=eq_true hg86;refine zd tok 7 ?_;simp only[go_sem,qe,qb,qa,qc,qd,qf,reduceIte,reduceCtorEq,zV];refine zm ⟨rfl,_,_,⟨rfl,rfl⟩,.p t24⟩
   rintro _ _ ⟨rfl,rfl⟩;refine rnN 1 ?_;refine nkN hK ?_;refine zY (b:=((!(decide (r1.1.fType.fKind=r2.1.fType.fKind)))&&((!(decide (r1.1.fType.fKind=1)))||(!(decide (r2.1.fType.fKind=2)))))) rfl (fun hc25=>?_) (fun hc25=>?_)
   · rw[if_pos hc25] at h
     refine rg tok [8,9] fun K hK=>?_
     simp only[go_sem,qe,qb,qa,qc,qd,qf,reduceIte,reduceCtorEq,yv];apply hK
     apply yk;cases h;simp only[ZA,yT,yY,xR,exists_eq_left',go_sem,qe,qb,qa,qc,qd,qf,reduceIte,reduceCtorEq,zD,zb,yv];refine⟨by decide,by simp,?_,?_⟩
     · first|rfl|(simp only[go_sem,qe,qb,qa,qc,qd,qf,reduceIte,reduceCtorEq,push_cast,if_true,qq,ql,qt,qr,qs,qv,qy,qo,qx,qw,qn,zx,zD,zb,yv]<;>rfl)
     first|rfl|(simp only[go_sem,qe,qb,qa,qc,qd,qf,reduceIte,reduceCtorEq,push_cast,if_true,qq,ql,qt,qr,qs,qv,qy,qo,qx,qw,qn,zx,zD,zb,yv]<;>rfl)
   rw[Zg hc25] at h;apply zp;exact⟨_,_,⟨a0.ffrom,a0.fto,a0.fl,a0.vl,a0.fplace,(⟨1,a3,0⟩:Zd),rfl,rfl,h⟩,(.t [0,1,2,5,8] false)⟩
 rintro _ _ ⟨m0__03,m0__14,l5,v6,l7,m4_8,rfl,rfl,h⟩;unfold wj.j9 at h
 refine rg tok [8,9] fun K hK=>?_
 simp only[go_sem,qe,qb,qa,qc,qd,qf,reduceIte,reduceCtorEq,yv];apply hK
 apply yk;cases h;simp only[ZA,yT,yY,xR,exists_eq_left',go_sem,qe,qb,qa,qc,qd,qf,reduceIte,reduceCtorEq,zD,zb,yv];refine⟨by decide,by simp,?_,?_⟩
 · first|rfl|(simp only[go_sem,qe,qb,qa,qc,qd,qf,reduceIte,reduceCtorEq,push_cast,if_true,qq,ql,qt,qr,qs,qv,qy,qo,qx,qw,qn,zx,zD,zb,yv]<;>rfl)
 first|rfl|(simp only[go_sem,qe,qb,qa,qc,qd,qf,reduceIte,reduceCtorEq,push_cast,if_true,qq,ql,qt,qr,qs,qv,qy,qo,qx,qw,qn,zx,zD,zb,yv]<;>rfl)
end
section
set_option maxRecDepth 4000
set_option maxHeartbeats 1000000
open AM
def xH.j70 (x50:Int)(rec59:List (yX×Int)→zP→zP→List yX→Nat→List Zd→Int→Option (wg×Int))(l63:List (yX×Int))(m4__064:zP)(m4__165:zP)(l66:List yX)(v67:Nat)(l68:List Zd):Option (wg×Int):=
 (rec59 l63 m4__064 m4__165 l66 v67 l68 (IntKind.i64.wrap (x50+1)))
def xH.l59 (l19:List (List Zd))(x21:Int)(rec30:List (yX×Int)→zP→zP→List yX→Nat→List (List Zd)→Int→Option (wg×Int))(r38:yN×Bool)(r41:yN×Bool):Nat→List (yX×Int)→zP→zP→List yX→Nat→List Zd→Int→Option (wg×Int)
 |0,_,_,_,_,_,_,_=>none
 |k59+1,l43,m4__044,m4__145,l46,v47,l48,x50=>(if x50≤500 then (wj (⟨m4__044,m4__145,l46,v47,l43⟩:ZH) r38.1 r41.1 x50).bind fun r71=>(if r71.2.1=true then (vai (qg l48+1) 24).bind fun _u73=>(xH.j70 x50 (xH.l59 l19 x21 rec30 r38 r41 k59) r71.2.2.fplace r71.2.2.ffrom r71.2.2.fto r71.2.2.fl r71.2.2.vl (l48++[r71.1])) else (xH.j70 x50 (xH.l59 l19 x21 rec30 r38 r41 k59) r71.2.2.fplace r71.2.2.ffrom r71.2.2.fto r71.2.2.fl r71.2.2.vl l48)) else (vai (qg l19+1) 24).bind fun _u76=>(rec30 l43 m4__044 m4__145 l46 v47 (l19++[l48]) (IntKind.i64.wrap (x21+1))))
def xH.l30 (a0:zP)(a1:zP):Nat→List (yX×Int)→zP→zP→List yX→Nat→List (List Zd)→Int→Option (wg×Int)
 |0,_,_,_,_,_,_,_=>none
 |k30+1,l14,m4__015,m4__116,l17,v18,l19,x21=>(if x21<(qg l17:Int) then (YN l17 x21).bind fun y35=>bnd (yy a0 y35.ffrom) fun r38=>bnd (yy a1 y35.fto) fun r41=>(xH.l59 l19 x21 (xH.l30 a0 a1 k30) r38 r41 xG l14 m4__015 m4__116 l17 v18 ([]:List Zd) 1) else some ((⟨l19⟩:wg),0))
def xH (a0:zP)(a1:zP)(a2:List UInt8)(a3:List UInt8):Option (wg×Int):=
 (yO a0).bind fun r2=>(if r2=0 then (yO a1).bind fun r3=>some (!(decide (r3=0))) else some true).bind fun c3=>(if c3=true then some ((⟨([]:List (List Zd))⟩:wg),1) else bnd (yy a0 a2) fun r8=>bnd (yy a1 a3) fun r9=>(if ((!r8.2)||(!r9.2))=true then some ((⟨([]:List (List Zd))⟩:wg),14) else (wk (⟨a0,a1,([]:List yX),0,([]:List (yX×Int))⟩:ZH) (⟨a2,a3⟩:yX)).bind fun r12=>(xH.l30 a0 a1 xG r12.2.fplace r12.2.ffrom r12.2.fto r12.2.fl r12.2.vl ([]:List (List Zd)) 0)))
theorem xH.ok {a0 a1 a2 a3 r}(h:xH a0 a1 a2 a3=some r):ACalls qi 99 [.agg (zb a0),.agg (zb a1),.str a2,.str a3] [] (fun r' _=>r'=.tup [.agg (zv r.1),.int .i64 r.2]):=by
 refine zw (rs:=[.cell 8 178,.tmp 9]) tok Tryz.func99 rfl Tryz.ntmps99 rfl Tryz.call99 (by simp) ?_;refine zC [(0,.agg (zb a0)),(1,.agg (zb a1)),(2,.str a2),(3,.str a3)] ⟨rfl,rfl,rfl,rfl,trivial⟩ ?_;unfold xH at h
 refine rg tok [2,3,4,5,8] fun K hK=>?_
 simp only[go_sem,qe,qb,qa,qc,qd,qf,reduceIte,reduceCtorEq,zb];apply hK
 refine ze fun Z1 hZ1=>?_
 refine rc [2,3,4,5,8,32] fun K hK=>?_
 obtain⟨r2,hr2,h⟩:=bind_some h;refine zd tok 1 ?_;simp only[go_sem,qe,qb,qa,qc,qd,qf,reduceIte,reduceCtorEq,zb];refine clN rfl rfl rfl ((yO.ok hr2).c _) ?_;refine zd tok 2 ?_;simp only[go_sem,qe,qb,qa,qc,qd,qf,reduceIte,reduceCtorEq,zV,zb];obtain⟨c3,hc3,h⟩:=bind_some h;refine zI 4 (fun L τ=>L=[(2,.str a2),(3,.str a3),(4,.op 0 0 0),(5,.op 1 0 0),(8,.op 2 0 0),(32,.bool c3)]∧τ=([.cells 0 (zb a0),.cells 0 (zb a1),.cells 0 [.ds true [] 0 true]]:zi)) ?_ ?_
 · refine wr 28 rfl (fun hg28=>?_) (fun hg28=>?_)
   · have t4:=eq_false hg28;rw[if_neg hg28] at hc3;refine zd tok 4 ?_;simp only[go_sem,qe,qb,qa,qc,qd,qf,reduceIte,reduceCtorEq,zV,zb];cases hc3;refine zm ⟨rfl,_,_,⟨rfl,rfl⟩,.p t4⟩
   have t5:=eq_true hg28;rw[if_pos hg28] at hc3;obtain⟨r6,hr6,hc3⟩:=bind_some hc3;refine zd tok 1 ?_;simp only[go_sem,qe,qb,qa,qc,qd,qf,reduceIte,reduceCtorEq,zb];refine clN rfl rfl rfl ((yO.ok hr6).c _) ?_;refine zd tok 2 ?_;simp only[go_sem,qe,qb,qa,qc,qd,qf,reduceIte,reduceCtorEq,zV,zb];cases hc3;refine zm ⟨rfl,_,_,⟨rfl,rfl⟩,.p t5⟩
 rintro _ _ ⟨rfl,rfl⟩;refine nkN hK ?_;refine zY (b:=c3) rfl (fun hc7=>?_) (fun hc7=>?_)
 · rw[if_pos hc7] at h
   refine rg tok [8,9] fun K hK=>?_
   simp only[go_sem,qe,qb,qa,qc,qd,qf,reduceIte,reduceCtorEq,zv];apply hK
   cases h;exact rtA
 rw[Zg hc7] at h;apply zp;apply hZ1
 refine rc [2,3,4,5,8,11] fun K hK=>?_
 obtain⟨r8,hr8,h⟩:=yi h;refine zd tok 2 ?_;simp only[go_sem,qe,qb,qa,qc,qd,qf,reduceIte,reduceCtorEq,zb];refine clN rfl rfl rfl ((yy.ok hr8).c _) ?_;refine zd tok 6 ?_;simp only[go_sem,qe,qb,qa,qc,qd,qf,reduceIte,reduceCtorEq,zf,zb];refine nkN hK ?_
 refine rc [2,3,4,5,8,11,13] fun K hK=>?_
 obtain⟨r9,hr9,h⟩:=yi h;refine zd tok 2 ?_;simp only[go_sem,qe,qb,qa,qc,qd,qf,reduceIte,reduceCtorEq,zb];refine clN rfl rfl rfl ((yy.ok hr9).c _) ?_;refine zd tok 6 ?_;simp only[go_sem,qe,qb,qa,qc,qd,qf,reduceIte,reduceCtorEq,zf,zb];refine nkN hK ?_
 refine ze fun Z10 hZ10=>?_
 refine rc [2,3,4,5,8,51] fun K hK=>?_
 refine rnN 3 ?_;refine zI 3 (fun L τ=>L=[(2,.str a2),(3,.str a3),(4,.op 0 0 0),(5,.op 1 0 0),(8,.op 2 0 0),(51,.bool ((!r8.2)||(!r9.2)))]∧τ=([.cells 0 (zb a0),.cells 0 (zb a1),.cells 0 [.ds true [] 0 true],.cells 0 (zf r8.1),.cells 0 (zf r9.1)]:zi)) ?_ ?_
 · refine yz (b:=(!r8.2)) 48 rfl (fun hg48=>?_) (fun hg48=>?_)
   · refine rnN 3 ?_;refine zm ⟨rfl,_,_,⟨rfl,rfl⟩,.b hg48⟩
   refine rnN 3 ?_;refine zm ⟨rfl,_,_,⟨rfl,rfl⟩,.b hg48⟩
 rintro _ _ ⟨rfl,rfl⟩;refine nkN hK ?_;refine zY (b:=((!r8.2)||(!r9.2))) rfl (fun hc11=>?_) (fun hc11=>?_)
 · rw[if_pos hc11] at h
   refine rg tok [8,9] fun K hK=>?_
   simp only[go_sem,qe,qb,qa,qc,qd,qf,reduceIte,reduceCtorEq,zv];apply hK
   cases h;exact rtA
 rw[Zg hc11] at h;apply zp;apply hZ10
 refine rg tok [2,3,4,5,8,14] fun K hK=>?_
 simp only[go_sem,qe,qb,qa,qc,qd,qf,reduceIte,reduceCtorEq,zb];apply hK
 refine Xp 5 rfl (τ:=[.cells 0 (zb a0),.cells 0 (zb a1),.cells 0 [.ds true [] 0 true],.cells 0 (zf r8.1),.cells 0 (zf r9.1),.map (yK yB (AV.int .i64) []),.cells 0 [.str a0.fName,.ds true (qh zf a0.fMessages) (qg a0.fMessages) false,.ds true (qh zj a0.fEnums) (qg a0.fEnums) false,.ds true (qh zr a0.fMethods) (qg a0.fMethods) false,.str a1.fName,.ds true (qh zf a1.fMessages) (qg a1.fMessages) false,.ds true (qh zj a1.fEnums) (qg a1.fEnums) false,.ds true (qh zr a1.fMethods) (qg a1.fMethods) false,.ds true [] 0 true,.mp 5]]) rfl ?_;refine ZG 6 8 2 rfl (by simp) rfl (L:=[(2,.str a2),(3,.str a3),(4,.op 0 0 0),(5,.op 1 0 0),(8,.op 2 0 0),(14,.op 6 0 0)]) (τ:=[.cells 0 (zb a0),.cells 0 (zb a1),.cells 0 [.ds true [] 0 true],.cells 0 (zf r8.1),.cells 0 (zf r9.1),.map (yK yB (AV.int .i64) []),.cells 0 [.str a0.fName,.ds true (qh zf a0.fMessages) (qg a0.fMessages) false,.ds true (qh zj a0.fEnums) (qg a0.fEnums) false,.ds true (qh zr a0.fMethods) (qg a0.fMethods) false,.str a1.fName,.ds true (qh zf a1.fMessages) (qg a1.fMessages) false,.ds true (qh zj a1.fEnums) (qg a1.fEnums) false,.ds true (qh zr a1.fMethods) (qg a1.fMethods) false,.os true 2 7 0 0 (qg ([]:List yX)) false,.mp 5],.cells 0 (qh zD ([]:List yX))]) .s ?_;refine y5 (L:=[(2,.str a2),(3,.str a3),(4,.op 0 0 0),(5,.op 1 0 0),(8,.op 2 0 0),(14,.op 6 0 0)]) (τ:=[.cells 0 (zb a0),.cells 0 (zb a1),.cells 0 [.ds true [] 0 true],.cells 0 (zf r8.1),.cells 0 (zf r9.1),.map (yK yB (AV.int .i64) []),.cells 0 [.str a0.fName,.ds true (qh zf a0.fMessages) (qg a0.fMessages) false,.ds true (qh zj a0.fEnums) (qg a0.fEnums) false,.ds true (qh zr a0.fMethods) (qg a0.fMethods) false,.str a1.fName,.ds true (qh zf a1.fMessages) (qg a1.fMessages) false,.ds true (qh zj a1.fEnums) (qg a1.fEnums) false,.ds true (qh zr a1.fMethods) (qg a1.fMethods) false,.os true 2 7 0 0 (qg ([]:List yX)) false,.mp 5],.cells 0 (qh zD ([]:List yX))]) .s ?_
 refine rc [4,5,8,14] fun K hK=>?_
 obtain⟨r12,hr12,h⟩:=bind_some h;refine rnN 4 ?_;refine clN rfl rfl rfl (@id (ACalls qi 150 [.op 6 0 0,.agg [.str a2,.str a3]] [.cells 0 (zb a0),.cells 0 (zb a1),.cells 0 [.ds true [] 0 true],.cells 0 (zf r8.1),.cells 0 (zf r9.1),.map (yK yB (AV.int .i64) []),.cells 0 [.str a0.fName,.ds true (qh zf a0.fMessages) (qg a0.fMessages) false,.ds true (qh zj a0.fEnums) (qg a0.fEnums) false,.ds true (qh zr a0.fMethods) (qg a0.fMethods) false,.str a1.fName,.ds true (qh zf a1.fMessages) (qg a1.fMessages) false,.ds true (qh zj a1.fEnums) (qg a1.fEnums) false,.ds true (qh zr a1.fMethods) (qg a1.fMethods) false,.os true 2 7 0 0 (qg ([]:List yX)) false,.mp 5],.cells 0 (qh zD ([]:List yX))] (fun r' σ'=>r'=.int .i64 r12.1∧σ'=[.cells 0 (zb a0),.cells 0 (zb a1),.cells 0 [.ds true [] 0 true],.cells 0 (zf r8.1),.cells 0 (zf r9.1),.map (yK yB (AV.int .i64) r12.2.fplace),.cells 0 [.str r12.2.ffrom.fName,.ds true (qh zf r12.2.ffrom.fMessages) (qg r12.2.ffrom.fMessages) false,.ds true (qh zj r12.2.ffrom.fEnums) (qg r12.2.ffrom.fEnums) false,.ds true (qh zr r12.2.ffrom.fMethods) (qg r12.2.ffrom.fMethods) false,.str r12.2.fto.fName,.ds true (qh zf r12.2.fto.fMessages) (qg r12.2.fto.fMessages) false,.ds true (qh zj r12.2.fto.fEnums) (qg r12.2.fto.fEnums) false,.ds true (qh zr r12.2.fto.fMethods) (qg r12.2.fto.fMethods) false,.os true 2 7 (r12.2.vl) 0 (qg r12.2.fl) false,.mp 5],.cells (r12.2.vl) (qh zD r12.2.fl)])) ((wk.ok hr12).ix [6,7,5])) ?_;refine nkN hK ?_;refine rgN [4,5,8,14,15] ?_;refine ZG 8 0 1 rfl (by simp) rfl (L:=[(4,.op 0 0 0),(5,.op 1 0 0),(8,.op 2 0 0),(14,.op 6 0 0),(15,.op 8 0 0)]) (τ:=[.cells 0 (zb a0),.cells 0 (zb a1),.cells 0 [.ds true [] 0 true],.cells 0 (zf r8.1),.cells 0 (zf r9.1),.map (yK yB (AV.int .i64) r12.2.fplace),.cells 0 [.str r12.2.ffrom.fName,.ds true (qh zf r12.2.ffrom.fMessages) (qg r12.2.ffrom.fMessages) false,.ds true (qh zj r12.2.ffrom.fEnums) (qg r12.2.ffrom.fEnums) false,.ds true (qh zr r12.2.ffrom.fMethods) (qg r12.2.ffrom.fMethods) false,.str r12.2.fto.fName,.ds true (qh zf r12.2.fto.fMessages) (qg r12.2.fto.fMessages) false,.ds true (qh zj r12.2.fto.fEnums) (qg r12.2.fto.fEnums) false,.ds true (qh zr r12.2.fto.fMethods) (qg r12.2.fto.fMethods) false,.os true 2 7 (r12.2.vl) 0 (qg r12.2.fl) false,.mp 5],.cells (r12.2.vl) (qh zD r12.2.fl),.cells 0 [.os true 1 9 0 0 (qg ([]:List (List Zd))) false],.cells 0 (qh (XO yv) ([]:List (List Zd)))]) .s ?_
 refine ze fun Z13 hZ13=>?_
 refine rgN [4,5,8,14,15,16] ?_;apply zt;refine yh (fun m L τ=>∃ (k30:Nat) (l14:List (yX×Int)) (m4__015:zP) (m4__116:zP) (l17:List yX) (v18:Nat) (l19:List (List Zd)) (x21:Int) (v20:Nat),m=0+k30∧L=[(4,.op 0 0 0),(5,.op 1 0 0),(8,.op 2 0 0),(14,.op 4 0 0),(15,.op 6 0 0),(16,.int .i64 x21)]∧τ=([.cells 0 (zb a0),.cells 0 (zb a1),.cells 0 [.ds true [] 0 true],.map (yK yB (AV.int .i64) l14),.cells 0 [.str m4__015.fName,.ds true (qh zf m4__015.fMessages) (qg m4__015.fMessages) false,.ds true (qh zj m4__015.fEnums) (qg m4__015.fEnums) false,.ds true (qh zr m4__015.fMethods) (qg m4__015.fMethods) false,.str m4__116.fName,.ds true (qh zf m4__116.fMessages) (qg m4__116.fMessages) false,.ds true (qh zj m4__116.fEnums) (qg m4__116.fEnums) false,.ds true (qh zr m4__116.fMethods) (qg m4__116.fMethods) false,.os true 2 5 v18 0 (qg l17) false,.mp 3],.cells v18 (qh zD l17),.cells 0 [.os true 1 7 v20 0 (qg l19) false],.cells v20 (qh (XO yv) l19)]:zi)∧xH.l30 a0 a1 k30 l14 m4__015 m4__116 l17 v18 l19 x21=some r) _ ⟨xG,r12.2.fplace,r12.2.ffrom,r12.2.fto,r12.2.fl,r12.2.vl,([]:List (List Zd)),0,0,rfl,rfl,rfl,h⟩ (.t [0,1,2,5,6,7,8,9] false) ?_;rintro m L τ ⟨k30,l14,m4__015,m4__116,l17,v18,l19,x21,v20,rfl,rfl,rfl,h⟩
 rcases k30 with _|k30
 · cases h
 simp only[xH.l30] at h
 refine ze fun Z31 hZ31=>?_
 refine rg tok [4,5,8,14,15,16,69] fun K hK=>?_
 simp only[go_sem,qe,qb,qa,qc,qd,qf,reduceIte,reduceCtorEq,zV];apply hK
 refine yn rfl (fun hc32=>?_) (fun hc32=>?_)
 · rw[if_pos hc32] at h;have t33:=eq_true hc32;apply zp;apply hZ31
   refine ze fun Z34 hZ34=>?_
   apply zt;obtain⟨y35,hy35,h⟩:=bind_some h;have f36:=E240.idxO hy35;have f37:=E240.rdfO0 hy35;obtain⟨r38,hr38,h⟩:=yi h
   refine rd [4,5,8,14,15,16,17] fun K hK=>?_
   refine DW.start (T:=tab) [.at [],.any,.any,.any,.at [],.any,.any,.any,.at [],.eff,.any,.any,.any,.flt,.eff,.any] [] ?_;refine DW.runN tok 8 ?_;simp only[go_sem,qe,qb,qa,qc,qd,qf,reduceIte,reduceCtorEq,zD,zf,zb,t33,f36,f37];refine DW.runN tok 1 ?_;simp only[go_sem,qe,qb,qa,qc,qd,qf,reduceIte,reduceCtorEq,zD,zf,zb,t33,f36,f37];refine DW.call rfl rfl rfl ((yy.ok hr38).c _) ?_;refine DW.runN tok 6 ?_;simp only[go_sem,qe,qb,qa,qc,qd,qf,reduceIte,reduceCtorEq,zD,zf,zb,t33,f36,f37];refine DW.fin tok (by decide +kernel) rfl ?_;simp only[zG,yE,yV,ZS,upd,qa,reduceIte,xl,xU];apply hK
   have f39:=E240.idxO hy35;have f40:=E240.rdfO hy35 (o:=1) (by decide);obtain⟨r41,hr41,h⟩:=yi h
   refine rd [4,5,8,14,15,16,17,19] fun K hK=>?_
   refine DW.start (T:=tab) [.at [],.any,.any,.any,.at [],.any,.any,.any,.at [],.eff,.any,.any,.any,.flt,.eff,.any] [] ?_;refine DW.runN tok 8 ?_;simp only[go_sem,qe,qb,qa,qc,qd,qf,reduceIte,reduceCtorEq,zD,zf,zb,t33,f39,f40];refine DW.runN tok 1 ?_;simp only[go_sem,qe,qb,qa,qc,qd,qf,reduceIte,reduceCtorEq,zD,zf,zb,t33,f39,f40];refine DW.call rfl rfl rfl ((yy.ok hr41).c _) ?_;refine DW.runN tok 6 ?_;simp only[go_sem,qe,qb,qa,qc,qd,qf,reduceIte,reduceCtorEq,zD,zf,zb,t33,f39,f40];refine DW.fin tok (by decide +kernel) rfl ?_;simp only[zG,yE,yV,ZS,upd,qa,reduceIte,xl,xU];apply hK
   refine rg tok [4,5,8,14,15,16,17,19,21] fun K hK=>?_
   simp only[go_sem,qe,qb,qa,qc,qd,qf,reduceIte,reduceCtorEq,t33];apply hK
   refine YR 21 3 rfl ?_;refine y5 (L:=[(4,.op 0 0 0),(5,.op 1 0 0),(8,.op 2 0 0),(14,.op 4 0 0),(15,.op 6 0 0),(16,.int .i64 x21),(17,.op 8 0 0),(19,.op 9 0 0),(21,.os true 3 10 0 0 (qg ([]:List Zd)) false)]) (τ:=[.cells 0 (zb a0),.cells 0 (zb a1),.cells 0 [.ds true [] 0 true],.map (yK yB (AV.int .i64) l14),.cells 0 [.str m4__015.fName,.ds true (qh zf m4__015.fMessages) (qg m4__015.fMessages) false,.ds true (qh zj m4__015.fEnums) (qg m4__015.fEnums) false,.ds true (qh zr m4__015.fMethods) (qg m4__015.fMethods) false,.str m4__116.fName,.ds true (qh zf m4__116.fMessages) (qg m4__116.fMessages) false,.ds true (qh zj m4__116.fEnums) (qg m4__116.fEnums) false,.ds true (qh zr m4__116.fMethods) (qg m4__116.fMethods) false,.os true 2 5 v18 0 (qg l17) false,.mp 3],.cells v18 (qh zD l17),.cells 0 [.os true 1 7 v20 0 (qg l19) false],.cells v20 (qh (XO yv) l19),.cells 0 (zf r38.1),.cells 0 (zf r41.1),.cells 0 (qh yv ([]:List Zd))]) .s ?_
   refine ze fun Z42 hZ42=>?_
   refine rg tok [4,5,8,14,15,16,17,19,21,22] fun K hK=>?_
   simp only[go_sem,qe,qb,qa,qc,qd,qf,reduceIte,reduceCtorEq,t33];apply hK
   apply zt;refine yh (fun m L τ=>∃ (k59:Nat) (l43:List (yX×Int)) (m4__044:zP) (m4__145:zP) (l46:List yX) (v47:Nat) (l48:List Zd) (x50:Int) (v49:Nat),m=0+k59∧L=[(4,.op 0 0 0),(5,.op 1 0 0),(8,.op 2 0 0),(14,.op 4 0 0),(15,.op 6 0 0),(16,.int .i64 x21),(17,.op 8 0 0),(19,.op 9 0 0),(21,.os true 3 10 v49 0 (qg l48) false),(22,.int .i64 x50)]∧τ=([.cells 0 (zb a0),.cells 0 (zb a1),.cells 0 [.ds true [] 0 true],.map (yK yB (AV.int .i64) l43),.cells 0 [.str m4__044.fName,.ds true (qh zf m4__044.fMessages) (qg m4__044.fMessages) false,.ds true (qh zj m4__044.fEnums) (qg m4__044.fEnums) false,.ds true (qh zr m4__044.fMethods) (qg m4__044.fMethods) false,.str m4__145.fName,.ds true (qh zf m4__145.fMessages) (qg m4__145.fMessages) false,.ds true (qh zj m4__145.fEnums) (qg m4__145.fEnums) false,.ds true (qh zr m4__145.fMethods) (qg m4__145.fMethods) false,.os true 2 5 v47 0 (qg l46) false,.mp 3],.cells v47 (qh zD l46),.cells 0 [.os true 1 7 v20 0 (qg l19) false],.cells v20 (qh (XO yv) l19),.cells 0 (zf r38.1),.cells 0 (zf r41.1),.cells v49 (qh yv l48)]:zi)∧xH.l59 l19 x21 (xH.l30 a0 a1 k30) r38 r41 k59 l43 m4__044 m4__145 l46 v47 l48 x50=some r) _ ⟨xG,l14,m4__015,m4__116,l17,v18,([]:List Zd),1,0,rfl,rfl,rfl,h⟩ .s ?_;rintro m L τ ⟨k59,l43,m4__044,m4__145,l46,v47,l48,x50,v49,rfl,rfl,rfl,h⟩
   rcases k59 with _|k59
   · cases h
   simp only[xH.l59] at h
   refine ze fun Z60 hZ60=>?_
   refine rg tok [4,5,8,14,15,16,17,19,21,22,99] fun K hK=>?_
   simp only[go_sem,qe,qb,qa,qc,qd,qf,reduceIte,reduceCtorEq,zV,t33];apply hK
   refine yn rfl (fun hc61=>?_) (fun hc61=>?_)
   · rw[if_pos hc61] at h;have t62:=eq_true hc61;apply zp;apply hZ60;refine xV (fun L τ=>∃ (l63:List (yX×Int)) (m4__064:zP) (m4__165:zP) (l66:List yX) (v67:Nat) (l68:List Zd) (v69:Nat),L=[(4,.op 0 0 0),(5,.op 1 0 0),(8,.op 2 0 0),(14,.op 4 0 0),(15,.op 6 0 0),(16,.int .i64 x21),(17,.op 8 0 0),(19,.op 9 0 0),(21,.os true 3 10 v69 0 (qg l68) false),(22,.int .i64 x50)]∧τ=([.cells 0 (zb a0),.cells 0 (zb a1),.cells 0 [.ds true [] 0 true],.map (yK yB (AV.int .i64) l63),.cells 0 [.str m4__064.fName,.ds true (qh zf m4__064.fMessages) (qg m4__064.fMessages) false,.ds true (qh zj m4__064.fEnums) (qg m4__064.fEnums) false,.ds true (qh zr m4__064.fMethods) (qg m4__064.fMethods) false,.str m4__165.fName,.ds true (qh zf m4__165.fMessages) (qg m4__165.fMessages) false,.ds true (qh zj m4__165.fEnums) (qg m4__165.fEnums) false,.ds true (qh zr m4__165.fMethods) (qg m4__165.fMethods) false,.os true 2 5 v67 0 (qg l66) false,.mp 3],.cells v67 (qh zD l66),.cells 0 [.os true 1 7 v20 0 (qg l19) false],.cells v20 (qh (XO yv) l19),.cells 0 (zf r38.1),.cells 0 (zf r41.1),.cells v69 (qh yv l68)]:zi)∧xH.j70 x50 (xH.l59 l19 x21 (xH.l30 a0 a1 k30) r38 r41 k59) l63 m4__064 m4__165 l66 v67 l68=some r) ?_ ?_
     · apply zt
       refine rc [4,5,8,14,15,16,17,19,21,22,23,24] fun K hK=>?_
       obtain⟨r71,hr71,h⟩:=bind_some h;refine zd tok 4 ?_;simp only[go_sem,qe,qb,qa,qc,qd,qf,reduceIte,reduceCtorEq,zf,t33,t62];refine clN rfl rfl rfl (@id (ACalls qi 151 [.op 4 0 0,.agg (zf r38.1),.agg (zf r41.1),.int .i64 x50] [.cells 0 (zb a0),.cells 0 (zb a1),.cells 0 [.ds true [] 0 true],.map (yK yB (AV.int .i64) l43),.cells 0 [.str m4__044.fName,.ds true (qh zf m4__044.fMessages) (qg m4__044.fMessages) false,.ds true (qh zj m4__044.fEnums) (qg m4__044.fEnums) false,.ds true (qh zr m4__044.fMethods) (qg m4__044.fMethods) false,.str m4__145.fName,.ds true (qh zf m4__145.fMessages) (qg m4__145.fMessages) false,.ds true (qh zj m4__145.fEnums) (qg m4__145.fEnums) false,.ds true (qh zr m4__145.fMethods) (qg m4__145.fMethods) false,.os true 2 5 v47 0 (qg l46) false,.mp 3],.cells v47 (qh zD l46),.cells 0 [.os true 1 7 v20 0 (qg l19) false],.cells v20 (qh (XO yv) l19),.cells 0 (zf r38.1),.cells 0 (zf r41.1),.cells v49 (qh yv l48)] (fun r' σ'=>r'=.tup [.agg (yv r71.1),.bool r71.2.1]∧σ'=[.cells 0 (zb a0),.cells 0 (zb a1),.cells 0 [.ds true [] 0 true],.map (yK yB (AV.int .i64) r71.2.2.fplace),.cells 0 [.str r71.2.2.ffrom.fName,.ds true (qh zf r71.2.2.ffrom.fMessages) (qg r71.2.2.ffrom.fMessages) false,.ds true (qh zj r71.2.2.ffrom.fEnums) (qg r71.2.2.ffrom.fEnums) false,.ds true (qh zr r71.2.2.ffrom.fMethods) (qg r71.2.2.ffrom.fMethods) false,.str r71.2.2.fto.fName,.ds true (qh zf r71.2.2.fto.fMessages) (qg r71.2.2.fto.fMessages) false,.ds true (qh zj r71.2.2.fto.fEnums) (qg r71.2.2.fto.fEnums) false,.ds true (qh zr r71.2.2.fto.fMethods) (qg r71.2.2.fto.fMethods) false,.os true 2 5 (r71.2.2.vl) 0 (qg r71.2.2.fl) false,.mp 3],.cells (r71.2.2.vl) (qh zD r71.2.2.fl),.cells 0 [.os true 1 7 v20 0 (qg l19) false],.cells v20 (qh (XO yv) l19),.cells 0 (zf r38.1),.cells 0 (zf r41.1),.cells v49 (qh yv l48)])) ((wj.ok hr71).ix [4,5,3])) ?_;refine zd tok 6 ?_;simp only[go_sem,qe,qb,qa,qc,qd,qf,reduceIte,reduceCtorEq,zf,yv,t33,t62];refine nkN hK ?_
       refine rg tok [4,5,8,14,15,16,17,19,21,22,23,110] fun K hK=>?_
       simp only[go_sem,qe,qb,qa,qc,qd,qf,reduceIte,reduceCtorEq,t33,t62];apply hK
       refine zY (b:=r71.2.1) rfl (fun hc72=>?_) (fun hc72=>?_)
       · rw[if_pos hc72] at h;obtain⟨_u73,hu73,h⟩:=bind_some h;have gu73:=xh hu73;have f74:=(zX E246.len l48)
         refine rgE tok [4,5,8,14,15,16,17,19,21,22] fun K hK=>?_
         simp only[go_sem,qe,qb,qa,qc,qd,qf,reduceIte,reduceCtorEq,zU,yA,qY,qN,qW,true_and,q1,yR,yp,yU,yv,t33,t62,gu73,f74,yP,qV,qS,AV.one,qJ,qo,gt_iff_lt,zW,qD,qC,qG,qB,qE,qk,qp,qz,ql,qu,qF];apply hK
         exact⟨_,_,⟨r71.2.2.fplace,r71.2.2.ffrom,r71.2.2.fto,r71.2.2.fl,r71.2.2.vl,l48++[r71.1],v49+1,rfl,rfl,h⟩,(.t [0,1,2,3,4,5,6,7,8,9,10] false)⟩
       rw[Zg hc72] at h;apply zp;exact⟨_,_,⟨r71.2.2.fplace,r71.2.2.ffrom,r71.2.2.fto,r71.2.2.fl,r71.2.2.vl,l48,v49,rfl,rfl,h⟩,(.t [0,1,2,3,4,5,6,7,8,9,10] false)⟩
     rintro _ _ ⟨l63,m4__064,m4__165,l66,v67,l68,v69,rfl,rfl,h⟩;unfold xH.j70 at h
     refine rgE tok [4,5,8,14,15,16,17,19,21,22] fun K hK=>?_
     simp only[go_sem,qe,qb,qa,qc,qd,qf,reduceIte,reduceCtorEq,zV,t33,t62];apply hK
     exact⟨_,_,_,qH (0+k59),⟨k59,l63,m4__064,m4__165,l66,v67,l68,IntKind.i64.wrap (x50+1),v69,rfl,rfl,rfl,h⟩,.s⟩
   rw[if_neg hc61] at h;have t75:=eq_false hc61;apply ye;apply hZ42;obtain⟨_u76,hu76,h⟩:=bind_some h;have gu76:=xh hu76;have f77:=(zX E176.len l19)
   refine rgE tok [4,5,8,14,15,16] fun K hK=>?_
   simp only[go_sem,qe,qb,qa,qc,qd,qf,reduceIte,reduceCtorEq,zU,yA,qY,qN,qW,true_and,q1,yR,yp,yU,zv,XO,t33,t75,gu76,f77,yP,qV,qS,AV.one,qJ,qo,gt_iff_lt,zW,qD,qC,qG,qB,qE,qk,qp,qz,ql,qu,qF];apply hK
   apply hZ34
   refine rgE tok [4,5,8,14,15,16] fun K hK=>?_
   simp only[go_sem,qe,qb,qa,qc,qd,qf,reduceIte,reduceCtorEq,zV,t33,t75];apply hK
   exact⟨_,_,_,qH (0+k30),⟨k30,l43,m4__044,m4__145,l46,v47,l19++[l48],IntKind.i64.wrap (x21+1),v20+1,rfl,rfl,rfl,h⟩,(.t [0,1,2,3,4,5,6,7] false)⟩
 rw[if_neg hc32] at h;have t78:=eq_false hc32;apply ye;apply hZ13
 refine rg tok [8,9] fun K hK=>?_
 simp only[go_sem,qe,qb,qa,qc,qd,qf,reduceIte,reduceCtorEq,zv,t78];apply hK
 cases h;exact rtA
def Zm.j6 (a0:Zd)(a1:Int)(x5:Bool):Bool:=
 (if x5=true then ((decide (0≤a0.fSub))&&(decide (a0.fSub<a1))) else false)
def Zm.j3 (a0:Zd)(a1:Int)(x2:Bool):Bool:=
 (if x2=true then decide (a0.fSub=0) else (if a0.fOp=3 then (Zm.j6 a0 a1 (decide (a0.fOp=3))) else (Zm.j6 a0 a1 (decide (a0.fOp=4)))))
def Zm (a0:Zd)(a1:Int):Bool:=
 (if a0.fOp=1 then (Zm.j3 a0 a1 (decide (a0.fOp=1))) else (Zm.j3 a0 a1 (decide (a0.fOp=2))))
theorem Zm.ok {a0 a1 r}(h:Zm a0 a1=r):ACalls qi 236 [.agg (yv a0),.int .i64 a1] [] (fun r' _=>r'=.bool r):=by
 refine zw (rs:=[.tmp 4]) tok Tryz.func236 rfl Tryz.ntmps236 rfl Tryz.call236 (by simp) ?_;refine zC [(0,.agg (yv a0)),(1,.int .i64 a1)] ⟨rfl,rfl,trivial⟩ ?_;unfold Zm at h
 refine rg tok [1,2] fun K hK=>?_
 simp only[go_sem,qe,qb,qa,qc,qd,qf,reduceIte,reduceCtorEq,yv];apply hK
 refine ze fun Z1 hZ1=>?_
 refine rgN [1,2,6] ?_;apply zt;refine xV (fun L τ=>∃ (x2:Bool),L=[(1,.int .i64 a1),(2,.op 0 0 0),(6,.int .i64 a0.fOp),(7,.bool x2)]∧τ=([.cells 0 [.int .i64 a0.fOp,.int .i64 a0.fTag,.int .i64 a0.fSub]]:zi)∧Zm.j3 a0 a1 x2=r) ?_ ?_
 · refine rg tok [1,2,6,7] fun K hK=>?_
   simp only[go_sem,qe,qb,qa,qc,qd,qf,reduceIte,reduceCtorEq,zV];apply hK
   refine yn rfl (fun hc13=>?_) (fun hc13=>?_)
   · rw[if_pos hc13] at h;have t14:=eq_true hc13;apply zp;exact⟨_,_,⟨decide (a0.fOp=1),rfl,rfl,h⟩,.s⟩
   rw[if_neg hc13] at h;have t15:=eq_false hc13
   refine rgE tok [1,2,6,7] fun K hK=>?_
   simp only[go_sem,qe,qb,qa,qc,qd,qf,reduceIte,reduceCtorEq,zV,t15];apply hK
   exact⟨_,_,⟨decide (a0.fOp=2),rfl,rfl,h⟩,.s⟩
 rintro _ _ ⟨x2,rfl,rfl,h⟩;unfold Zm.j3 at h;refine zY (b:=x2) rfl (fun hc4=>?_) (fun hc4=>?_)
 · rw[if_pos hc4] at h
   refine rg tok [4] fun K hK=>?_
   simp only[go_sem,qe,qb,qa,qc,qd,qf,reduceIte,reduceCtorEq,zV];apply hK
   cases h;exact rtA
 rw[Zg hc4] at h;refine xV (fun L τ=>∃ (x5:Bool),L=[(1,.int .i64 a1),(2,.op 0 0 0),(13,.bool x5)]∧τ=([.cells 0 [.int .i64 a0.fOp,.int .i64 a0.fTag,.int .i64 a0.fSub]]:zi)∧Zm.j6 a0 a1 x5=r) ?_ ?_
 · refine rg tok [1,2,6,13] fun K hK=>?_
   simp only[go_sem,qe,qb,qa,qc,qd,qf,reduceIte,reduceCtorEq,zV];apply hK
   refine yn rfl (fun hc10=>?_) (fun hc10=>?_)
   · rw[if_pos hc10] at h;have t11:=eq_true hc10;apply zp;exact⟨_,_,⟨decide (a0.fOp=3),rfl,rfl,h⟩,.s⟩
   rw[if_neg hc10] at h;have t12:=eq_false hc10
   refine rgE tok [1,2,13] fun K hK=>?_
   simp only[go_sem,qe,qb,qa,qc,qd,qf,reduceIte,reduceCtorEq,zV,t12];apply hK
   exact⟨_,_,⟨decide (a0.fOp=4),rfl,rfl,h⟩,.s⟩
 rintro _ _ ⟨x5,rfl,rfl,h⟩;unfold Zm.j6 at h;refine zY (b:=x5) rfl (fun hc7=>?_) (fun hc7=>?_)
 · rw[if_pos hc7] at h
   refine rc [4] fun K hK=>?_
   refine zd tok 4 ?_;simp only[go_sem,qe,qb,qa,qc,qd,qf,reduceIte,reduceCtorEq,zV];refine zI 5 (fun L τ=>L=[(24,.bool ((decide (0≤a0.fSub))&&(decide (a0.fSub<a1))))]∧τ=([.cells 0 [.int .i64 a0.fOp,.int .i64 a0.fTag,.int .i64 a0.fSub]]:zi)) ?_ ?_
   · refine wr 19 rfl (fun hg19=>?_) (fun hg19=>?_)
     · have t8:=eq_true hg19;refine zd tok 5 ?_;simp only[go_sem,qe,qb,qa,qc,qd,qf,reduceIte,reduceCtorEq,zV];refine zm ⟨rfl,_,_,⟨rfl,rfl⟩,.p t8⟩
     have t9:=eq_false hg19;refine zd tok 5 ?_;simp only[go_sem,qe,qb,qa,qc,qd,qf,reduceIte,reduceCtorEq,zV];refine zm ⟨rfl,_,_,⟨rfl,rfl⟩,.p t9⟩
   rintro _ _ ⟨rfl,rfl⟩;refine rnN 1 ?_;refine nkN hK ?_;cases h;exact rtA
 rw[Zg hc7] at h;apply zp;apply hZ1;refine rgN [4] ?_;cases h;exact rtA
def wt.l18 (a0:wg)(x6:Int)(rec8:Int→Bool):List Zd→Int→Int→Bool
 |[],x15,x14=>(rec8 (x6+1))
 |y18::q18,x15,x14=>bnd (if ((decide (y18.fTag≤x14))||(decide (500<y18.fTag)))=true then true else bnd (Zm y18 (qg a0.fParts:Int)) fun r27 => !r27) fun c27=>(if c27=true then false else ((wt.l18 a0 x6 rec8 q18) (x15+1) y18.fTag))
def wt.l8 (a0:wg):List (List Zd)→Int→Bool
 |[],x6=>true
 |y8::q8,x6=>(wt.l18 a0 x6 (wt.l8 a0 q8) y8 0 0)
def wt (a0:wg):Bool:=
 (if ((decide ((qg a0.fParts:Int)<1))||(decide (100<(qg a0.fParts:Int))))=true then false else (wt.l8 a0 a0.fParts 0))
theorem wt.ok {a0 r}(h:wt a0=r):ACalls qi 198 [.agg (zv a0)] [] (fun r' _=>r'=.bool r):=by
 refine zw (rs:=[.tmp 2]) tok Tryz.func198 rfl Tryz.ntmps198 rfl Tryz.call198 (by simp) ?_;refine zC [(0,.agg (zv a0))] ⟨rfl,trivial⟩ ?_;unfold wt at h
 refine rg tok [1] fun K hK=>?_
 simp only[go_sem,qe,qb,qa,qc,qd,qf,reduceIte,reduceCtorEq,zv];apply hK
 refine ze fun Z1 hZ1=>?_
 refine rc [1,17] fun K hK=>?_
 refine zd tok 5 ?_;simp only[go_sem,qe,qb,qa,qc,qd,qf,reduceIte,reduceCtorEq,zV];refine zI 5 (fun L τ=>L=[(1,.op 0 0 0),(17,.bool ((decide ((qg a0.fParts:Int)<1))||(decide (100<(qg a0.fParts:Int)))))]∧τ=([.cells 0 (zv a0)]:zi)) ?_ ?_
 · refine wr 12 rfl (fun hg12=>?_) (fun hg12=>?_)
   · have t2:=eq_true hg12;refine zd tok 5 ?_;simp only[go_sem,qe,qb,qa,qc,qd,qf,reduceIte,reduceCtorEq,zV];refine zm ⟨rfl,_,_,⟨rfl,rfl⟩,.p t2⟩
   have t3:=eq_false hg12;refine zd tok 5 ?_;simp only[go_sem,qe,qb,qa,qc,qd,qf,reduceIte,reduceCtorEq,zV];refine zm ⟨rfl,_,_,⟨rfl,rfl⟩,.p t3⟩
 rintro _ _ ⟨rfl,rfl⟩;refine nkN hK ?_;refine zY (b:=((decide ((qg a0.fParts:Int)<1))||(decide (100<(qg a0.fParts:Int))))) rfl (fun hc4=>?_) (fun hc4=>?_)
 · rw[if_pos hc4] at h;refine rgN [2] ?_;cases h;exact rtA
 rw[Zg hc4] at h;apply zp;apply hZ1
 refine ze fun Z5 hZ5=>?_
 refine rgN [1,19,20,21] ?_;apply zt
 refine xv 19 fun hb8=>?_
 replace hb8:qg a0.fParts≤9223372036854775807:=hb8.1;refine yh (fun m L τ=>∃ (p8 q8:List (List Zd)) (x6:Int),m=qg q8∧L=[(1,.op 0 0 0),(19,.ds true (qh (XO yv) a0.fParts) (qg a0.fParts) false),(20,.int .i64 (qg a0.fParts:Int)),(21,.int .i64 x6)]∧τ=([.cells 0 (zv a0)]:zi)∧a0.fParts=p8++q8∧x6=(qg p8:Int)∧wt.l8 a0 q8 x6=r) _ ⟨[],a0.fParts,0,rfl,rfl,rfl,rfl,rfl,h⟩ .s ?_;rintro m L τ ⟨p8,q8,x6,rfl,rfl,rfl,hE8,hi8,h⟩
 rcases q8 with _|⟨y8,q8⟩
 · have hz8:=xE hE8 hi8;simp only[wt.l8] at h
   refine rg tok [1,19,20,21,22] fun K hK=>?_
   simp only[go_sem,qe,qb,qa,qc,qd,qf,reduceIte,reduceCtorEq,zV,hz8];apply hK
   refine ze fun Z9 hZ9=>?_
   refine zK rfl ?_;apply ye;apply hZ5
   refine rg tok [2] fun K hK=>?_
   simp only[go_sem,qe,qb,qa,qc,qd,qf,reduceIte,reduceCtorEq,hz8];apply hK
   cases h;exact rtA
 obtain⟨hz8,hw8,hx8,hE'8,hi'8⟩:=yZ hE8 hi8 hb8;simp only[wt.l8] at h
 refine rg tok [1,19,20,21,22] fun K hK=>?_
 simp only[go_sem,qe,qb,qa,qc,qd,qf,reduceIte,reduceCtorEq,zV,hz8,hw8];apply hK
 refine ze fun Z10 hZ10=>?_
 refine zQ rfl ?_;apply zp;apply hZ10
 refine ze fun Z11 hZ11=>?_
 apply zt;have f12:=E176.idxS hx8;have f13:=E176.fldS0 (f:=246) rfl rfl hx8
 refine rg tok [1,4,19,20,21] fun K hK=>?_
 simp only[go_sem,qe,qb,qa,qc,qd,qf,reduceIte,reduceCtorEq,XO,hz8,hw8,f12,f13];apply hK
 refine rg tok [1,4,5,19,20,21] fun K hK=>?_
 simp only[go_sem,qe,qb,qa,qc,qd,qf,reduceIte,reduceCtorEq,hz8,hw8];apply hK
 refine rg tok [1,5,19,20,21,25,26,27] fun K hK=>?_
 simp only[go_sem,qe,qb,qa,qc,qd,qf,reduceIte,reduceCtorEq,hz8,hw8];apply hK
 apply zt
 refine xv 25 fun hb18=>?_
 replace hb18:qg y8≤9223372036854775807:=hb18.1;refine yh (fun m L τ=>∃ (p18 q18:List Zd) (x15:Int) (x14:Int),m=qg q18∧L=[(1,.op 0 0 0),(5,.int .i64 x14),(19,.ds true (qh (XO yv) a0.fParts) (qg a0.fParts) false),(20,.int .i64 (qg a0.fParts:Int)),(21,.int .i64 x6),(25,.ds true (qh yv y8) (qg y8) false),(26,.int .i64 (qg y8:Int)),(27,.int .i64 x15)]∧τ=([.cells 0 (zv a0)]:zi)∧y8=p18++q18∧x15=(qg p18:Int)∧wt.l18 a0 x6 (wt.l8 a0 q8) q18 x15 x14=r) _ ⟨[],y8,0,0,rfl,rfl,rfl,rfl,rfl,h⟩ .s ?_;rintro m L τ ⟨p18,q18,x15,x14,rfl,rfl,rfl,hE18,hi18,h⟩
 rcases q18 with _|⟨y18,q18⟩
 · have hz18:=xE hE18 hi18;simp only[wt.l18] at h
   refine rg tok [1,5,19,20,21,25,26,27,28] fun K hK=>?_
   simp only[go_sem,qe,qb,qa,qc,qd,qf,reduceIte,reduceCtorEq,zV,hz8,hw8,hz18];apply hK
   refine ze fun Z19 hZ19=>?_
   refine zK rfl ?_;apply ye;apply hZ11
   refine rgE tok [1,19,20,21] fun K hK=>?_
   simp only[go_sem,qe,qb,qa,qc,qd,qf,reduceIte,reduceCtorEq,zV,hz8,hw8,hz18];apply hK
   exact⟨_,_,_,qH q8.length,⟨p8++[y8],q8,x6+1,rfl,rfl,rfl,hE'8,hi'8,h⟩,.s⟩
 obtain⟨hz18,hw18,hx18,hE'18,hi'18⟩:=yZ hE18 hi18 hb18;simp only[wt.l18] at h
 refine rg tok [1,5,19,20,21,25,26,27,28] fun K hK=>?_
 simp only[go_sem,qe,qb,qa,qc,qd,qf,reduceIte,reduceCtorEq,zV,hz8,hw8,hz18,hw18];apply hK
 refine ze fun Z20 hZ20=>?_
 refine zQ rfl ?_;apply zp;apply hZ20
 refine ze fun Z21 hZ21=>?_
 apply zt;have f22:=E246.idxS hx18;have f23:=E246.loadS rfl rfl hx18
 refine rg tok [1,5,7,19,20,21,25,26,27] fun K hK=>?_
 simp only[go_sem,qe,qb,qa,qc,qd,qf,reduceIte,reduceCtorEq,yv,hz8,hw8,hz18,hw18,f22,f23];apply hK
 refine ze fun Z24 hZ24=>?_
 refine rc [1,7,19,20,21,25,26,27,47] fun K hK=>?_
 refine zd tok 5 ?_;simp only[go_sem,qe,qb,qa,qc,qd,qf,reduceIte,reduceCtorEq,zV,hz8,hw8,hz18,hw18];refine zI 4 (fun L τ=>L=[(1,.op 0 0 0),(7,.op 1 0 0),(19,.ds true (qh (XO yv) a0.fParts) (qg a0.fParts) false),(20,.int .i64 (qg a0.fParts:Int)),(21,.int .i64 x6),(25,.ds true (qh yv y8) (qg y8) false),(26,.int .i64 (qg y8:Int)),(27,.int .i64 x15),(39,.bool ((decide (y18.fTag≤x14))||(decide (500<y18.fTag))))]∧τ=([.cells 0 (zv a0),.cells 0 [.int .i64 y18.fOp,.int .i64 y18.fTag,.int .i64 y18.fSub]]:zi)) ?_ ?_
 · refine wr 35 rfl (fun hg35=>?_) (fun hg35=>?_)
   · have t25:=eq_true hg35;refine zd tok 4 ?_;simp only[go_sem,qe,qb,qa,qc,qd,qf,reduceIte,reduceCtorEq,zV,hz8,hw8,hz18,hw18];refine zm ⟨rfl,_,_,⟨rfl,rfl⟩,.p t25⟩
   have t26:=eq_false hg35;refine zd tok 4 ?_;simp only[go_sem,qe,qb,qa,qc,qd,qf,reduceIte,reduceCtorEq,zV,hz8,hw8,hz18,hw18];refine zm ⟨rfl,_,_,⟨rfl,rfl⟩,.p t26⟩
 rintro _ _ ⟨rfl,rfl⟩;refine zd tok 1 ?_;simp only[go_sem,qe,qb,qa,qc,qd,qf,reduceIte,reduceCtorEq,hz8,hw8,hz18,hw18];obtain⟨c27,hc27,h⟩:=yi h;refine zI 7 (fun L τ=>L=[(1,.op 0 0 0),(7,.op 1 0 0),(19,.ds true (qh (XO yv) a0.fParts) (qg a0.fParts) false),(20,.int .i64 (qg a0.fParts:Int)),(21,.int .i64 x6),(25,.ds true (qh yv y8) (qg y8) false),(26,.int .i64 (qg y8:Int)),(27,.int .i64 x15),(47,.bool c27)]∧τ=([.cells 0 (zv a0),.cells 0 [.int .i64 y18.fOp,.int .i64 y18.fTag,.int .i64 y18.fSub]]:zi)) ?_ ?_
 · refine yz (b:=((decide (y18.fTag≤x14))||(decide (500<y18.fTag)))) 40 rfl (fun hg40=>?_) (fun hg40=>?_)
   · rw[if_pos hg40] at hc27;refine zd tok 7 ?_;simp only[go_sem,qe,qb,qa,qc,qd,qf,reduceIte,reduceCtorEq,yv,hz8,hw8,hz18,hw18];subst hc27;refine zm ⟨rfl,_,_,⟨rfl,rfl⟩,.b hg40⟩
   rw[Zg hg40] at hc27;obtain⟨r28,hr28,hc27⟩:=yi hc27;refine zd tok 4 ?_;simp only[go_sem,qe,qb,qa,qc,qd,qf,reduceIte,reduceCtorEq,yv,hz8,hw8,hz18,hw18];refine clN rfl rfl rfl ((Zm.ok hr28).c _) ?_;refine zd tok 2 ?_;simp only[go_sem,qe,qb,qa,qc,qd,qf,reduceIte,reduceCtorEq,yv,hz8,hw8,hz18,hw18];subst hc27;refine zm ⟨rfl,_,_,⟨rfl,rfl⟩,.b hg40⟩
 rintro _ _ ⟨rfl,rfl⟩;refine nkN hK ?_;refine zY (b:=c27) rfl (fun hc29=>?_) (fun hc29=>?_)
 · rw[if_pos hc29] at h
   refine rg tok [2] fun K hK=>?_
   simp only[go_sem,qe,qb,qa,qc,qd,qf,reduceIte,reduceCtorEq,hz8,hw8,hz18,hw18];apply hK
   cases h;exact rtA
 rw[Zg hc29] at h;apply zp;apply hZ24
 refine rgE tok [1,5,19,20,21,25,26,27] fun K hK=>?_
 simp only[go_sem,qe,qb,qa,qc,qd,qf,reduceIte,reduceCtorEq,hz8,hw8,hz18,hw18];apply hK
 apply hZ21
 refine rgE tok [1,5,19,20,21,25,26,27] fun K hK=>?_
 simp only[go_sem,qe,qb,qa,qc,qd,qf,reduceIte,reduceCtorEq,zV,hz8,hw8,hz18,hw18];apply hK
 exact⟨_,_,_,qH q18.length,⟨p18++[y18],q18,x15+1,y18.fTag,rfl,rfl,rfl,hE'18,hi'18,h⟩,(.t [0] false)⟩
end
end Go.Proofs.YtaahlckibpiphaaGreatDoor
