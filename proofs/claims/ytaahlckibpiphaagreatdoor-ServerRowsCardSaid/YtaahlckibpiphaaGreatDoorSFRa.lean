/- Parts of the proof, cut down to what it needs. -/
import Derived.Test.YtaahlckibpiphaaGreatDoorSFR
set_option linter.constructorNameAsVariable false
set_option linter.unusedSimpArgs false
set_option linter.unusedVariables false
namespace Go.Proofs.YtaahlckibpiphaaGreatDoor
open _root_.List renaming length → qa, flatMap → qc, length_append → qk, length_cons → ql, map_nil → qn, map_cons → qq, length_nil → qr, append_assoc → qx, drop_zero → qz, mem_cons_self → qA, nil_append → qD, append_nil → qE, map_append → qF, cons_append → qH, range_zero → qQ, length_singleton → qS, flatMap_cons → qU, flatMap_append → qX, range_succ → qZ, all_cons → q9, all_nil → uc, flatMap_nil → uf, take_length → uj, eq_nil_of_length_eq_zero → ul, range → uD, filter_cons → uH, toList_toArray → ve

open _root_.Nat renaming reduceEqDiff → qb, reduceLT → qd, reduceAdd → qe, reduceLeDiff → qf, reduceMul → qj, reduceSub → qm, zero_add → qo, le_refl → qw, lt_succ_self → qy, reduceMod → ue, zero_le → uu, zero_mul → uw, add_assoc → vj
open _root_.Bool renaming or_true → qs, not_false → qt, not_true → qu, and_false → qv, and_true → qI, or_false → qK, and_self → qM, false_eq_true → ud, true_and → um, true_or → uA, false_or → uC, false_and → uY
open _root_.Int renaming toNat → qO
open _root_.BitVec renaming ofInt → qJ, toNat → ux
open _root_.Array renaming toList_map → vo
open _root_.UInt8 renaming ofNat → ub


open _root_.Go.Proofs.Tryz renaming prog → qg
section
set_option maxRecDepth 4000
set_option maxHeartbeats 1000000
open AM
def w4.l23 (r2:Bool×List (List UInt8×Bool)):List veu→Int→List (List UInt8×Bool)→List (Int×Bool)→Option (Int×List (List UInt8×Bool))
 |[],x19,l17,l18=>some (0,r2.2)
 |y23::q23,x19,l17,l18=>(xP l17 y23.fName).bind fun r30=>(if (!r30.1)=true then some (6,r2.2) else (if (((decide (y23.fN<0))||(decide (2147483647<y23.fN)))||((vak l18 y23.fN).getD false))=true then some (11,r2.2) else ((w4.l23 r2 q23) (x19+1) r30.2 (setM l18 y23.fN true))))
def w4.l12 (a1:wJ)(r2:Bool×List (List UInt8×Bool)):List veu→Int→Bool→Option (Int×List (List UInt8×Bool))
 |[],x9,x8=>(if (!x8)=true then some (12,r2.2) else (w4.l23 r2 a1.fValues 0 [] []))
 |y12::q12,x9,x8=>((w4.l12 a1 r2 q12) (x9+1) (x8||(decide (y12.fN=0))))
def w4 (a0:List (List UInt8×Bool))(a1:wJ):Option (Int×List (List UInt8×Bool)):=
 (xP a0 a1.fName).bind fun r2=>(if (!r2.1)=true then some (6,r2.2) else (if 16<(qa a1.fValues:Int) then some (4,r2.2) else (w4.l12 a1 r2 a1.fValues 0 false)))
theorem w4.ok {a0 a1 r}(h:w4 a0 a1=some r):ACalls qg 127 [.mp 0,.agg (zh a1)] [.map (yN AV.str AV.bool a0)] (fun r' σ'=>r'=.int .i64 r.1∧σ'=[.map (yN AV.str AV.bool r.2)]):=by
 refine ZO [0] (rs:=[.tmp 4]) U Tryz.func127 rfl Tryz.ntmps127 rfl Tryz.call127 (by simp) rfl ?_;refine zA [(0,.mp 0),(1,.agg (zh a1))] ⟨rfl,rfl,trivial⟩ ?_;unfold w4 at h
 refine rg U [0,3] fun K J=>?_
 simp only[go_sem,qd,qb,qe,reduceCtorEq,zh];apply J
 refine za fun Z1 hZ1=>?_
 apply zn
 refine rc [3,12] fun K J=>?_
 obtain⟨r2,hr2,h⟩:=bind_some h;refine O 3 ?_;refine clN rfl rfl rfl (@id (ACalls qg 128 [.mp 0,.str a1.fName] [.map (yN AV.str AV.bool a0),.cells 0 (zh a1)] (fun r' σ'=>r'=.bool r2.1∧σ'=[.map (yN AV.str AV.bool r2.2),.cells 0 (zh a1)])) ((xP.ok hr2).i [0])) ?_;refine O 2 ?_;refine nkN J ?_;refine zU (b:=(!r2.1)) rfl (fun hc3=>?_) (fun hc3=>?_)
 · rw[if_pos hc3] at h;refine D [4] ?_;apply yk;cases h;simp only[ZJ,yQ,yZ,xQ,exists_eq_left',go_sem,qe];refine⟨by decide,by simp,?_,?_⟩
   · first|rfl|(simp only[go_sem,qd,qf,qb,qe,qj,qm,reduceIte,reduceCtorEq,push_cast,if_true,qz,qo,qq,qn,qF,qs,qK,qI,qv,qu,qt,zz]<;>rfl)
   first|rfl|(simp only[go_sem,push_cast,qn]<;>rfl)
 rw[Zf hc3] at h;refine D [3,18] ?_;refine yn rfl (fun hc4=>?_) (fun hc4=>?_)
 · rw[if_pos hc4] at h;have t5:=eq_true hc4
   refine rg U [4] fun K J=>?_
   simp only[go_sem,qd,qb,t5];apply J
   apply yk;cases h;simp only[ZJ,yQ,yZ,xQ,exists_eq_left',go_sem,qe];refine⟨by decide,by simp,?_,?_⟩
   · first|rfl|(simp only[go_sem,qd,qf,qb,qe,qj,qm,reduceIte,reduceCtorEq,push_cast,if_true,qz,qo,qq,qn,qF,qs,qK,qI,qv,qu,qt,zz]<;>rfl)
   first|rfl|(simp only[go_sem,push_cast,qn]<;>rfl)
 rw[if_neg hc4] at h;have t6:=eq_false hc4;apply zj;apply hZ1
 refine rg U [3,5] fun K J=>?_
 simp only[go_sem,qd,qb,t6];apply J
 refine za fun Z7 hZ7=>?_
 refine D [3,5,24,25,26] ?_;apply zn
 refine xn 24 fun hb12=>?_
 replace hb12:qa a1.fValues≤9223372036854775807:=hb12.1;refine yh (fun m L τ=>∃ (p12 q12:List veu) (x9:Int) (x8:Bool),m=qa q12∧L=[(3,.op 1 0 0),(5,.bool x8),(24,.ds true (qc Zv a1.fValues) (qa a1.fValues) false),(25,.int .i64 (qa a1.fValues:Int)),(26,.int .i64 x9)]∧τ=([.map (yN AV.str AV.bool r2.2),.cells 0 (zh a1)]:ze)∧a1.fValues=p12++q12∧x9=(qa p12:Int)∧w4.l12 a1 r2 q12 x9 x8=some r) _ ⟨[],a1.fValues,0,false,rfl,rfl,rfl,rfl,rfl,h⟩ .s ?_;rintro m L τ ⟨p12,q12,x9,x8,rfl,rfl,rfl,hE12,hi12,h⟩
 rcases q12 with _|⟨y12,q12⟩
 · have hz12:=xC hE12 hi12;simp only[w4.l12] at h
   refine rg U [3,5,24,25,26,27] fun K J=>?_
   simp only[go_sem,qd,qb,hz12];apply J
   refine za fun Z13 hZ13=>?_
   refine zG rfl ?_;apply yf;apply hZ7
   refine za fun Z14 hZ14=>?_
   refine D [3,38] ?_;refine zU (b:=(!x8)) rfl (fun hc15=>?_) (fun hc15=>?_)
   · rw[if_pos hc15] at h;refine D [4] ?_;apply yk;cases h;simp only[ZJ,yQ,yZ,xQ,exists_eq_left',go_sem,qe];refine⟨by decide,by simp,?_,?_⟩
     · first|rfl|(simp only[go_sem,qd,qf,qb,qe,qj,qm,reduceIte,reduceCtorEq,push_cast,if_true,qz,qo,qq,qn,qF,qs,qK,qI,qv,qu,qt,zz]<;>rfl)
     first|rfl|(simp only[go_sem,push_cast,qn]<;>rfl)
   rw[Zf hc15] at h;apply zj;apply hZ14;refine D [3,8,9] ?_;refine Xy 2 rfl rfl ?_;refine Xy 3 rfl (τ:=[.map (yN AV.str AV.bool r2.2),.cells 0 (zh a1),.map (yN AV.str AV.bool []),.map (yN (AV.int .i64) AV.bool [])]) rfl ?_;refine yT (L:=[(3,.op 1 0 0),(8,.mp 2),(9,.mp 3)]) (τ:=[.map (yN AV.str AV.bool r2.2),.cells 0 (zh a1),.map (yN AV.str AV.bool []),.map (yN (AV.int .i64) AV.bool [])]) .s ?_
   refine za fun Z16 hZ16=>?_
   refine D [8,9,42,43,44] ?_;apply zn
   refine xn 42 fun hb23=>?_
   replace hb23:qa a1.fValues≤9223372036854775807:=hb23.1;refine yh (fun m L τ=>∃ (p23 q23:List veu) (x19:Int) (l17:List (List UInt8×Bool)) (l18:List (Int×Bool)),m=qa q23∧L=[(8,.mp 1),(9,.mp 2),(42,.ds true (qc Zv a1.fValues) (qa a1.fValues) false),(43,.int .i64 (qa a1.fValues:Int)),(44,.int .i64 x19)]∧τ=([.map (yN AV.str AV.bool r2.2),.map (yN AV.str AV.bool l17),.map (yN (AV.int .i64) AV.bool l18)]:ze)∧a1.fValues=p23++q23∧x19=(qa p23:Int)∧w4.l23 r2 q23 x19 l17 l18=some r) _ ⟨[],a1.fValues,0,[],[],rfl,rfl,rfl,rfl,rfl,h⟩ (.t [0,2,3] false) ?_;rintro m L τ ⟨p23,q23,x19,l17,l18,rfl,rfl,rfl,hE23,hi23,h⟩
   rcases q23 with _|⟨y23,q23⟩
   · have hz23:=xC hE23 hi23;simp only[w4.l23] at h
     refine rg U [8,9,42,43,44,45] fun K J=>?_
     simp only[go_sem,qd,qb,hz23];apply J
     refine za fun Z24 hZ24=>?_
     refine zG rfl ?_;apply yf;apply hZ16;refine D [4] ?_;apply yk;cases h;simp only[ZJ,yQ,yZ,xQ,exists_eq_left',go_sem,qe];refine⟨by decide,by simp,?_,?_⟩
     · first|rfl|(simp only[go_sem,qd,qf,qb,qe,qj,qm,reduceIte,reduceCtorEq,push_cast,if_true,qz,qo,qq,qn,qF,qs,qK,qI,qv,qu,qt,zz]<;>rfl)
     first|rfl|(simp only[go_sem,push_cast,qn]<;>rfl)
   obtain⟨hz23,hw23,hx23,hE'23,hi'23⟩:=yU hE23 hi23 hb23;simp only[w4.l23] at h
   refine rg U [8,9,42,43,44,45] fun K J=>?_
   simp only[go_sem,qd,qb,hz23];apply J
   refine za fun Z25 hZ25=>?_
   refine zK rfl ?_;apply zj;apply hZ25
   refine za fun Z26 hZ26=>?_
   apply zn;have f27:=E140.idxS hx23;have f28:=E140.loadS rfl rfl hx23
   refine rg U [8,9,11,42,43,44] fun K J=>?_
   simp only[go_sem,qd,qf,qb,qe,Zv,f27,f28];apply J
   refine za fun Z29 hZ29=>?_
   apply zn
   refine rc [8,9,11,42,43,44,48] fun K J=>?_
   obtain⟨r30,hr30,h⟩:=bind_some h;refine O 3 ?_;refine clN rfl rfl rfl (@id (ACalls qg 128 [.mp 1,.str y23.fName] [.map (yN AV.str AV.bool r2.2),.map (yN AV.str AV.bool l17),.map (yN (AV.int .i64) AV.bool l18),.cells 0 [.str y23.fName,.int .i64 y23.fN]] (fun r' σ'=>r'=.bool r30.1∧σ'=[.map (yN AV.str AV.bool r2.2),.map (yN AV.str AV.bool r30.2),.map (yN (AV.int .i64) AV.bool l18),.cells 0 [.str y23.fName,.int .i64 y23.fN]])) ((xP.ok hr30).i [1])) ?_;refine O 2 ?_;refine nkN J ?_;refine zU (b:=(!r30.1)) rfl (fun hc31=>?_) (fun hc31=>?_)
   · rw[if_pos hc31] at h;refine D [4] ?_;apply yk;cases h;simp only[ZJ,yQ,yZ,xQ,exists_eq_left',go_sem,qe];refine⟨by decide,by simp,?_,?_⟩
     · first|rfl|(simp only[go_sem,qd,qf,qb,qe,qj,qm,reduceIte,reduceCtorEq,push_cast,if_true,qz,qo,qq,qn,qF,qs,qK,qI,qv,qu,qt,zz]<;>rfl)
     first|rfl|(simp only[go_sem,push_cast,qn]<;>rfl)
   rw[Zf hc31] at h
   refine rc [8,9,11,42,43,44,54] fun K J=>?_
   refine O 4 ?_;refine zH 4 (fun L τ=>L=[(8,.mp 1),(9,.mp 2),(11,.op 3 0 0),(42,.ds true (qc Zv a1.fValues) (qa a1.fValues) false),(43,.int .i64 (qa a1.fValues:Int)),(44,.int .i64 x19),(62,.bool ((decide (y23.fN<0))||(decide (2147483647<y23.fN))))]∧τ=([.map (yN AV.str AV.bool r2.2),.map (yN AV.str AV.bool r30.2),.map (yN (AV.int .i64) AV.bool l18),.cells 0 [.str y23.fName,.int .i64 y23.fN]]:ze)) ?_ ?_
   · refine wh 58 rfl (fun hg58=>?_) (fun hg58=>?_)
     · have t32:=eq_true hg58;refine O 4 ?_;refine zi ⟨rfl,_,_,⟨rfl,rfl⟩,.p t32⟩
     have t33:=eq_false hg58;refine O 4 ?_;refine zi ⟨rfl,_,_,⟨rfl,rfl⟩,.p t33⟩
   rintro _ _ ⟨rfl,rfl⟩;refine O 1 ?_;refine zH 5 (fun L τ=>L=[(8,.mp 1),(9,.mp 2),(11,.op 3 0 0),(42,.ds true (qc Zv a1.fValues) (qa a1.fValues) false),(43,.int .i64 (qa a1.fValues:Int)),(44,.int .i64 x19),(68,.bool (((decide (y23.fN<0))||(decide (2147483647<y23.fN)))||((vak l18 y23.fN).getD false)))]∧τ=([.map (yN AV.str AV.bool r2.2),.map (yN AV.str AV.bool r30.2),.map (yN (AV.int .i64) AV.bool l18),.cells 0 [.str y23.fName,.int .i64 y23.fN]]:ze)) ?_ ?_
   · refine yB (b:=((decide (y23.fN<0))||(decide (2147483647<y23.fN)))) 63 rfl (fun hg63=>?_) (fun hg63=>?_)
     · refine zB U 5 ?_;simp only[go_sem,qd,qb,if_false,if_true];refine zi ⟨rfl,_,_,⟨rfl,rfl⟩,.b hg63⟩
     have f34:=fun (o0:Yy) (o1:Yy) (x:ze)=>va9 (T:=tab) (t:=265) (ek:=(AV.int .i64)) (ev:=AV.bool) (z:=false) (vdL.int rfl rfl rfl rfl) rfl rfl rfl rfl l18 y23.fN false (o0::o1::.map (yN (AV.int .i64) AV.bool l18)::x) 2 rfl
     refine zB U 5 ?_;simp only[go_sem,qd,qb,qe,vaI,ud,if_false,if_true,f34];refine zi ⟨rfl,_,_,⟨rfl,rfl⟩,.b hg63⟩
   rintro _ _ ⟨rfl,rfl⟩;refine O 1 ?_;refine nkN J ?_;refine zU (b:=(((decide (y23.fN<0))||(decide (2147483647<y23.fN)))||((vak l18 y23.fN).getD false))) rfl (fun hc35=>?_) (fun hc35=>?_)
   · rw[if_pos hc35] at h;refine D [4] ?_;apply yk;cases h;simp only[ZJ,yQ,yZ,xQ,exists_eq_left',go_sem,qe];refine⟨by decide,by simp,?_,?_⟩
     · first|rfl|(simp only[go_sem,qd,qf,qb,qe,qj,qm,reduceIte,reduceCtorEq,push_cast,if_true,qz,qo,qq,qn,qF,qs,qK,qI,qv,qu,qt,zz]<;>rfl)
     first|rfl|(simp only[go_sem,push_cast,qn]<;>rfl)
   rw[Zf hc35] at h;apply zj;apply hZ29
   have f36:=fun (o0:Yy) (o1:Yy) (x:ze)=>vcv (T:=tab) (t:=265) (ek:=(AV.int .i64)) (ev:=AV.bool) (vdL.int rfl rfl rfl rfl) rfl rfl l18 y23.fN true (o0::o1::.map (yN (AV.int .i64) AV.bool l18)::x) 2 rfl
   refine rgE U [8,9,42,43,44] fun K J=>?_
   simp only[go_sem,qd,qb,qe,f36];apply J
   apply hZ26
   refine rgE U [8,9,42,43,44] fun K J=>?_
   simp only[go_sem,qd,qb,hw23];apply J
   exact⟨_,_,_,qy q23.length,⟨p23++[y23],q23,x19+1,r30.2,setM l18 y23.fN true,rfl,rfl,rfl,hE'23,hi'23,h⟩,(.t [0,1,2] false)⟩
 obtain⟨hz12,hw12,hx12,hE'12,hi'12⟩:=yU hE12 hi12 hb12;simp only[w4.l12] at h
 refine rg U [3,5,24,25,26,27] fun K J=>?_
 simp only[go_sem,qd,qb,hz12];apply J
 refine za fun Z37 hZ37=>?_
 refine zK rfl ?_;apply zj;apply hZ37
 refine za fun Z38 hZ38=>?_
 apply zn;have f39:=E140.idxS hx12;have f40:=E140.loadS rfl rfl hx12
 refine rg U [3,5,7,24,25,26] fun K J=>?_
 simp only[go_sem,qd,qf,qb,qe,Zv,f39,f40];apply J
 refine rcE [3,5,24,25,26] fun K J=>?_
 refine O 2 ?_;refine zH 4 (fun L τ=>L=[(3,.op 1 0 0),(5,.bool x8),(24,.ds true (qc Zv a1.fValues) (qa a1.fValues) false),(25,.int .i64 (qa a1.fValues:Int)),(26,.int .i64 x9),(35,.bool (x8||(decide (y12.fN=0))))]∧τ=([.map (yN AV.str AV.bool r2.2),.cells 0 (zh a1),.cells 0 [.str y12.fName,.int .i64 y12.fN]]:ze)) ?_ ?_
 · refine yB (b:=x8) 31 rfl (fun hg31=>?_) (fun hg31=>?_)
   · refine O 4 ?_;refine zi ⟨rfl,_,_,⟨rfl,rfl⟩,.b hg31⟩
   refine O 4 ?_;refine zi ⟨rfl,_,_,⟨rfl,rfl⟩,.b hg31⟩
 rintro _ _ ⟨rfl,rfl⟩;refine O 1 ?_;refine nkN J ?_;apply hZ38
 refine rgE U [3,5,24,25,26] fun K J=>?_
 simp only[go_sem,qd,qb,hw12];apply J
 exact⟨_,_,_,qy q12.length,⟨p12++[y12],q12,x9+1,(x8||(decide (y12.fN=0))),rfl,rfl,rfl,hE'12,hi'12,h⟩,(.t [0,1] false)⟩
def yH.l29 (a0:zE):List Zg→Int→List (List UInt8×Bool)→Option Int
 |[],x26,l25=>some 0
 |y29::q29,x26,l25=>bnd (yq a0 y29.fIn) fun r35=>bnd (yq a0 y29.fOut) fun r36=>(xP l25 y29.fName).bind fun r37=>(if (!r37.1)=true then some 6 else (if ((!r35.2)||(!r36.2))=true then some 8 else ((yH.l29 a0 q29) (x26+1) r37.2)))
def yH.l22 (a0:zE):List wJ→Int→List (List UInt8×Bool)→Option Int
 |[],x19,l18=>(yH.l29 a0 a0.fMethods 0 [])
 |y22::q22,x19,l18=>(w4 l18 y22).bind fun r44=>(if r44.1=0 then ((yH.l22 a0 q22) (x19+1) r44.2) else some r44.1)
def yH.l15 (a0:zE):List ya→Int→List (List UInt8×Bool)→Option Int
 |[],x12,l11=>(yH.l22 a0 a0.fEnums 0 l11)
 |y15::q15,x12,l11=>(wd a0 l11 y15).bind fun r52=>(if r52.1=0 then ((yH.l15 a0 q15) (x12+1) r52.2) else some r52.1)
def yH (a0:zE):Option Int:=
 (ZU a0.fName).bind fun r2=>(if (!r2)=true then some 6 else (if (qa a0.fMessages:Int)=0 then some 12 else (if (((decide (10<(qa a0.fMessages:Int)))||(decide (6<(qa a0.fEnums:Int))))||(decide (6<(qa a0.fMethods:Int))))=true then some 4 else (yH.l15 a0 a0.fMessages 0 []))))
theorem yH.ok {a0 r}(h:yH a0=some r):ACalls qg 82 [.agg (zb a0)] [] (fun r' _=>r'=.int .i64 r):=by
 refine zt (rs:=[.tmp 2]) U Tryz.func82 rfl Tryz.ntmps82 rfl Tryz.call82 (by simp) ?_;refine zA [(0,.agg (zb a0))] ⟨rfl,trivial⟩ ?_;unfold yH at h
 refine rg U [1] fun K J=>?_
 simp only[go_sem,qd,qb,qe,reduceCtorEq,zb];apply J
 refine za fun Z1 hZ1=>?_
 apply zn
 refine rc [1,17] fun K J=>?_
 obtain⟨r2,hr2,h⟩:=bind_some h;refine O 2 ?_;refine clN rfl rfl rfl ((ZU.ok hr2).c _) ?_;refine O 2 ?_;refine nkN J ?_;refine zU (b:=(!r2)) rfl (fun hc3=>?_) (fun hc3=>?_)
 · rw[if_pos hc3] at h;refine D [2] ?_;cases h;exact rtA
 rw[Zf hc3] at h;refine D [1,22] ?_;refine yn rfl (fun hc4=>?_) (fun hc4=>?_)
 · rw[if_pos hc4] at h;have t5:=eq_true hc4
   refine rg U [2] fun K J=>?_
   simp only[go_sem,qd,qb,t5];apply J
   cases h;exact rtA
 rw[if_neg hc4] at h;have t6:=eq_false hc4
 refine rc [1,27] fun K J=>?_
 refine zB U 5 ?_;simp only[go_sem,qd,qb,qe,t6];refine zH 5 (fun L τ=>L=[(1,.op 0 0 0),(37,.bool ((decide (10<(qa a0.fMessages:Int)))||(decide (6<(qa a0.fEnums:Int)))))]∧τ=([.cells 0 (zb a0)]:ze)) ?_ ?_
 · refine wh 32 rfl (fun hg32=>?_) (fun hg32=>?_)
   · have t7:=eq_true hg32;refine O 5 ?_;refine zi ⟨rfl,_,_,⟨rfl,rfl⟩,.p t7⟩
   have t8:=eq_false hg32;refine O 5 ?_;refine zi ⟨rfl,_,_,⟨rfl,rfl⟩,.p t8⟩
 rintro _ _ ⟨rfl,rfl⟩;refine O 1 ?_;refine zH 5 (fun L τ=>L=[(1,.op 0 0 0),(43,.bool (((decide (10<(qa a0.fMessages:Int)))||(decide (6<(qa a0.fEnums:Int))))||(decide (6<(qa a0.fMethods:Int)))))]∧τ=([.cells 0 (zb a0)]:ze)) ?_ ?_
 · refine yB (b:=((decide (10<(qa a0.fMessages:Int)))||(decide (6<(qa a0.fEnums:Int))))) 38 rfl (fun hg38=>?_) (fun hg38=>?_)
   · refine O 5 ?_;refine zi ⟨rfl,_,_,⟨rfl,rfl⟩,.b hg38⟩
   refine O 5 ?_;refine zi ⟨rfl,_,_,⟨rfl,rfl⟩,.b hg38⟩
 rintro _ _ ⟨rfl,rfl⟩;refine O 1 ?_;refine nkN J ?_;refine zU (b:=(((decide (10<(qa a0.fMessages:Int)))||(decide (6<(qa a0.fEnums:Int))))||(decide (6<(qa a0.fMethods:Int))))) rfl (fun hc9=>?_) (fun hc9=>?_)
 · rw[if_pos hc9] at h;refine D [2] ?_;cases h;exact rtA
 rw[Zf hc9] at h;apply zj;apply hZ1;refine D [1,3] ?_;refine Xy 1 rfl (τ:=[.cells 0 (zb a0),.map (yN AV.str AV.bool [])]) rfl ?_;refine yT (L:=[(1,.op 0 0 0),(3,.mp 1)]) (τ:=[.cells 0 (zb a0),.map (yN AV.str AV.bool [])]) .s ?_
 refine za fun Z10 hZ10=>?_
 refine D [1,3,46,47,48] ?_;apply zn
 refine xn 46 fun hb15=>?_
 replace hb15:qa a0.fMessages≤9223372036854775807:=hb15.1;refine yh (fun m L τ=>∃ (p15 q15:List ya) (x12:Int) (l11:List (List UInt8×Bool)),m=qa q15∧L=[(1,.op 0 0 0),(3,.mp 1),(46,.ds true (qc zf a0.fMessages) (qa a0.fMessages) false),(47,.int .i64 (qa a0.fMessages:Int)),(48,.int .i64 x12)]∧τ=([.cells 0 (zb a0),.map (yN AV.str AV.bool l11)]:ze)∧a0.fMessages=p15++q15∧x12=(qa p15:Int)∧yH.l15 a0 q15 x12 l11=some r) _ ⟨[],a0.fMessages,0,[],rfl,rfl,rfl,rfl,rfl,h⟩ .s ?_;rintro m L τ ⟨p15,q15,x12,l11,rfl,rfl,rfl,hE15,hi15,h⟩
 rcases q15 with _|⟨y15,q15⟩
 · have hz15:=xC hE15 hi15;simp only[yH.l15] at h
   refine rg U [1,3,46,47,48,49] fun K J=>?_
   simp only[go_sem,qd,qb,hz15];apply J
   refine za fun Z16 hZ16=>?_
   refine zG rfl ?_;apply yf;apply hZ10
   refine za fun Z17 hZ17=>?_
   refine D [1,3,61,62,63] ?_;apply zn
   refine xn 61 fun hb22=>?_
   replace hb22:qa a0.fEnums≤9223372036854775807:=hb22.1;refine yh (fun m L τ=>∃ (p22 q22:List wJ) (x19:Int) (l18:List (List UInt8×Bool)),m=qa q22∧L=[(1,.op 0 0 0),(3,.mp 1),(61,.ds true (qc zh a0.fEnums) (qa a0.fEnums) false),(62,.int .i64 (qa a0.fEnums:Int)),(63,.int .i64 x19)]∧τ=([.cells 0 (zb a0),.map (yN AV.str AV.bool l18)]:ze)∧a0.fEnums=p22++q22∧x19=(qa p22:Int)∧yH.l22 a0 q22 x19 l18=some r) _ ⟨[],a0.fEnums,0,l11,rfl,rfl,rfl,rfl,rfl,h⟩ .s ?_;rintro m L τ ⟨p22,q22,x19,l18,rfl,rfl,rfl,hE22,hi22,h⟩
   rcases q22 with _|⟨y22,q22⟩
   · have hz22:=xC hE22 hi22;simp only[yH.l22] at h
     refine rg U [1,3,61,62,63,64] fun K J=>?_
     simp only[go_sem,qd,qb,hz22];apply J
     refine za fun Z23 hZ23=>?_
     refine zG rfl ?_;apply yf;apply hZ17;refine D [1,10] ?_;refine Xy 2 rfl (τ:=[.cells 0 (zb a0),.map (yN AV.str AV.bool l18),.map (yN AV.str AV.bool [])]) rfl ?_;refine yT (L:=[(1,.op 0 0 0),(10,.mp 2)]) (τ:=[.cells 0 (zb a0),.map (yN AV.str AV.bool l18),.map (yN AV.str AV.bool [])]) .s ?_
     refine za fun Z24 hZ24=>?_
     refine D [1,10,76,77,78] ?_;apply zn
     refine xn 76 fun hb29=>?_
     replace hb29:qa a0.fMethods≤9223372036854775807:=hb29.1;refine yh (fun m L τ=>∃ (p29 q29:List Zg) (x26:Int) (l25:List (List UInt8×Bool)),m=qa q29∧L=[(1,.op 0 0 0),(10,.mp 1),(76,.ds true (qc zq a0.fMethods) (qa a0.fMethods) false),(77,.int .i64 (qa a0.fMethods:Int)),(78,.int .i64 x26)]∧τ=([.cells 0 (zb a0),.map (yN AV.str AV.bool l25)]:ze)∧a0.fMethods=p29++q29∧x26=(qa p29:Int)∧yH.l29 a0 q29 x26 l25=some r) _ ⟨[],a0.fMethods,0,[],rfl,rfl,rfl,rfl,rfl,h⟩ (.t [0,2] false) ?_;rintro m L τ ⟨p29,q29,x26,l25,rfl,rfl,rfl,hE29,hi29,h⟩
     rcases q29 with _|⟨y29,q29⟩
     · have hz29:=xC hE29 hi29;simp only[yH.l29] at h
       refine rg U [1,10,76,77,78,79] fun K J=>?_
       simp only[go_sem,qd,qb,hz29];apply J
       refine za fun Z30 hZ30=>?_
       refine zG rfl ?_;apply yf;apply hZ24;refine D [2] ?_;cases h;exact rtA
     obtain⟨hz29,hw29,hx29,hE'29,hi'29⟩:=yU hE29 hi29 hb29;simp only[yH.l29] at h
     refine rg U [1,10,76,77,78,79] fun K J=>?_
     simp only[go_sem,qd,qb,hz29];apply J
     refine za fun Z31 hZ31=>?_
     refine zK rfl ?_;apply zj;apply hZ31
     refine za fun Z32 hZ32=>?_
     apply zn;have f33:=E29.idxS hx29;have f34:=E29.loadS rfl rfl hx29
     refine rg U [1,10,12,76,77,78] fun K J=>?_
     simp only[go_sem,qd,qf,qb,qe,zq,f33,f34];apply J
     refine rc [1,10,12,14,76,77,78] fun K J=>?_
     obtain⟨r35,hr35,h⟩:=ye h;refine O 3 ?_;refine clN rfl rfl rfl ((yq.ok hr35).c _) ?_;refine zB U 6 ?_;simp only[go_sem,qd,qf,qb,qe,zf];refine nkN J ?_
     refine rc [1,10,12,14,16,76,77,78] fun K J=>?_
     obtain⟨r36,hr36,h⟩:=ye h;refine O 3 ?_;refine clN rfl rfl rfl ((yq.ok hr36).c _) ?_;refine zB U 6 ?_;simp only[go_sem,qd,qf,qb,qe,zf];refine nkN J ?_;apply zn
     refine rc [1,10,14,16,76,77,78,96] fun K J=>?_
     obtain⟨r37,hr37,h⟩:=bind_some h;refine O 3 ?_;refine clN rfl rfl rfl (@id (ACalls qg 128 [.mp 1,.str y29.fName] [.cells 0 (zb a0),.map (yN AV.str AV.bool l25),.cells 0 [.str y29.fName,.str y29.fIn,.str y29.fOut],.cells 0 (zf r35.1),.cells 0 (zf r36.1)] (fun r' σ'=>r'=.bool r37.1∧σ'=[.cells 0 (zb a0),.map (yN AV.str AV.bool r37.2),.cells 0 [.str y29.fName,.str y29.fIn,.str y29.fOut],.cells 0 (zf r35.1),.cells 0 (zf r36.1)])) ((xP.ok hr37).i [1])) ?_;refine O 2 ?_;refine nkN J ?_;refine zU (b:=(!r37.1)) rfl (fun hc38=>?_) (fun hc38=>?_)
     · rw[if_pos hc38] at h;refine D [2] ?_;cases h;exact rtA
     rw[Zf hc38] at h
     refine rc [1,10,76,77,78,102] fun K J=>?_
     refine O 3 ?_;refine zH 3 (fun L τ=>L=[(1,.op 0 0 0),(10,.mp 1),(76,.ds true (qc zq a0.fMethods) (qa a0.fMethods) false),(77,.int .i64 (qa a0.fMethods:Int)),(78,.int .i64 x26),(108,.bool ((!r35.2)||(!r36.2)))]∧τ=([.cells 0 (zb a0),.map (yN AV.str AV.bool r37.2),.cells 0 [.str y29.fName,.str y29.fIn,.str y29.fOut],.cells 0 (zf r35.1),.cells 0 (zf r36.1)]:ze)) ?_ ?_
     · refine yB (b:=(!r35.2)) 105 rfl (fun hg105=>?_) (fun hg105=>?_)
       · refine O 3 ?_;refine zi ⟨rfl,_,_,⟨rfl,rfl⟩,.b hg105⟩
       refine O 3 ?_;refine zi ⟨rfl,_,_,⟨rfl,rfl⟩,.b hg105⟩
     rintro _ _ ⟨rfl,rfl⟩;refine O 1 ?_;refine nkN J ?_;refine zU (b:=((!r35.2)||(!r36.2))) rfl (fun hc39=>?_) (fun hc39=>?_)
     · rw[if_pos hc39] at h;refine D [2] ?_;cases h;exact rtA
     rw[Zf hc39] at h;apply zj;apply hZ32
     refine rgE U [1,10,76,77,78] fun K J=>?_
     simp only[go_sem,qd,qb,hw29];apply J
     exact⟨_,_,_,qy q29.length,⟨p29++[y29],q29,x26+1,r37.2,rfl,rfl,rfl,hE'29,hi'29,h⟩,(.t [0,1] false)⟩
   obtain⟨hz22,hw22,hx22,hE'22,hi'22⟩:=yU hE22 hi22 hb22;simp only[yH.l22] at h
   refine rg U [1,3,61,62,63,64] fun K J=>?_
   simp only[go_sem,qd,qb,hz22];apply J
   refine za fun Z40 hZ40=>?_
   refine zK rfl ?_;apply zj;apply hZ40
   refine za fun Z41 hZ41=>?_
   apply zn;have f42:=E28.idxS hx22;have f43:=E28.loadS rfl rfl hx22
   refine rg U [1,3,8,61,62,63] fun K J=>?_
   simp only[go_sem,qd,qf,qb,qe,zh,f42,f43];apply J
   refine rc [1,3,9,61,62,63] fun K J=>?_
   obtain⟨r44,hr44,h⟩:=bind_some h;refine O 2 ?_;refine clN rfl rfl rfl (@id (ACalls qg 127 [.mp 1,.agg (zh y22)] [.cells 0 (zb a0),.map (yN AV.str AV.bool l18),.cells 0 (zh y22)] (fun r' σ'=>r'=.int .i64 r44.1∧σ'=[.cells 0 (zb a0),.map (yN AV.str AV.bool r44.2),.cells 0 (zh y22)])) ((w4.ok hr44).i [1])) ?_;refine O 1 ?_;refine nkN J ?_;refine D [1,3,9,61,62,63,71] ?_;refine yn rfl (fun hc45=>?_) (fun hc45=>?_)
   · rw[if_neg hc45] at h;have t46:=eq_false hc45
     refine rg U [2] fun K J=>?_
     simp only[go_sem,qd,qb,t46];apply J
     cases h;exact rtA
   rw[if_pos hc45] at h;have t47:=eq_true hc45;apply zj;apply hZ41
   refine rgE U [1,3,61,62,63] fun K J=>?_
   simp only[go_sem,qd,qb,hw22,t47];apply J
   exact⟨_,_,_,qy q22.length,⟨p22++[y22],q22,x19+1,r44.2,rfl,rfl,rfl,hE'22,hi'22,h⟩,(.t [0,1] false)⟩
 obtain⟨hz15,hw15,hx15,hE'15,hi'15⟩:=yU hE15 hi15 hb15;simp only[yH.l15] at h
 refine rg U [1,3,46,47,48,49] fun K J=>?_
 simp only[go_sem,qd,qb,hz15];apply J
 refine za fun Z48 hZ48=>?_
 refine zK rfl ?_;apply zj;apply hZ48
 refine za fun Z49 hZ49=>?_
 apply zn;have f50:=E27.idxS hx15;have f51:=E27.loadS rfl rfl hx15
 refine rg U [1,3,5,46,47,48] fun K J=>?_
 simp only[go_sem,qd,qf,qb,qe,zf,f50,f51];apply J
 refine rc [1,3,6,46,47,48] fun K J=>?_
 obtain⟨r52,hr52,h⟩:=bind_some h;refine O 3 ?_;refine clN rfl rfl rfl (@id (ACalls qg 126 [.agg (zb a0),.mp 1,.agg (zf y15)] [.cells 0 (zb a0),.map (yN AV.str AV.bool l11),.cells 0 (zf y15)] (fun r' σ'=>r'=.int .i64 r52.1∧σ'=[.cells 0 (zb a0),.map (yN AV.str AV.bool r52.2),.cells 0 (zf y15)])) ((wd.ok hr52).i [1])) ?_;refine O 1 ?_;refine nkN J ?_;refine D [1,3,6,46,47,48,57] ?_;refine yn rfl (fun hc53=>?_) (fun hc53=>?_)
 · rw[if_neg hc53] at h;have t54:=eq_false hc53
   refine rg U [2] fun K J=>?_
   simp only[go_sem,qd,qb,t54];apply J
   cases h;exact rtA
 rw[if_pos hc53] at h;have t55:=eq_true hc53;apply zj;apply hZ49
 refine rgE U [1,3,46,47,48] fun K J=>?_
 simp only[go_sem,qd,qb,hw15,t55];apply J
 exact⟨_,_,_,qy q15.length,⟨p15++[y15],q15,x12+1,r52.2,rfl,rfl,rfl,hE'15,hi'15,h⟩,(.t [0,1] false)⟩
def Zw.l10 (a2:List zE):List Int→Int→Int→Option Bool
 |[],x7,x6=>some true
 |y10::q10,x7,x6=>(if ((decide (y10≤x6))||(decide (12<y10)))=true then some true else (Yz a2 x7).bind fun y19=>(yH y19).bind fun r22=>some (!(decide (r22=0)))).bind fun c19=>(if c19=true then some false else ((Zw.l10 a2 q10) (x7+1) y10))
def Zw (a0:Int)(a1:List Int)(a2:List zE):Option Bool:=
 (if (((((decide ((qa a1:Int)<1))||(decide (12<(qa a1:Int))))||(!(decide ((qa a2:Int)=(qa a1:Int)))))||(decide (a0<0)))||(decide (255<a0)))=true then some false else (Zw.l10 a2 a1 0 0))
theorem Zw.ok {a0 a1 a2 r}(h:Zw a0 a1 a2=some r):ACalls qg 58 [.int .i64 a0,.ds true (qc wN a1) (qa a1) false,.ds true (qc zb a2) (qa a2) false] [] (fun r' _=>r'=.bool r):=by
 refine zt (rs:=[.tmp 6]) U Tryz.func58 rfl Tryz.ntmps58 rfl Tryz.call58 (by simp) ?_;refine zA [(0,.int .i64 a0),(1,.ds true (qc wN a1) (qa a1) false),(2,.ds true (qc zb a2) (qa a2) false)] ⟨rfl,rfl,rfl,trivial⟩ ?_;unfold Zw at h;refine D [0,1,2] ?_
 refine za fun Z1 hZ1=>?_
 refine rc [1,2,32] fun K J=>?_
 refine O 4 ?_;refine zH 4 (fun L τ=>L=[(0,.int .i64 a0),(1,.ds true (qc wN a1) (qa a1) false),(2,.ds true (qc zb a2) (qa a2) false),(17,.bool ((decide ((qa a1:Int)<1))||(decide (12<(qa a1:Int)))))]∧τ=([]:ze)) ?_ ?_
 · refine wh 13 rfl (fun hg13=>?_) (fun hg13=>?_)
   · have t2:=eq_true hg13;refine O 4 ?_;refine zi ⟨rfl,_,_,⟨rfl,rfl⟩,.p t2⟩
   have t3:=eq_false hg13;refine O 4 ?_;refine zi ⟨rfl,_,_,⟨rfl,rfl⟩,.p t3⟩
 rintro _ _ ⟨rfl,rfl⟩;refine O 1 ?_;refine zH 6 (fun L τ=>L=[(0,.int .i64 a0),(1,.ds true (qc wN a1) (qa a1) false),(2,.ds true (qc zb a2) (qa a2) false),(24,.bool (((decide ((qa a1:Int)<1))||(decide (12<(qa a1:Int))))||(!(decide ((qa a2:Int)=(qa a1:Int))))))]∧τ=([]:ze)) ?_ ?_
 · refine yB (b:=((decide ((qa a1:Int)<1))||(decide (12<(qa a1:Int))))) 18 rfl (fun hg18=>?_) (fun hg18=>?_)
   · refine O 6 ?_;refine zi ⟨rfl,_,_,⟨rfl,rfl⟩,.b hg18⟩
   refine O 6 ?_;refine zi ⟨rfl,_,_,⟨rfl,rfl⟩,.b hg18⟩
 rintro _ _ ⟨rfl,rfl⟩;refine O 1 ?_;refine zH 3 (fun L τ=>L=[(0,.int .i64 a0),(1,.ds true (qc wN a1) (qa a1) false),(2,.ds true (qc zb a2) (qa a2) false),(28,.bool ((((decide ((qa a1:Int)<1))||(decide (12<(qa a1:Int))))||(!(decide ((qa a2:Int)=(qa a1:Int)))))||(decide (a0<0))))]∧τ=([]:ze)) ?_ ?_
 · refine yB (b:=(((decide ((qa a1:Int)<1))||(decide (12<(qa a1:Int))))||(!(decide ((qa a2:Int)=(qa a1:Int)))))) 25 rfl (fun hg25=>?_) (fun hg25=>?_)
   · refine O 3 ?_;refine zi ⟨rfl,_,_,⟨rfl,rfl⟩,.b hg25⟩
   refine O 3 ?_;refine zi ⟨rfl,_,_,⟨rfl,rfl⟩,.b hg25⟩
 rintro _ _ ⟨rfl,rfl⟩;refine O 1 ?_;refine zH 3 (fun L τ=>L=[(1,.ds true (qc wN a1) (qa a1) false),(2,.ds true (qc zb a2) (qa a2) false),(32,.bool (((((decide ((qa a1:Int)<1))||(decide (12<(qa a1:Int))))||(!(decide ((qa a2:Int)=(qa a1:Int)))))||(decide (a0<0)))||(decide (255<a0))))]∧τ=([]:ze)) ?_ ?_
 · refine yB (b:=((((decide ((qa a1:Int)<1))||(decide (12<(qa a1:Int))))||(!(decide ((qa a2:Int)=(qa a1:Int)))))||(decide (a0<0)))) 29 rfl (fun hg29=>?_) (fun hg29=>?_)
   · refine O 3 ?_;refine zi ⟨rfl,_,_,⟨rfl,rfl⟩,.b hg29⟩
   refine O 3 ?_;refine zi ⟨rfl,_,_,⟨rfl,rfl⟩,.b hg29⟩
 rintro _ _ ⟨rfl,rfl⟩;refine nkN J ?_;refine zU (b:=(((((decide ((qa a1:Int)<1))||(decide (12<(qa a1:Int))))||(!(decide ((qa a2:Int)=(qa a1:Int)))))||(decide (a0<0)))||(decide (255<a0)))) rfl (fun hc4=>?_) (fun hc4=>?_)
 · rw[if_pos hc4] at h;refine D [6] ?_;cases h;exact rtA
 rw[Zf hc4] at h;apply zj;apply hZ1;refine D [1,2,7] ?_
 refine za fun Z5 hZ5=>?_
 refine D [2,7,33,34,35] ?_;apply zn
 refine xn 33 fun hb10=>?_
 replace hb10:qa a1≤9223372036854775807:=hb10.1;refine yh (fun m L τ=>∃ (p10 q10:List Int) (x7:Int) (x6:Int),m=qa q10∧L=[(2,.ds true (qc zb a2) (qa a2) false),(7,.int .i64 x6),(33,.ds true (qc wN a1) (qa a1) false),(34,.int .i64 (qa a1:Int)),(35,.int .i64 x7)]∧τ=([]:ze)∧a1=p10++q10∧x7=(qa p10:Int)∧Zw.l10 a2 q10 x7 x6=some r) _ ⟨[],a1,0,0,rfl,rfl,rfl,rfl,rfl,h⟩ .s ?_;rintro m L τ ⟨p10,q10,x7,x6,rfl,rfl,rfl,hE10,hi10,h⟩
 rcases q10 with _|⟨y10,q10⟩
 · have hz10:=xC hE10 hi10;simp only[Zw.l10] at h
   refine rg U [2,7,33,34,35,36] fun K J=>?_
   simp only[go_sem,qd,qb,hz10];apply J
   refine za fun Z11 hZ11=>?_
   refine zG rfl ?_;apply yf;apply hZ5;refine D [6] ?_;cases h;exact rtA
 obtain⟨hz10,hw10,hx10,hE'10,hi'10⟩:=yU hE10 hi10 hb10;simp only[Zw.l10] at h
 refine rg U [2,7,33,34,35,36] fun K J=>?_
 simp only[go_sem,qd,qb,hz10];apply J
 refine za fun Z12 hZ12=>?_
 refine zK rfl ?_;apply zj;apply hZ12
 refine za fun Z13 hZ13=>?_
 apply zn;have f14:=E26.idxS hx10;have f15:=E26.fldS0 (f:=3) rfl rfl hx10
 refine rg U [2,7,8,9,33,34,35] fun K J=>?_
 simp only[go_sem,qd,qb,wN,f14,f15];apply J
 refine za fun Z16 hZ16=>?_
 refine rc [2,9,33,34,35,54] fun K J=>?_
 refine O 4 ?_;refine zH 3 (fun L τ=>L=[(2,.ds true (qc zb a2) (qa a2) false),(8,.int .i64 x7),(9,.int .i64 y10),(33,.ds true (qc wN a1) (qa a1) false),(34,.int .i64 (qa a1:Int)),(35,.int .i64 x7),(46,.bool ((decide (y10≤x6))||(decide (12<y10))))]∧τ=([]:ze)) ?_ ?_
 · refine wh 43 rfl (fun hg43=>?_) (fun hg43=>?_)
   · have t17:=eq_true hg43;refine O 3 ?_;refine zi ⟨rfl,_,_,⟨rfl,rfl⟩,.p t17⟩
   have t18:=eq_false hg43;refine O 3 ?_;refine zi ⟨rfl,_,_,⟨rfl,rfl⟩,.p t18⟩
 rintro _ _ ⟨rfl,rfl⟩;refine O 1 ?_;obtain⟨c19,hc19,h⟩:=bind_some h;refine zH 7 (fun L τ=>L=[(2,.ds true (qc zb a2) (qa a2) false),(9,.int .i64 y10),(33,.ds true (qc wN a1) (qa a1) false),(34,.int .i64 (qa a1:Int)),(35,.int .i64 x7),(54,.bool c19)]∧τ=([]:ze)) ?_ ?_
 · refine yB (b:=((decide (y10≤x6))||(decide (12<y10)))) 47 rfl (fun hg47=>?_) (fun hg47=>?_)
   · rw[if_pos hg47] at hc19;refine O 7 ?_;cases hc19;refine zi ⟨rfl,_,_,⟨rfl,rfl⟩,.b hg47⟩
   rw[Zf hg47] at hc19;obtain⟨y20,hy20,hc19⟩:=bind_some hc19;have f21:=E33.idxS hy20;have f22:=E33.loadS rfl rfl hy20;obtain⟨r23,hr23,hc19⟩:=bind_some hc19;refine zB U 4 ?_;simp only[go_sem,qd,qb,zb,f21,f22];refine clN rfl rfl rfl ((yH.ok hr23).c _) ?_;refine O 2 ?_;cases hc19;refine zi ⟨rfl,_,_,⟨rfl,rfl⟩,.b hg47⟩
 rintro _ _ ⟨rfl,rfl⟩;refine nkN J ?_;refine zU (b:=c19) rfl (fun hc24=>?_) (fun hc24=>?_)
 · rw[if_pos hc24] at h;refine D [6] ?_;cases h;exact rtA
 rw[Zf hc24] at h;apply zj;apply hZ16
 refine rgE U [2,7,33,34,35] fun K J=>?_
 simp only[go_sem,qd,qb];apply J
 apply hZ13
 refine rgE U [2,7,33,34,35] fun K J=>?_
 simp only[go_sem,qd,qb,hw10];apply J
 exact⟨_,_,_,qy q10.length,⟨p10++[y10],q10,x7+1,y10,rfl,rfl,rfl,hE'10,hi'10,h⟩,.s⟩
def wi.l4 (a1:List UInt8):List Zg→Int→Zg×Bool
 |[],x2=>((⟨[],[],[]⟩:Zg),false)
 |y4::q4,x2=>(if y4.fName=a1 then (y4,true) else ((wi.l4 a1 q4) (x2+1)))
def wi (a0:zE)(a1:List UInt8):Zg×Bool:=
 (wi.l4 a1 a0.fMethods 0)
theorem wi.ok {a0 a1 r}(h:wi a0 a1=r):ACalls qg 59 [.agg (zb a0),.str a1] [] (fun r' _=>r'=.tup [.agg (zq r.1),.bool r.2]):=by
 refine zt (rs:=[.cell 4 61,.tmp 5]) U Tryz.func59 rfl Tryz.ntmps59 rfl Tryz.call59 (by simp) ?_;refine zA [(0,.agg (zb a0)),(1,.str a1)] ⟨rfl,rfl,trivial⟩ ?_;unfold wi at h
 refine rg U [1,2,4] fun K J=>?_
 simp only[go_sem,qd,qb,qe,reduceCtorEq,zb];apply J
 refine za fun Z1 hZ1=>?_
 refine D [1,4,9,10,11] ?_;apply zn
 refine xn 9 fun hb4=>?_
 replace hb4:qa a0.fMethods≤9223372036854775807:=hb4.1;refine yh (fun m L τ=>∃ (p4 q4:List Zg) (x2:Int),m=qa q4∧L=[(1,.str a1),(4,.op 0 0 0),(9,.ds true (qc zq a0.fMethods) (qa a0.fMethods) false),(10,.int .i64 (qa a0.fMethods:Int)),(11,.int .i64 x2)]∧τ=([.cells 0 [.str [],.str [],.str []]]:ze)∧a0.fMethods=p4++q4∧x2=(qa p4:Int)∧wi.l4 a1 q4 x2=r) _ ⟨[],a0.fMethods,0,rfl,rfl,rfl,rfl,rfl,h⟩ (.t [1] false) ?_;rintro m L τ ⟨p4,q4,x2,rfl,rfl,rfl,hE4,hi4,h⟩
 rcases q4 with _|⟨y4,q4⟩
 · have hz4:=xC hE4 hi4;simp only[wi.l4] at h
   refine rg U [1,4,9,10,11,12] fun K J=>?_
   simp only[go_sem,qd,qb,hz4];apply J
   refine za fun Z5 hZ5=>?_
   refine zG rfl ?_;apply yf;apply hZ1;refine D [4,5] ?_;cases h;exact rtA
 obtain⟨hz4,hw4,hx4,hE'4,hi'4⟩:=yU hE4 hi4 hb4;simp only[wi.l4] at h
 refine rg U [1,4,9,10,11,12] fun K J=>?_
 simp only[go_sem,qd,qb,hz4];apply J
 refine za fun Z6 hZ6=>?_
 refine zK rfl ?_;apply zj;apply hZ6
 refine za fun Z7 hZ7=>?_
 apply zn;have f8:=E29.idxS hx4;have f9:=E29.loadS rfl rfl hx4
 refine rg U [1,4,7,9,10,11] fun K J=>?_
 simp only[go_sem,qd,qf,qb,qe,zq,f8,f9];apply J
 refine D [1,4,7,9,10,11,18] ?_;refine yn rfl (fun hc10=>?_) (fun hc10=>?_)
 · rw[if_pos hc10] at h;have t11:=eq_true hc10
   refine rg U [4,5] fun K J=>?_
   simp only[go_sem,qd,qf,qb,qe,t11];apply J
   cases h;exact rtA
 rw[if_neg hc10] at h;have t12:=eq_false hc10;apply zj;apply hZ7
 refine rgE U [1,4,9,10,11] fun K J=>?_
 simp only[go_sem,qd,qb,hw4,t12];apply J
 exact⟨_,_,_,qy q4.length,⟨p4++[y4],q4,x2+1,rfl,rfl,rfl,hE'4,hi'4,h⟩,(.t [0] false)⟩
def yV.l20 (wr:zk→Int→Option Int)(a1:Int)(x7:Int)(rec10:Int→Int→Option Int):List zk→Int→Int→Option Int
 |[],x17,x16=>(rec10 (x7+1) x16)
 |y20::q20,x17,x16=>(wr y20 (IntKind.i64.wrap (a1-1))).bind fun r26=>((yV.l20 wr a1 x7 rec10 q20) (x17+1) (if x16<r26 then r26 else x16))
def yV.l10 (wr:zk→Int→Option Int)(a1:Int):List zr→Int→Int→Option Int
 |[],x7,x6=>some (IntKind.i64.wrap (x6+1))
 |y10::q10,x7,x6=>(yV.l20 wr a1 x7 (yV.l10 wr a1 q10) y10.fTrees 0 x6)
def yV.body (wr:zk→Int→Option Int)(a0:zk)(a1:Int):Option Int:=
 (if ((!(decide (a0.fKind=3)))||(decide (a1=0)))=true then some 0 else (yV.l10 wr a1 a0.fEntries 0 0))
theorem yV.step (wr:zk→Int→Option Int)(ih_value_deep:∀ (a0:zk) (a1:Int) (r:Int),wr a0 a1=some r→ACalls qg 179 [.agg (zd a0),.int .i64 a1] [] (fun r' _=>r'=.int .i64 r))(a0:zk)(a1:Int)(r:Int)(h:yV.body wr a0 a1=some r):ACalls qg 179 [.agg (zd a0),.int .i64 a1] [] (fun r' _=>r'=.int .i64 r):=by
 have ev_value_deep:=fun a0 a1 r h σ=>(ih_value_deep a0 a1 r h).c σ
 refine zt (rs:=[.tmp 4]) U Tryz.func179 rfl Tryz.ntmps179 rfl Tryz.call179 (by simp) ?_;refine zA [(0,.agg (zd a0)),(1,.int .i64 a1)] ⟨rfl,rfl,trivial⟩ ?_;unfold yV.body at h
 refine rg U [1,2] fun K J=>?_
 simp only[go_sem,qd,qb,qe,reduceCtorEq,zd];apply J
 refine za fun Z1 hZ1=>?_
 refine rc [1,2,16] fun K J=>?_
 refine O 4 ?_;refine zH 3 (fun L τ=>L=[(1,.int .i64 a1),(2,.op 0 0 0),(16,.bool ((!(decide (a0.fKind=3)))||(decide (a1=0))))]∧τ=([.cells 0 (zd a0)]:ze)) ?_ ?_
 · refine wh 13 rfl (fun hg13=>?_) (fun hg13=>?_)
   · have t2:=eq_false hg13;refine O 3 ?_;refine zi ⟨rfl,_,_,⟨rfl,rfl⟩,.p t2⟩
   have t3:=eq_true hg13;refine O 3 ?_;refine zi ⟨rfl,_,_,⟨rfl,rfl⟩,.p t3⟩
 rintro _ _ ⟨rfl,rfl⟩;refine nkN J ?_;refine zU (b:=((!(decide (a0.fKind=3)))||(decide (a1=0)))) rfl (fun hc4=>?_) (fun hc4=>?_)
 · rw[if_pos hc4] at h;refine D [4] ?_;cases h;exact rtA
 rw[Zf hc4] at h;apply zj;apply hZ1;refine D [1,2,5] ?_
 refine za fun Z5 hZ5=>?_
 refine D [1,5,18,19,20] ?_;apply zn
 refine xn 18 fun hb10=>?_
 replace hb10:qa a0.fEntries≤9223372036854775807:=hb10.1;refine yh (fun m L τ=>∃ (p10 q10:List zr) (x7:Int) (x6:Int),m=qa q10∧L=[(1,.int .i64 a1),(5,.int .i64 x6),(18,.ds true (qc zx a0.fEntries) (qa a0.fEntries) false),(19,.int .i64 (qa a0.fEntries:Int)),(20,.int .i64 x7)]∧τ=([]:ze)∧a0.fEntries=p10++q10∧x7=(qa p10:Int)∧yV.l10 wr a1 q10 x7 x6=some r) _ ⟨[],a0.fEntries,0,0,rfl,rfl,rfl,rfl,rfl,h⟩ (.t [] false) ?_;rintro m L τ ⟨p10,q10,x7,x6,rfl,rfl,rfl,hE10,hi10,h⟩
 rcases q10 with _|⟨y10,q10⟩
 · have hz10:=xC hE10 hi10;simp only[yV.l10] at h
   refine rg U [1,5,18,19,20,21] fun K J=>?_
   simp only[go_sem,qd,qb,hz10];apply J
   refine za fun Z11 hZ11=>?_
   refine zG rfl ?_;apply yf;apply hZ5;refine D [4] ?_;cases h;exact rtA
 obtain⟨hz10,hw10,hx10,hE'10,hi'10⟩:=yU hE10 hi10 hb10;simp only[yV.l10] at h
 refine rg U [1,5,18,19,20,21] fun K J=>?_
 simp only[go_sem,qd,qb,hz10];apply J
 refine za fun Z12 hZ12=>?_
 refine zK rfl ?_;apply zj;apply hZ12
 refine za fun Z13 hZ13=>?_
 apply zn;have f14:=E34.idxS hx10;have f15:=E34.loadS rfl rfl hx10
 refine rg U [1,5,7,18,19,20] fun K J=>?_
 simp only[go_sem,qd,qf,qb,qe,zQ,yK,f14,f15];apply J
 refine D [1,5,18,19,20,25,26,27] ?_;apply zn
 refine xn 25 fun hb20=>?_
 replace hb20:qa y10.fTrees≤9223372036854775807:=hb20.1;refine yh (fun m L τ=>∃ (p20 q20:List zk) (x17:Int) (x16:Int),m=qa q20∧L=[(1,.int .i64 a1),(5,.int .i64 x16),(18,.ds true (qc zx a0.fEntries) (qa a0.fEntries) false),(19,.int .i64 (qa a0.fEntries:Int)),(20,.int .i64 x7),(25,.ds true (qc yp y10.fTrees) (qa y10.fTrees) false),(26,.int .i64 (qa y10.fTrees:Int)),(27,.int .i64 x17)]∧τ=([]:ze)∧y10.fTrees=p20++q20∧x17=(qa p20:Int)∧yV.l20 wr a1 x7 (yV.l10 wr a1 q10) q20 x17 x16=some r) _ ⟨[],y10.fTrees,0,x6,rfl,rfl,rfl,rfl,rfl,h⟩ (.t [] false) ?_;rintro m L τ ⟨p20,q20,x17,x16,rfl,rfl,rfl,hE20,hi20,h⟩
 rcases q20 with _|⟨y20,q20⟩
 · have hz20:=xC hE20 hi20;simp only[yV.l20] at h
   refine rg U [1,5,18,19,20,25,26,27,28] fun K J=>?_
   simp only[go_sem,qd,qb,hz20];apply J
   refine za fun Z21 hZ21=>?_
   refine zG rfl ?_;apply yf;apply hZ13
   refine rgE U [1,5,18,19,20] fun K J=>?_
   simp only[go_sem,qd,qb,hw10];apply J
   exact⟨_,_,_,qy q10.length,⟨p10++[y10],q10,x7+1,x16,rfl,rfl,rfl,hE'10,hi'10,h⟩,.s⟩
 obtain⟨hz20,hw20,hx20,hE'20,hi'20⟩:=yU hE20 hi20 hb20;simp only[yV.l20] at h
 refine rg U [1,5,18,19,20,25,26,27,28] fun K J=>?_
 simp only[go_sem,qd,qb,hz20];apply J
 refine za fun Z22 hZ22=>?_
 refine zK rfl ?_;apply zj;apply hZ22
 refine za fun Z23 hZ23=>?_
 apply zn;have f24:=E38.idxS hx20;have f25:=E38.loadS rfl rfl hx20
 refine rg U [1,5,9,18,19,20,25,26,27] fun K J=>?_
 simp only[go_sem,qd,qf,qb,qe,zd,yu,f24,f25];apply J
 refine rcE [1,5,18,19,20,25,26,27] fun K J=>?_
 obtain⟨r26,hr26,h⟩:=bind_some h;refine O 4 ?_;refine clN rfl rfl rfl (ev_value_deep y20 (IntKind.i64.wrap (a1-1)) r26 hr26 _) ?_;refine zB U 2 ?_;simp only[go_sem,qd,qb,vbm,vdx,vcc];refine nkN J ?_;apply hZ23
 refine rgE U [1,5,18,19,20,25,26,27] fun K J=>?_
 simp only[go_sem,qd,qb,hw20];apply J
 exact⟨_,_,_,qy q20.length,⟨p20++[y20],q20,x17+1,(if x16<r26 then r26 else x16),rfl,rfl,rfl,hE'20,hi'20,h⟩,(.t [] false)⟩
def yV : Nat→zk→Int→Option Int
 |0,_,_=>none
 |k+1,a0,a1=>yV.body (yV k) a0 a1
theorem yV.all (k:Nat):(∀ (a0:zk) (a1:Int) (r:Int),yV k a0 a1=some r→ACalls qg 179 [.agg (zd a0),.int .i64 a1] [] (fun r' _=>r'=.int .i64 r)):=by
 induction k with
 |zero=>exact (fun a0 a1 r h=>by simp only[yV] at h; cases h)
 |succ k ih=>exact (fun a0 a1 r h=>yV.step _ ih a0 a1 r (by simpa only [yV] using h))
theorem yV.ev (k:Nat)(a0:zk)(a1:Int)(r:Int)(h:yV k a0 a1=some r)(σ:ze):ACalls qg 179 [.agg (zd a0),.int .i64 a1] σ (fun r' σ'=>r'=.int .i64 r∧σ'=σ):=
 ((yV.all k) a0 a1 r h).c σ
def YY (a0:zk):Option Int:=
 (yV xo a0 101).bind fun r1=>some r1
theorem YY.ok {a0 r}(h:YY a0=some r):ACalls qg 139 [.agg (zd a0)] [] (fun r' _=>r'=.int .i64 r):=by
 refine zt (rs:=[.tmp 2]) U Tryz.func139 rfl Tryz.ntmps139 rfl Tryz.call139 (by simp) ?_;refine zA [(0,.agg (zd a0))] ⟨rfl,trivial⟩ ?_;unfold YY at h
 refine rg U [1] fun K J=>?_
 simp only[go_sem,qd,qb,qe,reduceCtorEq,zd];apply J
 refine rc [2] fun K J=>?_
 obtain⟨r1,hr1,h⟩:=bind_some h;refine O 1 ?_;refine clN rfl rfl rfl (yV.ev xo a0 101 r1 hr1 _) ?_;refine O 1 ?_;refine nkN J ?_;cases h;exact rtA
def xD (a0:yc):Bool:=
 (if ((decide (a0.fTag<1))||(decide (500<a0.fTag)))=true then false else (if a0.fWire=0 then decide (a0.fB=[]) else (if a0.fWire=1 then ((decide (a0.fN=0))&&(decide ((qa a0.fB:Int)≤4096))) else false)))
theorem xD.ok {a0 r}(h:xD a0=r):ACalls qg 147 [.agg (zs a0)] [] (fun r' _=>r'=.bool r):=by
 refine zt (rs:=[.tmp 2]) U Tryz.func147 rfl Tryz.ntmps147 rfl Tryz.call147 (by simp) ?_;refine zA [(0,.agg (zs a0))] ⟨rfl,trivial⟩ ?_;unfold xD at h
 refine rg U [1] fun K J=>?_
 simp only[go_sem,qd,qb,qe,reduceCtorEq,zs];apply J
 refine za fun Z1 hZ1=>?_
 refine rc [1,10] fun K J=>?_
 refine O 4 ?_;refine zH 4 (fun L τ=>L=[(1,.op 0 0 0),(10,.bool ((decide (a0.fTag<1))||(decide (500<a0.fTag))))]∧τ=([.cells 0 [.int .i64 a0.fTag,.int .i64 a0.fWire,.int .i64 a0.fN,.str a0.fB]]:ze)) ?_ ?_
 · refine wh 6 rfl (fun hg6=>?_) (fun hg6=>?_)
   · have t2:=eq_true hg6;refine O 4 ?_;refine zi ⟨rfl,_,_,⟨rfl,rfl⟩,.p t2⟩
   have t3:=eq_false hg6;refine O 4 ?_;refine zi ⟨rfl,_,_,⟨rfl,rfl⟩,.p t3⟩
 rintro _ _ ⟨rfl,rfl⟩;refine nkN J ?_;refine zU (b:=((decide (a0.fTag<1))||(decide (500<a0.fTag)))) rfl (fun hc4=>?_) (fun hc4=>?_)
 · rw[if_pos hc4] at h;refine D [2] ?_;cases h;exact rtA
 rw[Zf hc4] at h;apply zj;apply hZ1
 refine za fun Z5 hZ5=>?_
 refine D [1,12] ?_;apply zn;refine D [1,12,13] ?_;refine yn rfl (fun hc6=>?_) (fun hc6=>?_)
 · rw[if_pos hc6] at h;have t7:=eq_true hc6
   refine rg U [2] fun K J=>?_
   simp only[go_sem,qd,qb,qe,t7];apply J
   cases h;exact rtA
 rw[if_neg hc6] at h;have t8:=eq_false hc6
 refine rg U [1,18] fun K J=>?_
 simp only[go_sem,qd,qb,t8];apply J
 refine yn rfl (fun hc9=>?_) (fun hc9=>?_)
 · rw[if_pos hc9] at h;have t10:=eq_true hc9
   refine rc [2] fun K J=>?_
   refine zB U 4 ?_;simp only[go_sem,qd,qb,qe,t10];refine zH 5 (fun L τ=>L=[(28,.bool ((decide (a0.fN=0))&&(decide ((qa a0.fB:Int)≤4096))))]∧τ=([.cells 0 [.int .i64 a0.fTag,.int .i64 a0.fWire,.int .i64 a0.fN,.str a0.fB]]:ze)) ?_ ?_
   · refine wh 23 rfl (fun hg23=>?_) (fun hg23=>?_)
     · have t11:=eq_true hg23;refine O 5 ?_;refine zi ⟨rfl,_,_,⟨rfl,rfl⟩,.p t11⟩
     have t12:=eq_false hg23;refine O 5 ?_;refine zi ⟨rfl,_,_,⟨rfl,rfl⟩,.p t12⟩
   rintro _ _ ⟨rfl,rfl⟩;refine O 1 ?_;refine nkN J ?_;cases h;exact rtA
 rw[if_neg hc9] at h;have t13:=eq_false hc9;apply zj;apply hZ5
 refine rg U [2] fun K J=>?_
 simp only[go_sem,qd,qb,t13];apply J
 cases h;exact rtA
def wG.l4 (a0:List yc):Nat→Int→Option Bool
 |0,_=>none
 |k4+1,x2=>(if x2<(qa a0:Int) then (Yz a0 x2).bind fun y9=>(Yz a0 (IntKind.i64.wrap (x2-1))).bind fun y12=>(if y9.fTag<y12.fTag then some false else ((wG.l4 a0 k4) (IntKind.i64.wrap (x2+1)))) else some true)
def wG (a0:List yc):Option Bool:=
 (wG.l4 a0 xo 1)
theorem wG.ok {a0 r}(h:wG a0=some r):ACalls qg 223 [.ds true (qc zs a0) (qa a0) false] [] (fun r' _=>r'=.bool r):=by
 refine zt (rs:=[.tmp 2]) U Tryz.func223 rfl Tryz.ntmps223 rfl Tryz.call223 (by simp) ?_;refine zA [(0,.ds true (qc zs a0) (qa a0) false)] ⟨rfl,trivial⟩ ?_;unfold wG at h;refine D [0] ?_
 refine za fun Z1 hZ1=>?_
 refine D [0,3] ?_;apply zn;refine yh (fun m L τ=>∃ (k4:Nat) (x2:Int),m=0+k4∧L=[(0,.ds true (qc zs a0) (qa a0) false),(3,.int .i64 x2)]∧τ=([]:ze)∧wG.l4 a0 k4 x2=some r) _ ⟨xo,1,rfl,rfl,rfl,h⟩ .s ?_;rintro m L τ ⟨k4,x2,rfl,rfl,rfl,h⟩
 rcases k4 with _|k4
 · cases h
 simp only[wG.l4] at h
 refine za fun Z5 hZ5=>?_
 refine D [0,3,7] ?_;refine yn rfl (fun hc6=>?_) (fun hc6=>?_)
 · rw[if_pos hc6] at h;have t7:=eq_true hc6;apply zj;apply hZ5
   refine za fun Z8 hZ8=>?_
   apply zn;obtain⟨y9,hy9,h⟩:=bind_some h;have f10:=E35.idxS hy9;have f11:=E35.fldS0 (f:=3) rfl rfl hy9;obtain⟨y12,hy12,h⟩:=bind_some h;have f13:=E35.idxS hy12;have f14:=E35.fldS0 (f:=3) rfl rfl hy12
   refine rd [0,3,21] fun K J=>?_
   refine DW.start (T:=tab) [.any,.any,.any,.any,.at [],.any,.any,.any,.any,.any,.at [],.any] [] ?_;refine DW.runN U 8 ?_;simp only[go_sem,qd,qb,reduceCtorEq,zs,t7,f10,f11];refine DW.runN U 4 ?_;simp only[go_sem,qd,qb,reduceCtorEq,zs,f13,f14];refine DW.fin U (by decide +kernel) rfl ?_;simp only[zC,upd,qb,reduceIte,yX,xK];apply J
   refine yn rfl (fun hc15=>?_) (fun hc15=>?_)
   · rw[if_pos hc15] at h;have t16:=eq_true hc15
     refine rg U [2] fun K J=>?_
     simp only[go_sem,qd,qb,reduceCtorEq,t16];apply J
     cases h;exact rtA
   rw[if_neg hc15] at h;have t17:=eq_false hc15;apply zj;apply hZ8
   refine rgE U [0,3] fun K J=>?_
   simp only[go_sem,qd,qb,reduceCtorEq,t17];apply J
   exact⟨_,_,_,qy (0+k4),⟨k4,IntKind.i64.wrap (x2+1),rfl,rfl,rfl,h⟩,.s⟩
 rw[if_neg hc6] at h;have t18:=eq_false hc6;apply yf;apply hZ1
 refine rg U [2] fun K J=>?_
 simp only[go_sem,qd,qb,reduceCtorEq,t18];apply J
 cases h;exact rtA
def xV.l16 (x2:Int)(rec4:Int→Option Bool)(y4:yc):List zr→Int→Option Bool
 |[],x14=>(rec4 (x2+1))
 |y16::q16,x14=>(if y16.fTag=y4.fTag then some false else ((xV.l16 x2 rec4 y4 q16) (x14+1)))
def xV.l4 (a0:zk):List yc→Int→Option Bool
 |[],x2=>(wG a0.fRest).bind fun r6=>some r6
 |y4::q4,x2=>bnd (xD y4) fun r12=>(if (!r12)=true then some false else (xV.l16 x2 (xV.l4 a0 q4) y4 a0.fEntries 0))
def xV (a0:zk):Option Bool:=
 (xV.l4 a0 a0.fRest 0)
theorem xV.ok {a0 r}(h:xV a0=some r):ACalls qg 181 [.agg (zd a0)] [] (fun r' _=>r'=.bool r):=by
 refine zt (rs:=[.tmp 2]) U Tryz.func181 rfl Tryz.ntmps181 rfl Tryz.call181 (by simp) ?_;refine zA [(0,.agg (zd a0))] ⟨rfl,trivial⟩ ?_;unfold xV at h
 refine rg U [1] fun K J=>?_
 simp only[go_sem,qd,qb,qe,reduceCtorEq,zd];apply J
 refine za fun Z1 hZ1=>?_
 refine D [1,8,9,10] ?_;apply zn
 refine xn 8 fun hb4=>?_
 replace hb4:qa a0.fRest≤9223372036854775807:=hb4.1;refine yh (fun m L τ=>∃ (p4 q4:List yc) (x2:Int),m=qa q4∧L=[(1,.op 0 0 0),(8,.ds true (qc zs a0.fRest) (qa a0.fRest) false),(9,.int .i64 (qa a0.fRest:Int)),(10,.int .i64 x2)]∧τ=([.cells 0 (zd a0)]:ze)∧a0.fRest=p4++q4∧x2=(qa p4:Int)∧xV.l4 a0 q4 x2=some r) _ ⟨[],a0.fRest,0,rfl,rfl,rfl,rfl,rfl,h⟩ .s ?_;rintro m L τ ⟨p4,q4,x2,rfl,rfl,rfl,hE4,hi4,h⟩
 rcases q4 with _|⟨y4,q4⟩
 · have hz4:=xC hE4 hi4;simp only[xV.l4] at h
   refine rg U [1,8,9,10,11] fun K J=>?_
   simp only[go_sem,qd,qb,hz4];apply J
   refine za fun Z5 hZ5=>?_
   refine zG rfl ?_;apply yf;apply hZ1
   refine rc [2] fun K J=>?_
   obtain⟨r6,hr6,h⟩:=bind_some h;refine O 2 ?_;refine clN rfl rfl rfl ((wG.ok hr6).c _) ?_;refine O 1 ?_;refine nkN J ?_;cases h;exact rtA
 obtain⟨hz4,hw4,hx4,hE'4,hi'4⟩:=yU hE4 hi4 hb4;simp only[xV.l4] at h
 refine rg U [1,8,9,10,11] fun K J=>?_
 simp only[go_sem,qd,qb,hz4];apply J
 refine za fun Z7 hZ7=>?_
 refine zK rfl ?_;apply zj;apply hZ7
 refine za fun Z8 hZ8=>?_
 apply zn;have f9:=E35.idxS hx4;have f10:=E35.loadS rfl rfl hx4
 refine rg U [1,4,8,9,10] fun K J=>?_
 simp only[go_sem,qd,qf,qb,qe,zs,f9,f10];apply J
 refine za fun Z11 hZ11=>?_
 refine rc [1,4,8,9,10,16] fun K J=>?_
 obtain⟨r12,hr12,h⟩:=ye h;refine O 1 ?_;refine clN rfl rfl rfl ((xD.ok hr12).c _) ?_;refine O 1 ?_;refine nkN J ?_;refine zU (b:=(!r12)) rfl (fun hc13=>?_) (fun hc13=>?_)
 · rw[if_pos hc13] at h;refine D [2] ?_;cases h;exact rtA
 rw[Zf hc13] at h;apply zj;apply hZ11;refine D [1,4,8,9,10,18,19,20] ?_;apply zn
 refine xn 18 fun hb16=>?_
 replace hb16:qa a0.fEntries≤9223372036854775807:=hb16.1;refine yh (fun m L τ=>∃ (p16 q16:List zr) (x14:Int),m=qa q16∧L=[(1,.op 0 0 0),(4,.op 1 0 0),(8,.ds true (qc zs a0.fRest) (qa a0.fRest) false),(9,.int .i64 (qa a0.fRest:Int)),(10,.int .i64 x2),(18,.ds true (qc zx a0.fEntries) (qa a0.fEntries) false),(19,.int .i64 (qa a0.fEntries:Int)),(20,.int .i64 x14)]∧τ=([.cells 0 (zd a0),.cells 0 [.int .i64 y4.fTag,.int .i64 y4.fWire,.int .i64 y4.fN,.str y4.fB]]:ze)∧a0.fEntries=p16++q16∧x14=(qa p16:Int)∧xV.l16 x2 (xV.l4 a0 q4) y4 q16 x14=some r) _ ⟨[],a0.fEntries,0,rfl,rfl,rfl,rfl,rfl,h⟩ .s ?_;rintro m L τ ⟨p16,q16,x14,rfl,rfl,rfl,hE16,hi16,h⟩
 rcases q16 with _|⟨y16,q16⟩
 · have hz16:=xC hE16 hi16;simp only[xV.l16] at h
   refine rg U [1,4,8,9,10,18,19,20,21] fun K J=>?_
   simp only[go_sem,qd,qb,hz16];apply J
   refine za fun Z17 hZ17=>?_
   refine zG rfl ?_;apply yf;apply hZ8
   refine rgE U [1,8,9,10] fun K J=>?_
   simp only[go_sem,qd,qb,hw4];apply J
   exact⟨_,_,_,qy q4.length,⟨p4++[y4],q4,x2+1,rfl,rfl,rfl,hE'4,hi'4,h⟩,(.t [0] false)⟩
 obtain⟨hz16,hw16,hx16,hE'16,hi'16⟩:=yU hE16 hi16 hb16;simp only[xV.l16] at h
 refine rg U [1,4,8,9,10,18,19,20,21] fun K J=>?_
 simp only[go_sem,qd,qb,hz16];apply J
 refine za fun Z18 hZ18=>?_
 refine zK rfl ?_;apply zj;apply hZ18
 refine za fun Z19 hZ19=>?_
 apply zn;have f20:=E34.idxS hx16;have f21:=E34.loadS rfl rfl hx16
 refine rg U [1,4,6,8,9,10,18,19,20] fun K J=>?_
 simp only[go_sem,qd,qf,qb,qe,zQ,yK,f20,f21];apply J
 refine D [1,4,8,9,10,18,19,20,28] ?_;refine yn rfl (fun hc22=>?_) (fun hc22=>?_)
 · rw[if_pos hc22] at h;have t23:=eq_true hc22
   refine rg U [2] fun K J=>?_
   simp only[go_sem,qd,qb,t23];apply J
   cases h;exact rtA
 rw[if_neg hc22] at h;have t24:=eq_false hc22;apply zj;apply hZ19
 refine rgE U [1,4,8,9,10,18,19,20] fun K J=>?_
 simp only[go_sem,qd,qb,hw16,t24];apply J
 exact⟨_,_,_,qy q16.length,⟨p16++[y16],q16,x14+1,rfl,rfl,rfl,hE'16,hi'16,h⟩,(.t [0,1] false)⟩
def yd.j25 (x16:Int)(rec18:Int→Option Bool)(x24:Bool):Option Bool:=
 (if x24=true then some false else (rec18 (x16+1)))
def yd.l18 (y1:zk→Option Bool)(x3:Int)(rec6:Int→Int→Option Bool)(y6:zr):List zk→Int→Option Bool
 |[],x16=>(rec6 (x3+1) y6.fTag)
 |y18::q18,x16=>(Yz y6.fTrees 0).bind fun y27=>(if y18.fKind=y27.fKind then (y1 y18).bind fun r32=>(yd.j25 x16 (yd.l18 y1 x3 rec6 y6 q18) (!r32)) else (yd.j25 x16 (yd.l18 y1 x3 rec6 y6 q18) true))
def yd.l6 (y1:zk→Option Bool):List zr→Int→Int→Option Bool
 |[],x3,x2=>some true
 |y6::q6,x3,x2=>(if ((((decide (y6.fTag≤x2))||(decide (500<y6.fTag)))||(decide ((qa y6.fTrees:Int)<1)))||(decide (64<(qa y6.fTrees:Int))))=true then some false else (yd.l18 y1 x3 (yd.l6 y1 q6) y6 y6.fTrees 0))
def yd.body (wO:zk→Option Bool)(y1:zk→Option Bool)(a0:zk):Option Bool:=
 (yd.l6 y1 a0.fEntries 0 0)
theorem yd.step (wO:zk→Option Bool)(y1:zk→Option Bool)(XO:∀ (a0:zk) (r:Bool),wO a0=some r→ACalls qg 180 [.agg (zd a0)] [] (fun r' _=>r'=.bool r))(vax:∀ (a0:zk) (r:Bool),y1 a0=some r→ACalls qg 140 [.agg (zd a0)] [] (fun r' _=>r'=.bool r))(a0:zk)(r:Bool)(h:yd.body wO y1 a0=some r):ACalls qg 180 [.agg (zd a0)] [] (fun r' _=>r'=.bool r):=by
 have ev_value_entries:=fun a0 r h σ=>(XO a0 r h).c σ
 have ev_value_right:=fun a0 r h σ=>(vax a0 r h).c σ
 refine zt (rs:=[.tmp 2]) U Tryz.func180 rfl Tryz.ntmps180 rfl Tryz.call180 (by simp) ?_;refine zA [(0,.agg (zd a0))] ⟨rfl,trivial⟩ ?_;unfold yd.body at h
 refine rg U [1] fun K J=>?_
 simp only[go_sem,qd,qb,qe,reduceCtorEq,zd];apply J
 refine D [1,3] ?_
 refine za fun Z1 hZ1=>?_
 refine D [3,9,10,11] ?_;apply zn
 refine xn 9 fun hb6=>?_
 replace hb6:qa a0.fEntries≤9223372036854775807:=hb6.1;refine yh (fun m L τ=>∃ (p6 q6:List zr) (x3:Int) (x2:Int),m=qa q6∧L=[(3,.int .i64 x2),(9,.ds true (qc zx a0.fEntries) (qa a0.fEntries) false),(10,.int .i64 (qa a0.fEntries:Int)),(11,.int .i64 x3)]∧τ=([]:ze)∧a0.fEntries=p6++q6∧x3=(qa p6:Int)∧yd.l6 y1 q6 x3 x2=some r) _ ⟨[],a0.fEntries,0,0,rfl,rfl,rfl,rfl,rfl,h⟩ (.t [] false) ?_;rintro m L τ ⟨p6,q6,x3,x2,rfl,rfl,rfl,hE6,hi6,h⟩
 rcases q6 with _|⟨y6,q6⟩
 · have hz6:=xC hE6 hi6;simp only[yd.l6] at h
   refine rg U [3,9,10,11,12] fun K J=>?_
   simp only[go_sem,qd,qb,hz6];apply J
   refine za fun Z7 hZ7=>?_
   refine zG rfl ?_;apply yf;apply hZ1;refine D [2] ?_;cases h;exact rtA
 obtain⟨hz6,hw6,hx6,hE'6,hi'6⟩:=yU hE6 hi6 hb6;simp only[yd.l6] at h
 refine rg U [3,9,10,11,12] fun K J=>?_
 simp only[go_sem,qd,qb,hz6];apply J
 refine za fun Z8 hZ8=>?_
 refine zK rfl ?_;apply zj;apply hZ8
 refine za fun Z9 hZ9=>?_
 apply zn;have f10:=E34.idxS hx6;have f11:=E34.loadS rfl rfl hx6
 refine rg U [3,5,9,10,11] fun K J=>?_
 simp only[go_sem,qd,qf,qb,qe,zQ,yK,f10,f11];apply J
 refine za fun Z12 hZ12=>?_
 refine rc [5,9,10,11,35] fun K J=>?_
 refine O 5 ?_;refine zH 4 (fun L τ=>L=[(5,.op 0 0 0),(9,.ds true (qc zx a0.fEntries) (qa a0.fEntries) false),(10,.int .i64 (qa a0.fEntries:Int)),(11,.int .i64 x3),(23,.bool ((decide (y6.fTag≤x2))||(decide (500<y6.fTag))))]∧τ=([.cells 0 (zQ y6)]:ze)) ?_ ?_
 · refine wh 19 rfl (fun hg19=>?_) (fun hg19=>?_)
   · have t13:=eq_true hg19;refine O 4 ?_;refine zi ⟨rfl,_,_,⟨rfl,rfl⟩,.p t13⟩
   have t14:=eq_false hg19;refine O 4 ?_;refine zi ⟨rfl,_,_,⟨rfl,rfl⟩,.p t14⟩
 rintro _ _ ⟨rfl,rfl⟩;refine O 1 ?_;refine zH 5 (fun L τ=>L=[(5,.op 0 0 0),(9,.ds true (qc zx a0.fEntries) (qa a0.fEntries) false),(10,.int .i64 (qa a0.fEntries:Int)),(11,.int .i64 x3),(29,.bool (((decide (y6.fTag≤x2))||(decide (500<y6.fTag)))||(decide ((qa y6.fTrees:Int)<1))))]∧τ=([.cells 0 (zQ y6)]:ze)) ?_ ?_
 · refine yB (b:=((decide (y6.fTag≤x2))||(decide (500<y6.fTag)))) 24 rfl (fun hg24=>?_) (fun hg24=>?_)
   · refine O 5 ?_;refine zi ⟨rfl,_,_,⟨rfl,rfl⟩,.b hg24⟩
   refine O 5 ?_;refine zi ⟨rfl,_,_,⟨rfl,rfl⟩,.b hg24⟩
 rintro _ _ ⟨rfl,rfl⟩;refine O 1 ?_;refine zH 5 (fun L τ=>L=[(5,.op 0 0 0),(9,.ds true (qc zx a0.fEntries) (qa a0.fEntries) false),(10,.int .i64 (qa a0.fEntries:Int)),(11,.int .i64 x3),(35,.bool ((((decide (y6.fTag≤x2))||(decide (500<y6.fTag)))||(decide ((qa y6.fTrees:Int)<1)))||(decide (64<(qa y6.fTrees:Int)))))]∧τ=([.cells 0 (zQ y6)]:ze)) ?_ ?_
 · refine yB (b:=(((decide (y6.fTag≤x2))||(decide (500<y6.fTag)))||(decide ((qa y6.fTrees:Int)<1)))) 30 rfl (fun hg30=>?_) (fun hg30=>?_)
   · refine O 5 ?_;refine zi ⟨rfl,_,_,⟨rfl,rfl⟩,.b hg30⟩
   refine O 5 ?_;refine zi ⟨rfl,_,_,⟨rfl,rfl⟩,.b hg30⟩
 rintro _ _ ⟨rfl,rfl⟩;refine nkN J ?_;refine zU (b:=((((decide (y6.fTag≤x2))||(decide (500<y6.fTag)))||(decide ((qa y6.fTrees:Int)<1)))||(decide (64<(qa y6.fTrees:Int))))) rfl (fun hc15=>?_) (fun hc15=>?_)
 · rw[if_pos hc15] at h;refine D [2] ?_;cases h;exact rtA
 rw[Zf hc15] at h;apply zj;apply hZ12;refine D [3,5,9,10,11] ?_;refine D [3,5,9,10,11,39,40,41] ?_;apply zn
 refine xn 39 fun hb18=>?_
 replace hb18:qa y6.fTrees≤9223372036854775807:=hb18.1;refine yh (fun m L τ=>∃ (p18 q18:List zk) (x16:Int),m=qa q18∧L=[(3,.int .i64 y6.fTag),(5,.op 0 0 0),(9,.ds true (qc zx a0.fEntries) (qa a0.fEntries) false),(10,.int .i64 (qa a0.fEntries:Int)),(11,.int .i64 x3),(39,.ds true (qc yp y6.fTrees) (qa y6.fTrees) false),(40,.int .i64 (qa y6.fTrees:Int)),(41,.int .i64 x16)]∧τ=([.cells 0 (zQ y6)]:ze)∧y6.fTrees=p18++q18∧x16=(qa p18:Int)∧yd.l18 y1 x3 (yd.l6 y1 q6) y6 q18 x16=some r) _ ⟨[],y6.fTrees,0,rfl,rfl,rfl,rfl,rfl,h⟩ .s ?_;rintro m L τ ⟨p18,q18,x16,rfl,rfl,rfl,hE18,hi18,h⟩
 rcases q18 with _|⟨y18,q18⟩
 · have hz18:=xC hE18 hi18;simp only[yd.l18] at h
   refine rg U [3,5,9,10,11,39,40,41,42] fun K J=>?_
   simp only[go_sem,qd,qb,hz18];apply J
   refine za fun Z19 hZ19=>?_
   refine zG rfl ?_;apply yf;apply hZ9
   refine rgE U [3,9,10,11] fun K J=>?_
   simp only[go_sem,qd,qb,hw6];apply J
   exact⟨_,_,_,qy q6.length,⟨p6++[y6],q6,x3+1,y6.fTag,rfl,rfl,rfl,hE'6,hi'6,h⟩,(.t [] false)⟩
 obtain⟨hz18,hw18,hx18,hE'18,hi'18⟩:=yU hE18 hi18 hb18;simp only[yd.l18] at h
 refine rg U [3,5,9,10,11,39,40,41,42] fun K J=>?_
 simp only[go_sem,qd,qb,hz18];apply J
 refine za fun Z20 hZ20=>?_
 refine zK rfl ?_;apply zj;apply hZ20
 refine za fun Z21 hZ21=>?_
 apply zn;have f22:=E38.idxS hx18;have f23:=E38.loadS rfl rfl hx18
 refine rg U [3,5,7,9,10,11,39,40,41] fun K J=>?_
 simp only[go_sem,qd,qf,qb,qe,zd,yu,f22,f23];apply J
 refine xL (fun L τ=>∃ (x24:Bool),L=[(3,.int .i64 y6.fTag),(5,.op 0 0 0),(9,.ds true (qc zx a0.fEntries) (qa a0.fEntries) false),(10,.int .i64 (qa a0.fEntries:Int)),(11,.int .i64 x3),(39,.ds true (qc yp y6.fTrees) (qa y6.fTrees) false),(40,.int .i64 (qa y6.fTrees:Int)),(41,.int .i64 x16),(57,.bool x24)]∧τ=([.cells 0 (zQ y6)]:ze)∧yd.j25 x16 (yd.l18 y1 x3 (yd.l6 y1 q6) y6 q18) x24=some r) ?_ ?_
 · refine rdE [3,5,9,10,11,39,40,41,57] fun K J=>?_
   refine DW.start (T:=tab) [.any,.at [],.any,.at [],.any,.any,.at [],.any,.any,.at [],.eff,.any,.any] [] ?_;obtain⟨y27,hy27,h⟩:=bind_some h;have f28:=E38.idxS hy27;have f29:=E38.fldS0 (f:=3) rfl rfl hy27;refine DW.runN U 8 ?_;simp only[go_sem,qd,qb,qe,zd,yu,f28,f29];refine DW.runN U 1 ?_;simp only[go_sem,qd,qb]
   refine DW.if 53 rfl (fun hg53=>?_) (fun hg53=>?_)
   · rw[if_neg hg53] at h;have t30:=eq_false hg53;refine DW.runN U 4 ?_;simp only[go_sem,qd,qb,t30];refine DW.fin U (by decide +kernel) rfl ?_;simp only[zC,upd,qb,reduceIte,yX,xK];apply J
     exact⟨_,_,⟨true,rfl,rfl,h⟩,(.t [0] false)⟩
   rw[if_pos hg53] at h;have t31:=eq_true hg53;obtain⟨r32,hr32,h⟩:=bind_some h;refine DW.runN U 1 ?_;simp only[go_sem,qd,qf,qb,qe,t31];refine DW.call rfl rfl rfl (ev_value_right y18 r32 hr32 _) ?_;refine DW.runN U 2 ?_;simp only[go_sem,qd,qb];refine DW.fin U (by decide +kernel) rfl ?_;simp only[zC,upd,qb,reduceIte,yX,xK];apply J
   exact⟨_,_,⟨!r32,rfl,rfl,h⟩,(.t [0] false)⟩
 rintro _ _ ⟨x24,rfl,rfl,h⟩;unfold yd.j25 at h;refine zU (b:=x24) rfl (fun hc26=>?_) (fun hc26=>?_)
 · rw[if_pos hc26] at h;refine D [2] ?_;cases h;exact rtA
 rw[Zf hc26] at h;apply zj;apply hZ21
 refine rgE U [3,5,9,10,11,39,40,41] fun K J=>?_
 simp only[go_sem,qd,qb,hw18];apply J
 exact⟨_,_,_,qy q18.length,⟨p18++[y18],q18,x16+1,rfl,rfl,rfl,hE'18,hi'18,h⟩,.s⟩
def wp.body (wO:zk→Option Bool)(y1:zk→Option Bool)(a0:zk):Option Bool:=
 (if a0.fKind=1 then some (((decide (a0.fS=[]))&&(decide ((qa a0.fEntries:Int)=0)))&&(decide ((qa a0.fRest:Int)=0))) else (if a0.fKind=2 then some (((decide (a0.fN=0))&&(decide ((qa a0.fEntries:Int)=0)))&&(decide ((qa a0.fRest:Int)=0))) else (if a0.fKind=3 then (if ((decide (a0.fN=0))&&(decide (a0.fS=[])))=true then (wO a0).bind fun r16=>some r16 else some false).bind fun c16=>(if c16=true then (xV a0).bind fun r18=>some r18 else some false).bind fun c18=>some c18 else some false)))
theorem wp.step (wO:zk→Option Bool)(y1:zk→Option Bool)(XO:∀ (a0:zk) (r:Bool),wO a0=some r→ACalls qg 180 [.agg (zd a0)] [] (fun r' _=>r'=.bool r))(vax:∀ (a0:zk) (r:Bool),y1 a0=some r→ACalls qg 140 [.agg (zd a0)] [] (fun r' _=>r'=.bool r))(a0:zk)(r:Bool)(h:wp.body wO y1 a0=some r):ACalls qg 140 [.agg (zd a0)] [] (fun r' _=>r'=.bool r):=by
 have ev_value_entries:=fun a0 r h σ=>(XO a0 r h).c σ
 have ev_value_right:=fun a0 r h σ=>(vax a0 r h).c σ
 refine zt (rs:=[.tmp 2]) U Tryz.func140 rfl Tryz.ntmps140 rfl Tryz.call140 (by simp) ?_;refine zA [(0,.agg (zd a0))] ⟨rfl,trivial⟩ ?_;unfold wp.body at h
 refine rg U [1] fun K J=>?_
 simp only[go_sem,qd,qb,qe,reduceCtorEq,zd];apply J
 refine za fun Z1 hZ1=>?_
 refine D [1,4] ?_;apply zn;refine D [1,4,5] ?_;refine yn rfl (fun hc2=>?_) (fun hc2=>?_)
 · rw[if_pos hc2] at h;have t3:=eq_true hc2
   refine rc [2] fun K J=>?_
   refine zB U 4 ?_;simp only[go_sem,qd,qb,qe,t3];refine zH 5 (fun L τ=>L=[(1,.op 0 0 0),(15,.bool ((decide (a0.fS=[]))&&(decide ((qa a0.fEntries:Int)=0))))]∧τ=([.cells 0 (zd a0)]:ze)) ?_ ?_
   · refine wh 10 rfl (fun hg10=>?_) (fun hg10=>?_)
     · have t4:=eq_true hg10;refine O 5 ?_;refine zi ⟨rfl,_,_,⟨rfl,rfl⟩,.p t4⟩
     have t5:=eq_false hg10;refine O 5 ?_;refine zi ⟨rfl,_,_,⟨rfl,rfl⟩,.p t5⟩
   rintro _ _ ⟨rfl,rfl⟩;refine O 1 ?_;refine zH 5 (fun L τ=>L=[(21,.bool (((decide (a0.fS=[]))&&(decide ((qa a0.fEntries:Int)=0)))&&(decide ((qa a0.fRest:Int)=0))))]∧τ=([.cells 0 (zd a0)]:ze)) ?_ ?_
   · refine yB (b:=((decide (a0.fS=[]))&&(decide ((qa a0.fEntries:Int)=0)))) 16 rfl (fun hg16=>?_) (fun hg16=>?_)
     · refine O 5 ?_;refine zi ⟨rfl,_,_,⟨rfl,rfl⟩,.b hg16⟩
     refine O 5 ?_;refine zi ⟨rfl,_,_,⟨rfl,rfl⟩,.b hg16⟩
   rintro _ _ ⟨rfl,rfl⟩;refine O 1 ?_;refine nkN J ?_;cases h;exact rtA
 rw[if_neg hc2] at h;have t6:=eq_false hc2
 refine rg U [1,4,22] fun K J=>?_
 simp only[go_sem,qd,qb,t6];apply J
 refine yn rfl (fun hc7=>?_) (fun hc7=>?_)
 · rw[if_pos hc7] at h;have t8:=eq_true hc7
   refine rc [2] fun K J=>?_
   refine zB U 4 ?_;simp only[go_sem,qd,qb,qe,t8];refine zH 5 (fun L τ=>L=[(1,.op 0 0 0),(32,.bool ((decide (a0.fN=0))&&(decide ((qa a0.fEntries:Int)=0))))]∧τ=([.cells 0 (zd a0)]:ze)) ?_ ?_
   · refine wh 27 rfl (fun hg27=>?_) (fun hg27=>?_)
     · have t9:=eq_true hg27;refine O 5 ?_;refine zi ⟨rfl,_,_,⟨rfl,rfl⟩,.p t9⟩
     have t10:=eq_false hg27;refine O 5 ?_;refine zi ⟨rfl,_,_,⟨rfl,rfl⟩,.p t10⟩
   rintro _ _ ⟨rfl,rfl⟩;refine O 1 ?_;refine zH 5 (fun L τ=>L=[(38,.bool (((decide (a0.fN=0))&&(decide ((qa a0.fEntries:Int)=0)))&&(decide ((qa a0.fRest:Int)=0))))]∧τ=([.cells 0 (zd a0)]:ze)) ?_ ?_
   · refine yB (b:=((decide (a0.fN=0))&&(decide ((qa a0.fEntries:Int)=0)))) 33 rfl (fun hg33=>?_) (fun hg33=>?_)
     · refine O 5 ?_;refine zi ⟨rfl,_,_,⟨rfl,rfl⟩,.b hg33⟩
     refine O 5 ?_;refine zi ⟨rfl,_,_,⟨rfl,rfl⟩,.b hg33⟩
   rintro _ _ ⟨rfl,rfl⟩;refine O 1 ?_;refine nkN J ?_;cases h;exact rtA
 rw[if_neg hc7] at h;have t11:=eq_false hc7
 refine rg U [1,39] fun K J=>?_
 simp only[go_sem,qd,qb,t11];apply J
 refine yn rfl (fun hc12=>?_) (fun hc12=>?_)
 · rw[if_pos hc12] at h;have t13:=eq_true hc12
   refine rc [2] fun K J=>?_
   refine zB U 4 ?_;simp only[go_sem,qd,qb,qe,t13];refine zH 4 (fun L τ=>L=[(1,.op 0 0 0),(48,.bool ((decide (a0.fN=0))&&(decide (a0.fS=[]))))]∧τ=([.cells 0 (zd a0)]:ze)) ?_ ?_
   · refine wh 44 rfl (fun hg44=>?_) (fun hg44=>?_)
     · have t14:=eq_true hg44;refine O 4 ?_;refine zi ⟨rfl,_,_,⟨rfl,rfl⟩,.p t14⟩
     have t15:=eq_false hg44;refine O 4 ?_;refine zi ⟨rfl,_,_,⟨rfl,rfl⟩,.p t15⟩
   rintro _ _ ⟨rfl,rfl⟩;refine O 1 ?_;obtain⟨c16,hc16,h⟩:=bind_some h;refine zH 3 (fun L τ=>L=[(1,.op 0 0 0),(52,.bool c16)]∧τ=([.cells 0 (zd a0)]:ze)) ?_ ?_
   · refine yB (b:=((decide (a0.fN=0))&&(decide (a0.fS=[])))) 49 rfl (fun hg49=>?_) (fun hg49=>?_)
     · rw[if_pos hg49] at hc16;obtain⟨r17,hr17,hc16⟩:=bind_some hc16;refine O 1 ?_;refine clN rfl rfl rfl (ev_value_entries a0 r17 hr17 _) ?_;refine O 1 ?_;cases hc16;refine zi ⟨rfl,_,_,⟨rfl,rfl⟩,.b hg49⟩
     rw[Zf hg49] at hc16;refine O 3 ?_;cases hc16;refine zi ⟨rfl,_,_,⟨rfl,rfl⟩,.b hg49⟩
   rintro _ _ ⟨rfl,rfl⟩;refine O 1 ?_;obtain⟨c18,hc18,h⟩:=bind_some h;refine zH 3 (fun L τ=>L=[(56,.bool c18)]∧τ=([.cells 0 (zd a0)]:ze)) ?_ ?_
   · refine yB (b:=c16) 53 rfl (fun hg53=>?_) (fun hg53=>?_)
     · rw[if_pos hg53] at hc18;obtain⟨r19,hr19,hc18⟩:=bind_some hc18;refine O 1 ?_;refine clN rfl rfl rfl ((xV.ok hr19).c _) ?_;refine O 1 ?_;cases hc18;refine zi ⟨rfl,_,_,⟨rfl,rfl⟩,.b hg53⟩
     rw[Zf hg53] at hc18;refine O 3 ?_;cases hc18;refine zi ⟨rfl,_,_,⟨rfl,rfl⟩,.b hg53⟩
   rintro _ _ ⟨rfl,rfl⟩;refine O 1 ?_;refine nkN J ?_;cases h;exact rtA
 rw[if_neg hc12] at h;have t20:=eq_false hc12;apply zj;apply hZ1
 refine rg U [2] fun K J=>?_
 simp only[go_sem,qd,qb,t20];apply J
 cases h;exact rtA
mutual
def yd : Nat→zk→Option Bool
 |0,_=>none
 |k+1,a0=>yd.body (yd k) (wp k) a0
def wp : Nat→zk→Option Bool
 |0,_=>none
 |k+1,a0=>wp.body (yd k) (wp k) a0
end
theorem yd.all (k:Nat):(∀ (a0:zk) (r:Bool),yd k a0=some r→ACalls qg 180 [.agg (zd a0)] [] (fun r' _=>r'=.bool r))∧(∀ (a0:zk) (r:Bool),wp k a0=some r→ACalls qg 140 [.agg (zd a0)] [] (fun r' _=>r'=.bool r)):=by
 induction k with
 |zero=>exact⟨(fun a0 r h=>by simp only[yd] at h; cases h),(fun a0 r h=>by simp only[wp] at h; cases h)⟩
 |succ k ih=>exact⟨(fun a0 r h=>yd.step _ _ ih.1 ih.2 a0 r (by simpa only [yd] using h)),(fun a0 r h=>wp.step _ _ ih.1 ih.2 a0 r (by simpa only [wp] using h))⟩
theorem wp.ev (k:Nat)(a0:zk)(r:Bool)(h:wp k a0=some r)(σ:ze):ACalls qg 140 [.agg (zd a0)] σ (fun r' σ'=>r'=.bool r∧σ'=σ):=
 ((yd.all k).2 a0 r h).c σ
def Yk (a0:zk):Option Bool:=
 (YY a0).bind fun r1=>(if r1≤10 then (wp xo a0).bind fun r2=>some r2 else some false).bind fun c2=>some c2
theorem Yk.ok {a0 r}(h:Yk a0=some r):ACalls qg 93 [.agg (zd a0)] [] (fun r' _=>r'=.bool r):=by
 refine zt (rs:=[.tmp 2]) U Tryz.func93 rfl Tryz.ntmps93 rfl Tryz.call93 (by simp) ?_;refine zA [(0,.agg (zd a0))] ⟨rfl,trivial⟩ ?_;unfold Yk at h
 refine rg U [1] fun K J=>?_
 simp only[go_sem,qd,qb,qe,reduceCtorEq,zd];apply J
 refine rc [2] fun K J=>?_
 obtain⟨r1,hr1,h⟩:=bind_some h;refine O 1 ?_;refine clN rfl rfl rfl ((YY.ok hr1).c _) ?_;refine O 2 ?_;obtain⟨c2,hc2,h⟩:=bind_some h;refine zH 3 (fun L τ=>L=[(9,.bool c2)]∧τ=([.cells 0 (zd a0)]:ze)) ?_ ?_
 · refine wh 6 rfl (fun hg6=>?_) (fun hg6=>?_)
   · have t3:=eq_true hg6;rw[if_pos hg6] at hc2;obtain⟨r4,hr4,hc2⟩:=bind_some hc2;refine O 1 ?_;refine clN rfl rfl rfl (wp.ev xo a0 r4 hr4 _) ?_;refine O 1 ?_;cases hc2;refine zi ⟨rfl,_,_,⟨rfl,rfl⟩,.p t3⟩
   have t5:=eq_false hg6;rw[if_neg hg6] at hc2;refine O 3 ?_;cases hc2;refine zi ⟨rfl,_,_,⟨rfl,rfl⟩,.p t5⟩
 rintro _ _ ⟨rfl,rfl⟩;refine O 1 ?_;refine nkN J ?_;cases h;exact rtA
def vbs (a0:Int):zm:=
 (zm.num a0)
theorem vbs.ok {a0 r}(h:vbs a0=r):ACalls qg 225 [.int .i64 a0] [] (fun r' _=>r'=.agg (zo r)):=by
 refine zt (rs:=[.cell 2 228]) U Tryz.func225 rfl Tryz.ntmps225 rfl Tryz.call225 (by simp) ?_;refine zA [(0,.int .i64 a0)] ⟨rfl,trivial⟩ ?_;unfold vbs at h;refine D [0,2] ?_;refine D [2] ?_;cases h;exact rtA
def vbr (a0:List UInt8):zm:=
 (zm.str a0)
theorem vbr.ok {a0 r}(h:vbr a0=r):ACalls qg 226 [.str a0] [] (fun r' _=>r'=.agg (zo r)):=by
 refine zt (rs:=[.cell 2 228]) U Tryz.func226 rfl Tryz.ntmps226 rfl Tryz.call226 (by simp) ?_;refine zA [(0,.str a0)] ⟨rfl,trivial⟩ ?_;unfold vbr at h;refine D [0,2] ?_;refine D [2] ?_;cases h;exact rtA
def xW (a0:List yc):Option (List yc):=(X7 (qa a0) 40).bind fun _=>some a0
theorem xW.ok (a0 r:List yc)(h:xW a0=some r):ACalls qg 227 [.ds true (qc zs a0) (qa a0) false] [] (fun r' _=>r'=.ds true (qc zs r) (qa r) false):=by
 obtain⟨_u,hu,h⟩:=bind_some h;have gu:=xf hu;cases h
 have f1:=fun nl tt σ=>Zd E35.len a0 nl tt σ
 have f2:=zV E35.len a0;have f3:=YN zs a0
 have fin:∀ σ id ver tt,ze.at σ id ver=some (qc zs a0)→tell σ [] true 12 (.os true 4 id ver 0 (qa a0) tt)=.ds true (qc zs a0) (qa a0) false:=by
  intro σ id ver tt hs
  simp only[ZT,Zi,hs,qz,qo];rw[if_pos (by rw[f2]; exact qw _),← f2,uj,zz]
 refine zt (rs:=[.tmp 2]) U Tryz.func227 rfl Tryz.ntmps227 rfl Tryz.call227 (by simp) ?_;refine zA [(0,.ds true (qc zs a0) (qa a0) false)] ⟨rfl,trivial⟩ ?_;refine D [0] ?_
 refine za fun Z1 hZ1=>?_
 refine rc [0,4] fun K J=>?_
 refine O 1 ?_
 refine Xq U rfl rfl rfl rfl rfl rfl fun b hnil=>?_
 have hb:b=true→a0=[]:=fun hb=>by
  have:=hnil hb;simp only[yR,go_sem,reduceCtorEq] at this;exact ul this
 clear hnil
 refine nkN J ?_;cases b
 · refine zG rfl ?_;apply zj;apply hZ1
   refine rg U [2] fun K J=>?_
   by_cases h0:qa a0=0
   · obtain rfl:=ul h0;simp only[go_sem,qd,qb,qe,reduceCtorEq,zS,yE,qQ,uu,yM,yw,yR,xb,uf,qr,uw,uc];apply J
     apply yk;simp only[ZJ,yQ,yZ,xQ,exists_eq_left',go_sem]
     first|rfl|(simp only[go_sem,qd,qf,qb,qe,qj,qm,reduceIte,reduceCtorEq,ZT,Zi,qn]<;>rfl)
   have h1:=eq_false h0;simp only[go_sem,qd,qb,qe,reduceCtorEq,zS,yE,qQ,uu,yM,yw,yR,f1,f3,h1,gu,xw,qn,qD,uw];apply J
   apply yk;simp only[ZJ,yQ,yZ,xQ,exists_eq_left',go_sem];exact fin _ _ _ _ (by simp only[ze.at_hd,ze.at_tl,if_true])
 obtain rfl:=hb rfl;refine zK rfl ?_;refine D [2] ?_;apply yk;simp only[ZJ,yQ,yZ,xQ,exists_eq_left',go_sem]
 first|rfl|(simp only[go_sem,qd,qf,qb,qe,qj,qm,reduceIte,reduceCtorEq,Xl,qn,qs,qu,qv]<;>rfl)
end
section
set_option maxRecDepth 4000
set_option maxHeartbeats 1000000
open AM
theorem xW.own (a0 r:List yc)(h:xW a0=some r):ACalls qg 227 [.ds true (qc zs a0) (qa a0) false] [] (fun r' σ'=>r'=.os true 4 0 0 0 (qa r) false∧σ'=[.cells 0 (qc zs r)]):=by
 obtain⟨_u,hu,h⟩:=bind_some h;have gu:=xf hu;cases h
 have f1:=fun nl tt σ=>Zd E35.len a0 nl tt σ
 have f2:=zV E35.len a0;have f3:=YN zs a0;refine vet (rs:=[.tmp 2]) U Tryz.func227 rfl Tryz.ntmps227 rfl Tryz.call227 (by simp) ?_;refine zA [(0,.ds true (qc zs a0) (qa a0) false)] ⟨rfl,trivial⟩ ?_;refine D [0] ?_
 refine za fun Z1 hZ1=>?_
 refine rc [0,4] fun K J=>?_
 refine O 1 ?_
 refine Xq U rfl rfl rfl rfl rfl rfl fun b hnil=>?_
 have hb:b=true→a0=[]:=fun hb=>by
  have:=hnil hb;simp only[yR,go_sem,reduceCtorEq] at this;exact ul this
 clear hnil
 refine nkN J ?_;cases b
 · refine zG rfl ?_;apply zj;apply hZ1
   refine rg U [2] fun K J=>?_
   by_cases h0:qa a0=0
   · obtain rfl:=ul h0;simp only[go_sem,qd,qb,qe,reduceCtorEq,zS,yE,qQ,uu,yM,yw,yR,xb,uf,qr,uw,uc];apply J
     apply yk;simp only[ZJ,yQ,yZ,xQ,exists_eq_left',go_sem];refine .inl ⟨0,true,by simp,?_,?_⟩
     · first|rfl|(simp only[go_sem,qd,qf,qb,qe,qj,qm,reduceIte,reduceCtorEq,ZT,Yx,if_true]<;>rfl)
     first|rfl|(simp only[go_sem,qd,qf,qb,qe,qj,qm,reduceIte,reduceCtorEq,Y5,vbt,YD,Y6,Xm,qn]<;>rfl)
   have h1:=eq_false h0;simp only[go_sem,qd,qb,qe,reduceCtorEq,zS,yE,qQ,uu,yM,yw,yR,f1,f3,h1,gu,xw,qn,qD,uw];apply J
   apply yk;simp only[ZJ,yQ,yZ,xQ,exists_eq_left',go_sem,qe];refine .inl ⟨1,false,by simp,?_,?_⟩
   · first|rfl|(simp only[go_sem,qd,qf,qb,qe,qj,qm,reduceIte,reduceCtorEq,ZT,Yx,if_true]<;>rfl)
   first|rfl|(simp only[go_sem,Y5,YD,Y6,Xm,zz]<;>rfl)
 obtain rfl:=hb rfl;refine zK rfl ?_;refine D [2] ?_;apply yk;simp only[ZJ,yQ,yZ,xQ,exists_eq_left',go_sem];refine .inr ?_
 first|rfl|(simp only[go_sem,qd,qf,qb,qe,qj,qm,reduceIte,reduceCtorEq,Xl,qn,qs,qK,qt,qI]<;>rfl)
theorem xW.ev (a0 r:List yc)(h:xW a0=some r)(σ:ze):ACalls qg 227 [.ds true (qc zs a0) (qa a0) false] σ (fun r' σ'=>r'=.ds true (qc zs r) (qa r) false∧σ'=σ):=
 (xW.ok a0 r h).pureAt (by simp only[AV.canon,xx,xA,qM,qt,uA]) (by simp only[AV.canon,xA,qM,qt,uA]) σ
def yz.l35 (xz:zk→Option zm)(l14:List yI)(x16:Int)(rec20:List yI→Int→Option zm)(y25:zr):List zk→Int→List zm→Option zm
 |[],x31,l29=>(X7 (qa l14+1) 32).bind fun _u37=>(rec20 (l14++[(⟨y25.fTag,l29⟩:yI)]) (IntKind.i64.wrap (x16+1)))
 |y35::q35,x31,l29=>(xz y35).bind fun r43=>(X7 (qa l29+1) 16).bind fun _u45=>((yz.l35 xz l14 x16 rec20 y25 q35) (x31+1) (l29++[r43]))
def yz.l20 (xz:zk→Option zm)(a0:zk)(r12:List yc):Nat→List yI→Int→Option zm
 |0,_,_=>none
 |k20+1,l14,x16=>(if x16<(qa a0.fEntries:Int) then (Yz a0.fEntries x16).bind fun y25=>(yz.l35 xz l14 x16 (yz.l20 xz a0 r12 k20) y25 y25.fTrees 0 ([]:List zm)) else some (zm.node l14 r12))
def yz.l62 (xz:zk→Option zm)(a0:zk)(r12:List yc)(y52:zr):List zk→Int→List zm→Option zm
 |[],x58,l56=>(yz.l20 xz a0 r12 xo [(⟨y52.fTag,l56⟩:yI)] (IntKind.i64.wrap (0+1)))
 |y62::q62,x58,l56=>(xz y62).bind fun r68=>(X7 (qa l56+1) 16).bind fun _u70=>((yz.l62 xz a0 r12 y52 q62) (x58+1) (l56++[r68]))
def yz.body (xz:zk→Option zm)(a0:zk):Option zm:=
 (if a0.fKind=1 then bnd (vbs a0.fN) fun r4=>some r4 else (if a0.fKind=2 then bnd (vbr a0.fS) fun r9=>some r9 else (xW a0.fRest).bind fun r12=>(if 0<(qa a0.fEntries:Int) then (Yz a0.fEntries 0).bind fun y52=>(yz.l62 xz a0 r12 y52 y52.fTrees 0 ([]:List zm)) else some (zm.node ([]:List yI) r12))))
theorem yz.step (xz:zk→Option zm)(ih_value_made:∀ (a0:zk) (r:zm),xz a0=some r→ACalls qg 185 [.agg (zd a0)] [] (fun r' _=>r'=.agg (zo r)))(a0:zk)(r:zm)(h:yz.body xz a0=some r):ACalls qg 185 [.agg (zd a0)] [] (fun r' _=>r'=.agg (zo r)):=by
 have ev_value_made:=fun a0 r h σ=>(ih_value_made a0 r h).c σ
 refine zt (rs:=[.cell 2 228]) U Tryz.func185 rfl Tryz.ntmps185 rfl Tryz.call185 (by simp) ?_;refine zA [(0,.agg (zd a0))] ⟨rfl,trivial⟩ ?_;unfold yz.body at h
 refine rg U [1,2] fun K J=>?_
 simp only[go_sem,qd,qb,qe,reduceCtorEq,zd];apply J
 refine za fun Z1 hZ1=>?_
 refine D [1,2,10] ?_;apply zn;refine D [1,2,10,11] ?_;refine yn rfl (fun hc2=>?_) (fun hc2=>?_)
 · rw[if_pos hc2] at h;have t3:=eq_true hc2
   refine rc [2] fun K J=>?_
   obtain⟨r4,hr4,h⟩:=ye h;refine zB U 2 ?_;simp only[go_sem,qd,qb,qe,t3];refine clN rfl rfl rfl ((vbs.ok hr4).c _) ?_;have f5:=Yp r4;unfold AV.one at f5;refine zB U 1 ?_;simp only[go_sem,qf,qb,zo,f5];refine nkN J ?_;cases h;exact rtA
 rw[if_neg hc2] at h;have t6:=eq_false hc2
 refine rg U [1,2,16] fun K J=>?_
 simp only[go_sem,qd,qb,t6];apply J
 refine yn rfl (fun hc7=>?_) (fun hc7=>?_)
 · rw[if_pos hc7] at h;have t8:=eq_true hc7
   refine rc [2] fun K J=>?_
   obtain⟨r9,hr9,h⟩:=ye h;refine zB U 2 ?_;simp only[go_sem,qd,qb,qe,t8];refine clN rfl rfl rfl ((vbr.ok hr9).c _) ?_;have f10:=Yp r9;unfold AV.one at f10;refine zB U 1 ?_;simp only[go_sem,qf,qb,zo,f10];refine nkN J ?_;cases h;exact rtA
 rw[if_neg hc7] at h;have t11:=eq_false hc7;apply zj;apply hZ1
 refine rc [1,2,3] fun K J=>?_
 obtain⟨r12,hr12,h⟩:=bind_some h;refine zB U 2 ?_;simp only[go_sem,qd,qb,qe,t11];refine clN rfl rfl rfl (xW.ev a0.fRest r12 hr12 _) ?_;refine O 3 ?_;refine nkN J ?_
 refine za fun Z13 hZ13=>?_
 refine D [2,3,27,28,29] ?_;apply zn;refine awp_loopS1 (fun m L τ=>∃ (k20:Nat) (l14:List yI) (x16:Int) (v15:Nat),m=0+k20∧L=[(2,.op 0 0 0),(3,.op 1 0 0),(27,.ds true (qc zx a0.fEntries) (qa a0.fEntries) false),(28,.int .i64 (qa a0.fEntries:Int)),(29,.int .i64 x16)]∧τ=([.cells 0 [.nilI],.cells 0 [.os true 2 2 v15 0 (qa l14) false,.ds true (qc zs r12) (qa r12) false],.cells v15 (qc y0 l14)]:ze)∧yz.l20 xz a0 r12 k20 l14 x16=some r) (xo+1) ?_ ?_
 · refine D [2,3,27,28,29,30] ?_
   refine za fun Z48 hZ48=>?_
   refine yn rfl (fun hc49=>?_) (fun hc49=>?_)
   · rw[if_pos hc49] at h;have t50:=eq_true hc49;apply zj;apply hZ48
     refine za fun Z51 hZ51=>?_
     apply zn;obtain⟨y52,hy52,h⟩:=bind_some h;have f53:=E34.idxS hy52;have f54:=E34.loadS rfl rfl hy52
     refine rg U [2,3,5,27,28,29] fun K J=>?_
     simp only[go_sem,qd,qf,qb,qe,zQ,yK,t50,f53,f54];apply J
     refine D [2,3,5,6,27,28,29] ?_;refine ZN 4 1 1 rfl (by simp) rfl (L:=[(2,.op 1 0 0),(3,.op 2 0 0),(5,.op 3 0 0),(6,.op 4 0 0),(27,.ds true (qc zx a0.fEntries) (qa a0.fEntries) false),(28,.int .i64 (qa a0.fEntries:Int)),(29,.int .i64 0)]) (τ:=[.cells 0 (zd a0),.cells 0 [.nilI],.cells 0 [.ds true [] 0 true,.ds true (qc zs r12) (qa r12) false],.cells 0 (zQ y52),.cells 0 [.int .i64 y52.fTag,.os true 1 5 0 0 (qa ([]:List zm)) false],.cells 0 (qc zo ([]:List zm))]) .s ?_
     refine za fun Z55 hZ55=>?_
     refine D [2,3,6,27,28,29,37,38,39] ?_;apply zn
     refine xn 37 fun hb62=>?_
     replace hb62:qa y52.fTrees≤9223372036854775807:=hb62.1;refine yh (fun m L τ=>∃ (p62 q62:List zk) (x58:Int) (l56:List zm) (v57:Nat),m=qa q62∧L=[(2,.op 0 0 0),(3,.op 1 0 0),(6,.op 2 0 0),(27,.ds true (qc zx a0.fEntries) (qa a0.fEntries) false),(28,.int .i64 (qa a0.fEntries:Int)),(29,.int .i64 0),(37,.ds true (qc yp y52.fTrees) (qa y52.fTrees) false),(38,.int .i64 (qa y52.fTrees:Int)),(39,.int .i64 x58)]∧τ=([.cells 0 [.nilI],.cells 0 [.ds true [] 0 true,.ds true (qc zs r12) (qa r12) false],.cells 0 [.int .i64 y52.fTag,.os true 1 3 v57 0 (qa l56) false],.cells v57 (qc zo l56)]:ze)∧y52.fTrees=p62++q62∧x58=(qa p62:Int)∧yz.l62 xz a0 r12 y52 q62 x58 l56=some r) _ ⟨[],y52.fTrees,0,([]:List zm),0,rfl,rfl,rfl,rfl,rfl,h⟩ (.t [1,2,4,5] false) ?_;rintro m L τ ⟨p62,q62,x58,l56,v57,rfl,rfl,rfl,hE62,hi62,h⟩
     rcases q62 with _|⟨y62,q62⟩
     · have hz62:=xC hE62 hi62;simp only[yz.l62] at h
       refine rg U [2,3,6,27,28,29,37,38,39,40] fun K J=>?_
       simp only[go_sem,qd,qb,hz62];apply J
       refine za fun Z63 hZ63=>?_
       refine zG rfl ?_;apply yf;apply hZ55
       refine rdE [2,3,27,28,29] fun K J=>?_
       refine DW.start (T:=tab) [.any,.any,.any,.any,.own 1 [],.at [],.eff,.eff,.any,.any,.eff] [(1,[])] ?_;refine DW.runN U 8 ?_;simp only[go_sem,qd,qf,qb,qe,qj,reduceCtorEq,zS,yE,qZ,qQ,true_and,ue,yM,yw,yR,xw,uc,q9,AV.one,qM,qD,ql,qr,qo,qH];refine DW.runN U 3 ?_;simp only[go_sem,qd,qf,qb,qe,ql,qr,qo];refine DW.fin U (by decide +kernel) rfl ?_;simp only[zC,upd,qb,reduceIte,yX,xK];apply J
       apply hZ51
       refine rgE U [2,3,27,28,29] fun K J=>?_
       simp only[go_sem,qd,qb];apply J
       exact⟨_,_,_,(Nat.lt_succ_of_le (Nat.le_of_eq (qo xo))),⟨xo,[(⟨y52.fTag,l56⟩:yI)],IntKind.i64.wrap (0+1),0,rfl,rfl,rfl,h⟩,(.t [0,1,5] false)⟩
     obtain⟨hz62,hw62,hx62,hE'62,hi'62⟩:=yU hE62 hi62 hb62;simp only[yz.l62] at h
     refine rg U [2,3,6,27,28,29,37,38,39,40] fun K J=>?_
     simp only[go_sem,qd,qb,hz62];apply J
     refine za fun Z64 hZ64=>?_
     refine zK rfl ?_;apply zj;apply hZ64
     refine za fun Z65 hZ65=>?_
     apply zn;have f66:=E38.idxS hx62;have f67:=E38.loadS rfl rfl hx62
     refine rg U [2,3,6,8,27,28,29,37,38,39] fun K J=>?_
     simp only[go_sem,qd,qf,qb,qe,zd,yu,f66,f67];apply J
     obtain⟨r68,hr68,h⟩:=bind_some h;have f69:=Yp r68;unfold AV.one at f69;obtain⟨_u70,hu70,h⟩:=bind_some h;have gu70:=xf hu70;have f71:=(zV E282.len l56)
     refine rdE [2,3,6,27,28,29,37,38,39] fun K J=>?_
     refine DW.start (T:=tab) [.any,.own 2 [],.at [],.eff,.eff,.eff,.any,.eff] [(2,[])] ?_;refine DW.runN U 3 ?_;simp only[go_sem,qd,qf,qb,qe,zo,ql,qr,qo];refine DW.call rfl rfl rfl (ev_value_made y62 r68 hr68 _) ?_;refine DW.runN U 4 ?_;simp only[go_sem,qd,qf,qb,qe,qj,zS,yE,qZ,qQ,true_and,ue,yM,yw,yR,zo,f69,gu70,f71,xw,uc,q9,AV.one,qM,qD,ql,qr,qo,qH];refine DW.fin U (by decide +kernel) rfl ?_;simp only[zC,upd,qb,reduceIte,yX,xK];apply J
     apply hZ65
     refine rgE U [2,3,6,27,28,29,37,38,39] fun K J=>?_
     simp only[go_sem,qd,qb,hw62];apply J
     exact⟨_,_,_,qy q62.length,⟨p62++[y62],q62,x58+1,l56++[r68],v57+1,rfl,rfl,rfl,hE'62,hi'62,h⟩,(.t [0,1,2,3] false)⟩
   rw[if_neg hc49] at h;have t72:=eq_false hc49;apply yf;apply hZ13
   refine rg U [2] fun K J=>?_
   simp only[go_sem,qd,qf,qb,t72];apply J
   cases h;exact rtA
 clear h
 rintro m L τ ⟨k20,l14,x16,v15,rfl,rfl,rfl,h⟩
 rcases k20 with _|k20
 · cases h
 simp only[yz.l20] at h;refine D [2,3,27,28,29,30] ?_
 refine za fun Z21 hZ21=>?_
 refine yn rfl (fun hc22=>?_) (fun hc22=>?_)
 · rw[if_pos hc22] at h;have t23:=eq_true hc22;apply zj;apply hZ21
   refine za fun Z24 hZ24=>?_
   apply zn;obtain⟨y25,hy25,h⟩:=bind_some h;have f26:=E34.idxS hy25;have f27:=E34.loadS rfl rfl hy25
   refine rg U [2,3,5,27,28,29] fun K J=>?_
   simp only[go_sem,qd,qf,qb,qe,zQ,yK,t23,f26,f27];apply J
   refine D [2,3,5,6,27,28,29] ?_;refine ZN 4 1 1 rfl (by simp) rfl (L:=[(2,.op 0 0 0),(3,.op 1 0 0),(5,.op 3 0 0),(6,.op 4 0 0),(27,.ds true (qc zx a0.fEntries) (qa a0.fEntries) false),(28,.int .i64 (qa a0.fEntries:Int)),(29,.int .i64 x16)]) (τ:=[.cells 0 [.nilI],.cells 0 [.os true 2 2 v15 0 (qa l14) false,.ds true (qc zs r12) (qa r12) false],.cells v15 (qc y0 l14),.cells 0 (zQ y25),.cells 0 [.int .i64 y25.fTag,.os true 1 5 0 0 (qa ([]:List zm)) false],.cells 0 (qc zo ([]:List zm))]) .s ?_
   refine za fun Z28 hZ28=>?_
   refine D [2,3,6,27,28,29,37,38,39] ?_;apply zn
   refine xn 37 fun hb35=>?_
   replace hb35:qa y25.fTrees≤9223372036854775807:=hb35.1;refine yh (fun m L τ=>∃ (p35 q35:List zk) (x31:Int) (l29:List zm) (v30:Nat),m=qa q35∧L=[(2,.op 0 0 0),(3,.op 1 0 0),(6,.op 3 0 0),(27,.ds true (qc zx a0.fEntries) (qa a0.fEntries) false),(28,.int .i64 (qa a0.fEntries:Int)),(29,.int .i64 x16),(37,.ds true (qc yp y25.fTrees) (qa y25.fTrees) false),(38,.int .i64 (qa y25.fTrees:Int)),(39,.int .i64 x31)]∧τ=([.cells 0 [.nilI],.cells 0 [.os true 2 2 v15 0 (qa l14) false,.ds true (qc zs r12) (qa r12) false],.cells v15 (qc y0 l14),.cells 0 [.int .i64 y25.fTag,.os true 1 4 v30 0 (qa l29) false],.cells v30 (qc zo l29)]:ze)∧y25.fTrees=p35++q35∧x31=(qa p35:Int)∧yz.l35 xz l14 x16 (yz.l20 xz a0 r12 k20) y25 q35 x31 l29=some r) _ ⟨[],y25.fTrees,0,([]:List zm),0,rfl,rfl,rfl,rfl,rfl,h⟩ (.t [0,1,2,4,5] false) ?_;rintro m L τ ⟨p35,q35,x31,l29,v30,rfl,rfl,rfl,hE35,hi35,h⟩
   rcases q35 with _|⟨y35,q35⟩
   · have hz35:=xC hE35 hi35;simp only[yz.l35] at h
     refine rg U [2,3,6,27,28,29,37,38,39,40] fun K J=>?_
     simp only[go_sem,qd,qb,hz35];apply J
     refine za fun Z36 hZ36=>?_
     refine zG rfl ?_;apply yf;apply hZ28;obtain⟨_u37,hu37,h⟩:=bind_some h;have gu37:=xf hu37;have f38:=(zV E324.len l14)
     refine rdE [2,3,27,28,29] fun K J=>?_
     refine DW.start (T:=tab) [.any,.any,.any,.any,.own 1 [],.at [],.eff,.eff,.any,.any,.eff] [(1,[])] ?_;refine DW.runN U 8 ?_;simp only[go_sem,qd,qf,qb,qe,qj,zS,yE,qZ,qQ,true_and,ue,yM,yw,yR,gu37,f38,xw,uc,q9,AV.one,qM,qD,ql,qr,qo,qH];refine DW.runN U 3 ?_;simp only[go_sem,qd,qf,qb,qe,ql,qr,qo];refine DW.fin U (by decide +kernel) rfl ?_;simp only[zC,upd,qb,reduceIte,yX,xK];apply J
     apply hZ24
     refine rgE U [2,3,27,28,29] fun K J=>?_
     simp only[go_sem,qd,qb];apply J
     exact⟨_,_,_,qy (0+k20),⟨k20,l14++[(⟨y25.fTag,l29⟩:yI)],IntKind.i64.wrap (x16+1),v15+1,rfl,rfl,rfl,h⟩,(.t [0,1,2] false)⟩
   obtain⟨hz35,hw35,hx35,hE'35,hi'35⟩:=yU hE35 hi35 hb35;simp only[yz.l35] at h
   refine rg U [2,3,6,27,28,29,37,38,39,40] fun K J=>?_
   simp only[go_sem,qd,qb,hz35];apply J
   refine za fun Z39 hZ39=>?_
   refine zK rfl ?_;apply zj;apply hZ39
   refine za fun Z40 hZ40=>?_
   apply zn;have f41:=E38.idxS hx35;have f42:=E38.loadS rfl rfl hx35
   refine rg U [2,3,6,8,27,28,29,37,38,39] fun K J=>?_
   simp only[go_sem,qd,qf,qb,qe,zd,yu,f41,f42];apply J
   obtain⟨r43,hr43,h⟩:=bind_some h;have f44:=Yp r43;unfold AV.one at f44;obtain⟨_u45,hu45,h⟩:=bind_some h;have gu45:=xf hu45;have f46:=(zV E282.len l29)
   refine rdE [2,3,6,27,28,29,37,38,39] fun K J=>?_
   refine DW.start (T:=tab) [.any,.own 2 [],.at [],.eff,.eff,.eff,.any,.eff] [(2,[])] ?_;refine DW.runN U 3 ?_;simp only[go_sem,qd,qf,qb,qe,zo,ql,qr,qo];refine DW.call rfl rfl rfl (ev_value_made y35 r43 hr43 _) ?_;refine DW.runN U 4 ?_;simp only[go_sem,qd,qf,qb,qe,qj,zS,yE,qZ,qQ,true_and,ue,yM,yw,yR,zo,f44,gu45,f46,xw,uc,q9,AV.one,qM,qD,ql,qr,qo,qH];refine DW.fin U (by decide +kernel) rfl ?_;simp only[zC,upd,qb,reduceIte,yX,xK];apply J
   apply hZ40
   refine rgE U [2,3,6,27,28,29,37,38,39] fun K J=>?_
   simp only[go_sem,qd,qb,hw35];apply J
   exact⟨_,_,_,qy q35.length,⟨p35++[y35],q35,x31+1,l29++[r43],v30+1,rfl,rfl,rfl,hE'35,hi'35,h⟩,(.t [0,1,2,3,4] false)⟩
 rw[if_neg hc22] at h;have t47:=eq_false hc22;apply yf;apply hZ13
 refine rg U [2] fun K J=>?_
 simp only[go_sem,qd,qf,qb,t47];apply J
 cases h;exact rtA
def yz : Nat→zk→Option zm
 |0,_=>none
 |k+1,a0=>yz.body (yz k) a0
theorem yz.all (k:Nat):(∀ (a0:zk) (r:zm),yz k a0=some r→ACalls qg 185 [.agg (zd a0)] [] (fun r' _=>r'=.agg (zo r))):=by
 induction k with
 |zero=>exact (fun a0 r h=>by simp only[yz] at h; cases h)
 |succ k ih=>exact (fun a0 r h=>yz.step _ ih a0 r (by simpa only [yz] using h))
theorem yz.ev (k:Nat)(a0:zk)(r:zm)(h:yz k a0=some r)(σ:ze):ACalls qg 185 [.agg (zd a0)] σ (fun r' σ'=>r'=.agg (zo r)∧σ'=σ):=
 ((yz.all k) a0 r h).c σ
def Xz (a0:zk):Option (zm×Bool):=
 (Yk a0).bind fun r2=>(if (!r2)=true then some (zm.nil,false) else (yz xo a0).bind fun r4=>some (r4,true))
theorem Xz.ok {a0 r}(h:Xz a0=some r):ACalls qg 144 [.agg (zd a0)] [] (fun r' _=>r'=.tup [.agg (zo r.1),.bool r.2]):=by
 refine zt (rs:=[.cell 2 228,.tmp 3]) U Tryz.func144 rfl Tryz.ntmps144 rfl Tryz.call144 (by simp) ?_;refine zA [(0,.agg (zd a0))] ⟨rfl,trivial⟩ ?_;unfold Xz at h
 refine rg U [1,2] fun K J=>?_
 simp only[go_sem,qd,qb,qe,reduceCtorEq,zd];apply J
 refine za fun Z1 hZ1=>?_
 refine rc [1,2,6] fun K J=>?_
 obtain⟨r2,hr2,h⟩:=bind_some h;refine O 1 ?_;refine clN rfl rfl rfl ((Yk.ok hr2).c _) ?_;refine O 1 ?_;refine nkN J ?_;refine zU (b:=(!r2)) rfl (fun hc3=>?_) (fun hc3=>?_)
 · rw[if_pos hc3] at h;refine D [2,3] ?_;cases h;exact rtA
 rw[Zf hc3] at h;apply zj;apply hZ1
 refine rc [2,3] fun K J=>?_
 obtain⟨r4,hr4,h⟩:=bind_some h;refine O 1 ?_;refine clN rfl rfl rfl (yz.ev xo a0 r4 hr4 _) ?_;have f5:=Yp r4;unfold AV.one at f5;refine zB U 2 ?_;simp only[go_sem,qd,qf,qb,zo,f5];refine nkN J ?_;cases h;exact rtA
def xT (a0:zm):Option yl:=
 (match a0 with|.nil=>none|.num n2=>none|.str s2=>none|.node e2 r2=>some (⟨e2,r2⟩:yl))
theorem xT.ok {a0 r}(h:xT a0=some r):ACalls qg 146 [.agg (zo a0)] [] (fun r' _=>r'=.dp (zO r) 0):=by
 refine zt (rs:=[.tmp 2]) U Tryz.func146 rfl Tryz.ntmps146 rfl Tryz.call146 (by simp) ?_;refine zA [(0,.agg (zo a0))] ⟨rfl,trivial⟩ ?_;unfold xT at h;have f1:=Yp a0;unfold AV.one at f1
 refine rg U [1] fun K J=>?_
 simp only[go_sem,qd,qb,reduceCtorEq,zo,f1];apply J
 rcases a0 with _|n2|s2|⟨e2,r2⟩
 · dsimp only at h
   try simp only[vbe]
   cases h
 · dsimp only at h
   try simp only[vbd]
   cases h
 · dsimp only at h
   try simp only[vbc]
   cases h
 dsimp only at h
 try simp only[XI]
 refine rg U [2] fun K J=>?_
 simp only[go_sem,qd,qb,xG,xH,TypeDesc.isIface];apply J
 cases h;exact rtA
def wH (a0:yl):Option (List yc):=
 (xW a0.frest).bind fun r1=>some r1
theorem wH.own {a0 r}(h:wH a0=some r):ACalls qg 186 [.dp (zO a0) 0] [] (fun r' σ'=>r'=.os true 4 0 0 0 (qa r) false∧σ'=[.cells 0 (qc zs r)]):=by
 refine ACalls.own0 (by simp only[push_cast]) ?_;refine X9 (rs:=[.tmp 2]) U Tryz.func186 rfl Tryz.ntmps186 rfl Tryz.call186 (by simp) ?_;refine zA [(0,.dp (zO a0) 0)] ⟨rfl,trivial⟩ ?_;unfold wH at h;refine D [0] ?_
 refine rc [2] fun K J=>?_
 obtain⟨r1,hr1,h⟩:=bind_some h;refine zB U 4 ?_;simp only[go_sem,qd,qb,qe,reduceCtorEq,zO,vbJ];refine clN rfl rfl rfl (@id (ACalls qg 227 [.ds true (qc zs a0.frest) (qa a0.frest) false] [] (fun r' σ'=>r'=.os true 4 0 0 0 (qa r1) false∧σ'=[.cells 0 (qc zs r1)])) ((xW.own a0.frest r1 hr1).ownAt0 (by simp only[push_cast]) (by simp only[push_cast]) _)) ?_;refine O 1 ?_;refine nkN J ?_;apply yk;cases h;simp only[ZJ,yQ,yZ,xQ,exists_eq_left',go_sem];refine⟨0,0,by simp,?_,?_⟩
 · first|rfl|(simp only[go_sem,qd,qf,qb,qe,qj,qm,reduceIte,reduceCtorEq,push_cast,if_true,qz,qo,qq,qn,qF,qs,qK,qI,qv,qu,qt,zz,zs]<;>rfl)
 first|rfl|(simp only[go_sem,push_cast,qn,zz]<;>rfl)
theorem wH.ok {a0 r}(h:wH a0=some r):ACalls qg 186 [.dp (zO a0) 0] [] (fun r' _=>r'=.ds true (qc zs r) (qa r) false):=
 (wH.own h).ownData (zV E35.len r) (by simp only[push_cast])
def xr.l8 : List yI→Int→List Int→Option (List Int)
 |[],x4,l2=>some l2
 |y8::q8,x4,l2=>(X7 (qa l2+1) 8).bind fun _u14=>((xr.l8 q8) (x4+1) (l2++[y8.ftag]))
def xr (a0:yl):Option (List Int):=
 (xr.l8 a0.fentries 0 ([]:List Int))
theorem xr.own {a0 r}(h:xr a0=some r):ACalls qg 187 [.dp (zO a0) 0] [] (fun r' σ'=>r'=.os true 1 0 0 0 (qa r) false∧σ'=[.cells 0 (qc wN r)]):=by
 refine ACalls.own0 (by simp only[push_cast]) ?_;refine X9 (rs:=[.tmp 2]) U Tryz.func187 rfl Tryz.ntmps187 rfl Tryz.call187 (by simp) ?_;refine zA [(0,.dp (zO a0) 0)] ⟨rfl,trivial⟩ ?_;unfold xr at h;refine D [0] ?_;refine D [0,3] ?_;refine YV 3 1 rfl ?_;refine yT (L:=[(0,.dp (zO a0) 0),(3,.os true 1 0 0 0 (qa ([]:List Int)) false)]) (τ:=[.cells 0 (qc wN ([]:List Int))]) .s ?_
 refine za fun Z1 hZ1=>?_
 refine rg U [3,9,10,11] fun K J=>?_
 simp only[go_sem,qd,qb,qe,reduceCtorEq,zO,vbJ];apply J
 apply zn
 refine xn 9 fun hb8=>?_
 replace hb8:qa a0.fentries≤9223372036854775807:=hb8.1;refine yh (fun m L τ=>∃ (p8 q8:List yI) (x4:Int) (l2:List Int) (v3:Nat),m=qa q8∧L=[(3,.os true 1 0 v3 0 (qa l2) false),(9,.ds true (qc y0 a0.fentries) (qa a0.fentries) false),(10,.int .i64 (qa a0.fentries:Int)),(11,.int .i64 x4)]∧τ=([.cells v3 (qc wN l2)]:ze)∧a0.fentries=p8++q8∧x4=(qa p8:Int)∧xr.l8 q8 x4 l2=some r) _ ⟨[],a0.fentries,0,([]:List Int),0,rfl,rfl,rfl,rfl,rfl,h⟩ .s ?_;rintro m L τ ⟨p8,q8,x4,l2,v3,rfl,rfl,rfl,hE8,hi8,h⟩
 rcases q8 with _|⟨y8,q8⟩
 · have hz8:=xC hE8 hi8;simp only[xr.l8] at h
   refine rg U [3,9,10,11,12] fun K J=>?_
   simp only[go_sem,qd,qb,hz8];apply J
   refine za fun Z9 hZ9=>?_
   refine zG rfl ?_;apply yf;apply hZ1;refine D [2] ?_;apply yk;cases h;simp only[ZJ,yQ,yZ,xQ,exists_eq_left',go_sem];refine⟨0,v3,by simp,?_,?_⟩
   · first|rfl|(simp only[go_sem,qd,qf,qb,qe,qj,qm,reduceIte,reduceCtorEq,push_cast,if_true,qz,qo,qq,qn,qF,qs,qK,qI,qv,qu,qt,zz]<;>rfl)
   first|rfl|(simp only[go_sem,push_cast,qn,zz]<;>rfl)
 obtain⟨hz8,hw8,hx8,hE'8,hi'8⟩:=yU hE8 hi8 hb8;simp only[xr.l8] at h
 refine rg U [3,9,10,11,12] fun K J=>?_
 simp only[go_sem,qd,qb,hz8];apply J
 refine za fun Z10 hZ10=>?_
 refine zK rfl ?_;apply zj;apply hZ10
 refine za fun Z11 hZ11=>?_
 apply zn;have f12:=E324.idxS hx8;have f13:=E324.loadS rfl rfl hx8
 refine rg U [3,5,9,10,11] fun K J=>?_
 simp only[go_sem,qd,qf,qb,qe,wa,xZ,f12,f13];apply J
 obtain⟨_u14,hu14,h⟩:=bind_some h;have gu14:=xf hu14;have f15:=(zV E26.len l2)
 refine rgE U [3,9,10,11] fun K J=>?_
 simp only[go_sem,qd,qf,qb,qe,qj,zS,yE,qZ,qQ,true_and,ue,yM,yw,yR,gu14,f15,xw,uc,q9,AV.one,qM,qD,ql,qr,qo,qH];apply J
 apply hZ11
 refine rgE U [3,9,10,11] fun K J=>?_
 simp only[go_sem,qd,qb,hw8];apply J
 exact⟨_,_,_,qy q8.length,⟨p8++[y8],q8,x4+1,l2++[y8.ftag],v3+1,rfl,rfl,rfl,hE'8,hi'8,h⟩,(.t [0] false)⟩
theorem xr.ok {a0 r}(h:xr a0=some r):ACalls qg 187 [.dp (zO a0) 0] [] (fun r' _=>r'=.ds true (qc wN r) (qa r) false):=
 (xr.own h).ownData (zV E26.len r) (by simp only[push_cast])
def w8 (a0:List zm):Option (List zm):=(X7 (qa a0) 16).bind fun _=>some a0
theorem w8.own (a0 r:List zm)(h:w8 a0=some r):ACalls qg 228 [.ds true (qc zo a0) (qa a0) false] [] (fun r' σ'=>r'=.os true 1 0 0 0 (qa r) false∧σ'=[.cells 0 (qc zo r)]):=by
 obtain⟨_u,hu,h⟩:=bind_some h;have gu:=xf hu;cases h
 have f1:=fun nl tt σ=>Zd E282.len a0 nl tt σ
 have f2:=zV E282.len a0;have f3:=YN zo a0;refine vet (rs:=[.tmp 2]) U Tryz.func228 rfl Tryz.ntmps228 rfl Tryz.call228 (by simp) ?_;refine zA [(0,.ds true (qc zo a0) (qa a0) false)] ⟨rfl,trivial⟩ ?_;refine D [0] ?_
 refine za fun Z1 hZ1=>?_
 refine rc [0,4] fun K J=>?_
 refine O 1 ?_
 refine Xq U rfl rfl rfl rfl rfl rfl fun b hnil=>?_
 have hb:b=true→a0=[]:=fun hb=>by
  have:=hnil hb;simp only[yR,go_sem,reduceCtorEq] at this;exact ul this
 clear hnil
 refine nkN J ?_;cases b
 · refine zG rfl ?_;apply zj;apply hZ1
   refine rg U [2] fun K J=>?_
   by_cases h0:qa a0=0
   · obtain rfl:=ul h0;simp only[go_sem,qd,qb,reduceCtorEq,zS,yE,qQ,uu,yM,yw,yR,xb,uf,qr,uw,uc];apply J
     apply yk;simp only[ZJ,yQ,yZ,xQ,exists_eq_left',go_sem];refine .inl ⟨0,true,by simp,?_,?_⟩
     · first|rfl|(simp only[go_sem,qd,qf,qb,qe,qj,qm,reduceIte,reduceCtorEq,ZT,Yx,if_true]<;>rfl)
     first|rfl|(simp only[go_sem,qd,qf,qb,qe,qj,qm,reduceIte,reduceCtorEq,Y5,vbt,YD,Y6,Xm,qn]<;>rfl)
   have h1:=eq_false h0;simp only[go_sem,qd,qb,reduceCtorEq,zS,yE,qQ,uu,yM,yw,yR,f1,f3,h1,gu,xw,qn,qD,uw];apply J
   apply yk;simp only[ZJ,yQ,yZ,xQ,exists_eq_left',go_sem,qe];refine .inl ⟨1,false,by simp,?_,?_⟩
   · first|rfl|(simp only[go_sem,qd,qf,qb,qe,qj,qm,reduceIte,reduceCtorEq,ZT,Yx,if_true]<;>rfl)
   first|rfl|(simp only[go_sem,Y5,YD,Y6,Xm,zz]<;>rfl)
 obtain rfl:=hb rfl;refine zK rfl ?_;refine D [2] ?_;apply yk;simp only[ZJ,yQ,yZ,xQ,exists_eq_left',go_sem];refine .inr ?_
 first|rfl|(simp only[go_sem,qd,qf,qb,qe,qj,qm,reduceIte,reduceCtorEq,Xl,qn,qs,qK,qt,qI]<;>rfl)
def xq.l4 (a1:Int):List yI→Int→Option (List zm)
 |[],x2=>some ([]:List zm)
 |y4::q4,x2=>(if y4.ftag=a1 then (w8 y4.fl).bind fun r12=>some r12 else ((xq.l4 a1 q4) (x2+1)))
def xq (a0:yl)(a1:Int):Option (List zm):=
 (xq.l4 a1 a0.fentries 0)
theorem xq.ok {a0 a1 r}(h:xq a0 a1=some r):ACalls qg 188 [.dp (zO a0) 0,.int .i64 a1] [] (fun r' _=>r'=.ds true (qc zo r) (qa r) false):=by
 refine zt (rs:=[.tmp 4]) U Tryz.func188 rfl Tryz.ntmps188 rfl Tryz.call188 (by simp) ?_;refine zA [(0,.dp (zO a0) 0),(1,.int .i64 a1)] ⟨rfl,rfl,trivial⟩ ?_;unfold xq at h;refine D [0,1] ?_
 refine za fun Z1 hZ1=>?_
 refine rg U [1,10,11,12] fun K J=>?_
 simp only[go_sem,qd,qb,qe,reduceCtorEq,zO,vbJ];apply J
 apply zn
 refine xn 10 fun hb4=>?_
 replace hb4:qa a0.fentries≤9223372036854775807:=hb4.1;refine yh (fun m L τ=>∃ (p4 q4:List yI) (x2:Int),m=qa q4∧L=[(1,.int .i64 a1),(10,.ds true (qc y0 a0.fentries) (qa a0.fentries) false),(11,.int .i64 (qa a0.fentries:Int)),(12,.int .i64 x2)]∧τ=([]:ze)∧a0.fentries=p4++q4∧x2=(qa p4:Int)∧xq.l4 a1 q4 x2=some r) _ ⟨[],a0.fentries,0,rfl,rfl,rfl,rfl,rfl,h⟩ .s ?_;rintro m L τ ⟨p4,q4,x2,rfl,rfl,rfl,hE4,hi4,h⟩
 rcases q4 with _|⟨y4,q4⟩
 · have hz4:=xC hE4 hi4;simp only[xq.l4] at h
   refine rg U [1,10,11,12,13] fun K J=>?_
   simp only[go_sem,qd,qb,hz4];apply J
   refine za fun Z5 hZ5=>?_
   refine zG rfl ?_;apply yf;apply hZ1;refine D [4] ?_;cases h;exact rtA
 obtain⟨hz4,hw4,hx4,hE'4,hi'4⟩:=yU hE4 hi4 hb4;simp only[xq.l4] at h
 refine rg U [1,10,11,12,13] fun K J=>?_
 simp only[go_sem,qd,qb,hz4];apply J
 refine za fun Z6 hZ6=>?_
 refine zK rfl ?_;apply zj;apply hZ6
 refine za fun Z7 hZ7=>?_
 apply zn;have f8:=E324.idxS hx4;have f9:=E324.loadS rfl rfl hx4
 refine rg U [1,6,10,11,12] fun K J=>?_
 simp only[go_sem,qd,qf,qb,qe,wa,xZ,f8,f9];apply J
 refine D [1,6,10,11,12,19] ?_;refine yn rfl (fun hc10=>?_) (fun hc10=>?_)
 · rw[if_pos hc10] at h;have t11:=eq_true hc10
   refine rc [4] fun K J=>?_
   obtain⟨r12,hr12,h⟩:=bind_some h;refine zB U 2 ?_;simp only[go_sem,qd,qb,qe,t11];refine clN rfl rfl rfl (@id (ACalls qg 228 [.ds true (qc zo y4.fl) (qa y4.fl) false] [.cells 0 (wa y4)] (fun r' σ'=>r'=.os true 1 1 0 0 (qa r12) false∧σ'=[.cells 0 (wa y4),.cells 0 (qc zo r12)])) ((w8.own y4.fl r12 hr12).ownAt0 (by simp only[push_cast]) (by simp only[push_cast]) _)) ?_;refine O 1 ?_;refine nkN J ?_;cases h;exact rtA
 rw[if_neg hc10] at h;have t13:=eq_false hc10;apply zj;apply hZ7
 refine rgE U [1,10,11,12] fun K J=>?_
 simp only[go_sem,qd,qb,hw4,t13];apply J
 exact⟨_,_,_,qy q4.length,⟨p4++[y4],q4,x2+1,rfl,rfl,rfl,hE'4,hi'4,h⟩,(.t [] false)⟩
def Zk (a0:zm):Int×Bool:=
 (match a0 with|.nil=>(0,false)|.num n2=>(n2,true)|.str s2=>(0,false)|.node e2 r2=>(0,false))
theorem Zk.ok {a0 r}(h:Zk a0=r):ACalls qg 243 [.agg (zo a0)] [] (fun r' _=>r'=.tup [.int .i64 r.1,.bool r.2]):=by
 refine zt (rs:=[.tmp 2,.tmp 3]) U Tryz.func243 rfl Tryz.ntmps243 rfl Tryz.call243 (by simp) ?_;refine zA [(0,.agg (zo a0))] ⟨rfl,trivial⟩ ?_;unfold Zk at h;have f1:=Yp a0;unfold AV.one at f1
 refine rg U [1] fun K J=>?_
 simp only[go_sem,qd,qb,reduceCtorEq,zo,f1];apply J
 rcases a0 with _|n2|s2|⟨e2,r2⟩
 · dsimp only at h
   try simp only[vbe]
   refine rg U [4,5] fun K J=>?_
   simp only[go_sem,qd,qb,qe,xG,xH,TypeDesc.isIface];apply J
   refine D [2,3] ?_;cases h;exact rtA
 · dsimp only at h
   try simp only[vbd]
   refine rg U [4,5] fun K J=>?_
   simp only[go_sem,qd,qb,qe,xG,xH,TypeDesc.isIface];apply J
   refine D [2,3] ?_;cases h;exact rtA
 · dsimp only at h
   try simp only[vbc]
   refine rg U [4,5] fun K J=>?_
   simp only[go_sem,qd,qb,qe,xG,xH,TypeDesc.isIface];apply J
   refine D [2,3] ?_;cases h;exact rtA
 dsimp only at h
 try simp only[XI]
 refine rg U [4,5] fun K J=>?_
 simp only[go_sem,qd,qb,qe,xG,xH,TypeDesc.isIface];apply J
 refine D [2,3] ?_;cases h;exact rtA
def Yb (a0:zm):List UInt8×Bool:=
 (match a0 with|.nil=>([],false)|.num n2=>([],false)|.str s2=>(s2,true)|.node e2 r2=>([],false))
theorem Yb.ok {a0 r}(h:Yb a0=r):ACalls qg 244 [.agg (zo a0)] [] (fun r' _=>r'=.tup [.str r.1,.bool r.2]):=by
 refine zt (rs:=[.tmp 2,.tmp 3]) U Tryz.func244 rfl Tryz.ntmps244 rfl Tryz.call244 (by simp) ?_;refine zA [(0,.agg (zo a0))] ⟨rfl,trivial⟩ ?_;unfold Yb at h;have f1:=Yp a0;unfold AV.one at f1
 refine rg U [1] fun K J=>?_
 simp only[go_sem,qd,qb,reduceCtorEq,zo,f1];apply J
 rcases a0 with _|n2|s2|⟨e2,r2⟩
 · dsimp only at h
   try simp only[vbe]
   refine rg U [4,5] fun K J=>?_
   simp only[go_sem,qd,qb,qe,xG,xH,TypeDesc.isIface];apply J
   refine D [2,3] ?_;cases h;exact rtA
 · dsimp only at h
   try simp only[vbd]
   refine rg U [4,5] fun K J=>?_
   simp only[go_sem,qd,qb,qe,xG,xH,TypeDesc.isIface];apply J
   refine D [2,3] ?_;cases h;exact rtA
 · dsimp only at h
   try simp only[vbc]
   refine rg U [4,5] fun K J=>?_
   simp only[go_sem,qd,qb,qe,xG,xH,TypeDesc.isIface];apply J
   refine D [2,3] ?_;cases h;exact rtA
 dsimp only at h
 try simp only[XI]
 refine rg U [4,5] fun K J=>?_
 simp only[go_sem,qd,qb,qe,xG,xH,TypeDesc.isIface];apply J
 refine D [2,3] ?_;cases h;exact rtA
def Ys (a0:zm):Option zm:=
 bnd (Zk a0) fun r3=>(if r3.2=true then some (zm.num r3.1) else bnd (Yb a0) fun r6=>(if r6.2=true then some (zm.str r6.1) else (xT a0).bind fun r8=>some (zm.node r8.fentries r8.frest)))
theorem Ys.ok {a0 r}(h:Ys a0=some r):ACalls qg 229 [.agg (zo a0)] [] (fun r' _=>r'=anyV r):=by
 refine zt (rs:=[.tmp 2]) U Tryz.func229 rfl Tryz.ntmps229 rfl Tryz.call229 (by simp) ?_;refine zA [(0,.agg (zo a0))] ⟨rfl,trivial⟩ ?_;unfold Ys at h;have f1:=Yp a0;unfold AV.one at f1
 refine rg U [1] fun K J=>?_
 simp only[go_sem,qd,qb,reduceCtorEq,zo,f1];apply J
 refine za fun Z2 hZ2=>?_
 refine rc [1,3,4] fun K J=>?_
 obtain⟨r3,hr3,h⟩:=ye h;refine O 1 ?_;refine clN rfl rfl rfl ((Zk.ok hr3).c _) ?_;refine O 5 ?_;refine nkN J ?_;refine D [1,3,12] ?_;refine zU (b:=r3.2) rfl (fun hc4=>?_) (fun hc4=>?_)
 · rw[if_pos hc4] at h;refine D [2] ?_;cases h;exact rtA
 rw[Zf hc4] at h;apply zj;apply hZ2
 refine za fun Z5 hZ5=>?_
 refine rc [1,5,6] fun K J=>?_
 obtain⟨r6,hr6,h⟩:=ye h;refine O 1 ?_;refine clN rfl rfl rfl ((Yb.ok hr6).c _) ?_;refine O 5 ?_;refine nkN J ?_;refine D [1,5,20] ?_;refine zU (b:=r6.2) rfl (fun hc7=>?_) (fun hc7=>?_)
 · rw[if_pos hc7] at h;refine D [2] ?_;cases h;exact rtA
 rw[Zf hc7] at h;apply zj;apply hZ5
 refine rc [2] fun K J=>?_
 obtain⟨r8,hr8,h⟩:=bind_some h;refine O 1 ?_;refine clN rfl rfl rfl ((xT.ok hr8).c _) ?_;refine O 2 ?_;refine nkN J ?_;cases h;exact rtA
def wM.l9 : Nat→List UInt8→Int→Option (List UInt8)
 |0,_,_=>none
 |k9+1,l3,x5=>(if 128≤x5 then (X7 (qa l3+1) 1).bind fun _u14=>((wM.l9 k9) (l3++[ub (qO (IntKind.u8.wrap ((ux (qJ 8 (IntKind.u8.wrap x5) ||| qJ 8 128):Nat):Int)))]) (Int.fdiv x5 (2^(min (qO 7) 64)))) else (X7 (qa l3+1) 1).bind fun _u18=>some (l3++[ub (qO (IntKind.u8.wrap x5))]))
end
section
set_option maxRecDepth 4000
set_option maxHeartbeats 1000000
open AM
def wM (a0:List UInt8)(a1:Int):Option (List UInt8):=
 (if 128≤a1 then (X7 (qa a0+1) 1).bind fun _u24=>(wM.l9 xo (a0++[ub (qO (IntKind.u8.wrap ((ux (qJ 8 (IntKind.u8.wrap a1) ||| qJ 8 128):Nat):Int)))]) (Int.fdiv a1 (2^(min (qO 7) 64)))) else (X7 (qa a0+1) 1).bind fun _u28=>some (a0++[ub (qO (IntKind.u8.wrap a1))]))
theorem wM.own {a0 a1 r}(h:wM a0 a1=some r):ACalls qg 191 [.ds true (qc ZR a0) (qa a0) false,.int .u64 a1] [] (fun r' σ'=>r'=.os true 1 0 0 0 (qa r) false∧σ'=[.cells 0 (qc ZR r)]):=by
 refine ACalls.own0 (by simp only[push_cast]) ?_;refine X9 (rs:=[.tmp 4]) U Tryz.func191 rfl Tryz.ntmps191 rfl Tryz.call191 (by simp) ?_;refine zA [(0,.ds true (qc ZR a0) (qa a0) false),(1,.int .u64 a1)] ⟨rfl,rfl,trivial⟩ ?_;unfold wM at h;refine D [0,1] ?_;have f1:=E48.sl_tight a0 .i64 .i64
 refine rg U [0,1] fun K J=>?_
 simp only[go_sem,qd,qb,reduceCtorEq,f1];apply J
 refine za fun Z2 hZ2=>?_
 apply zn;refine awp_loopS1 (fun m L τ=>∃ (k9:Nat) (l3:List UInt8) (x5:Int) (v4:Nat),m=0+k9∧L=[(0,.os true 1 0 v4 0 (qa l3) false),(1,.int .u64 x5)]∧τ=([.cells v4 (qc ZR l3)]:ze)∧wM.l9 k9 l3 x5=some r) (xo+1) ?_ ?_
 · refine za fun Z20 hZ20=>?_
   refine D [0,1,12] ?_;refine yn rfl (fun hc21=>?_) (fun hc21=>?_)
   · rw[if_pos hc21] at h;have t22:=eq_true hc21;apply zj;apply hZ20;apply zn;have f23:=w6 (T:=tab) (src:=287) (dst:=5) rfl rfl rfl;obtain⟨_u24,hu24,h⟩:=bind_some h;have gu24:=xf hu24;have f25:=app_tight E48.len a0 (m:=1) (by decide)
     refine rg U [0,1] fun K J=>?_
     simp only[go_sem,qd,qf,qb,qj,reduceCtorEq,zS,yE,qZ,qQ,true_and,ue,yM,yR,t22,f23,gu24,f25,xw,uc,q9,AV.one,qM,qD,ql,qr,qo,qH];apply J
     refine yT (L:=[(0,.os true 1 1 0 0 (qa (a0++[ub (qO (IntKind.u8.wrap ((ux (qJ 8 (IntKind.u8.wrap a1) ||| qJ 8 128):Nat):Int)))])) false),(1,.int .u64 a1)]) (τ:=[.cells 0 [.int .u8 (IntKind.u8.wrap ((ux (qJ 8 (IntKind.u8.wrap a1) ||| qJ 8 128):Nat):Int))],.cells 0 (qc ZR (a0++[ub (qO (IntKind.u8.wrap ((ux (qJ 8 (IntKind.u8.wrap a1) ||| qJ 8 128):Nat):Int)))]))]) (.same (by first|exact⟨rfl,rfl,trivial⟩|rfl|(simp only[go_sem,reduceCtorEq,vcf,qk,ql,qr,qo,and_self]<;>rfl)) (by first|exact⟨rfl,rfl,trivial⟩|rfl|(simp only[go_sem,ZR,qX,qU,uf,qE,vch]<;>rfl))) ?_
     refine rgE U [0,1] fun K J=>?_
     simp only[go_sem,qd,qb,reduceCtorEq,vaB,Int.reduceLT];apply J
     exact⟨_,_,_,(Nat.lt_succ_of_le (Nat.le_of_eq (qo xo))),⟨xo,a0++[ub (qO (IntKind.u8.wrap ((ux (qJ 8 (IntKind.u8.wrap a1) ||| qJ 8 128):Nat):Int)))],Int.fdiv a1 (2^(min (qO 7) 64)),0,rfl,rfl,rfl,h⟩,(.t [1] false)⟩
   rw[if_neg hc21] at h;have t26:=eq_false hc21;apply yf;apply hZ2;have f27:=w6 (T:=tab) (src:=287) (dst:=5) rfl rfl rfl;obtain⟨_u28,hu28,h⟩:=bind_some h;have gu28:=xf hu28;have f29:=app_tight E48.len a0 (m:=1) (by decide)
   refine rg U [4] fun K J=>?_
   simp only[go_sem,qd,qf,qb,qj,reduceCtorEq,zS,yE,qZ,qQ,true_and,ue,yM,yR,t26,f27,gu28,f29,xw,uc,q9,AV.one,qM,qD,ql,qr,qo,qH];apply J
   refine yT (L:=[(4,.os true 1 1 0 0 (qa (a0++[ub (qO (IntKind.u8.wrap a1))])) false)]) (τ:=[.cells 0 [.int .u8 (IntKind.u8.wrap a1)],.cells 0 (qc ZR (a0++[ub (qO (IntKind.u8.wrap a1))]))]) (.same (by first|exact⟨rfl,trivial⟩|rfl|(simp only[go_sem,vcf,qk,ql,qr,qo,and_self]<;>rfl)) (by first|exact⟨rfl,trivial⟩|rfl|(simp only[go_sem,ZR,qX,qU,uf,qE,vch]<;>rfl))) ?_;apply yk;cases h;simp only[ZJ,yQ,yZ,xQ,exists_eq_left',go_sem,qe];refine⟨1,0,by simp,?_,?_⟩
   · first|rfl|(simp only[go_sem,qd,qf,qb,qe,qj,qm,reduceIte,reduceCtorEq,push_cast,if_true,qz,qo,qq,qn,qF,qs,qK,qI,qv,qu,qt,zz]<;>rfl)
   first|rfl|(simp only[go_sem,push_cast,qn,zz]<;>rfl)
 clear h
 rintro m L τ ⟨k9,l3,x5,v4,rfl,rfl,rfl,h⟩
 rcases k9 with _|k9
 · cases h
 simp only[wM.l9] at h
 refine za fun Z10 hZ10=>?_
 refine D [0,1,12] ?_;refine yn rfl (fun hc11=>?_) (fun hc11=>?_)
 · rw[if_pos hc11] at h;have t12:=eq_true hc11;apply zj;apply hZ10;apply zn;have f13:=w6 (T:=tab) (src:=287) (dst:=5) rfl rfl rfl;obtain⟨_u14,hu14,h⟩:=bind_some h;have gu14:=xf hu14;have f15:=(zV E48.len l3)
   refine rg U [0,1] fun K J=>?_
   simp only[go_sem,qd,qf,qb,qj,reduceCtorEq,zS,yE,qZ,qQ,true_and,ue,yM,yw,yR,t12,f13,gu14,f15,xw,uc,q9,AV.one,qM,qD,ql,qr,qo,qH];apply J
   refine yT (L:=[(0,.os true 1 0 (v4+1) 0 (qa (l3++[ub (qO (IntKind.u8.wrap ((ux (qJ 8 (IntKind.u8.wrap x5) ||| qJ 8 128):Nat):Int)))])) false),(1,.int .u64 x5)]) (τ:=[.cells (v4+1) (qc ZR (l3++[ub (qO (IntKind.u8.wrap ((ux (qJ 8 (IntKind.u8.wrap x5) ||| qJ 8 128):Nat):Int)))])),.cells 0 [.int .u8 (IntKind.u8.wrap ((ux (qJ 8 (IntKind.u8.wrap x5) ||| qJ 8 128):Nat):Int))]]) (.same (by first|exact⟨rfl,rfl,trivial⟩|rfl|(simp only[go_sem,reduceCtorEq,vcf,qk,ql,qr,qo,and_self]<;>rfl)) (by first|exact⟨rfl,rfl,trivial⟩|rfl|(simp only[go_sem,ZR,qX,qU,uf,qE,vch]<;>rfl))) ?_
   refine rgE U [0,1] fun K J=>?_
   simp only[go_sem,qd,qb,reduceCtorEq,vaB,Int.reduceLT];apply J
   exact⟨_,_,_,qy (0+k9),⟨k9,l3++[ub (qO (IntKind.u8.wrap ((ux (qJ 8 (IntKind.u8.wrap x5) ||| qJ 8 128):Nat):Int)))],Int.fdiv x5 (2^(min (qO 7) 64)),v4+1,rfl,rfl,rfl,h⟩,(.t [0] false)⟩
 rw[if_neg hc11] at h;have t16:=eq_false hc11;apply yf;apply hZ2;have f17:=w6 (T:=tab) (src:=287) (dst:=5) rfl rfl rfl;obtain⟨_u18,hu18,h⟩:=bind_some h;have gu18:=xf hu18;have f19:=(zV E48.len l3)
 refine rg U [4] fun K J=>?_
 simp only[go_sem,qd,qf,qb,qj,reduceCtorEq,zS,yE,qZ,qQ,true_and,ue,yM,yw,yR,t16,f17,gu18,f19,xw,uc,q9,AV.one,qM,qD,ql,qr,qo,qH];apply J
 refine yT (L:=[(4,.os true 1 0 (v4+1) 0 (qa (l3++[ub (qO (IntKind.u8.wrap x5))])) false)]) (τ:=[.cells (v4+1) (qc ZR (l3++[ub (qO (IntKind.u8.wrap x5))])),.cells 0 [.int .u8 (IntKind.u8.wrap x5)]]) (.same (by first|exact⟨rfl,trivial⟩|rfl|(simp only[go_sem,vcf,qk,ql,qr,qo,and_self]<;>rfl)) (by first|exact⟨rfl,trivial⟩|rfl|(simp only[go_sem,ZR,qX,qU,uf,qE,vch]<;>rfl))) ?_;apply yk;cases h;simp only[ZJ,yQ,yZ,xQ,exists_eq_left',go_sem,qe];refine⟨0,v4+1,by simp,?_,?_⟩
 · first|rfl|(simp only[go_sem,qd,qf,qb,qe,qj,qm,reduceIte,reduceCtorEq,push_cast,if_true,qz,qo,qq,qn,qF,qs,qK,qI,qv,qu,qt,zz]<;>rfl)
 first|rfl|(simp only[go_sem,push_cast,qn,zz]<;>rfl)
theorem wM.ok {a0 a1 r}(h:wM a0 a1=some r):ACalls qg 191 [.ds true (qc ZR a0) (qa a0) false,.int .u64 a1] [] (fun r' _=>r'=.ds true (qc ZR r) (qa r) false):=
 (wM.own h).ownData (zV E48.len r) (by simp only[push_cast])
def va3 (a0:Int):Int:=
 IntKind.u64.wrap ((ux (qJ 64 (IntKind.u64.wrap ((IntKind.u64.wrap a0)*2^(min (qO 1) 64))) ^^^ qJ 64 (IntKind.u64.wrap (Int.fdiv a0 (2^(min (qO 63) 64))))):Nat):Int)
theorem va3.ok {a0 r}(h:va3 a0=r):ACalls qg 192 [.int .i64 a0] [] (fun r' _=>r'=.int .u64 r):=by
 refine zt (rs:=[.tmp 2]) U Tryz.func192 rfl Tryz.ntmps192 rfl Tryz.call192 (by simp) ?_;refine zA [(0,.int .i64 a0)] ⟨rfl,trivial⟩ ?_;unfold va3 at h;refine D [0] ?_;have f1:=w6 (T:=tab) (src:=3) (dst:=287) rfl rfl rfl;have f2:=w6 (T:=tab) (src:=3) (dst:=287) rfl rfl rfl
 refine rg U [2] fun K J=>?_
 simp only[go_sem,qd,qb,reduceCtorEq,f1,vaB,Int.reduceLT];apply J
 cases h;exact rtA
def va2 (a0:List UInt8)(a1:yc):Option (List UInt8×Bool):=
 bnd (xD a1) fun r2=>(if (!r2)=true then some (a0,false) else (wM a0 (IntKind.u64.wrap (IntKind.i64.wrap ((IntKind.i64.wrap (2*a1.fTag))+a1.fWire)))).bind fun r5=>(if a1.fWire=0 then bnd (va3 a1.fN) fun r9=>(wM r5 r9).bind fun r10=>some (r10,true) else (wM r5 (IntKind.u64.wrap (qa a1.fB:Int))).bind fun r13=>(X7 (qa r13+qa a1.fB) 1).bind fun _u14=>some (r13++a1.fB,true)))
theorem va2.ok {a0 a1 r}(h:va2 a0 a1=some r):ACalls qg 148 [.ds true (qc ZR a0) (qa a0) false,.agg (zs a1)] [] (fun r' _=>r'=.tup [.ds true (qc ZR r.1) (qa r.1) false,.bool r.2]):=by
 refine zt (rs:=[.tmp 4,.tmp 5]) U Tryz.func148 rfl Tryz.ntmps148 rfl Tryz.call148 (by simp) ?_;refine zA [(0,.ds true (qc ZR a0) (qa a0) false),(1,.agg (zs a1))] ⟨rfl,rfl,trivial⟩ ?_;unfold va2 at h
 refine rg U [0,3] fun K J=>?_
 simp only[go_sem,qd,qb,qe,reduceCtorEq,zs];apply J
 refine za fun Z1 hZ1=>?_
 refine rc [0,3,9] fun K J=>?_
 obtain⟨r2,hr2,h⟩:=ye h;refine O 1 ?_;refine clN rfl rfl rfl ((xD.ok hr2).c _) ?_;refine O 1 ?_;refine nkN J ?_;refine zU (b:=(!r2)) rfl (fun hc3=>?_) (fun hc3=>?_)
 · rw[if_pos hc3] at h;refine D [4,5] ?_;cases h;exact rtA
 rw[Zf hc3] at h;apply zj;apply hZ1
 refine rc [3,6] fun K J=>?_
 have f4:=w6 (T:=tab) (src:=3) (dst:=287) rfl rfl rfl;obtain⟨r5,hr5,h⟩:=bind_some h;refine zB U 8 ?_;simp only[go_sem,qd,qb,qe,reduceCtorEq,f4];refine clN rfl rfl rfl ((wM.ok hr5).c _) ?_;refine O 1 ?_;refine nkN J ?_
 refine za fun Z6 hZ6=>?_
 refine D [3,6,22] ?_;refine yn rfl (fun hc7=>?_) (fun hc7=>?_)
 · rw[if_pos hc7] at h;have t8:=eq_true hc7
   refine rc [4,5] fun K J=>?_
   obtain⟨r9,hr9,h⟩:=ye h;refine zB U 3 ?_;simp only[go_sem,qd,qb,qe,t8];refine clN rfl rfl rfl ((va3.ok hr9).c _) ?_;obtain⟨r10,hr10,h⟩:=bind_some h;refine clN rfl rfl rfl ((wM.ok hr10).c _) ?_;refine O 2 ?_;refine nkN J ?_;cases h;exact rtA
 rw[if_neg hc7] at h;have t11:=eq_false hc7;apply zj;apply hZ6;have f12:=w6 (T:=tab) (src:=3) (dst:=287) rfl rfl rfl;obtain⟨r13,hr13,h⟩:=bind_some h;obtain⟨_u14,hu14,h⟩:=bind_some h;have gu14:=xf hu14;have f15:=(zV E48.len r13)
 refine rd [4,5] fun K J=>?_
 refine DW.start (T:=tab) [.any,.any,.at [],.at [],.at [],.eff,.any,.own 1 [],.eff,.any,.any] [(1,[])] ?_;refine DW.runN U 5 ?_;simp only[go_sem,qd,qb,qe,t11,f12,ql,qr,qo];refine DW.callS rfl rfl rfl (@id (ACalls qg 191 [.ds true (qc ZR r5) (qa r5) false,.int .u64 (IntKind.u64.wrap (qa a1.fB:Int))] [.cells 0 [.int .i64 a1.fTag,.int .i64 a1.fWire,.int .i64 a1.fN,.str a1.fB]] (fun r' σ'=>r'=.os true 1 1 0 0 (qa r13) false∧σ'=[.cells 0 [.int .i64 a1.fTag,.int .i64 a1.fWire,.int .i64 a1.fN,.str a1.fB],.cells 0 (qc ZR r13)])) ((wM.own hr13).ownAt0 (by simp only[push_cast]) (by simp only[push_cast]) _)) (XL (by simp only[go_sem,qf])) ?_;refine DW.runN U 5 ?_;simp only[go_sem,qd,qf,qb,qe,yM,yw,yR,true_and,gu14,f15,srcCells_s,vbh,YN,ql,qr,qo];refine DW.fin U (by decide +kernel) rfl ?_;simp only[zC,upd,qb,reduceIte,yX,xK];apply J
 refine yT (L:=[(4,.os true 1 1 (0+1) 0 (qa (r13++a1.fB)) false),(5,.bool true)]) (τ:=[.cells 0 [.int .i64 a1.fTag,.int .i64 a1.fWire,.int .i64 a1.fN,.str a1.fB],.cells (0+1) (qc ZR (r13++a1.fB))]) .s ?_;cases h;exact rtA
def xm.l11 : List yc→Int→List UInt8→Option (List UInt8×Int)
 |[],x8,x7=>some (x7,0)
 |y11::q11,x8,x7=>(va2 x7 y11).bind fun r17=>(if 4096<(qa r17.1:Int) then some (([]:List UInt8),4) else ((xm.l11 q11) (x8+1) r17.1))
def xm.l4 (a0:List yc):List yc→Int→Option (List UInt8×Int)
 |[],x2=>(xm.l11 a0 0 ([]:List UInt8))
 |y4::q4,x2=>bnd (xD y4) fun r25=>(if (!r25)=true then some (([]:List UInt8),1) else ((xm.l4 a0 q4) (x2+1)))
def xm (a0:List yc):Option (List UInt8×Int):=
 (xm.l4 a0 a0 0)
theorem xm.ok {a0 r}(h:xm a0=some r):ACalls qg 96 [.ds true (qc zs a0) (qa a0) false] [] (fun r' _=>r'=.tup [.ds true (qc ZR r.1) (qa r.1) false,.int .i64 r.2]):=by
 refine zt (rs:=[.tmp 2,.tmp 3]) U Tryz.func96 rfl Tryz.ntmps96 rfl Tryz.call96 (by simp) ?_;refine zA [(0,.ds true (qc zs a0) (qa a0) false)] ⟨rfl,trivial⟩ ?_;unfold xm at h;refine D [0] ?_
 refine za fun Z1 hZ1=>?_
 refine D [0,9,10,11] ?_;apply zn
 refine xn 0 fun hb4=>?_
 replace hb4:qa a0≤9223372036854775807:=hb4.1;refine yh (fun m L τ=>∃ (p4 q4:List yc) (x2:Int),m=qa q4∧L=[(0,.ds true (qc zs a0) (qa a0) false),(9,.ds true (qc zs a0) (qa a0) false),(10,.int .i64 (qa a0:Int)),(11,.int .i64 x2)]∧τ=([]:ze)∧a0=p4++q4∧x2=(qa p4:Int)∧xm.l4 a0 q4 x2=some r) _ ⟨[],a0,0,rfl,rfl,rfl,rfl,rfl,h⟩ .s ?_;rintro m L τ ⟨p4,q4,x2,rfl,rfl,rfl,hE4,hi4,h⟩
 rcases q4 with _|⟨y4,q4⟩
 · have hz4:=xC hE4 hi4;simp only[xm.l4] at h
   refine rg U [0,9,10,11,12] fun K J=>?_
   simp only[go_sem,qd,qb,reduceCtorEq,hz4];apply J
   refine za fun Z5 hZ5=>?_
   refine zG rfl ?_;apply yf;apply hZ1;refine D [0,6] ?_
   refine za fun Z6 hZ6=>?_
   refine D [6,19,20,21] ?_;apply zn
   refine xn 19 fun hb11=>?_
   replace hb11:qa a0≤9223372036854775807:=hb11.1;refine yh (fun m L τ=>∃ (p11 q11:List yc) (x8:Int) (x7:List UInt8),m=qa q11∧L=[(6,.ds true (qc ZR x7) (qa x7) false),(19,.ds true (qc zs a0) (qa a0) false),(20,.int .i64 (qa a0:Int)),(21,.int .i64 x8)]∧τ=([]:ze)∧a0=p11++q11∧x8=(qa p11:Int)∧xm.l11 q11 x8 x7=some r) _ ⟨[],a0,0,([]:List UInt8),rfl,rfl,rfl,rfl,rfl,h⟩ (.t [] true) ?_;rintro m L τ ⟨p11,q11,x8,x7,rfl,rfl,rfl,hE11,hi11,h⟩
   rcases q11 with _|⟨y11,q11⟩
   · have hz11:=xC hE11 hi11;simp only[xm.l11] at h
     refine rg U [6,19,20,21,22] fun K J=>?_
     simp only[go_sem,qd,qb,hz11];apply J
     refine za fun Z12 hZ12=>?_
     refine zG rfl ?_;apply yf;apply hZ6;refine D [2,3] ?_;cases h;exact rtA
   obtain⟨hz11,hw11,hx11,hE'11,hi'11⟩:=yU hE11 hi11 hb11;simp only[xm.l11] at h
   refine rg U [6,19,20,21,22] fun K J=>?_
   simp only[go_sem,qd,qb,hz11];apply J
   refine za fun Z13 hZ13=>?_
   refine zK rfl ?_;apply zj;apply hZ13
   refine za fun Z14 hZ14=>?_
   apply zn;have f15:=E35.idxS hx11;have f16:=E35.loadS rfl rfl hx11
   refine rg U [6,8,19,20,21] fun K J=>?_
   simp only[go_sem,qd,qf,qb,qe,zs,f15,f16];apply J
   refine rc [6,19,20,21] fun K J=>?_
   obtain⟨r17,hr17,h⟩:=bind_some h;refine O 2 ?_;refine clN rfl rfl rfl ((va2.ok hr17).c _) ?_;refine O 4 ?_;refine nkN J ?_;refine D [6,19,20,21,33] ?_;refine yn rfl (fun hc18=>?_) (fun hc18=>?_)
   · rw[if_pos hc18] at h;have t19:=eq_true hc18
     refine rg U [2,3] fun K J=>?_
     simp only[go_sem,qd,qb,t19];apply J
     cases h;exact rtA
   rw[if_neg hc18] at h;have t20:=eq_false hc18;apply zj;apply hZ14
   refine rgE U [6,19,20,21] fun K J=>?_
   simp only[go_sem,qd,qb,hw11,t20];apply J
   exact⟨_,_,_,qy q11.length,⟨p11++[y11],q11,x8+1,r17.1,rfl,rfl,rfl,hE'11,hi'11,h⟩,(.t [] false)⟩
 obtain⟨hz4,hw4,hx4,hE'4,hi'4⟩:=yU hE4 hi4 hb4;simp only[xm.l4] at h
 refine rg U [0,9,10,11,12] fun K J=>?_
 simp only[go_sem,qd,qb,reduceCtorEq,hz4];apply J
 refine za fun Z21 hZ21=>?_
 refine zK rfl ?_;apply zj;apply hZ21
 refine za fun Z22 hZ22=>?_
 apply zn;have f23:=E35.idxS hx4;have f24:=E35.loadS rfl rfl hx4
 refine rg U [0,5,9,10,11] fun K J=>?_
 simp only[go_sem,qd,qf,qb,qe,reduceCtorEq,zs,f23,f24];apply J
 refine rc [0,9,10,11,17] fun K J=>?_
 obtain⟨r25,hr25,h⟩:=ye h;refine O 1 ?_;refine clN rfl rfl rfl ((xD.ok hr25).c _) ?_;refine O 1 ?_;refine nkN J ?_;refine zU (b:=(!r25)) rfl (fun hc26=>?_) (fun hc26=>?_)
 · rw[if_pos hc26] at h;refine D [2,3] ?_;cases h;exact rtA
 rw[Zf hc26] at h;apply zj;apply hZ22
 refine rgE U [0,9,10,11] fun K J=>?_
 simp only[go_sem,qd,qb,reduceCtorEq,hw4];apply J
 exact⟨_,_,_,qy q4.length,⟨p4++[y4],q4,x2+1,rfl,rfl,rfl,hE'4,hi'4,h⟩,(.t [] false)⟩
def wy.body (xY:yl→Option (List UInt8×Int))(xd:Int→zm→Option (yc×Int))(wm:yl→Option (List yc×Int))(a0:yl):Option (List UInt8×Int):=
 (wm a0).bind fun r1=>(if r1.2=0 then (xm r1.1).bind fun r6=>some (r6.1,r6.2) else some (([]:List UInt8),r1.2))
theorem wy.step (xY:yl→Option (List UInt8×Int))(xd:Int→zm→Option (yc×Int))(wm:yl→Option (List yc×Int))(YI:∀ (a0:yl) (r:List UInt8×Int),xY a0=some r→ACalls qg 230 [.dp (zO a0) 0] [] (fun r' _=>r'=.tup [.ds true (qc ZR r.1) (qa r.1) false,.int .i64 r.2]))(Xd:∀ (a0:Int) (a1:zm) (r:yc×Int),xd a0 a1=some r→ACalls qg 189 [.int .i64 a0,.agg (zo a1)] [] (fun r' _=>r'=.tup [.agg (zs r.1),.int .i64 r.2]))(YT:∀ (a0:yl) (r:List yc×Int),wm a0=some r→ACalls qg 145 [.dp (zO a0) 0] [] (fun r' _=>r'=.tup [.ds true (qc zs r.1) (qa r.1) false,.int .i64 r.2]))(a0:yl)(r:List UInt8×Int)(h:wy.body xY xd wm a0=some r):ACalls qg 230 [.dp (zO a0) 0] [] (fun r' _=>r'=.tup [.ds true (qc ZR r.1) (qa r.1) false,.int .i64 r.2]):=by
 have ev_encode_bytes:=fun a0 r h σ=>(YI a0 r h).c σ
 have ev_encode_raw:=fun a0 a1 r h σ=>(Xd a0 a1 r h).c σ
 have ev_encode_raws:=fun a0 r h σ=>(YT a0 r h).c σ
 refine zt (rs:=[.tmp 2,.tmp 3]) U Tryz.func230 rfl Tryz.ntmps230 rfl Tryz.call230 (by simp) ?_;refine zA [(0,.dp (zO a0) 0)] ⟨rfl,trivial⟩ ?_;unfold wy.body at h;refine D [0] ?_
 refine rc [4,5] fun K J=>?_
 obtain⟨r1,hr1,h⟩:=bind_some h;refine O 1 ?_;refine clN rfl rfl rfl (ev_encode_raws a0 r1 hr1 _) ?_;refine O 5 ?_;refine nkN J ?_
 refine za fun Z2 hZ2=>?_
 refine D [4,5,12] ?_;refine yn rfl (fun hc3=>?_) (fun hc3=>?_)
 · rw[if_neg hc3] at h;have t4:=eq_false hc3
   refine rg U [2,3] fun K J=>?_
   simp only[go_sem,qd,qb,t4];apply J
   cases h;exact rtA
 rw[if_pos hc3] at h;have t5:=eq_true hc3;apply zj;apply hZ2
 refine rc [2,3] fun K J=>?_
 obtain⟨r6,hr6,h⟩:=bind_some h;refine zB U 1 ?_;simp only[go_sem,qd,qb,t5];refine clN rfl rfl rfl ((xm.ok hr6).c _) ?_;refine O 4 ?_;refine nkN J ?_;cases h;exact rtA
def xO.j3 (m1_2:yc):Option (yc×Int):=
 (if 4096<(qa m1_2.fB:Int) then some ((⟨0,0,0,[]⟩:yc),4) else some (m1_2,0))
def xO.body (xY:yl→Option (List UInt8×Int))(xd:Int→zm→Option (yc×Int))(wm:yl→Option (List yc×Int))(a0:Int)(a1:zm):Option (yc×Int):=
 (Ys a1).bind fun r8=>(match r8 with|.nil=>(xO.j3 (⟨a0,1,0,[]⟩:yc))|.num n9=>some ((⟨a0,0,n9,[]⟩:yc),0)|.str s9=>(xO.j3 (⟨a0,1,0,s9⟩:yc))|.node e9 r9=>(xY (⟨e9,r9⟩:yl)).bind fun r10=>(if r10.2=0 then (xO.j3 (⟨a0,1,0,r10.1⟩:yc)) else some ((⟨0,0,0,[]⟩:yc),r10.2)))
theorem xO.step (xY:yl→Option (List UInt8×Int))(xd:Int→zm→Option (yc×Int))(wm:yl→Option (List yc×Int))(YI:∀ (a0:yl) (r:List UInt8×Int),xY a0=some r→ACalls qg 230 [.dp (zO a0) 0] [] (fun r' _=>r'=.tup [.ds true (qc ZR r.1) (qa r.1) false,.int .i64 r.2]))(Xd:∀ (a0:Int) (a1:zm) (r:yc×Int),xd a0 a1=some r→ACalls qg 189 [.int .i64 a0,.agg (zo a1)] [] (fun r' _=>r'=.tup [.agg (zs r.1),.int .i64 r.2]))(YT:∀ (a0:yl) (r:List yc×Int),wm a0=some r→ACalls qg 145 [.dp (zO a0) 0] [] (fun r' _=>r'=.tup [.ds true (qc zs r.1) (qa r.1) false,.int .i64 r.2]))(a0:Int)(a1:zm)(r:yc×Int)(h:xO.body xY xd wm a0 a1=some r):ACalls qg 189 [.int .i64 a0,.agg (zo a1)] [] (fun r' _=>r'=.tup [.agg (zs r.1),.int .i64 r.2]):=by
 have ev_encode_bytes:=fun a0 r h σ=>(YI a0 r h).c σ
 have ev_encode_raw:=fun a0 a1 r h σ=>(Xd a0 a1 r h).c σ
 have ev_encode_raws:=fun a0 r h σ=>(YT a0 r h).c σ
 refine zt (rs:=[.cell 4 139,.tmp 5]) U Tryz.func189 rfl Tryz.ntmps189 rfl Tryz.call189 (by simp) ?_;refine zA [(0,.int .i64 a0),(1,.agg (zo a1))] ⟨rfl,rfl,trivial⟩ ?_;unfold xO.body at h;have f1:=Yp a1;unfold AV.one at f1
 refine rg U [0,3,4] fun K J=>?_
 simp only[go_sem,qd,qb,reduceCtorEq,zo,f1];apply J
 refine D [0,3,4,6] ?_;refine xL (fun L τ=>∃ (m1_2:yc),L=[(4,.op 0 0 0),(6,.op 1 0 0)]∧τ=([.cells 0 [.int .i64 0,.int .i64 0,.int .i64 0,.str []],.cells 0 [.int .i64 m1_2.fTag,.int .i64 m1_2.fWire,.int .i64 m1_2.fN,.str m1_2.fB]]:ze)∧xO.j3 m1_2=some r) ?_ ?_
 · refine rc [0,4,6,15] fun K J=>?_
   obtain⟨r8,hr8,h⟩:=bind_some h;refine O 1 ?_;refine clN rfl rfl rfl ((Ys.ok hr8).c _) ?_;refine nkN J ?_;apply zn
   rcases r8 with _|n9|s9|⟨e9,r9⟩
   · dsimp only at h
     try simp only[vdK]
     refine rg U [0,4,6,15,17,18] fun K J=>?_
     simp only[go_sem,qd,qb,qe,reduceCtorEq,xG,xH,TypeDesc.isIface];apply J
     refine zG rfl ?_
     refine rg U [4,6,15,23,24] fun K J=>?_
     simp only[go_sem,qd,qb,qe,reduceCtorEq,xG,xH,TypeDesc.isIface];apply J
     refine zG rfl ?_
     refine rg U [4,6,28,29] fun K J=>?_
     simp only[go_sem,qd,qb,qe,xG,xH,TypeDesc.isIface];apply J
     refine zG rfl ?_;apply zj;exact⟨_,_,⟨(⟨a0,1,0,[]⟩:yc),rfl,rfl,h⟩,(.t [1,2] false)⟩
   · dsimp only at h
     try simp only[vdJ]
     refine rg U [0,4,6,15,17,18] fun K J=>?_
     simp only[go_sem,qd,qb,qe,reduceCtorEq,xG,xH,TypeDesc.isIface];apply J
     refine zK rfl ?_;refine D [0,4,7] ?_;refine D [4,5] ?_;cases h;exact rtA
   · dsimp only at h
     try simp only[vdI]
     refine rg U [0,4,6,15,17,18] fun K J=>?_
     simp only[go_sem,qd,qb,qe,reduceCtorEq,xG,xH,TypeDesc.isIface];apply J
     refine zG rfl ?_
     refine rg U [4,6,15,23,24] fun K J=>?_
     simp only[go_sem,qd,qb,qe,reduceCtorEq,xG,xH,TypeDesc.isIface];apply J
     refine zK rfl ?_;refine D [4,6,8] ?_
     refine rgE U [4,6] fun K J=>?_
     simp only[go_sem,qd,qf,qb,qe];apply J
     exact⟨_,_,⟨(⟨a0,1,0,s9⟩:yc),rfl,rfl,h⟩,(.t [1,2] false)⟩
   dsimp only at h
   try simp only[vcS]
   refine rg U [0,4,6,15,17,18] fun K J=>?_
   simp only[go_sem,qd,qb,qe,reduceCtorEq,xG,xH,TypeDesc.isIface];apply J
   refine zG rfl ?_
   refine rg U [4,6,15,23,24] fun K J=>?_
   simp only[go_sem,qd,qb,qe,reduceCtorEq,xG,xH,TypeDesc.isIface];apply J
   refine zG rfl ?_
   refine rg U [4,6,28,29] fun K J=>?_
   simp only[go_sem,qd,qb,qe,xG,xH,TypeDesc.isIface];apply J
   refine zK rfl ?_;refine D [4,6,9] ?_
   refine rc [4,6,10,11] fun K J=>?_
   obtain⟨r10,hr10,h⟩:=bind_some h;refine O 1 ?_;refine clN rfl rfl rfl (ev_encode_bytes (⟨e9,r9⟩:yl) r10 hr10 _) ?_;refine O 5 ?_;refine nkN J ?_
   refine za fun Z11 hZ11=>?_
   refine D [4,6,10,11,36] ?_;refine yn rfl (fun hc12=>?_) (fun hc12=>?_)
   · rw[if_neg hc12] at h;have t13:=eq_false hc12
     refine rg U [4,5] fun K J=>?_
     simp only[go_sem,qd,qf,qb,qe,t13];apply J
     cases h;exact rtA
   rw[if_pos hc12] at h;have t14:=eq_true hc12;apply zj;apply hZ11;have f15:=vb0 (T:=tab) (src:=48) (dst:=9) rfl rfl rfl rfl rfl rfl r10.1
   refine rgE U [4,6] fun K J=>?_
   simp only[go_sem,qd,qf,qb,qe,t14,f15];apply J
   exact⟨_,_,⟨(⟨a0,1,0,r10.1⟩:yc),rfl,rfl,h⟩,(.t [1,2] false)⟩
 rintro _ _ ⟨m1_2,rfl,rfl,h⟩;unfold xO.j3 at h
 refine za fun Z4 hZ4=>?_
 refine D [4,6,45] ?_;refine yn rfl (fun hc5=>?_) (fun hc5=>?_)
 · rw[if_pos hc5] at h;have t6:=eq_true hc5
   refine rg U [4,5] fun K J=>?_
   simp only[go_sem,qd,qf,qb,qe,t6];apply J
   cases h;exact rtA
 rw[if_neg hc5] at h;have t7:=eq_false hc5;apply zj;apply hZ4
 refine rg U [4,5] fun K J=>?_
 simp only[go_sem,qd,qf,qb,qe,t7];apply J
 cases h;exact rtA
def yD.l24 (xd:Int→zm→Option (yc×Int))(x6:Int)(rec10:Int→List yc→Option (List yc×Int))(y10:Int):List zm→Int→List yc→Option (List yc×Int)
 |[],x20,l18=>(rec10 (x6+1) l18)
 |y24::q24,x20,l18=>(xd y10 y24).bind fun r31=>(if r31.2=0 then (X7 (qa l18+1) 40).bind fun _u36=>((yD.l24 xd x6 rec10 y10 q24) (x20+1) (l18++[r31.1])) else some (([]:List yc),r31.2))
def yD.l10 (xd:Int→zm→Option (yc×Int))(a0:yl):List Int→Int→List yc→Option (List yc×Int)
 |[],x6,l4=>(yC l4).bind fun r12=>some (r12,0)
 |y10::q10,x6,l4=>(xq a0 y10).bind fun r17=>(yD.l24 xd x6 (yD.l10 xd a0 q10) y10 r17 0 l4)
def yD.body (xY:yl→Option (List UInt8×Int))(xd:Int→zm→Option (yc×Int))(wm:yl→Option (List yc×Int))(a0:yl):Option (List yc×Int):=
 (wH a0).bind fun r1=>(xr a0).bind fun r3=>(yD.l10 xd a0 r3 0 r1)
theorem yD.step (xY:yl→Option (List UInt8×Int))(xd:Int→zm→Option (yc×Int))(wm:yl→Option (List yc×Int))(YI:∀ (a0:yl) (r:List UInt8×Int),xY a0=some r→ACalls qg 230 [.dp (zO a0) 0] [] (fun r' _=>r'=.tup [.ds true (qc ZR r.1) (qa r.1) false,.int .i64 r.2]))(Xd:∀ (a0:Int) (a1:zm) (r:yc×Int),xd a0 a1=some r→ACalls qg 189 [.int .i64 a0,.agg (zo a1)] [] (fun r' _=>r'=.tup [.agg (zs r.1),.int .i64 r.2]))(YT:∀ (a0:yl) (r:List yc×Int),wm a0=some r→ACalls qg 145 [.dp (zO a0) 0] [] (fun r' _=>r'=.tup [.ds true (qc zs r.1) (qa r.1) false,.int .i64 r.2]))(a0:yl)(r:List yc×Int)(h:yD.body xY xd wm a0=some r):ACalls qg 145 [.dp (zO a0) 0] [] (fun r' _=>r'=.tup [.ds true (qc zs r.1) (qa r.1) false,.int .i64 r.2]):=by
 have ev_encode_bytes:=fun a0 r h σ=>(YI a0 r h).c σ
 have ev_encode_raw:=fun a0 a1 r h σ=>(Xd a0 a1 r h).c σ
 have ev_encode_raws:=fun a0 r h σ=>(YT a0 r h).c σ
 refine zt (rs:=[.tmp 2,.tmp 3]) U Tryz.func145 rfl Tryz.ntmps145 rfl Tryz.call145 (by simp) ?_;refine zA [(0,.dp (zO a0) 0)] ⟨rfl,trivial⟩ ?_;unfold yD.body at h;refine D [0] ?_
 refine rc [0,4] fun K J=>?_
 obtain⟨r1,hr1,h⟩:=bind_some h;refine O 1 ?_;refine clN rfl rfl rfl (@id (ACalls qg 186 [.dp (zO a0) 0] [] (fun r' σ'=>r'=.os true 4 0 0 0 (qa r1) false∧σ'=[.cells 0 (qc zs r1)])) ((wH.own hr1).ownAt0 (by simp only[push_cast]) (by simp only[push_cast]) _)) ?_;refine O 1 ?_;refine nkN J ?_
 refine za fun Z2 hZ2=>?_
 refine rc [0,4,14,15,16] fun K J=>?_
 obtain⟨r3,hr3,h⟩:=bind_some h;refine O 1 ?_;refine clN rfl rfl rfl ((xr.ok hr3).c _) ?_;refine O 2 ?_;refine nkN J ?_;apply zn
 refine xn 14 fun hb10=>?_
 replace hb10:qa r3≤9223372036854775807:=hb10.1;refine yh (fun m L τ=>∃ (p10 q10:List Int) (x6:Int) (l4:List yc) (v5:Nat),m=qa q10∧L=[(0,.dp (zO a0) 0),(4,.os true 4 0 v5 0 (qa l4) false),(14,.ds true (qc wN r3) (qa r3) false),(15,.int .i64 (qa r3:Int)),(16,.int .i64 x6)]∧τ=([.cells v5 (qc zs l4)]:ze)∧r3=p10++q10∧x6=(qa p10:Int)∧yD.l10 xd a0 q10 x6 l4=some r) _ ⟨[],r3,0,r1,0,rfl,rfl,rfl,rfl,rfl,h⟩ .s ?_;rintro m L τ ⟨p10,q10,x6,l4,v5,rfl,rfl,rfl,hE10,hi10,h⟩
 rcases q10 with _|⟨y10,q10⟩
 · have hz10:=xC hE10 hi10;simp only[yD.l10] at h
   refine rg U [0,4,14,15,16,17] fun K J=>?_
   simp only[go_sem,qd,qb,reduceCtorEq,hz10];apply J
   refine za fun Z11 hZ11=>?_
   refine zG rfl ?_;apply yf;apply hZ2
   refine rc [2,3] fun K J=>?_
   obtain⟨r12,hr12,h⟩:=bind_some h;refine O 1 ?_;refine vbF (L:=[(43,.ds true (qc zs l4) (qa l4) false)]) (τ:=[]) (.t [] false) ?_;refine clN rfl rfl rfl ((yC.ok hr12).c _) ?_;refine O 2 ?_;refine nkN J ?_;cases h;exact rtA
 obtain⟨hz10,hw10,hx10,hE'10,hi'10⟩:=yU hE10 hi10 hb10;simp only[yD.l10] at h
 refine rg U [0,4,14,15,16,17] fun K J=>?_
 simp only[go_sem,qd,qb,reduceCtorEq,hz10];apply J
 refine za fun Z13 hZ13=>?_
 refine zK rfl ?_;apply zj;apply hZ13
 refine za fun Z14 hZ14=>?_
 apply zn;have f15:=E26.idxS hx10;have f16:=E26.fldS0 (f:=3) rfl rfl hx10
 refine rg U [0,4,6,14,15,16] fun K J=>?_
 simp only[go_sem,qd,qb,reduceCtorEq,wN,f15,f16];apply J
 refine rc [0,4,6,14,15,16,22,23,24] fun K J=>?_
 obtain⟨r17,hr17,h⟩:=bind_some h;refine O 2 ?_;refine clN rfl rfl rfl ((xq.ok hr17).c _) ?_;refine O 2 ?_;refine nkN J ?_;apply zn
 refine xn 22 fun hb24=>?_
 replace hb24:qa r17≤9223372036854775807:=hb24.1;refine yh (fun m L τ=>∃ (p24 q24:List zm) (x20:Int) (l18:List yc) (v19:Nat),m=qa q24∧L=[(0,.dp (zO a0) 0),(4,.os true 4 0 v19 0 (qa l18) false),(6,.int .i64 y10),(14,.ds true (qc wN r3) (qa r3) false),(15,.int .i64 (qa r3:Int)),(16,.int .i64 x6),(22,.ds true (qc zo r17) (qa r17) false),(23,.int .i64 (qa r17:Int)),(24,.int .i64 x20)]∧τ=([.cells v19 (qc zs l18)]:ze)∧r17=p24++q24∧x20=(qa p24:Int)∧yD.l24 xd x6 (yD.l10 xd a0 q10) y10 q24 x20 l18=some r) _ ⟨[],r17,0,l4,v5,rfl,rfl,rfl,rfl,rfl,h⟩ .s ?_;rintro m L τ ⟨p24,q24,x20,l18,v19,rfl,rfl,rfl,hE24,hi24,h⟩
 rcases q24 with _|⟨y24,q24⟩
 · have hz24:=xC hE24 hi24;simp only[yD.l24] at h
   refine rg U [0,4,6,14,15,16,22,23,24,25] fun K J=>?_
   simp only[go_sem,qd,qb,reduceCtorEq,hz24];apply J
   refine za fun Z25 hZ25=>?_
   refine zG rfl ?_;apply yf;apply hZ14
   refine rgE U [0,4,14,15,16] fun K J=>?_
   simp only[go_sem,qd,qb,reduceCtorEq,hw10];apply J
   exact⟨_,_,_,qy q10.length,⟨p10++[y10],q10,x6+1,l18,v19,rfl,rfl,rfl,hE'10,hi'10,h⟩,.s⟩
 obtain⟨hz24,hw24,hx24,hE'24,hi'24⟩:=yU hE24 hi24 hb24;simp only[yD.l24] at h
 refine rg U [0,4,6,14,15,16,22,23,24,25] fun K J=>?_
 simp only[go_sem,qd,qb,reduceCtorEq,hz24];apply J
 refine za fun Z26 hZ26=>?_
 refine zK rfl ?_;apply zj;apply hZ26
 refine za fun Z27 hZ27=>?_
 apply zn;have f28:=E282.idxS hx24;have f29:=E282.loadS rfl rfl hx24;have f30:=Yp y24;unfold AV.one at f30
 refine rg U [0,4,6,8,14,15,16,22,23,24] fun K J=>?_
 simp only[go_sem,qd,qf,qb,reduceCtorEq,zo,f28,f29,f30];apply J
 refine rc [0,4,6,9,10,14,15,16,22,23,24] fun K J=>?_
 obtain⟨r31,hr31,h⟩:=bind_some h;refine O 2 ?_;refine clN rfl rfl rfl (ev_encode_raw y10 y24 r31 hr31 _) ?_;refine zB U 6 ?_;simp only[go_sem,qd,qf,qb,qe,reduceCtorEq,zs];refine nkN J ?_
 refine za fun Z32 hZ32=>?_
 refine D [0,4,6,9,10,14,15,16,22,23,24,35] ?_;refine yn rfl (fun hc33=>?_) (fun hc33=>?_)
 · rw[if_neg hc33] at h;have t34:=eq_false hc33
   refine rg U [2,3] fun K J=>?_
   simp only[go_sem,qd,qb,reduceCtorEq,t34];apply J
   cases h;exact rtA
 rw[if_pos hc33] at h;have t35:=eq_true hc33;apply zj;apply hZ32;obtain⟨_u36,hu36,h⟩:=bind_some h;have gu36:=xf hu36;have f37:=(zV E35.len l18)
 refine rgE U [0,4,6,14,15,16,22,23,24] fun K J=>?_
 simp only[go_sem,qd,qf,qb,qe,qj,reduceCtorEq,zS,yE,qZ,qQ,true_and,ue,yM,yw,yR,t35,gu36,f37,xw,uc,q9,AV.one,qM,qD,ql,qr,qo,qH];apply J
 apply hZ27
 refine rgE U [0,4,6,14,15,16,22,23,24] fun K J=>?_
 simp only[go_sem,qd,qb,reduceCtorEq,hw24];apply J
 exact⟨_,_,_,qy q24.length,⟨p24++[y24],q24,x20+1,l18++[r31.1],v19+1,rfl,rfl,rfl,hE'24,hi'24,h⟩,(.t [0] false)⟩
mutual
def wy : Nat→yl→Option (List UInt8×Int)
 |0,_=>none
 |k+1,a0=>wy.body (wy k) (xO k) (yD k) a0
def xO : Nat→Int→zm→Option (yc×Int)
 |0,_,_=>none
 |k+1,a0,a1=>xO.body (wy k) (xO k) (yD k) a0 a1
def yD : Nat→yl→Option (List yc×Int)
 |0,_=>none
 |k+1,a0=>yD.body (wy k) (xO k) (yD k) a0
end
theorem wy.all (k:Nat):(∀ (a0:yl) (r:List UInt8×Int),wy k a0=some r→ACalls qg 230 [.dp (zO a0) 0] [] (fun r' _=>r'=.tup [.ds true (qc ZR r.1) (qa r.1) false,.int .i64 r.2]))∧(∀ (a0:Int) (a1:zm) (r:yc×Int),xO k a0 a1=some r→ACalls qg 189 [.int .i64 a0,.agg (zo a1)] [] (fun r' _=>r'=.tup [.agg (zs r.1),.int .i64 r.2]))∧(∀ (a0:yl) (r:List yc×Int),yD k a0=some r→ACalls qg 145 [.dp (zO a0) 0] [] (fun r' _=>r'=.tup [.ds true (qc zs r.1) (qa r.1) false,.int .i64 r.2])):=by
 induction k with
 |zero=>exact⟨(fun a0 r h=>by simp only[wy] at h; cases h),(fun a0 a1 r h=>by simp only[xO] at h; cases h),(fun a0 r h=>by simp only[yD] at h; cases h)⟩
 |succ k ih=>exact⟨(fun a0 r h=>wy.step _ _ _ ih.1 ih.2.1 ih.2.2 a0 r (by simpa only [wy] using h)),(fun a0 a1 r h=>xO.step _ _ _ ih.1 ih.2.1 ih.2.2 a0 a1 r (by simpa only [xO] using h)),(fun a0 r h=>yD.step _ _ _ ih.1 ih.2.1 ih.2.2 a0 r (by simpa only [yD] using h))⟩
theorem yD.ev (k:Nat)(a0:yl)(r:List yc×Int)(h:yD k a0=some r)(σ:ze):ACalls qg 145 [.dp (zO a0) 0] σ (fun r' σ'=>r'=.tup [.ds true (qc zs r.1) (qa r.1) false,.int .i64 r.2]∧σ'=σ):=
 ((wy.all k).2.2 a0 r h).c σ
def Y3 (a0:zk):Option (List yc×Int):=
 (Xz a0).bind fun r1=>(if ((!r1.2)||(!(decide (a0.fKind=3))))=true then some (([]:List yc),1) else (xT r1.1).bind fun r5=>(yD xo r5).bind fun r6=>some (r6.1,r6.2))
theorem Y3.ok {a0 r}(h:Y3 a0=some r):ACalls qg 95 [.agg (zd a0)] [] (fun r' _=>r'=.tup [.ds true (qc zs r.1) (qa r.1) false,.int .i64 r.2]):=by
 refine zt (rs:=[.tmp 2,.tmp 3]) U Tryz.func95 rfl Tryz.ntmps95 rfl Tryz.call95 (by simp) ?_;refine zA [(0,.agg (zd a0))] ⟨rfl,trivial⟩ ?_;unfold Y3 at h
 refine rg U [1] fun K J=>?_
 simp only[go_sem,qd,qb,qe,reduceCtorEq,zd];apply J
 refine rc [1,4,5] fun K J=>?_
 obtain⟨r1,hr1,h⟩:=bind_some h;refine O 1 ?_;refine clN rfl rfl rfl ((Xz.ok hr1).c _) ?_;have f2:=Yp r1.1;unfold AV.one at f2;refine zB U 6 ?_;simp only[go_sem,qd,qf,qb,qe,zo,f2];refine nkN J ?_
 refine za fun Z3 hZ3=>?_
 refine rc [4,17] fun K J=>?_
 refine O 3 ?_;refine zH 4 (fun L τ=>L=[(4,.op 1 0 0),(17,.bool ((!r1.2)||(!(decide (a0.fKind=3)))))]∧τ=([.cells 0 (zd a0),.cells 0 [vdv r1.1]]:ze)) ?_ ?_
 · refine yB (b:=(!r1.2)) 13 rfl (fun hg13=>?_) (fun hg13=>?_)
   · refine O 4 ?_;refine zi ⟨rfl,_,_,⟨rfl,rfl⟩,.b hg13⟩
   refine O 4 ?_;refine zi ⟨rfl,_,_,⟨rfl,rfl⟩,.b hg13⟩
 rintro _ _ ⟨rfl,rfl⟩;refine nkN J ?_;refine zU (b:=((!r1.2)||(!(decide (a0.fKind=3))))) rfl (fun hc4=>?_) (fun hc4=>?_)
 · rw[if_pos hc4] at h;refine D [2,3] ?_;cases h;exact rtA
 rw[Zf hc4] at h;apply zj;apply hZ3
 refine rc [2,3] fun K J=>?_
 obtain⟨r5,hr5,h⟩:=bind_some h;refine O 1 ?_;refine clN rfl rfl rfl ((xT.ok hr5).c _) ?_;obtain⟨r6,hr6,h⟩:=bind_some h;refine clN rfl rfl rfl (yD.ev xo r5 r6 hr6 _) ?_;refine O 4 ?_;refine nkN J ?_;cases h;exact rtA
def ZW (a0:zk):Option (List UInt8×Int):=
 (Y3 a0).bind fun r1=>(if r1.2=0 then (xm r1.1).bind fun r6=>some (r6.1,r6.2) else some (([]:List UInt8),r1.2))
theorem ZW.ok {a0 r}(h:ZW a0=some r):ACalls qg 62 [.agg (zd a0)] [] (fun r' _=>r'=.tup [.ds true (qc ZR r.1) (qa r.1) false,.int .i64 r.2]):=by
 refine zt (rs:=[.tmp 2,.tmp 3]) U Tryz.func62 rfl Tryz.ntmps62 rfl Tryz.call62 (by simp) ?_;refine zA [(0,.agg (zd a0))] ⟨rfl,trivial⟩ ?_;unfold ZW at h
 refine rg U [1] fun K J=>?_
 simp only[go_sem,qd,qb,qe,reduceCtorEq,zd];apply J
 refine rc [4,5] fun K J=>?_
 obtain⟨r1,hr1,h⟩:=bind_some h;refine O 1 ?_;refine clN rfl rfl rfl ((Y3.ok hr1).c _) ?_;refine O 5 ?_;refine nkN J ?_
 refine za fun Z2 hZ2=>?_
 refine D [4,5,12] ?_;refine yn rfl (fun hc3=>?_) (fun hc3=>?_)
 · rw[if_neg hc3] at h;have t4:=eq_false hc3
   refine rg U [2,3] fun K J=>?_
   simp only[go_sem,qd,qb,t4];apply J
   cases h;exact rtA
 rw[if_pos hc3] at h;have t5:=eq_true hc3;apply zj;apply hZ2
 refine rc [2,3] fun K J=>?_
 obtain⟨r6,hr6,h⟩:=bind_some h;refine zB U 1 ?_;simp only[go_sem,qd,qb,t5];refine clN rfl rfl rfl ((xm.ok hr6).c _) ?_;refine O 4 ?_;refine nkN J ?_;cases h;exact rtA
end
section
set_option maxRecDepth 4000
set_option maxHeartbeats 1000000
open AM
def wo.j6 (a0:ZP)(l2:List yS)(v3:Nat)(l4:List (yS×Int))(x5:Int):Option (Int×ZP):=
 some (x5,(⟨a0.ffrom,a0.fto,l2,v3,l4⟩:ZP))
def wo (a0:ZP)(a1:yS):Option (Int×ZP):=
 (if (!((vak a0.fplace a1).isSome))=true then (X7 (qa a0.fl+1) 32).bind fun _u9=>(wo.j6 a0 (a0.fl++[a1]) (a0.vl+1) (setM a0.fplace a1 (qa a0.fl:Int)) (qa a0.fl:Int)) else (wo.j6 a0 a0.fl a0.vl a0.fplace ((vak a0.fplace a1).getD 0)))
theorem wo.ok {a0 a1 r}(h:wo a0 a1=some r):ACalls qg 150 [.op 0 0 0,.agg (zW a1)] [.cells 0 [.str a0.ffrom.fName,.ds true (qc zf a0.ffrom.fMessages) (qa a0.ffrom.fMessages) false,.ds true (qc zh a0.ffrom.fEnums) (qa a0.ffrom.fEnums) false,.ds true (qc zq a0.ffrom.fMethods) (qa a0.ffrom.fMethods) false,.str a0.fto.fName,.ds true (qc zf a0.fto.fMessages) (qa a0.fto.fMessages) false,.ds true (qc zh a0.fto.fEnums) (qa a0.fto.fEnums) false,.ds true (qc zq a0.fto.fMethods) (qa a0.fto.fMethods) false,.os true 2 1 (a0.vl) 0 (qa a0.fl) false,.mp 2],.cells (a0.vl) (qc zW a0.fl),.map (yN yJ (AV.int .i64) a0.fplace)] (fun r' σ'=>r'=.int .i64 r.1∧σ'=[.cells 0 [.str r.2.ffrom.fName,.ds true (qc zf r.2.ffrom.fMessages) (qa r.2.ffrom.fMessages) false,.ds true (qc zh r.2.ffrom.fEnums) (qa r.2.ffrom.fEnums) false,.ds true (qc zq r.2.ffrom.fMethods) (qa r.2.ffrom.fMethods) false,.str r.2.fto.fName,.ds true (qc zf r.2.fto.fMessages) (qa r.2.fto.fMessages) false,.ds true (qc zh r.2.fto.fEnums) (qa r.2.fto.fEnums) false,.ds true (qc zq r.2.fto.fMethods) (qa r.2.fto.fMethods) false,.os true 2 1 (r.2.vl) 0 (qa r.2.fl) false,.mp 2],.cells (r.2.vl) (qc zW r.2.fl),.map (yN yJ (AV.int .i64) r.2.fplace)]):=by
 refine ZO [0,1,2] (rs:=[.tmp 4]) U Tryz.func150 rfl Tryz.ntmps150 rfl Tryz.call150 (by simp) rfl ?_;refine zA [(0,.op 0 0 0),(1,.agg (zW a1))] ⟨rfl,rfl,trivial⟩ ?_;unfold wo at h
 refine rg U [0,3] fun K J=>?_
 simp only[go_sem,qd,qb,qe,reduceCtorEq,zW];apply J
 have f1:=fun (o0:Yy) (o1:Yy) (x:ze)=>va9 (T:=tab) (t:=239) (ek:=yJ) (ev:=(AV.int .i64)) (z:=0) KA245 rfl rfl rfl rfl a0.fplace a1 true (o0::o1::.map (yN yJ (AV.int .i64) a0.fplace)::x) 2 rfl
 simp only[yJ,zW] at f1
 refine rd [0,3,5,6] fun K J=>?_
 refine DW.start (T:=tab) [.any,.any,.any,.at [],.at [],.at [],.any,.any,.any,.any,.any] [] ?_;refine DW.runN U 8 ?_;simp only[go_sem,qd,qf,qb,qe,reduceCtorEq,vaI,if_false,if_true,f1];refine DW.runN U 3 ?_;simp only[go_sem,qd,qb,qe,reduceCtorEq];refine DW.fin U (by decide +kernel) rfl ?_;simp only[zC,upd,qb,reduceIte,yX,xK];apply J
 refine xL (fun L τ=>∃ (l2:List yS) (v3:Nat) (l4:List (yS×Int)) (x5:Int),L=[(5,.int .i64 x5)]∧τ=([.cells 0 [.str a0.ffrom.fName,.ds true (qc zf a0.ffrom.fMessages) (qa a0.ffrom.fMessages) false,.ds true (qc zh a0.ffrom.fEnums) (qa a0.ffrom.fEnums) false,.ds true (qc zq a0.ffrom.fMethods) (qa a0.ffrom.fMethods) false,.str a0.fto.fName,.ds true (qc zf a0.fto.fMessages) (qa a0.fto.fMessages) false,.ds true (qc zh a0.fto.fEnums) (qa a0.fto.fEnums) false,.ds true (qc zq a0.fto.fMethods) (qa a0.fto.fMethods) false,.os true 2 1 v3 0 (qa l2) false,.mp 2],.cells v3 (qc zW l2),.map (yN yJ (AV.int .i64) l4)]:ze)∧wo.j6 a0 l2 v3 l4 x5=some r) ?_ ?_
 · refine D [0,3,5,17] ?_;refine zU (b:=(!((vak a0.fplace a1).isSome))) rfl (fun hc7=>?_) (fun hc7=>?_)
   · rw[if_pos hc7] at h;refine D [0,3,5] ?_
     have f8:=fun (o0:Yy) (o1:Yy) (x:ze)=>vcv (T:=tab) (t:=239) (ek:=yJ) (ev:=(AV.int .i64)) KA245 rfl rfl a0.fplace a1 (qa a0.fl:Int) (o0::o1::.map (yN yJ (AV.int .i64) a0.fplace)::x) 2 rfl
     simp only[yJ,zW] at f8
     refine rd [0,3,5] fun K J=>?_
     refine DW.start (T:=tab) [.any,.any,.any,.at [],.at [],.any,.eff] [] ?_;refine DW.runN U 7 ?_;simp only[go_sem,qd,qf,qb,qe,reduceCtorEq,f8];refine DW.fin U (by decide +kernel) rfl ?_;simp only[zC,upd,qb,reduceIte,yX,xK];apply J
     obtain⟨_u9,hu9,h⟩:=bind_some h;have gu9:=xf hu9;have f10:=(zV E240.len a0.fl)
     refine rdE [5] fun K J=>?_
     refine DW.start (T:=tab) [.any,.any,.any,.any,.own 1 [],.at [],.eff,.eff,.any,.any,.eff] [(1,[])] ?_;refine DW.runN U 8 ?_;simp only[go_sem,qd,qf,qb,qe,qj,reduceCtorEq,zS,yE,qZ,qQ,true_and,ue,yM,yw,yR,gu9,f10,xw,uc,q9,AV.one,qM,qD,ql,qr,qo,qH];refine DW.runN U 3 ?_;simp only[go_sem,qd,qf,qb,qe,reduceCtorEq,ql,qr,qo];refine DW.fin U (by decide +kernel) rfl ?_;simp only[zC,upd,qb,reduceIte,yX,xK];apply J
     exact⟨_,_,⟨a0.fl++[a1],a0.vl+1,setM a0.fplace a1 (qa a0.fl:Int),(qa a0.fl:Int),rfl,rfl,h⟩,(.t [0,1,2] false)⟩
   rw[Zf hc7] at h;apply zj;exact⟨_,_,⟨a0.fl,a0.vl,a0.fplace,(vak a0.fplace a1).getD 0,rfl,rfl,h⟩,(.t [0,1,2] false)⟩
 rintro _ _ ⟨l2,v3,l4,x5,rfl,rfl,h⟩;unfold wo.j6 at h;refine D [4] ?_;apply yk;cases h;simp only[ZJ,yQ,yZ,xQ,exists_eq_left',go_sem,qe];refine⟨by decide,by simp,?_,?_⟩
 · first|rfl|(simp only[go_sem,qd,qf,qb,qe,qj,qm,reduceIte,reduceCtorEq,push_cast,if_true,qz,qo,qq,qn,qF,qs,qK,qI,qv,qu,qt,zz,zW,zb]<;>rfl)
 first|rfl|(simp only[go_sem,qb,qe,reduceCtorEq,push_cast,if_true,qo,qq,qn,qs,qv,qu,zz]<;>rfl)
def wn.j9 (m0__03:zE)(m0__14:zE)(l5:List yS)(v6:Nat)(l7:List (yS×Int))(m4_8:Zb):Option (Zb×Bool×ZP):=
 some (m4_8,true,(⟨m0__03,m0__14,l5,v6,l7⟩:ZP))
def wn (a0:ZP)(a1:ya)(a2:ya)(a3:Int):Option (Zb×Bool×ZP):=
 bnd (zI a1 a3) fun r1=>bnd (zI a2 a3) fun r2=>(if (((!r1.2)||(!r2.2))||(!(decide (r1.1.fLabel=r2.1.fLabel))))=true then some ((⟨0,0,0⟩:Zb),false,a0) else (if ((decide (r1.1.fType.fKind=7))&&(decide (r2.1.fType.fKind=7)))=true then (wo a0 (⟨r1.1.fType.fName,r2.1.fType.fName⟩:yS)).bind fun r14=>(if r1.1.fLabel=1 then (wn.j9 r14.2.ffrom r14.2.fto r14.2.fl r14.2.vl r14.2.fplace (⟨4,a3,r14.1⟩:Zb)) else (wn.j9 r14.2.ffrom r14.2.fto r14.2.fl r14.2.vl r14.2.fplace (⟨3,a3,r14.1⟩:Zb))) else (if ((decide (r1.1.fType.fKind=2))&&(decide (r2.1.fType.fKind=1)))=true then (wn.j9 a0.ffrom a0.fto a0.fl a0.vl a0.fplace (⟨2,a3,0⟩:Zb)) else (if ((!(decide (r1.1.fType.fKind=r2.1.fType.fKind)))&&((!(decide (r1.1.fType.fKind=1)))||(!(decide (r2.1.fType.fKind=2)))))=true then some ((⟨0,0,0⟩:Zb),false,a0) else (wn.j9 a0.ffrom a0.fto a0.fl a0.vl a0.fplace (⟨1,a3,0⟩:Zb))))))
theorem wn.ok {a0 a1 a2 a3 r}(h:wn a0 a1 a2 a3=some r):ACalls qg 151 [.op 0 0 0,.agg (zf a1),.agg (zf a2),.int .i64 a3] [.cells 0 [.str a0.ffrom.fName,.ds true (qc zf a0.ffrom.fMessages) (qa a0.ffrom.fMessages) false,.ds true (qc zh a0.ffrom.fEnums) (qa a0.ffrom.fEnums) false,.ds true (qc zq a0.ffrom.fMethods) (qa a0.ffrom.fMethods) false,.str a0.fto.fName,.ds true (qc zf a0.fto.fMessages) (qa a0.fto.fMessages) false,.ds true (qc zh a0.fto.fEnums) (qa a0.fto.fEnums) false,.ds true (qc zq a0.fto.fMethods) (qa a0.fto.fMethods) false,.os true 2 1 (a0.vl) 0 (qa a0.fl) false,.mp 2],.cells (a0.vl) (qc zW a0.fl),.map (yN yJ (AV.int .i64) a0.fplace)] (fun r' σ'=>r'=.tup [.agg (yO r.1),.bool r.2.1]∧σ'=[.cells 0 [.str r.2.2.ffrom.fName,.ds true (qc zf r.2.2.ffrom.fMessages) (qa r.2.2.ffrom.fMessages) false,.ds true (qc zh r.2.2.ffrom.fEnums) (qa r.2.2.ffrom.fEnums) false,.ds true (qc zq r.2.2.ffrom.fMethods) (qa r.2.2.ffrom.fMethods) false,.str r.2.2.fto.fName,.ds true (qc zf r.2.2.fto.fMessages) (qa r.2.2.fto.fMessages) false,.ds true (qc zh r.2.2.fto.fEnums) (qa r.2.2.fto.fEnums) false,.ds true (qc zq r.2.2.fto.fMethods) (qa r.2.2.fto.fMethods) false,.os true 2 1 (r.2.2.vl) 0 (qa r.2.2.fl) false,.mp 2],.cells (r.2.2.vl) (qc zW r.2.2.fl),.map (yN yJ (AV.int .i64) r.2.2.fplace)]):=by
 refine ZO [0,1,2] (rs:=[.cell 8 248,.tmp 9]) U Tryz.func151 rfl Tryz.ntmps151 rfl Tryz.call151 (by simp) rfl ?_;refine zA [(0,.op 0 0 0),(1,.agg (zf a1)),(2,.agg (zf a2)),(3,.int .i64 a3)] ⟨rfl,rfl,rfl,rfl,trivial⟩ ?_;unfold wn at h
 refine rg U [0,3,5,6,8] fun K J=>?_
 simp only[go_sem,qd,qb,qe,reduceCtorEq,zf];apply J
 refine rc [0,3,6,8,10,11] fun K J=>?_
 obtain⟨r1,hr1,h⟩:=ye h;refine O 2 ?_;refine clN rfl rfl rfl ((zI.ok hr1).c _) ?_;refine zB U 6 ?_;simp only[go_sem,qd,qf,qb,qe,reduceCtorEq,yr];refine nkN J ?_
 refine rc [0,3,8,10,11,12,13] fun K J=>?_
 obtain⟨r2,hr2,h⟩:=ye h;refine O 2 ?_;refine clN rfl rfl rfl ((zI.ok hr2).c _) ?_;refine zB U 6 ?_;simp only[go_sem,qd,qf,qb,qe,reduceCtorEq,yr];refine nkN J ?_;refine D [0,8,10,11,12,13,14] ?_;refine xL (fun L τ=>∃ (m0__03:zE) (m0__14:zE) (l5:List yS) (v6:Nat) (l7:List (yS×Int)) (m4_8:Zb),L=[(8,.op 3 0 0),(14,.op 4 0 0)]∧τ=([.cells 0 [.str m0__03.fName,.ds true (qc zf m0__03.fMessages) (qa m0__03.fMessages) false,.ds true (qc zh m0__03.fEnums) (qa m0__03.fEnums) false,.ds true (qc zq m0__03.fMethods) (qa m0__03.fMethods) false,.str m0__14.fName,.ds true (qc zf m0__14.fMessages) (qa m0__14.fMessages) false,.ds true (qc zh m0__14.fEnums) (qa m0__14.fEnums) false,.ds true (qc zq m0__14.fMethods) (qa m0__14.fMethods) false,.os true 2 1 v6 0 (qa l5) false,.mp 2],.cells v6 (qc zW l5),.map (yN yJ (AV.int .i64) l7),.cells 0 [.int .i64 0,.int .i64 0,.int .i64 0],.cells 0 [.int .i64 m4_8.fOp,.int .i64 m4_8.fTag,.int .i64 m4_8.fSub]]:ze)∧wn.j9 m0__03 m0__14 l5 v6 l7 m4_8=some r) ?_ ?_
 · refine rd [0,8,10,11,12,13,14,15,16] fun K J=>?_
   refine DW.start (T:=tab) [.any,.any,.at [],.any,.any,.at [],.any,.any] [] ?_;refine DW.runN U 8 ?_;simp only[go_sem,qd,qb,qe,reduceCtorEq];refine DW.fin U (by decide +kernel) rfl ?_;simp only[zC,upd,qb,reduceIte,yX,xK];apply J
   apply zn
   refine rc [0,8,10,12,14,15,16,37] fun K J=>?_
   refine O 3 ?_;refine zH 3 (fun L τ=>L=[(0,.op 0 0 0),(8,.op 5 0 0),(10,.op 6 0 0),(12,.op 7 0 0),(14,.op 8 0 0),(15,.int .i64 r1.1.fType.fKind),(16,.int .i64 r2.1.fType.fKind),(43,.bool ((!r1.2)||(!r2.2)))]∧τ=([.cells 0 [.str a0.ffrom.fName,.ds true (qc zf a0.ffrom.fMessages) (qa a0.ffrom.fMessages) false,.ds true (qc zh a0.ffrom.fEnums) (qa a0.ffrom.fEnums) false,.ds true (qc zq a0.ffrom.fMethods) (qa a0.ffrom.fMethods) false,.str a0.fto.fName,.ds true (qc zf a0.fto.fMessages) (qa a0.fto.fMessages) false,.ds true (qc zh a0.fto.fEnums) (qa a0.fto.fEnums) false,.ds true (qc zq a0.fto.fMethods) (qa a0.fto.fMethods) false,.os true 2 1 (a0.vl) 0 (qa a0.fl) false,.mp 2],.cells (a0.vl) (qc zW a0.fl),.map (yN yJ (AV.int .i64) a0.fplace),.cells 0 (zf a1),.cells 0 (zf a2),.cells 0 [.int .i64 0,.int .i64 0,.int .i64 0],.cells 0 (yr r1.1),.cells 0 (yr r2.1),.cells 0 [.int .i64 1,.int .i64 a3,.int .i64 0]]:ze)) ?_ ?_
   · refine yB (b:=(!r1.2)) 40 rfl (fun hg40=>?_) (fun hg40=>?_)
     · refine O 3 ?_;refine zi ⟨rfl,_,_,⟨rfl,rfl⟩,.b hg40⟩
     refine O 3 ?_;refine zi ⟨rfl,_,_,⟨rfl,rfl⟩,.b hg40⟩
   rintro _ _ ⟨rfl,rfl⟩;refine O 1 ?_;refine zH 6 (fun L τ=>L=[(0,.op 0 0 0),(8,.op 5 0 0),(10,.op 6 0 0),(12,.op 7 0 0),(14,.op 8 0 0),(15,.int .i64 r1.1.fType.fKind),(16,.int .i64 r2.1.fType.fKind),(50,.bool (((!r1.2)||(!r2.2))||(!(decide (r1.1.fLabel=r2.1.fLabel)))))]∧τ=([.cells 0 [.str a0.ffrom.fName,.ds true (qc zf a0.ffrom.fMessages) (qa a0.ffrom.fMessages) false,.ds true (qc zh a0.ffrom.fEnums) (qa a0.ffrom.fEnums) false,.ds true (qc zq a0.ffrom.fMethods) (qa a0.ffrom.fMethods) false,.str a0.fto.fName,.ds true (qc zf a0.fto.fMessages) (qa a0.fto.fMessages) false,.ds true (qc zh a0.fto.fEnums) (qa a0.fto.fEnums) false,.ds true (qc zq a0.fto.fMethods) (qa a0.fto.fMethods) false,.os true 2 1 (a0.vl) 0 (qa a0.fl) false,.mp 2],.cells (a0.vl) (qc zW a0.fl),.map (yN yJ (AV.int .i64) a0.fplace),.cells 0 (zf a1),.cells 0 (zf a2),.cells 0 [.int .i64 0,.int .i64 0,.int .i64 0],.cells 0 (yr r1.1),.cells 0 (yr r2.1),.cells 0 [.int .i64 1,.int .i64 a3,.int .i64 0]]:ze)) ?_ ?_
   · refine yB (b:=((!r1.2)||(!r2.2))) 44 rfl (fun hg44=>?_) (fun hg44=>?_)
     · refine O 6 ?_;refine zi ⟨rfl,_,_,⟨rfl,rfl⟩,.b hg44⟩
     refine O 6 ?_;refine zi ⟨rfl,_,_,⟨rfl,rfl⟩,.b hg44⟩
   rintro _ _ ⟨rfl,rfl⟩;refine O 1 ?_;refine nkN J ?_;refine zU (b:=(((!r1.2)||(!r2.2))||(!(decide (r1.1.fLabel=r2.1.fLabel))))) rfl (fun hc10=>?_) (fun hc10=>?_)
   · rw[if_pos hc10] at h;refine D [8,9] ?_;apply yk;cases h;simp only[ZJ,yQ,yZ,xQ,exists_eq_left',go_sem,qf,qb,qe,yO];refine⟨by decide,by simp,?_,?_⟩
     · first|rfl|(simp only[go_sem,qd,qf,qb,qe,qj,qm,reduceIte,reduceCtorEq,push_cast,if_true,qz,qo,qq,qn,qF,qs,qK,qI,qv,qu,qt,zz,zW,zb,yO]<;>rfl)
     first|rfl|(simp only[go_sem,qb,qe,reduceCtorEq,push_cast,if_true,qo,qq,qn,qs,qv,qu,zz]<;>rfl)
   rw[Zf hc10] at h
   refine rc [0,8,10,12,14,15,16,52] fun K J=>?_
   refine O 3 ?_;refine zH 3 (fun L τ=>L=[(0,.op 0 0 0),(8,.op 5 0 0),(10,.op 6 0 0),(12,.op 7 0 0),(14,.op 8 0 0),(15,.int .i64 r1.1.fType.fKind),(16,.int .i64 r2.1.fType.fKind),(58,.bool ((decide (r1.1.fType.fKind=7))&&(decide (r2.1.fType.fKind=7))))]∧τ=([.cells 0 [.str a0.ffrom.fName,.ds true (qc zf a0.ffrom.fMessages) (qa a0.ffrom.fMessages) false,.ds true (qc zh a0.ffrom.fEnums) (qa a0.ffrom.fEnums) false,.ds true (qc zq a0.ffrom.fMethods) (qa a0.ffrom.fMethods) false,.str a0.fto.fName,.ds true (qc zf a0.fto.fMessages) (qa a0.fto.fMessages) false,.ds true (qc zh a0.fto.fEnums) (qa a0.fto.fEnums) false,.ds true (qc zq a0.fto.fMethods) (qa a0.fto.fMethods) false,.os true 2 1 (a0.vl) 0 (qa a0.fl) false,.mp 2],.cells (a0.vl) (qc zW a0.fl),.map (yN yJ (AV.int .i64) a0.fplace),.cells 0 (zf a1),.cells 0 (zf a2),.cells 0 [.int .i64 0,.int .i64 0,.int .i64 0],.cells 0 (yr r1.1),.cells 0 (yr r2.1),.cells 0 [.int .i64 1,.int .i64 a3,.int .i64 0]]:ze)) ?_ ?_
   · refine wh 55 rfl (fun hg55=>?_) (fun hg55=>?_)
     · have t11:=eq_true hg55;refine O 3 ?_;refine zi ⟨rfl,_,_,⟨rfl,rfl⟩,.p t11⟩
     have t12:=eq_false hg55;refine O 3 ?_;refine zi ⟨rfl,_,_,⟨rfl,rfl⟩,.p t12⟩
   rintro _ _ ⟨rfl,rfl⟩;refine O 1 ?_;refine nkN J ?_;refine zU (b:=((decide (r1.1.fType.fKind=7))&&(decide (r2.1.fType.fKind=7)))) rfl (fun hc13=>?_) (fun hc13=>?_)
   · rw[if_pos hc13] at h
     refine rc [8,10,14] fun K J=>?_
     obtain⟨r14,hr14,h⟩:=bind_some h;refine O 8 ?_;refine clN rfl rfl rfl (@id (ACalls qg 150 [.op 0 0 0,.agg [.str r1.1.fType.fName,.str r2.1.fType.fName]] [.cells 0 [.str a0.ffrom.fName,.ds true (qc zf a0.ffrom.fMessages) (qa a0.ffrom.fMessages) false,.ds true (qc zh a0.ffrom.fEnums) (qa a0.ffrom.fEnums) false,.ds true (qc zq a0.ffrom.fMethods) (qa a0.ffrom.fMethods) false,.str a0.fto.fName,.ds true (qc zf a0.fto.fMessages) (qa a0.fto.fMessages) false,.ds true (qc zh a0.fto.fEnums) (qa a0.fto.fEnums) false,.ds true (qc zq a0.fto.fMethods) (qa a0.fto.fMethods) false,.os true 2 1 (a0.vl) 0 (qa a0.fl) false,.mp 2],.cells (a0.vl) (qc zW a0.fl),.map (yN yJ (AV.int .i64) a0.fplace),.cells 0 (zf a1),.cells 0 (zf a2),.cells 0 [.int .i64 0,.int .i64 0,.int .i64 0],.cells 0 (yr r1.1),.cells 0 (yr r2.1),.cells 0 [.int .i64 1,.int .i64 a3,.int .i64 0]] (fun r' σ'=>r'=.int .i64 r14.1∧σ'=[.cells 0 [.str r14.2.ffrom.fName,.ds true (qc zf r14.2.ffrom.fMessages) (qa r14.2.ffrom.fMessages) false,.ds true (qc zh r14.2.ffrom.fEnums) (qa r14.2.ffrom.fEnums) false,.ds true (qc zq r14.2.ffrom.fMethods) (qa r14.2.ffrom.fMethods) false,.str r14.2.fto.fName,.ds true (qc zf r14.2.fto.fMessages) (qa r14.2.fto.fMessages) false,.ds true (qc zh r14.2.fto.fEnums) (qa r14.2.fto.fEnums) false,.ds true (qc zq r14.2.fto.fMethods) (qa r14.2.fto.fMethods) false,.os true 2 1 (r14.2.vl) 0 (qa r14.2.fl) false,.mp 2],.cells (r14.2.vl) (qc zW r14.2.fl),.map (yN yJ (AV.int .i64) r14.2.fplace),.cells 0 (zf a1),.cells 0 (zf a2),.cells 0 [.int .i64 0,.int .i64 0,.int .i64 0],.cells 0 (yr r1.1),.cells 0 (yr r2.1),.cells 0 [.int .i64 1,.int .i64 a3,.int .i64 0]])) ((wo.ok hr14).ix [0,1,2])) ?_;refine zB U 4 ?_;simp only[go_sem,qd,qf,qb,qe,reduceCtorEq,yO];refine nkN J ?_;refine D [8,14,72] ?_;refine yn rfl (fun hc15=>?_) (fun hc15=>?_)
     · rw[if_pos hc15] at h;have t16:=eq_true hc15
       refine rgE U [8,14] fun K J=>?_
       simp only[go_sem,qd,qf,qb,qe,t16];apply J
       exact⟨_,_,⟨r14.2.ffrom,r14.2.fto,r14.2.fl,r14.2.vl,r14.2.fplace,(⟨4,a3,r14.1⟩:Zb),rfl,rfl,h⟩,(.t [0,1,2,5,8] false)⟩
     rw[if_neg hc15] at h;have t17:=eq_false hc15;apply zj;exact⟨_,_,⟨r14.2.ffrom,r14.2.fto,r14.2.fl,r14.2.vl,r14.2.fplace,(⟨3,a3,r14.1⟩:Zb),rfl,rfl,h⟩,(.t [0,1,2,5,8] false)⟩
   rw[Zf hc13] at h
   refine rc [8,14,15,16,74] fun K J=>?_
   refine O 3 ?_;refine zH 3 (fun L τ=>L=[(8,.op 5 0 0),(14,.op 8 0 0),(15,.int .i64 r1.1.fType.fKind),(16,.int .i64 r2.1.fType.fKind),(80,.bool ((decide (r1.1.fType.fKind=2))&&(decide (r2.1.fType.fKind=1))))]∧τ=([.cells 0 [.str a0.ffrom.fName,.ds true (qc zf a0.ffrom.fMessages) (qa a0.ffrom.fMessages) false,.ds true (qc zh a0.ffrom.fEnums) (qa a0.ffrom.fEnums) false,.ds true (qc zq a0.ffrom.fMethods) (qa a0.ffrom.fMethods) false,.str a0.fto.fName,.ds true (qc zf a0.fto.fMessages) (qa a0.fto.fMessages) false,.ds true (qc zh a0.fto.fEnums) (qa a0.fto.fEnums) false,.ds true (qc zq a0.fto.fMethods) (qa a0.fto.fMethods) false,.os true 2 1 (a0.vl) 0 (qa a0.fl) false,.mp 2],.cells (a0.vl) (qc zW a0.fl),.map (yN yJ (AV.int .i64) a0.fplace),.cells 0 (zf a1),.cells 0 (zf a2),.cells 0 [.int .i64 0,.int .i64 0,.int .i64 0],.cells 0 (yr r1.1),.cells 0 (yr r2.1),.cells 0 [.int .i64 1,.int .i64 a3,.int .i64 0]]:ze)) ?_ ?_
   · refine wh 77 rfl (fun hg77=>?_) (fun hg77=>?_)
     · have t18:=eq_true hg77;refine O 3 ?_;refine zi ⟨rfl,_,_,⟨rfl,rfl⟩,.p t18⟩
     have t19:=eq_false hg77;refine O 3 ?_;refine zi ⟨rfl,_,_,⟨rfl,rfl⟩,.p t19⟩
   rintro _ _ ⟨rfl,rfl⟩;refine O 1 ?_;refine nkN J ?_;refine zU (b:=((decide (r1.1.fType.fKind=2))&&(decide (r2.1.fType.fKind=1)))) rfl (fun hc20=>?_) (fun hc20=>?_)
   · rw[if_pos hc20] at h
     refine rgE U [8,14] fun K J=>?_
     simp only[go_sem,qd,qf,qb,qe];apply J
     exact⟨_,_,⟨a0.ffrom,a0.fto,a0.fl,a0.vl,a0.fplace,(⟨2,a3,0⟩:Zb),rfl,rfl,h⟩,(.t [0,1,2,5,8] false)⟩
   rw[Zf hc20] at h
   refine rc [8,14,82] fun K J=>?_
   refine O 4 ?_;refine zH 7 (fun L τ=>L=[(8,.op 5 0 0),(14,.op 8 0 0),(93,.bool ((!(decide (r1.1.fType.fKind=r2.1.fType.fKind)))&&((!(decide (r1.1.fType.fKind=1)))||(!(decide (r2.1.fType.fKind=2))))))]∧τ=([.cells 0 [.str a0.ffrom.fName,.ds true (qc zf a0.ffrom.fMessages) (qa a0.ffrom.fMessages) false,.ds true (qc zh a0.ffrom.fEnums) (qa a0.ffrom.fEnums) false,.ds true (qc zq a0.ffrom.fMethods) (qa a0.ffrom.fMethods) false,.str a0.fto.fName,.ds true (qc zf a0.fto.fMessages) (qa a0.fto.fMessages) false,.ds true (qc zh a0.fto.fEnums) (qa a0.fto.fEnums) false,.ds true (qc zq a0.fto.fMethods) (qa a0.fto.fMethods) false,.os true 2 1 (a0.vl) 0 (qa a0.fl) false,.mp 2],.cells (a0.vl) (qc zW a0.fl),.map (yN yJ (AV.int .i64) a0.fplace),.cells 0 (zf a1),.cells 0 (zf a2),.cells 0 [.int .i64 0,.int .i64 0,.int .i64 0],.cells 0 (yr r1.1),.cells 0 (yr r2.1),.cells 0 [.int .i64 1,.int .i64 a3,.int .i64 0]]:ze)) ?_ ?_
   · refine wh 86 rfl (fun hg86=>?_) (fun hg86=>?_)
     · have t21:=eq_false hg86;refine O 3 ?_;refine zH 3 (fun L τ=>L=[(8,.op 5 0 0),(14,.op 8 0 0),(86,.bool true),(92,.bool ((!(decide (r1.1.fType.fKind=1)))||(!(decide (r2.1.fType.fKind=2)))))]∧τ=([.cells 0 [.str a0.ffrom.fName,.ds true (qc zf a0.ffrom.fMessages) (qa a0.ffrom.fMessages) false,.ds true (qc zh a0.ffrom.fEnums) (qa a0.ffrom.fEnums) false,.ds true (qc zq a0.ffrom.fMethods) (qa a0.ffrom.fMethods) false,.str a0.fto.fName,.ds true (qc zf a0.fto.fMessages) (qa a0.fto.fMessages) false,.ds true (qc zh a0.fto.fEnums) (qa a0.fto.fEnums) false,.ds true (qc zq a0.fto.fMethods) (qa a0.fto.fMethods) false,.os true 2 1 (a0.vl) 0 (qa a0.fl) false,.mp 2],.cells (a0.vl) (qc zW a0.fl),.map (yN yJ (AV.int .i64) a0.fplace),.cells 0 (zf a1),.cells 0 (zf a2),.cells 0 [.int .i64 0,.int .i64 0,.int .i64 0],.cells 0 (yr r1.1),.cells 0 (yr r2.1),.cells 0 [.int .i64 1,.int .i64 a3,.int .i64 0]]:ze)) ?_ ?_
       · refine wh 89 rfl (fun hg89=>?_) (fun hg89=>?_)
         · have t22:=eq_false hg89;refine O 3 ?_;refine zi ⟨rfl,_,_,⟨rfl,rfl⟩,.p t22⟩
         have t23:=eq_true hg89;refine O 3 ?_;refine zi ⟨rfl,_,_,⟨rfl,rfl⟩,.p t23⟩
       rintro _ _ ⟨rfl,rfl⟩;refine O 1 ?_;refine zi ⟨rfl,_,_,⟨rfl,rfl⟩,.p t21⟩
     have t24:=eq_true hg86;refine O 7 ?_;refine zi ⟨rfl,_,_,⟨rfl,rfl⟩,.p t24⟩
   rintro _ _ ⟨rfl,rfl⟩;refine O 1 ?_;refine nkN J ?_;refine zU (b:=((!(decide (r1.1.fType.fKind=r2.1.fType.fKind)))&&((!(decide (r1.1.fType.fKind=1)))||(!(decide (r2.1.fType.fKind=2)))))) rfl (fun hc25=>?_) (fun hc25=>?_)
   · rw[if_pos hc25] at h;refine D [8,9] ?_;apply yk;cases h;simp only[ZJ,yQ,yZ,xQ,exists_eq_left',go_sem,qf,qb,qe,yO];refine⟨by decide,by simp,?_,?_⟩
     · first|rfl|(simp only[go_sem,qd,qf,qb,qe,qj,qm,reduceIte,reduceCtorEq,push_cast,if_true,qz,qo,qq,qn,qF,qs,qK,qI,qv,qu,qt,zz,zW,zb,yO]<;>rfl)
     first|rfl|(simp only[go_sem,qb,qe,reduceCtorEq,push_cast,if_true,qo,qq,qn,qs,qv,qu,zz]<;>rfl)
   rw[Zf hc25] at h;apply zj;exact⟨_,_,⟨a0.ffrom,a0.fto,a0.fl,a0.vl,a0.fplace,(⟨1,a3,0⟩:Zb),rfl,rfl,h⟩,(.t [0,1,2,5,8] false)⟩
 rintro _ _ ⟨m0__03,m0__14,l5,v6,l7,m4_8,rfl,rfl,h⟩;unfold wn.j9 at h;refine D [8,9] ?_;apply yk;cases h;simp only[ZJ,yQ,yZ,xQ,exists_eq_left',go_sem,qf,qb,qe,yO];refine⟨by decide,by simp,?_,?_⟩
 · first|rfl|(simp only[go_sem,qd,qf,qb,qe,qj,qm,reduceIte,reduceCtorEq,push_cast,if_true,qz,qo,qq,qn,qF,qs,qK,qI,qv,qu,qt,zz,zW,zb,yO]<;>rfl)
 first|rfl|(simp only[go_sem,qb,qe,reduceCtorEq,push_cast,if_true,qo,qq,qn,qs,qv,qu,zz]<;>rfl)
def xE.j70 (x50:Int)(rec59:List (yS×Int)→zE→zE→List yS→Nat→List Zb→Int→Option (we×Int))(l63:List (yS×Int))(m4__064:zE)(m4__165:zE)(l66:List yS)(v67:Nat)(l68:List Zb):Option (we×Int):=
 (rec59 l63 m4__064 m4__165 l66 v67 l68 (IntKind.i64.wrap (x50+1)))
def xE.l59 (l19:List (List Zb))(x21:Int)(rec30:List (yS×Int)→zE→zE→List yS→Nat→List (List Zb)→Int→Option (we×Int))(r38:ya×Bool)(r41:ya×Bool):Nat→List (yS×Int)→zE→zE→List yS→Nat→List Zb→Int→Option (we×Int)
 |0,_,_,_,_,_,_,_=>none
 |k59+1,l43,m4__044,m4__145,l46,v47,l48,x50=>(if x50≤500 then (wn (⟨m4__044,m4__145,l46,v47,l43⟩:ZP) r38.1 r41.1 x50).bind fun r71=>(if r71.2.1=true then (X7 (qa l48+1) 24).bind fun _u73=>(xE.j70 x50 (xE.l59 l19 x21 rec30 r38 r41 k59) r71.2.2.fplace r71.2.2.ffrom r71.2.2.fto r71.2.2.fl r71.2.2.vl (l48++[r71.1])) else (xE.j70 x50 (xE.l59 l19 x21 rec30 r38 r41 k59) r71.2.2.fplace r71.2.2.ffrom r71.2.2.fto r71.2.2.fl r71.2.2.vl l48)) else (X7 (qa l19+1) 24).bind fun _u76=>(rec30 l43 m4__044 m4__145 l46 v47 (l19++[l48]) (IntKind.i64.wrap (x21+1))))
def xE.l30 (a0:zE)(a1:zE):Nat→List (yS×Int)→zE→zE→List yS→Nat→List (List Zb)→Int→Option (we×Int)
 |0,_,_,_,_,_,_,_=>none
 |k30+1,l14,m4__015,m4__116,l17,v18,l19,x21=>(if x21<(qa l17:Int) then (Yz l17 x21).bind fun y35=>bnd (yq a0 y35.ffrom) fun r38=>bnd (yq a1 y35.fto) fun r41=>(xE.l59 l19 x21 (xE.l30 a0 a1 k30) r38 r41 xo l14 m4__015 m4__116 l17 v18 ([]:List Zb) 1) else some ((⟨l19⟩:we),0))
def xE (a0:zE)(a1:zE)(a2:List UInt8)(a3:List UInt8):Option (we×Int):=
 (yH a0).bind fun r2=>(if r2=0 then (yH a1).bind fun r3=>some (!(decide (r3=0))) else some true).bind fun c3=>(if c3=true then some ((⟨([]:List (List Zb))⟩:we),1) else bnd (yq a0 a2) fun r8=>bnd (yq a1 a3) fun r9=>(if ((!r8.2)||(!r9.2))=true then some ((⟨([]:List (List Zb))⟩:we),14) else (wo (⟨a0,a1,([]:List yS),0,([]:List (yS×Int))⟩:ZP) (⟨a2,a3⟩:yS)).bind fun r12=>(xE.l30 a0 a1 xo r12.2.fplace r12.2.ffrom r12.2.fto r12.2.fl r12.2.vl ([]:List (List Zb)) 0)))
theorem xE.ok {a0 a1 a2 a3 r}(h:xE a0 a1 a2 a3=some r):ACalls qg 99 [.agg (zb a0),.agg (zb a1),.str a2,.str a3] [] (fun r' _=>r'=.tup [.agg (zX r.1),.int .i64 r.2]):=by
 refine zt (rs:=[.cell 8 178,.tmp 9]) U Tryz.func99 rfl Tryz.ntmps99 rfl Tryz.call99 (by simp) ?_;refine zA [(0,.agg (zb a0)),(1,.agg (zb a1)),(2,.str a2),(3,.str a3)] ⟨rfl,rfl,rfl,rfl,trivial⟩ ?_;unfold xE at h
 refine rg U [2,3,4,5,8] fun K J=>?_
 simp only[go_sem,qd,qb,qe,reduceCtorEq,zb];apply J
 refine za fun Z1 hZ1=>?_
 refine rc [2,3,4,5,8,32] fun K J=>?_
 obtain⟨r2,hr2,h⟩:=bind_some h;refine O 1 ?_;refine clN rfl rfl rfl ((yH.ok hr2).c _) ?_;refine O 2 ?_;obtain⟨c3,hc3,h⟩:=bind_some h;refine zH 4 (fun L τ=>L=[(2,.str a2),(3,.str a3),(4,.op 0 0 0),(5,.op 1 0 0),(8,.op 2 0 0),(32,.bool c3)]∧τ=([.cells 0 (zb a0),.cells 0 (zb a1),.cells 0 [.ds true [] 0 true]]:ze)) ?_ ?_
 · refine wh 28 rfl (fun hg28=>?_) (fun hg28=>?_)
   · have t4:=eq_false hg28;rw[if_neg hg28] at hc3;refine O 4 ?_;cases hc3;refine zi ⟨rfl,_,_,⟨rfl,rfl⟩,.p t4⟩
   have t5:=eq_true hg28;rw[if_pos hg28] at hc3;obtain⟨r6,hr6,hc3⟩:=bind_some hc3;refine O 1 ?_;refine clN rfl rfl rfl ((yH.ok hr6).c _) ?_;refine O 2 ?_;cases hc3;refine zi ⟨rfl,_,_,⟨rfl,rfl⟩,.p t5⟩
 rintro _ _ ⟨rfl,rfl⟩;refine nkN J ?_;refine zU (b:=c3) rfl (fun hc7=>?_) (fun hc7=>?_)
 · rw[if_pos hc7] at h;refine D [8,9] ?_;cases h;exact rtA
 rw[Zf hc7] at h;apply zj;apply hZ1
 refine rc [2,3,4,5,8,11] fun K J=>?_
 obtain⟨r8,hr8,h⟩:=ye h;refine O 2 ?_;refine clN rfl rfl rfl ((yq.ok hr8).c _) ?_;refine zB U 6 ?_;simp only[go_sem,qd,qf,qb,qe,zf];refine nkN J ?_
 refine rc [2,3,4,5,8,11,13] fun K J=>?_
 obtain⟨r9,hr9,h⟩:=ye h;refine O 2 ?_;refine clN rfl rfl rfl ((yq.ok hr9).c _) ?_;refine zB U 6 ?_;simp only[go_sem,qd,qf,qb,qe,zf];refine nkN J ?_
 refine za fun Z10 hZ10=>?_
 refine rc [2,3,4,5,8,51] fun K J=>?_
 refine O 3 ?_;refine zH 3 (fun L τ=>L=[(2,.str a2),(3,.str a3),(4,.op 0 0 0),(5,.op 1 0 0),(8,.op 2 0 0),(51,.bool ((!r8.2)||(!r9.2)))]∧τ=([.cells 0 (zb a0),.cells 0 (zb a1),.cells 0 [.ds true [] 0 true],.cells 0 (zf r8.1),.cells 0 (zf r9.1)]:ze)) ?_ ?_
 · refine yB (b:=(!r8.2)) 48 rfl (fun hg48=>?_) (fun hg48=>?_)
   · refine O 3 ?_;refine zi ⟨rfl,_,_,⟨rfl,rfl⟩,.b hg48⟩
   refine O 3 ?_;refine zi ⟨rfl,_,_,⟨rfl,rfl⟩,.b hg48⟩
 rintro _ _ ⟨rfl,rfl⟩;refine nkN J ?_;refine zU (b:=((!r8.2)||(!r9.2))) rfl (fun hc11=>?_) (fun hc11=>?_)
 · rw[if_pos hc11] at h;refine D [8,9] ?_;cases h;exact rtA
 rw[Zf hc11] at h;apply zj;apply hZ10;refine D [2,3,4,5,8,14] ?_;refine Xy 5 rfl (τ:=[.cells 0 (zb a0),.cells 0 (zb a1),.cells 0 [.ds true [] 0 true],.cells 0 (zf r8.1),.cells 0 (zf r9.1),.map (yN yJ (AV.int .i64) []),.cells 0 [.str a0.fName,.ds true (qc zf a0.fMessages) (qa a0.fMessages) false,.ds true (qc zh a0.fEnums) (qa a0.fEnums) false,.ds true (qc zq a0.fMethods) (qa a0.fMethods) false,.str a1.fName,.ds true (qc zf a1.fMessages) (qa a1.fMessages) false,.ds true (qc zh a1.fEnums) (qa a1.fEnums) false,.ds true (qc zq a1.fMethods) (qa a1.fMethods) false,.ds true [] 0 true,.mp 5]]) rfl ?_;refine ZN 6 8 2 rfl (by simp) rfl (L:=[(2,.str a2),(3,.str a3),(4,.op 0 0 0),(5,.op 1 0 0),(8,.op 2 0 0),(14,.op 6 0 0)]) (τ:=[.cells 0 (zb a0),.cells 0 (zb a1),.cells 0 [.ds true [] 0 true],.cells 0 (zf r8.1),.cells 0 (zf r9.1),.map (yN yJ (AV.int .i64) []),.cells 0 [.str a0.fName,.ds true (qc zf a0.fMessages) (qa a0.fMessages) false,.ds true (qc zh a0.fEnums) (qa a0.fEnums) false,.ds true (qc zq a0.fMethods) (qa a0.fMethods) false,.str a1.fName,.ds true (qc zf a1.fMessages) (qa a1.fMessages) false,.ds true (qc zh a1.fEnums) (qa a1.fEnums) false,.ds true (qc zq a1.fMethods) (qa a1.fMethods) false,.os true 2 7 0 0 (qa ([]:List yS)) false,.mp 5],.cells 0 (qc zW ([]:List yS))]) .s ?_;refine yT (L:=[(2,.str a2),(3,.str a3),(4,.op 0 0 0),(5,.op 1 0 0),(8,.op 2 0 0),(14,.op 6 0 0)]) (τ:=[.cells 0 (zb a0),.cells 0 (zb a1),.cells 0 [.ds true [] 0 true],.cells 0 (zf r8.1),.cells 0 (zf r9.1),.map (yN yJ (AV.int .i64) []),.cells 0 [.str a0.fName,.ds true (qc zf a0.fMessages) (qa a0.fMessages) false,.ds true (qc zh a0.fEnums) (qa a0.fEnums) false,.ds true (qc zq a0.fMethods) (qa a0.fMethods) false,.str a1.fName,.ds true (qc zf a1.fMessages) (qa a1.fMessages) false,.ds true (qc zh a1.fEnums) (qa a1.fEnums) false,.ds true (qc zq a1.fMethods) (qa a1.fMethods) false,.os true 2 7 0 0 (qa ([]:List yS)) false,.mp 5],.cells 0 (qc zW ([]:List yS))]) .s ?_
 refine rc [4,5,8,14] fun K J=>?_
 obtain⟨r12,hr12,h⟩:=bind_some h;refine O 4 ?_;refine clN rfl rfl rfl (@id (ACalls qg 150 [.op 6 0 0,.agg [.str a2,.str a3]] [.cells 0 (zb a0),.cells 0 (zb a1),.cells 0 [.ds true [] 0 true],.cells 0 (zf r8.1),.cells 0 (zf r9.1),.map (yN yJ (AV.int .i64) []),.cells 0 [.str a0.fName,.ds true (qc zf a0.fMessages) (qa a0.fMessages) false,.ds true (qc zh a0.fEnums) (qa a0.fEnums) false,.ds true (qc zq a0.fMethods) (qa a0.fMethods) false,.str a1.fName,.ds true (qc zf a1.fMessages) (qa a1.fMessages) false,.ds true (qc zh a1.fEnums) (qa a1.fEnums) false,.ds true (qc zq a1.fMethods) (qa a1.fMethods) false,.os true 2 7 0 0 (qa ([]:List yS)) false,.mp 5],.cells 0 (qc zW ([]:List yS))] (fun r' σ'=>r'=.int .i64 r12.1∧σ'=[.cells 0 (zb a0),.cells 0 (zb a1),.cells 0 [.ds true [] 0 true],.cells 0 (zf r8.1),.cells 0 (zf r9.1),.map (yN yJ (AV.int .i64) r12.2.fplace),.cells 0 [.str r12.2.ffrom.fName,.ds true (qc zf r12.2.ffrom.fMessages) (qa r12.2.ffrom.fMessages) false,.ds true (qc zh r12.2.ffrom.fEnums) (qa r12.2.ffrom.fEnums) false,.ds true (qc zq r12.2.ffrom.fMethods) (qa r12.2.ffrom.fMethods) false,.str r12.2.fto.fName,.ds true (qc zf r12.2.fto.fMessages) (qa r12.2.fto.fMessages) false,.ds true (qc zh r12.2.fto.fEnums) (qa r12.2.fto.fEnums) false,.ds true (qc zq r12.2.fto.fMethods) (qa r12.2.fto.fMethods) false,.os true 2 7 (r12.2.vl) 0 (qa r12.2.fl) false,.mp 5],.cells (r12.2.vl) (qc zW r12.2.fl)])) ((wo.ok hr12).ix [6,7,5])) ?_;refine nkN J ?_;refine D [4,5,8,14,15] ?_;refine ZN 8 0 1 rfl (by simp) rfl (L:=[(4,.op 0 0 0),(5,.op 1 0 0),(8,.op 2 0 0),(14,.op 6 0 0),(15,.op 8 0 0)]) (τ:=[.cells 0 (zb a0),.cells 0 (zb a1),.cells 0 [.ds true [] 0 true],.cells 0 (zf r8.1),.cells 0 (zf r9.1),.map (yN yJ (AV.int .i64) r12.2.fplace),.cells 0 [.str r12.2.ffrom.fName,.ds true (qc zf r12.2.ffrom.fMessages) (qa r12.2.ffrom.fMessages) false,.ds true (qc zh r12.2.ffrom.fEnums) (qa r12.2.ffrom.fEnums) false,.ds true (qc zq r12.2.ffrom.fMethods) (qa r12.2.ffrom.fMethods) false,.str r12.2.fto.fName,.ds true (qc zf r12.2.fto.fMessages) (qa r12.2.fto.fMessages) false,.ds true (qc zh r12.2.fto.fEnums) (qa r12.2.fto.fEnums) false,.ds true (qc zq r12.2.fto.fMethods) (qa r12.2.fto.fMethods) false,.os true 2 7 (r12.2.vl) 0 (qa r12.2.fl) false,.mp 5],.cells (r12.2.vl) (qc zW r12.2.fl),.cells 0 [.os true 1 9 0 0 (qa ([]:List (List Zb))) false],.cells 0 (qc (vae yO) ([]:List (List Zb)))]) .s ?_
 refine za fun Z13 hZ13=>?_
 refine D [4,5,8,14,15,16] ?_;apply zn;refine yh (fun m L τ=>∃ (k30:Nat) (l14:List (yS×Int)) (m4__015:zE) (m4__116:zE) (l17:List yS) (v18:Nat) (l19:List (List Zb)) (x21:Int) (v20:Nat),m=0+k30∧L=[(4,.op 0 0 0),(5,.op 1 0 0),(8,.op 2 0 0),(14,.op 4 0 0),(15,.op 6 0 0),(16,.int .i64 x21)]∧τ=([.cells 0 (zb a0),.cells 0 (zb a1),.cells 0 [.ds true [] 0 true],.map (yN yJ (AV.int .i64) l14),.cells 0 [.str m4__015.fName,.ds true (qc zf m4__015.fMessages) (qa m4__015.fMessages) false,.ds true (qc zh m4__015.fEnums) (qa m4__015.fEnums) false,.ds true (qc zq m4__015.fMethods) (qa m4__015.fMethods) false,.str m4__116.fName,.ds true (qc zf m4__116.fMessages) (qa m4__116.fMessages) false,.ds true (qc zh m4__116.fEnums) (qa m4__116.fEnums) false,.ds true (qc zq m4__116.fMethods) (qa m4__116.fMethods) false,.os true 2 5 v18 0 (qa l17) false,.mp 3],.cells v18 (qc zW l17),.cells 0 [.os true 1 7 v20 0 (qa l19) false],.cells v20 (qc (vae yO) l19)]:ze)∧xE.l30 a0 a1 k30 l14 m4__015 m4__116 l17 v18 l19 x21=some r) _ ⟨xo,r12.2.fplace,r12.2.ffrom,r12.2.fto,r12.2.fl,r12.2.vl,([]:List (List Zb)),0,0,rfl,rfl,rfl,h⟩ (.t [0,1,2,5,6,7,8,9] false) ?_;rintro m L τ ⟨k30,l14,m4__015,m4__116,l17,v18,l19,x21,v20,rfl,rfl,rfl,h⟩
 rcases k30 with _|k30
 · cases h
 simp only[xE.l30] at h
 refine za fun Z31 hZ31=>?_
 refine D [4,5,8,14,15,16,69] ?_;refine yn rfl (fun hc32=>?_) (fun hc32=>?_)
 · rw[if_pos hc32] at h;have t33:=eq_true hc32;apply zj;apply hZ31
   refine za fun Z34 hZ34=>?_
   apply zn;obtain⟨y35,hy35,h⟩:=bind_some h;have f36:=E240.idxO hy35;have f37:=E240.rdfO0 hy35;obtain⟨r38,hr38,h⟩:=ye h
   refine rd [4,5,8,14,15,16,17] fun K J=>?_
   refine DW.start (T:=tab) [.at [],.any,.any,.any,.at [],.any,.any,.any,.at [],.eff,.any,.any,.any,.flt,.eff,.any] [] ?_;refine DW.runN U 8 ?_;simp only[go_sem,qd,qf,qb,qe,t33,f36];refine DW.runN U 1 ?_;simp only[go_sem,qd,qb,zW,f37];refine DW.call rfl rfl rfl ((yq.ok hr38).c _) ?_;refine DW.runN U 6 ?_;simp only[go_sem,qd,qf,qb,qe,zf];refine DW.fin U (by decide +kernel) rfl ?_;simp only[zC,upd,qb,reduceIte,yX,xK];apply J
   have f39:=E240.idxO hy35;have f40:=E240.rdfO hy35 (o:=1) (by decide);obtain⟨r41,hr41,h⟩:=ye h
   refine rd [4,5,8,14,15,16,17,19] fun K J=>?_
   refine DW.start (T:=tab) [.at [],.any,.any,.any,.at [],.any,.any,.any,.at [],.eff,.any,.any,.any,.flt,.eff,.any] [] ?_;refine DW.runN U 8 ?_;simp only[go_sem,qd,qf,qb,qe,f39];refine DW.runN U 1 ?_;simp only[go_sem,qd,qb,zW,f40];refine DW.call rfl rfl rfl ((yq.ok hr41).c _) ?_;refine DW.runN U 6 ?_;simp only[go_sem,qd,qf,qb,qe,zf];refine DW.fin U (by decide +kernel) rfl ?_;simp only[zC,upd,qb,reduceIte,yX,xK];apply J
   refine D [4,5,8,14,15,16,17,19,21] ?_;refine YV 21 3 rfl ?_;refine yT (L:=[(4,.op 0 0 0),(5,.op 1 0 0),(8,.op 2 0 0),(14,.op 4 0 0),(15,.op 6 0 0),(16,.int .i64 x21),(17,.op 8 0 0),(19,.op 9 0 0),(21,.os true 3 10 0 0 (qa ([]:List Zb)) false)]) (τ:=[.cells 0 (zb a0),.cells 0 (zb a1),.cells 0 [.ds true [] 0 true],.map (yN yJ (AV.int .i64) l14),.cells 0 [.str m4__015.fName,.ds true (qc zf m4__015.fMessages) (qa m4__015.fMessages) false,.ds true (qc zh m4__015.fEnums) (qa m4__015.fEnums) false,.ds true (qc zq m4__015.fMethods) (qa m4__015.fMethods) false,.str m4__116.fName,.ds true (qc zf m4__116.fMessages) (qa m4__116.fMessages) false,.ds true (qc zh m4__116.fEnums) (qa m4__116.fEnums) false,.ds true (qc zq m4__116.fMethods) (qa m4__116.fMethods) false,.os true 2 5 v18 0 (qa l17) false,.mp 3],.cells v18 (qc zW l17),.cells 0 [.os true 1 7 v20 0 (qa l19) false],.cells v20 (qc (vae yO) l19),.cells 0 (zf r38.1),.cells 0 (zf r41.1),.cells 0 (qc yO ([]:List Zb))]) .s ?_
   refine za fun Z42 hZ42=>?_
   refine D [4,5,8,14,15,16,17,19,21,22] ?_;apply zn;refine yh (fun m L τ=>∃ (k59:Nat) (l43:List (yS×Int)) (m4__044:zE) (m4__145:zE) (l46:List yS) (v47:Nat) (l48:List Zb) (x50:Int) (v49:Nat),m=0+k59∧L=[(4,.op 0 0 0),(5,.op 1 0 0),(8,.op 2 0 0),(14,.op 4 0 0),(15,.op 6 0 0),(16,.int .i64 x21),(17,.op 8 0 0),(19,.op 9 0 0),(21,.os true 3 10 v49 0 (qa l48) false),(22,.int .i64 x50)]∧τ=([.cells 0 (zb a0),.cells 0 (zb a1),.cells 0 [.ds true [] 0 true],.map (yN yJ (AV.int .i64) l43),.cells 0 [.str m4__044.fName,.ds true (qc zf m4__044.fMessages) (qa m4__044.fMessages) false,.ds true (qc zh m4__044.fEnums) (qa m4__044.fEnums) false,.ds true (qc zq m4__044.fMethods) (qa m4__044.fMethods) false,.str m4__145.fName,.ds true (qc zf m4__145.fMessages) (qa m4__145.fMessages) false,.ds true (qc zh m4__145.fEnums) (qa m4__145.fEnums) false,.ds true (qc zq m4__145.fMethods) (qa m4__145.fMethods) false,.os true 2 5 v47 0 (qa l46) false,.mp 3],.cells v47 (qc zW l46),.cells 0 [.os true 1 7 v20 0 (qa l19) false],.cells v20 (qc (vae yO) l19),.cells 0 (zf r38.1),.cells 0 (zf r41.1),.cells v49 (qc yO l48)]:ze)∧xE.l59 l19 x21 (xE.l30 a0 a1 k30) r38 r41 k59 l43 m4__044 m4__145 l46 v47 l48 x50=some r) _ ⟨xo,l14,m4__015,m4__116,l17,v18,([]:List Zb),1,0,rfl,rfl,rfl,h⟩ .s ?_;rintro m L τ ⟨k59,l43,m4__044,m4__145,l46,v47,l48,x50,v49,rfl,rfl,rfl,h⟩
   rcases k59 with _|k59
   · cases h
   simp only[xE.l59] at h
   refine za fun Z60 hZ60=>?_
   refine D [4,5,8,14,15,16,17,19,21,22,99] ?_;refine yn rfl (fun hc61=>?_) (fun hc61=>?_)
   · rw[if_pos hc61] at h;have t62:=eq_true hc61;apply zj;apply hZ60;refine xL (fun L τ=>∃ (l63:List (yS×Int)) (m4__064:zE) (m4__165:zE) (l66:List yS) (v67:Nat) (l68:List Zb) (v69:Nat),L=[(4,.op 0 0 0),(5,.op 1 0 0),(8,.op 2 0 0),(14,.op 4 0 0),(15,.op 6 0 0),(16,.int .i64 x21),(17,.op 8 0 0),(19,.op 9 0 0),(21,.os true 3 10 v69 0 (qa l68) false),(22,.int .i64 x50)]∧τ=([.cells 0 (zb a0),.cells 0 (zb a1),.cells 0 [.ds true [] 0 true],.map (yN yJ (AV.int .i64) l63),.cells 0 [.str m4__064.fName,.ds true (qc zf m4__064.fMessages) (qa m4__064.fMessages) false,.ds true (qc zh m4__064.fEnums) (qa m4__064.fEnums) false,.ds true (qc zq m4__064.fMethods) (qa m4__064.fMethods) false,.str m4__165.fName,.ds true (qc zf m4__165.fMessages) (qa m4__165.fMessages) false,.ds true (qc zh m4__165.fEnums) (qa m4__165.fEnums) false,.ds true (qc zq m4__165.fMethods) (qa m4__165.fMethods) false,.os true 2 5 v67 0 (qa l66) false,.mp 3],.cells v67 (qc zW l66),.cells 0 [.os true 1 7 v20 0 (qa l19) false],.cells v20 (qc (vae yO) l19),.cells 0 (zf r38.1),.cells 0 (zf r41.1),.cells v69 (qc yO l68)]:ze)∧xE.j70 x50 (xE.l59 l19 x21 (xE.l30 a0 a1 k30) r38 r41 k59) l63 m4__064 m4__165 l66 v67 l68=some r) ?_ ?_
     · apply zn
       refine rc [4,5,8,14,15,16,17,19,21,22,23,24] fun K J=>?_
       obtain⟨r71,hr71,h⟩:=bind_some h;refine zB U 4 ?_;simp only[go_sem,qd,qf,qb,qe,t62];refine clN rfl rfl rfl (@id (ACalls qg 151 [.op 4 0 0,.agg (zf r38.1),.agg (zf r41.1),.int .i64 x50] [.cells 0 (zb a0),.cells 0 (zb a1),.cells 0 [.ds true [] 0 true],.map (yN yJ (AV.int .i64) l43),.cells 0 [.str m4__044.fName,.ds true (qc zf m4__044.fMessages) (qa m4__044.fMessages) false,.ds true (qc zh m4__044.fEnums) (qa m4__044.fEnums) false,.ds true (qc zq m4__044.fMethods) (qa m4__044.fMethods) false,.str m4__145.fName,.ds true (qc zf m4__145.fMessages) (qa m4__145.fMessages) false,.ds true (qc zh m4__145.fEnums) (qa m4__145.fEnums) false,.ds true (qc zq m4__145.fMethods) (qa m4__145.fMethods) false,.os true 2 5 v47 0 (qa l46) false,.mp 3],.cells v47 (qc zW l46),.cells 0 [.os true 1 7 v20 0 (qa l19) false],.cells v20 (qc (vae yO) l19),.cells 0 (zf r38.1),.cells 0 (zf r41.1),.cells v49 (qc yO l48)] (fun r' σ'=>r'=.tup [.agg (yO r71.1),.bool r71.2.1]∧σ'=[.cells 0 (zb a0),.cells 0 (zb a1),.cells 0 [.ds true [] 0 true],.map (yN yJ (AV.int .i64) r71.2.2.fplace),.cells 0 [.str r71.2.2.ffrom.fName,.ds true (qc zf r71.2.2.ffrom.fMessages) (qa r71.2.2.ffrom.fMessages) false,.ds true (qc zh r71.2.2.ffrom.fEnums) (qa r71.2.2.ffrom.fEnums) false,.ds true (qc zq r71.2.2.ffrom.fMethods) (qa r71.2.2.ffrom.fMethods) false,.str r71.2.2.fto.fName,.ds true (qc zf r71.2.2.fto.fMessages) (qa r71.2.2.fto.fMessages) false,.ds true (qc zh r71.2.2.fto.fEnums) (qa r71.2.2.fto.fEnums) false,.ds true (qc zq r71.2.2.fto.fMethods) (qa r71.2.2.fto.fMethods) false,.os true 2 5 (r71.2.2.vl) 0 (qa r71.2.2.fl) false,.mp 3],.cells (r71.2.2.vl) (qc zW r71.2.2.fl),.cells 0 [.os true 1 7 v20 0 (qa l19) false],.cells v20 (qc (vae yO) l19),.cells 0 (zf r38.1),.cells 0 (zf r41.1),.cells v49 (qc yO l48)])) ((wn.ok hr71).ix [4,5,3])) ?_;refine zB U 6 ?_;simp only[go_sem,qd,qf,qb,qe,yO];refine nkN J ?_;refine D [4,5,8,14,15,16,17,19,21,22,23,110] ?_;refine zU (b:=r71.2.1) rfl (fun hc72=>?_) (fun hc72=>?_)
       · rw[if_pos hc72] at h;obtain⟨_u73,hu73,h⟩:=bind_some h;have gu73:=xf hu73;have f74:=(zV E246.len l48)
         refine rgE U [4,5,8,14,15,16,17,19,21,22] fun K J=>?_
         simp only[go_sem,qd,qf,qb,qe,qj,zS,yE,qZ,qQ,true_and,ue,yM,yw,yR,gu73,f74,xw,uc,q9,AV.one,qM,qD,ql,qr,qo,qH];apply J
         exact⟨_,_,⟨r71.2.2.fplace,r71.2.2.ffrom,r71.2.2.fto,r71.2.2.fl,r71.2.2.vl,l48++[r71.1],v49+1,rfl,rfl,h⟩,(.t [0,1,2,3,4,5,6,7,8,9,10] false)⟩
       rw[Zf hc72] at h;apply zj;exact⟨_,_,⟨r71.2.2.fplace,r71.2.2.ffrom,r71.2.2.fto,r71.2.2.fl,r71.2.2.vl,l48,v49,rfl,rfl,h⟩,(.t [0,1,2,3,4,5,6,7,8,9,10] false)⟩
     rintro _ _ ⟨l63,m4__064,m4__165,l66,v67,l68,v69,rfl,rfl,h⟩;unfold xE.j70 at h
     refine rgE U [4,5,8,14,15,16,17,19,21,22] fun K J=>?_
     simp only[go_sem,qd,qb];apply J
     exact⟨_,_,_,qy (0+k59),⟨k59,l63,m4__064,m4__165,l66,v67,l68,IntKind.i64.wrap (x50+1),v69,rfl,rfl,rfl,h⟩,.s⟩
   rw[if_neg hc61] at h;have t75:=eq_false hc61;apply yf;apply hZ42;obtain⟨_u76,hu76,h⟩:=bind_some h;have gu76:=xf hu76;have f77:=(zV E176.len l19)
   refine rgE U [4,5,8,14,15,16] fun K J=>?_
   simp only[go_sem,qd,qf,qb,qe,qj,zS,yE,qZ,qQ,true_and,ue,yM,yw,yR,t75,gu76,f77,xw,uc,q9,AV.one,qM,qD,ql,qr,qo,qH];apply J
   apply hZ34
   refine rgE U [4,5,8,14,15,16] fun K J=>?_
   simp only[go_sem,qd,qb];apply J
   exact⟨_,_,_,qy (0+k30),⟨k30,l43,m4__044,m4__145,l46,v47,l19++[l48],IntKind.i64.wrap (x21+1),v20+1,rfl,rfl,rfl,h⟩,(.t [0,1,2,3,4,5,6,7] false)⟩
 rw[if_neg hc32] at h;have t78:=eq_false hc32;apply yf;apply hZ13
 refine rg U [8,9] fun K J=>?_
 simp only[go_sem,qd,qf,qb,t78];apply J
 cases h;exact rtA
end
section
set_option maxRecDepth 4000
set_option maxHeartbeats 1000000
open AM
def Zm.j6 (a0:Zb)(a1:Int)(x5:Bool):Bool:=
 (if x5=true then ((decide (0≤a0.fSub))&&(decide (a0.fSub<a1))) else false)
def Zm.j3 (a0:Zb)(a1:Int)(x2:Bool):Bool:=
 (if x2=true then decide (a0.fSub=0) else (if a0.fOp=3 then (Zm.j6 a0 a1 (decide (a0.fOp=3))) else (Zm.j6 a0 a1 (decide (a0.fOp=4)))))
def Zm (a0:Zb)(a1:Int):Bool:=
 (if a0.fOp=1 then (Zm.j3 a0 a1 (decide (a0.fOp=1))) else (Zm.j3 a0 a1 (decide (a0.fOp=2))))
theorem Zm.ok {a0 a1 r}(h:Zm a0 a1=r):ACalls qg 236 [.agg (yO a0),.int .i64 a1] [] (fun r' _=>r'=.bool r):=by
 refine zt (rs:=[.tmp 4]) U Tryz.func236 rfl Tryz.ntmps236 rfl Tryz.call236 (by simp) ?_;refine zA [(0,.agg (yO a0)),(1,.int .i64 a1)] ⟨rfl,rfl,trivial⟩ ?_;unfold Zm at h
 refine rg U [1,2] fun K J=>?_
 simp only[go_sem,qd,qb,qe,reduceCtorEq,yO];apply J
 refine za fun Z1 hZ1=>?_
 refine D [1,2,6] ?_;apply zn;refine xL (fun L τ=>∃ (x2:Bool),L=[(1,.int .i64 a1),(2,.op 0 0 0),(6,.int .i64 a0.fOp),(7,.bool x2)]∧τ=([.cells 0 [.int .i64 a0.fOp,.int .i64 a0.fTag,.int .i64 a0.fSub]]:ze)∧Zm.j3 a0 a1 x2=r) ?_ ?_
 · refine D [1,2,6,7] ?_;refine yn rfl (fun hc13=>?_) (fun hc13=>?_)
   · rw[if_pos hc13] at h;have t14:=eq_true hc13;apply zj;exact⟨_,_,⟨decide (a0.fOp=1),rfl,rfl,h⟩,.s⟩
   rw[if_neg hc13] at h;have t15:=eq_false hc13
   refine rgE U [1,2,6,7] fun K J=>?_
   simp only[go_sem,qd,qb,t15];apply J
   exact⟨_,_,⟨decide (a0.fOp=2),rfl,rfl,h⟩,.s⟩
 rintro _ _ ⟨x2,rfl,rfl,h⟩;unfold Zm.j3 at h;refine zU (b:=x2) rfl (fun hc4=>?_) (fun hc4=>?_)
 · rw[if_pos hc4] at h;refine D [4] ?_;cases h;exact rtA
 rw[Zf hc4] at h;refine xL (fun L τ=>∃ (x5:Bool),L=[(1,.int .i64 a1),(2,.op 0 0 0),(13,.bool x5)]∧τ=([.cells 0 [.int .i64 a0.fOp,.int .i64 a0.fTag,.int .i64 a0.fSub]]:ze)∧Zm.j6 a0 a1 x5=r) ?_ ?_
 · refine D [1,2,6,13] ?_;refine yn rfl (fun hc10=>?_) (fun hc10=>?_)
   · rw[if_pos hc10] at h;have t11:=eq_true hc10;apply zj;exact⟨_,_,⟨decide (a0.fOp=3),rfl,rfl,h⟩,.s⟩
   rw[if_neg hc10] at h;have t12:=eq_false hc10
   refine rgE U [1,2,13] fun K J=>?_
   simp only[go_sem,qd,qb,t12];apply J
   exact⟨_,_,⟨decide (a0.fOp=4),rfl,rfl,h⟩,.s⟩
 rintro _ _ ⟨x5,rfl,rfl,h⟩;unfold Zm.j6 at h;refine zU (b:=x5) rfl (fun hc7=>?_) (fun hc7=>?_)
 · rw[if_pos hc7] at h
   refine rc [4] fun K J=>?_
   refine O 4 ?_;refine zH 5 (fun L τ=>L=[(24,.bool ((decide (0≤a0.fSub))&&(decide (a0.fSub<a1))))]∧τ=([.cells 0 [.int .i64 a0.fOp,.int .i64 a0.fTag,.int .i64 a0.fSub]]:ze)) ?_ ?_
   · refine wh 19 rfl (fun hg19=>?_) (fun hg19=>?_)
     · have t8:=eq_true hg19;refine O 5 ?_;refine zi ⟨rfl,_,_,⟨rfl,rfl⟩,.p t8⟩
     have t9:=eq_false hg19;refine O 5 ?_;refine zi ⟨rfl,_,_,⟨rfl,rfl⟩,.p t9⟩
   rintro _ _ ⟨rfl,rfl⟩;refine O 1 ?_;refine nkN J ?_;cases h;exact rtA
 rw[Zf hc7] at h;apply zj;apply hZ1;refine D [4] ?_;cases h;exact rtA
def wv.l18 (a0:we)(x6:Int)(rec8:Int→Bool):List Zb→Int→Int→Bool
 |[],x15,x14=>(rec8 (x6+1))
 |y18::q18,x15,x14=>bnd (if ((decide (y18.fTag≤x14))||(decide (500<y18.fTag)))=true then true else bnd (Zm y18 (qa a0.fParts:Int)) fun r27 => !r27) fun c27=>(if c27=true then false else ((wv.l18 a0 x6 rec8 q18) (x15+1) y18.fTag))
def wv.l8 (a0:we):List (List Zb)→Int→Bool
 |[],x6=>true
 |y8::q8,x6=>(wv.l18 a0 x6 (wv.l8 a0 q8) y8 0 0)
def wv (a0:we):Bool:=
 (if ((decide ((qa a0.fParts:Int)<1))||(decide (100<(qa a0.fParts:Int))))=true then false else (wv.l8 a0 a0.fParts 0))
theorem wv.ok {a0 r}(h:wv a0=r):ACalls qg 198 [.agg (zX a0)] [] (fun r' _=>r'=.bool r):=by
 refine zt (rs:=[.tmp 2]) U Tryz.func198 rfl Tryz.ntmps198 rfl Tryz.call198 (by simp) ?_;refine zA [(0,.agg (zX a0))] ⟨rfl,trivial⟩ ?_;unfold wv at h
 refine rg U [1] fun K J=>?_
 simp only[go_sem,qd,qb,reduceCtorEq,zX];apply J
 refine za fun Z1 hZ1=>?_
 refine rc [1,17] fun K J=>?_
 refine O 5 ?_;refine zH 5 (fun L τ=>L=[(1,.op 0 0 0),(17,.bool ((decide ((qa a0.fParts:Int)<1))||(decide (100<(qa a0.fParts:Int)))))]∧τ=([.cells 0 (zX a0)]:ze)) ?_ ?_
 · refine wh 12 rfl (fun hg12=>?_) (fun hg12=>?_)
   · have t2:=eq_true hg12;refine O 5 ?_;refine zi ⟨rfl,_,_,⟨rfl,rfl⟩,.p t2⟩
   have t3:=eq_false hg12;refine O 5 ?_;refine zi ⟨rfl,_,_,⟨rfl,rfl⟩,.p t3⟩
 rintro _ _ ⟨rfl,rfl⟩;refine nkN J ?_;refine zU (b:=((decide ((qa a0.fParts:Int)<1))||(decide (100<(qa a0.fParts:Int))))) rfl (fun hc4=>?_) (fun hc4=>?_)
 · rw[if_pos hc4] at h;refine D [2] ?_;cases h;exact rtA
 rw[Zf hc4] at h;apply zj;apply hZ1
 refine za fun Z5 hZ5=>?_
 refine D [1,19,20,21] ?_;apply zn
 refine xn 19 fun hb8=>?_
 replace hb8:qa a0.fParts≤9223372036854775807:=hb8.1;refine yh (fun m L τ=>∃ (p8 q8:List (List Zb)) (x6:Int),m=qa q8∧L=[(1,.op 0 0 0),(19,.ds true (qc (vae yO) a0.fParts) (qa a0.fParts) false),(20,.int .i64 (qa a0.fParts:Int)),(21,.int .i64 x6)]∧τ=([.cells 0 (zX a0)]:ze)∧a0.fParts=p8++q8∧x6=(qa p8:Int)∧wv.l8 a0 q8 x6=r) _ ⟨[],a0.fParts,0,rfl,rfl,rfl,rfl,rfl,h⟩ .s ?_;rintro m L τ ⟨p8,q8,x6,rfl,rfl,rfl,hE8,hi8,h⟩
 rcases q8 with _|⟨y8,q8⟩
 · have hz8:=xC hE8 hi8;simp only[wv.l8] at h
   refine rg U [1,19,20,21,22] fun K J=>?_
   simp only[go_sem,qd,qb,hz8];apply J
   refine za fun Z9 hZ9=>?_
   refine zG rfl ?_;apply yf;apply hZ5;refine D [2] ?_;cases h;exact rtA
 obtain⟨hz8,hw8,hx8,hE'8,hi'8⟩:=yU hE8 hi8 hb8;simp only[wv.l8] at h
 refine rg U [1,19,20,21,22] fun K J=>?_
 simp only[go_sem,qd,qb,hz8];apply J
 refine za fun Z10 hZ10=>?_
 refine zK rfl ?_;apply zj;apply hZ10
 refine za fun Z11 hZ11=>?_
 apply zn;have f12:=E176.idxS hx8;have f13:=E176.fldS0 (f:=246) rfl rfl hx8
 refine rg U [1,4,19,20,21] fun K J=>?_
 simp only[go_sem,qd,qb,vae,f12,f13];apply J
 refine D [1,4,5,19,20,21] ?_;refine D [1,5,19,20,21,25,26,27] ?_;apply zn
 refine xn 25 fun hb18=>?_
 replace hb18:qa y8≤9223372036854775807:=hb18.1;refine yh (fun m L τ=>∃ (p18 q18:List Zb) (x15:Int) (x14:Int),m=qa q18∧L=[(1,.op 0 0 0),(5,.int .i64 x14),(19,.ds true (qc (vae yO) a0.fParts) (qa a0.fParts) false),(20,.int .i64 (qa a0.fParts:Int)),(21,.int .i64 x6),(25,.ds true (qc yO y8) (qa y8) false),(26,.int .i64 (qa y8:Int)),(27,.int .i64 x15)]∧τ=([.cells 0 (zX a0)]:ze)∧y8=p18++q18∧x15=(qa p18:Int)∧wv.l18 a0 x6 (wv.l8 a0 q8) q18 x15 x14=r) _ ⟨[],y8,0,0,rfl,rfl,rfl,rfl,rfl,h⟩ .s ?_;rintro m L τ ⟨p18,q18,x15,x14,rfl,rfl,rfl,hE18,hi18,h⟩
 rcases q18 with _|⟨y18,q18⟩
 · have hz18:=xC hE18 hi18;simp only[wv.l18] at h
   refine rg U [1,5,19,20,21,25,26,27,28] fun K J=>?_
   simp only[go_sem,qd,qb,hz18];apply J
   refine za fun Z19 hZ19=>?_
   refine zG rfl ?_;apply yf;apply hZ11
   refine rgE U [1,19,20,21] fun K J=>?_
   simp only[go_sem,qd,qb,hw8];apply J
   exact⟨_,_,_,qy q8.length,⟨p8++[y8],q8,x6+1,rfl,rfl,rfl,hE'8,hi'8,h⟩,.s⟩
 obtain⟨hz18,hw18,hx18,hE'18,hi'18⟩:=yU hE18 hi18 hb18;simp only[wv.l18] at h
 refine rg U [1,5,19,20,21,25,26,27,28] fun K J=>?_
 simp only[go_sem,qd,qb,hz18];apply J
 refine za fun Z20 hZ20=>?_
 refine zK rfl ?_;apply zj;apply hZ20
 refine za fun Z21 hZ21=>?_
 apply zn;have f22:=E246.idxS hx18;have f23:=E246.loadS rfl rfl hx18
 refine rg U [1,5,7,19,20,21,25,26,27] fun K J=>?_
 simp only[go_sem,qd,qf,qb,qe,yO,f22,f23];apply J
 refine za fun Z24 hZ24=>?_
 refine rc [1,7,19,20,21,25,26,27,47] fun K J=>?_
 refine O 5 ?_;refine zH 4 (fun L τ=>L=[(1,.op 0 0 0),(7,.op 1 0 0),(19,.ds true (qc (vae yO) a0.fParts) (qa a0.fParts) false),(20,.int .i64 (qa a0.fParts:Int)),(21,.int .i64 x6),(25,.ds true (qc yO y8) (qa y8) false),(26,.int .i64 (qa y8:Int)),(27,.int .i64 x15),(39,.bool ((decide (y18.fTag≤x14))||(decide (500<y18.fTag))))]∧τ=([.cells 0 (zX a0),.cells 0 [.int .i64 y18.fOp,.int .i64 y18.fTag,.int .i64 y18.fSub]]:ze)) ?_ ?_
 · refine wh 35 rfl (fun hg35=>?_) (fun hg35=>?_)
   · have t25:=eq_true hg35;refine O 4 ?_;refine zi ⟨rfl,_,_,⟨rfl,rfl⟩,.p t25⟩
   have t26:=eq_false hg35;refine O 4 ?_;refine zi ⟨rfl,_,_,⟨rfl,rfl⟩,.p t26⟩
 rintro _ _ ⟨rfl,rfl⟩;refine O 1 ?_;obtain⟨c27,hc27,h⟩:=ye h;refine zH 7 (fun L τ=>L=[(1,.op 0 0 0),(7,.op 1 0 0),(19,.ds true (qc (vae yO) a0.fParts) (qa a0.fParts) false),(20,.int .i64 (qa a0.fParts:Int)),(21,.int .i64 x6),(25,.ds true (qc yO y8) (qa y8) false),(26,.int .i64 (qa y8:Int)),(27,.int .i64 x15),(47,.bool c27)]∧τ=([.cells 0 (zX a0),.cells 0 [.int .i64 y18.fOp,.int .i64 y18.fTag,.int .i64 y18.fSub]]:ze)) ?_ ?_
 · refine yB (b:=((decide (y18.fTag≤x14))||(decide (500<y18.fTag)))) 40 rfl (fun hg40=>?_) (fun hg40=>?_)
   · rw[if_pos hg40] at hc27;refine O 7 ?_;subst hc27;refine zi ⟨rfl,_,_,⟨rfl,rfl⟩,.b hg40⟩
   rw[Zf hg40] at hc27;obtain⟨r28,hr28,hc27⟩:=ye hc27;refine O 4 ?_;refine clN rfl rfl rfl ((Zm.ok hr28).c _) ?_;refine O 2 ?_;subst hc27;refine zi ⟨rfl,_,_,⟨rfl,rfl⟩,.b hg40⟩
 rintro _ _ ⟨rfl,rfl⟩;refine nkN J ?_;refine zU (b:=c27) rfl (fun hc29=>?_) (fun hc29=>?_)
 · rw[if_pos hc29] at h;refine D [2] ?_;cases h;exact rtA
 rw[Zf hc29] at h;apply zj;apply hZ24
 refine rgE U [1,5,19,20,21,25,26,27] fun K J=>?_
 simp only[go_sem,qd,qb,qe];apply J
 apply hZ21
 refine rgE U [1,5,19,20,21,25,26,27] fun K J=>?_
 simp only[go_sem,qd,qb,hw18];apply J
 exact⟨_,_,_,qy q18.length,⟨p18++[y18],q18,x15+1,y18.fTag,rfl,rfl,rfl,hE'18,hi'18,h⟩,(.t [0] false)⟩
def zR.j8 (r2:Int)(m1__13:Int)(m1__24:List UInt8)(m1__45:List yc)(l6:List zr):Option zk:=
 some (⟨r2,m1__13,m1__24,l6,m1__45⟩:zk)
def zR.l30 (xj:zm→Option zk)(x13:Int)(l11:List zr)(rec17:Int→List zr→Option zk)(y17:yI):List zm→Int→List zk→Option zk
 |[],x26,l24=>(X7 (qa l11+1) 32).bind fun _u32=>(rec17 (x13+1) (l11++[(⟨y17.ftag,l24⟩:zr)]))
 |y30::q30,x26,l24=>(xj y30).bind fun r39=>(X7 (qa l24+1) 80).bind fun _u40=>((zR.l30 xj x13 l11 rec17 y17 q30) (x26+1) (l24++[r39]))
def zR.l17 (xj:zm→Option zk)(r2:Int)(r10:List yc):List yI→Int→List zr→Option zk
 |[],x13,l11=>(zR.j8 r2 0 [] r10 l11)
 |y17::q17,x13,l11=>(zR.l30 xj x13 l11 (zR.l17 xj r2 r10 q17) y17 y17.fl 0 ([]:List zk))
def zR.body (xj:zm→Option zk)(a0:zm):Option zk:=
 bnd (Zc a0) fun r2=>(match a0 with|.nil=>(zR.j8 r2 0 [] ([]:List yc) ([]:List zr))|.num n9=>(zR.j8 r2 n9 [] ([]:List yc) ([]:List zr))|.str s9=>(zR.j8 r2 0 s9 ([]:List yc) ([]:List zr))|.node e9 r9=>(wH (⟨e9,r9⟩:yl)).bind fun r10=>(zR.l17 xj r2 r10 e9 0 ([]:List zr)))
theorem zR.step (xj:zm→Option zk)(vcm:∀ (a0:zm) (r:zk),xj a0=some r→ACalls qg 249 [.agg (zo a0)] [] (fun r' _=>r'=.agg (zd r)))(a0:zm)(r:zk)(h:zR.body xj a0=some r):ACalls qg 249 [.agg (zo a0)] [] (fun r' _=>r'=.agg (zd r)):=by
 have ev_value_Value_Tree:=fun a0 r h σ=>(vcm a0 r h).c σ
 refine zt (rs:=[.cell 2 37]) U Tryz.func249 rfl Tryz.ntmps249 rfl Tryz.call249 (by simp) ?_;refine zA [(0,.agg (zo a0))] ⟨rfl,trivial⟩ ?_;unfold zR.body at h;have f1:=Yp a0;unfold AV.one at f1
 refine rg U [1,2] fun K J=>?_
 simp only[go_sem,qd,qb,reduceCtorEq,zo,f1];apply J
 refine rc [1,2,3] fun K J=>?_
 obtain⟨r2,hr2,h⟩:=ye h;refine O 1 ?_;refine clN rfl rfl rfl (Zc.ev a0 r2 hr2 _) ?_;refine zB U 3 ?_;simp only[go_sem,qd,qf,qb,qe,zd];refine nkN J ?_;refine ZN 2 3 2 rfl (by simp) rfl (L:=[(1,.op 0 0 0),(2,.op 1 0 0),(3,.op 2 0 0)]) (τ:=[.cells 0 [vdv a0],.cells 0 [.int .i64 0,.int .i64 0,.str [],.ds true [] 0 true,.ds true [] 0 true],.cells 0 [.int .i64 r2,.int .i64 0,.str [],.os true 2 3 0 0 (qa ([]:List zr)) false,.ds true [] 0 true],.cells 0 (qc zx ([]:List zr))]) .s ?_;refine xL (fun L τ=>∃ (m1__13:Int) (m1__24:List UInt8) (m1__45:List yc) (l6:List zr) (v7:Nat),L=[(2,.op 0 0 0),(3,.op 1 0 0)]∧τ=([.cells 0 [.int .i64 0,.int .i64 0,.str [],.ds true (qc zx ([]:List zr)) (qa ([]:List zr)) false,.ds true (qc zs ([]:List yc)) (qa ([]:List yc)) false],.cells 0 [.int .i64 r2,.int .i64 m1__13,.str m1__24,.os true 2 2 v7 0 (qa l6) false,.ds true (qc zs m1__45) (qa m1__45) false],.cells v7 (qc zx l6)]:ze)∧zR.j8 r2 m1__13 m1__24 m1__45 l6=some r) ?_ ?_
 · refine D [2,3,16] ?_;apply zn
   rcases a0 with _|n9|s9|⟨e9,r9⟩
   · dsimp only at h
     try simp only[vbe]
     refine rg U [2,3,16,18,19] fun K J=>?_
     simp only[go_sem,qd,qb,qe,xG,xH,TypeDesc.isIface];apply J
     refine zG rfl ?_
     refine rg U [2,3,16,23,24] fun K J=>?_
     simp only[go_sem,qd,qb,qe,xG,xH,TypeDesc.isIface];apply J
     refine zG rfl ?_
     refine rg U [2,3,28,29] fun K J=>?_
     simp only[go_sem,qd,qb,qe,xG,xH,TypeDesc.isIface];apply J
     refine zG rfl ?_;apply zj;exact⟨_,_,⟨0,[],([]:List yc),([]:List zr),0,rfl,rfl,h⟩,(.t [1,2,3] true)⟩
   · dsimp only at h
     try simp only[vbd]
     refine rg U [2,3,16,18,19] fun K J=>?_
     simp only[go_sem,qd,qb,qe,xG,xH,TypeDesc.isIface];apply J
     refine zK rfl ?_;refine D [2,3,4] ?_
     refine rgE U [2,3] fun K J=>?_
     simp only[go_sem,qd,qf,qb,qe];apply J
     exact⟨_,_,⟨n9,[],([]:List yc),([]:List zr),0,rfl,rfl,h⟩,(.t [1,2,3] true)⟩
   · dsimp only at h
     try simp only[vbc]
     refine rg U [2,3,16,18,19] fun K J=>?_
     simp only[go_sem,qd,qb,qe,xG,xH,TypeDesc.isIface];apply J
     refine zG rfl ?_
     refine rg U [2,3,16,23,24] fun K J=>?_
     simp only[go_sem,qd,qb,qe,xG,xH,TypeDesc.isIface];apply J
     refine zK rfl ?_;refine D [2,3,5] ?_
     refine rgE U [2,3] fun K J=>?_
     simp only[go_sem,qd,qf,qb,qe];apply J
     exact⟨_,_,⟨0,s9,([]:List yc),([]:List zr),0,rfl,rfl,h⟩,(.t [1,2,3] true)⟩
   dsimp only at h
   try simp only[XI]
   refine rg U [2,3,16,18,19] fun K J=>?_
   simp only[go_sem,qd,qb,qe,xG,xH,TypeDesc.isIface];apply J
   refine zG rfl ?_
   refine rg U [2,3,16,23,24] fun K J=>?_
   simp only[go_sem,qd,qb,qe,xG,xH,TypeDesc.isIface];apply J
   refine zG rfl ?_
   refine rg U [2,3,28,29] fun K J=>?_
   simp only[go_sem,qd,qb,qe,xG,xH,TypeDesc.isIface];apply J
   refine zK rfl ?_;refine D [2,3,6] ?_
   refine rc [2,3,6] fun K J=>?_
   obtain⟨r10,hr10,h⟩:=bind_some h;refine O 1 ?_;refine clN rfl rfl rfl ((wH.ok hr10).c _) ?_;refine zB U 2 ?_;simp only[go_sem,qd,qf,qb,qe,zd];refine nkN J ?_
   refine rg U [2,3,36,37,38] fun K J=>?_
   simp only[go_sem,qd,qb,qe,vbJ];apply J
   apply zn
   refine xn 36 fun hb17=>?_
   replace hb17:qa e9≤9223372036854775807:=hb17.1;refine yh (fun m L τ=>∃ (p17 q17:List yI) (x13:Int) (l11:List zr) (v12:Nat),m=qa q17∧L=[(2,.op 0 0 0),(3,.op 1 0 0),(36,.ds true (qc y0 e9) (qa e9) false),(37,.int .i64 (qa e9:Int)),(38,.int .i64 x13)]∧τ=([.cells 0 [.int .i64 0,.int .i64 0,.str [],.ds true [] 0 true,.ds true [] 0 true],.cells 0 [.int .i64 r2,.int .i64 0,.str [],.os true 2 2 v12 0 (qa l11) false,.ds true (qc zs r10) (qa r10) false],.cells v12 (qc zx l11)]:ze)∧e9=p17++q17∧x13=(qa p17:Int)∧zR.l17 xj r2 r10 q17 x13 l11=some r) _ ⟨[],e9,0,([]:List zr),0,rfl,rfl,rfl,rfl,rfl,h⟩ (.t [1,2,3] false) ?_;rintro m L τ ⟨p17,q17,x13,l11,v12,rfl,rfl,rfl,hE17,hi17,h⟩
   rcases q17 with _|⟨y17,q17⟩
   · have hz17:=xC hE17 hi17;simp only[zR.l17] at h
     refine rg U [2,3,36,37,38,39] fun K J=>?_
     simp only[go_sem,qd,qb,hz17];apply J
     refine za fun Z18 hZ18=>?_
     refine zG rfl ?_;apply yf;exact⟨_,_,⟨0,[],r10,l11,v12,rfl,rfl,h⟩,(.t [0,1,2] true)⟩
   obtain⟨hz17,hw17,hx17,hE'17,hi'17⟩:=yU hE17 hi17 hb17;simp only[zR.l17] at h
   refine rg U [2,3,36,37,38,39] fun K J=>?_
   simp only[go_sem,qd,qb,hz17];apply J
   refine za fun Z19 hZ19=>?_
   refine zK rfl ?_;apply zj;apply hZ19
   refine za fun Z20 hZ20=>?_
   apply zn;have f21:=E324.idxS hx17;have f22:=E324.loadS rfl rfl hx17
   refine rg U [2,3,8,36,37,38] fun K J=>?_
   simp only[go_sem,qd,qf,qb,qe,wa,xZ,f21,f22];apply J
   refine D [2,3,8,9,36,37,38] ?_;refine ZN 4 1 5 rfl (by simp) rfl (L:=[(2,.op 0 0 0),(3,.op 1 0 0),(8,.op 3 0 0),(9,.op 4 0 0),(36,.ds true (qc y0 e9) (qa e9) false),(37,.int .i64 (qa e9:Int)),(38,.int .i64 x13)]) (τ:=[.cells 0 [.int .i64 0,.int .i64 0,.str [],.ds true [] 0 true,.ds true [] 0 true],.cells 0 [.int .i64 r2,.int .i64 0,.str [],.os true 2 2 v12 0 (qa l11) false,.ds true (qc zs r10) (qa r10) false],.cells v12 (qc zx l11),.cells 0 (wa y17),.cells 0 [.int .i64 y17.ftag,.os true 5 5 0 0 (qa ([]:List zk)) false],.cells 0 (qc yp ([]:List zk))]) .s ?_
   refine za fun Z23 hZ23=>?_
   refine D [2,3,9,36,37,38,46,47,48] ?_;apply zn
   refine xn 46 fun hb30=>?_
   replace hb30:qa y17.fl≤9223372036854775807:=hb30.1;refine yh (fun m L τ=>∃ (p30 q30:List zm) (x26:Int) (l24:List zk) (v25:Nat),m=qa q30∧L=[(2,.op 0 0 0),(3,.op 1 0 0),(9,.op 3 0 0),(36,.ds true (qc y0 e9) (qa e9) false),(37,.int .i64 (qa e9:Int)),(38,.int .i64 x13),(46,.ds true (qc zo y17.fl) (qa y17.fl) false),(47,.int .i64 (qa y17.fl:Int)),(48,.int .i64 x26)]∧τ=([.cells 0 [.int .i64 0,.int .i64 0,.str [],.ds true [] 0 true,.ds true [] 0 true],.cells 0 [.int .i64 r2,.int .i64 0,.str [],.os true 2 2 v12 0 (qa l11) false,.ds true (qc zs r10) (qa r10) false],.cells v12 (qc zx l11),.cells 0 [.int .i64 y17.ftag,.os true 5 4 v25 0 (qa l24) false],.cells v25 (qc yp l24)]:ze)∧y17.fl=p30++q30∧x26=(qa p30:Int)∧zR.l30 xj x13 l11 (zR.l17 xj r2 r10 q17) y17 q30 x26 l24=some r) _ ⟨[],y17.fl,0,([]:List zk),0,rfl,rfl,rfl,rfl,rfl,h⟩ (.t [0,1,2,4,5] false) ?_;rintro m L τ ⟨p30,q30,x26,l24,v25,rfl,rfl,rfl,hE30,hi30,h⟩
   rcases q30 with _|⟨y30,q30⟩
   · have hz30:=xC hE30 hi30;simp only[zR.l30] at h
     refine rg U [2,3,9,36,37,38,46,47,48,49] fun K J=>?_
     simp only[go_sem,qd,qb,hz30];apply J
     refine za fun Z31 hZ31=>?_
     refine zG rfl ?_;apply yf;apply hZ23;obtain⟨_u32,hu32,h⟩:=bind_some h;have gu32:=xf hu32;have f33:=(zV E34.len l11)
     refine rgE U [2,3,36,37,38] fun K J=>?_
     simp only[go_sem,qd,qf,qb,qe,qj,zS,yE,qZ,qQ,true_and,ue,yM,yw,yR,gu32,f33,xw,uc,q9,AV.one,qM,qD,ql,qr,qo,qH];apply J
     apply hZ20
     refine rgE U [2,3,36,37,38] fun K J=>?_
     simp only[go_sem,qd,qb,hw17];apply J
     exact⟨_,_,_,qy q17.length,⟨p17++[y17],q17,x13+1,l11++[(⟨y17.ftag,l24⟩:zr)],v12+1,rfl,rfl,rfl,hE'17,hi'17,h⟩,(.t [0,1,2] false)⟩
   obtain⟨hz30,hw30,hx30,hE'30,hi'30⟩:=yU hE30 hi30 hb30;simp only[zR.l30] at h
   refine rg U [2,3,9,36,37,38,46,47,48,49] fun K J=>?_
   simp only[go_sem,qd,qb,hz30];apply J
   refine za fun Z34 hZ34=>?_
   refine zK rfl ?_;apply zj;apply hZ34
   refine za fun Z35 hZ35=>?_
   apply zn;have f36:=E282.idxS hx30;have f37:=E282.loadS rfl rfl hx30;have f38:=Yp y30;unfold AV.one at f38
   refine rg U [2,3,9,11,36,37,38,46,47,48] fun K J=>?_
   simp only[go_sem,qd,qf,qb,qe,zo,f36,f37,f38];apply J
   obtain⟨r39,hr39,h⟩:=bind_some h;obtain⟨_u40,hu40,h⟩:=bind_some h;have gu40:=xf hu40;have f41:=(zV E38.len l24)
   refine rdE [2,3,9,36,37,38,46,47,48] fun K J=>?_
   refine DW.start (T:=tab) [.any,.own 2 [],.at [],.eff,.eff,.eff,.any,.eff] [(2,[])] ?_;refine DW.runN U 3 ?_;simp only[go_sem,qd,qf,qb,qe,zd,uf,ql,qr,qo];refine DW.call rfl rfl rfl (ev_value_Value_Tree y30 r39 hr39 _) ?_;refine DW.runN U 4 ?_;simp only[go_sem,qd,qf,qb,qe,qj,zS,yE,qZ,qQ,true_and,ue,yM,yw,yR,zd,gu40,f41,xw,uc,q9,AV.one,qM,qD,ql,qr,qo,qH];refine DW.fin U (by decide +kernel) rfl ?_;simp only[zC,upd,qb,reduceIte,yX,xK];apply J
   apply hZ35
   refine rgE U [2,3,9,36,37,38,46,47,48] fun K J=>?_
   simp only[go_sem,qd,qb,hw30];apply J
   exact⟨_,_,_,qy q30.length,⟨p30++[y30],q30,x26+1,l24++[r39],v25+1,rfl,rfl,rfl,hE'30,hi'30,h⟩,(.t [0,1,2,3,4] false)⟩
 rintro _ _ ⟨m1__13,m1__24,m1__45,l6,v7,rfl,rfl,h⟩;unfold zR.j8 at h;refine D [2] ?_;cases h;exact rtA
def zR : Nat→zm→Option zk
 |0,_=>none
 |k+1,a0=>zR.body (zR k) a0
theorem zR.all (k:Nat):(∀ (a0:zm) (r:zk),zR k a0=some r→ACalls qg 249 [.agg (zo a0)] [] (fun r' _=>r'=.agg (zd r))):=by
 induction k with
 |zero=>exact (fun a0 r h=>by simp only[zR] at h; cases h)
 |succ k ih=>exact (fun a0 r h=>zR.step _ ih a0 r (by simpa only [zR] using h))
theorem zR.ev (k:Nat)(a0:zm)(r:zk)(h:zR k a0=some r)(σ:ze):ACalls qg 249 [.agg (zo a0)] σ (fun r' σ'=>r'=.agg (zd r)∧σ'=σ):=
 ((zR.all k) a0 r h).c σ
def ZE.j5  : zm:=
 zm.nil
def ZE (a0:zm):zm:=
 bnd (Zk a0) fun r3=>(if r3.2=true then (zm.num r3.1) else (match a0 with|.nil=>ZE.j5|.num n6=>ZE.j5|.str s6=>ZE.j5|.node e6 r6=>(zm.node e6 r6)))
theorem ZE.ok {a0 r}(h:ZE a0=r):ACalls qg 250 [.agg (zo a0)] [] (fun r' _=>r'=anyV r):=by
 refine zt (rs:=[.tmp 2]) U Tryz.func250 rfl Tryz.ntmps250 rfl Tryz.call250 (by simp) ?_;refine zA [(0,.agg (zo a0))] ⟨rfl,trivial⟩ ?_;unfold ZE at h;have f1:=Yp a0;unfold AV.one at f1
 refine rg U [1] fun K J=>?_
 simp only[go_sem,qd,qb,reduceCtorEq,zo,f1];apply J
 refine za fun Z2 hZ2=>?_
 refine rc [1,3,4] fun K J=>?_
 obtain⟨r3,hr3,h⟩:=ye h;refine O 1 ?_;refine clN rfl rfl rfl ((Zk.ok hr3).c _) ?_;refine O 5 ?_;refine nkN J ?_;refine D [1,3,12] ?_;refine zU (b:=r3.2) rfl (fun hc4=>?_) (fun hc4=>?_)
 · rw[if_pos hc4] at h;refine D [2] ?_;cases h;exact rtA
 rw[Zf hc4] at h;apply zj;apply hZ2;refine xL (fun L τ=>L=[]∧τ=([]:ze)∧ZE.j5=r) ?_ ?_
 · rcases a0 with _|n6|s6|⟨e6,r6⟩
   · dsimp only at h
     try simp only[vbe]
     refine rc [5,6] fun K J=>?_
     refine O 1 ?_;refine clN rfl rfl rfl (asNode_nil    _) ?_;refine O 5 ?_;refine nkN J ?_;refine D [5,20] ?_;refine zG rfl ?_;apply zj;exact⟨_,_,⟨rfl,rfl,h⟩,(.t [] false)⟩
   · dsimp only at h
     try simp only[vbd]
     refine rc [5,6] fun K J=>?_
     refine O 1 ?_;refine clN rfl rfl rfl (asNode_num n6   _) ?_;refine O 5 ?_;refine nkN J ?_;refine D [5,20] ?_;refine zG rfl ?_;apply zj;exact⟨_,_,⟨rfl,rfl,h⟩,(.t [] false)⟩
   · dsimp only at h
     try simp only[vbc]
     refine rc [5,6] fun K J=>?_
     refine O 1 ?_;refine clN rfl rfl rfl (asNode_str s6   _) ?_;refine O 5 ?_;refine nkN J ?_;refine D [5,20] ?_;refine zG rfl ?_;apply zj;exact⟨_,_,⟨rfl,rfl,h⟩,(.t [] false)⟩
   dsimp only at h
   try simp only[XI]
   refine rc [5,6] fun K J=>?_
   refine O 1 ?_;refine clN rfl rfl rfl (asNode_node e6 r6   _) ?_;refine O 5 ?_;refine nkN J ?_;refine D [5,20] ?_;refine zK rfl ?_;refine D [2] ?_;cases h;exact rtA
 rintro _ _ ⟨rfl,rfl,h⟩;unfold ZE.j5 at h;refine D [2] ?_;cases h;exact rtA
def wz (a0:Int):Int:=
 (if (-2147483648)<(if 2147483647<a0 then 2147483647 else a0) then (if 2147483647<a0 then 2147483647 else a0) else (-2147483648))
theorem wz.ok {a0 r}(h:wz a0=r):ACalls qg 208 [.int .i64 a0] [] (fun r' _=>r'=.int .i64 r):=by
 refine zt (rs:=[.tmp 2]) U Tryz.func208 rfl Tryz.ntmps208 rfl Tryz.call208 (by simp) ?_;refine zA [(0,.int .i64 a0)] ⟨rfl,trivial⟩ ?_;unfold wz at h;refine D [0] ?_
 refine rg U [2] fun K J=>?_
 simp only[go_sem,qd,qb,reduceCtorEq,vbm,vdx,vcb,vcc];apply J
 cases h;exact rtA
def zY.j19 (x8:Int)(rec13:Int→zN→List zr→Option (zk×zN))(m0_16:zN)(l17:List zr):Option (zk×zN):=
 (rec13 (x8+1) m0_16 l17)
def zY.l13 (y5:zN→Zb→(List zm)→Option (List zk×zN))(a2:yl):List Zb→Int→zN→List zr→Option (zk×zN)
 |[],x8,m0_5,l6=>some ((⟨3,0,[],l6,([]:List yc)⟩:zk),m0_5)
 |y13::q13,x8,m0_5,l6=>(xq a2 y13.fTag).bind fun r22=>(if (qa r22:Int)=0 then (zY.j19 x8 (zY.l13 y5 a2 q13) (⟨m0_5.fp,IntKind.i64.wrap (m0_5.flooks+1)⟩:zN) l6) else (y5 (⟨m0_5.fp,IntKind.i64.wrap (m0_5.flooks+1)⟩:zN) y13 r22).bind fun r27=>(if 0<(qa r27.1:Int) then (X7 (qa l6+1) 32).bind fun _u30=>(zY.j19 x8 (zY.l13 y5 a2 q13) r27.2 (l6++[(⟨y13.fTag,r27.1⟩:zr)])) else (zY.j19 x8 (zY.l13 y5 a2 q13) r27.2 l6)))
def zY.body (yi:zN→Int→yl→Option (zk×zN))(y5:zN→Zb→(List zm)→Option (List zk×zN))(a0:zN)(a1:Int)(a2:yl):Option (zk×zN):=
 (Yz a0.fp.fParts a1).bind fun y2=>(zY.l13 y5 a2 y2 0 a0 ([]:List zr))
theorem zY.step (yi:zN→Int→yl→Option (zk×zN))(y5:zN→Zb→(List zm)→Option (List zk×zN))(vaq:∀ (a0:zN) (a1:Int) (a2:yl) (r:zk×zN),yi a0 a1 a2=some r→ACalls qg 199 [.op 0 0 0,.int .i64 a1,.dp (zO a2) 0] [.cells 0 (zZ a0)] (fun r' σ'=>r'=.agg (zd r.1)∧σ'=[.cells 0 (zZ r.2)]))(vap:∀ (a0:zN) (a1:Zb) (a2:List zm) (r:List zk×zN),y5 a0 a1 a2=some r→ACalls qg 237 [.op 0 0 0,.agg (yO a1),.ds true (qc zo a2) (qa a2) false] [.cells 0 (zZ a0)] (fun r' σ'=>r'=.ds true (qc yp r.1) (qa r.1) false∧σ'=[.cells 0 (zZ r.2)]))(a0:zN)(a1:Int)(a2:yl)(r:zk×zN)(h:zY.body yi y5 a0 a1 a2=some r):ACalls qg 199 [.op 0 0 0,.int .i64 a1,.dp (zO a2) 0] [.cells 0 (zZ a0)] (fun r' σ'=>r'=.agg (zd r.1)∧σ'=[.cells 0 (zZ r.2)]):=by
 refine ZO [0] (rs:=[.cell 6 37]) U Tryz.func199 rfl Tryz.ntmps199 rfl Tryz.call199 (by simp) rfl ?_;refine zA [(0,.op 0 0 0),(1,.int .i64 a1),(2,.dp (zO a2) 0)] ⟨rfl,rfl,rfl,trivial⟩ ?_;unfold zY.body at h;refine D [0,1,2,6] ?_;refine D [0,1,2,6,7] ?_;refine ZN 2 3 2 rfl (by simp) rfl (L:=[(0,.op 0 0 0),(1,.int .i64 a1),(2,.dp (zO a2) 0),(6,.op 1 0 0),(7,.op 2 0 0)]) (τ:=[.cells 0 (zZ a0),.cells 0 [.int .i64 0,.int .i64 0,.str [],.ds true [] 0 true,.ds true [] 0 true],.cells 0 [.int .i64 3,.int .i64 0,.str [],.os true 2 3 0 0 (qa ([]:List zr)) false,.ds true [] 0 true],.cells 0 (qc zx ([]:List zr))]) .s ?_
 refine za fun Z1 hZ1=>?_
 obtain⟨y2,hy2,h⟩:=bind_some h;have f3:=E176.idxS hy2;have f4:=E176.fldS0 (f:=246) rfl rfl hy2
 refine rg U [0,2,6,7,20,21,22] fun K J=>?_
 simp only[go_sem,qd,qb,qe,reduceCtorEq,vae,f3,f4];apply J
 apply zn
 refine xn 20 fun hb13=>?_
 replace hb13:qa y2≤9223372036854775807:=hb13.1;refine yh (fun m L τ=>∃ (p13 q13:List Zb) (x8:Int) (m0_5:zN) (l6:List zr) (v7:Nat),m=qa q13∧L=[(0,.op 0 0 0),(2,.dp (zO a2) 0),(6,.op 1 0 0),(7,.op 2 0 0),(20,.ds true (qc yO y2) (qa y2) false),(21,.int .i64 (qa y2:Int)),(22,.int .i64 x8)]∧τ=([.cells 0 (zZ m0_5),.cells 0 [.int .i64 0,.int .i64 0,.str [],.ds true [] 0 true,.ds true [] 0 true],.cells 0 [.int .i64 3,.int .i64 0,.str [],.os true 2 3 v7 0 (qa l6) false,.ds true [] 0 true],.cells v7 (qc zx l6)]:ze)∧y2=p13++q13∧x8=(qa p13:Int)∧zY.l13 y5 a2 q13 x8 m0_5 l6=some r) _ ⟨[],y2,0,a0,([]:List zr),0,rfl,rfl,rfl,rfl,rfl,h⟩ .s ?_;rintro m L τ ⟨p13,q13,x8,m0_5,l6,v7,rfl,rfl,rfl,hE13,hi13,h⟩
 rcases q13 with _|⟨y13,q13⟩
 · have hz13:=xC hE13 hi13;simp only[zY.l13] at h
   refine rg U [0,2,6,7,20,21,22,23] fun K J=>?_
   simp only[go_sem,qd,qb,reduceCtorEq,hz13];apply J
   refine za fun Z14 hZ14=>?_
   refine zG rfl ?_;apply yf;apply hZ1;refine D [6] ?_;apply yk;cases h;simp only[ZJ,yQ,yZ,xQ,exists_eq_left',go_sem,qf,qe,zd];refine⟨by decide,by simp,?_,?_⟩
   · first|rfl|(simp only[go_sem,reduceCtorEq,push_cast,if_true,qz,qo,qq,qn,qs,qv,qu,zz]<;>rfl)
   first|rfl|(simp only[go_sem,push_cast,qq,qn,qs,qv,qu,zz]<;>rfl)
 obtain⟨hz13,hw13,hx13,hE'13,hi'13⟩:=yU hE13 hi13 hb13;simp only[zY.l13] at h
 refine rg U [0,2,6,7,20,21,22,23] fun K J=>?_
 simp only[go_sem,qd,qb,reduceCtorEq,hz13];apply J
 refine za fun Z15 hZ15=>?_
 refine zK rfl ?_;apply zj;apply hZ15;refine xL (fun L τ=>∃ (m0_16:zN) (l17:List zr) (v18:Nat),L=[(0,.op 0 0 0),(2,.dp (zO a2) 0),(6,.op 1 0 0),(7,.op 2 0 0),(20,.ds true (qc yO y2) (qa y2) false),(21,.int .i64 (qa y2:Int)),(22,.int .i64 x8)]∧τ=([.cells 0 (zZ m0_16),.cells 0 [.int .i64 0,.int .i64 0,.str [],.ds true [] 0 true,.ds true [] 0 true],.cells 0 [.int .i64 3,.int .i64 0,.str [],.os true 2 3 v18 0 (qa l17) false,.ds true [] 0 true],.cells v18 (qc zx l17)]:ze)∧zY.j19 x8 (zY.l13 y5 a2 q13) m0_16 l17=some r) ?_ ?_
 · apply zn;have f20:=E246.idxS hx13;have f21:=E246.loadS rfl rfl hx13
   refine rg U [0,2,6,7,9,20,21,22] fun K J=>?_
   simp only[go_sem,qd,qf,qb,qe,reduceCtorEq,yO,f20,f21];apply J
   refine D [0,2,6,7,9,20,21,22] ?_
   refine rc [0,2,6,7,9,10,20,21,22] fun K J=>?_
   obtain⟨r22,hr22,h⟩:=bind_some h;refine O 3 ?_;refine clN rfl rfl rfl ((xq.ok hr22).c _) ?_;refine O 1 ?_;refine nkN J ?_
   refine za fun Z23 hZ23=>?_
   refine D [0,2,6,7,9,10,20,21,22,39] ?_;refine yn rfl (fun hc24=>?_) (fun hc24=>?_)
   · rw[if_pos hc24] at h;have t25:=eq_true hc24;apply yf;exact⟨_,_,⟨(⟨m0_5.fp,IntKind.i64.wrap (m0_5.flooks+1)⟩:zN),l6,v7,rfl,rfl,h⟩,(.t [0,1,2,3] false)⟩
   rw[if_neg hc24] at h;have t26:=eq_false hc24;apply zj;apply hZ23
   refine rc [0,2,6,7,9,11,20,21,22] fun K J=>?_
   obtain⟨r27,hr27,h⟩:=bind_some h;refine zB U 3 ?_;simp only[go_sem,qd,qf,qb,qe,reduceCtorEq,t26];refine clN rfl rfl rfl (@id (ACalls qg 237 [.op 0 0 0,.agg (yO y13),.ds true (qc zo r22) (qa r22) false] [.cells 0 [.ds true (qc (vae yO) m0_5.fp.fParts) (qa m0_5.fp.fParts) false,.int .i64 (IntKind.i64.wrap (m0_5.flooks+1))],.cells 0 [.int .i64 0,.int .i64 0,.str [],.ds true [] 0 true,.ds true [] 0 true],.cells 0 [.int .i64 3,.int .i64 0,.str [],.os true 2 3 v7 0 (qa l6) false,.ds true [] 0 true],.cells v7 (qc zx l6),.cells 0 [.int .i64 y13.fOp,.int .i64 y13.fTag,.int .i64 y13.fSub]] (fun r' σ'=>r'=.ds true (qc yp r27.1) (qa r27.1) false∧σ'=[.cells 0 (zZ r27.2),.cells 0 [.int .i64 0,.int .i64 0,.str [],.ds true [] 0 true,.ds true [] 0 true],.cells 0 [.int .i64 3,.int .i64 0,.str [],.os true 2 3 v7 0 (qa l6) false,.ds true [] 0 true],.cells v7 (qc zx l6),.cells 0 [.int .i64 y13.fOp,.int .i64 y13.fTag,.int .i64 y13.fSub]])) ((vap (⟨m0_5.fp,IntKind.i64.wrap (m0_5.flooks+1)⟩:zN) y13 r22 r27 hr27).i [0])) ?_;refine O 1 ?_;refine nkN J ?_;refine D [0,2,6,7,9,11,20,21,22,46] ?_;refine yn rfl (fun hc28=>?_) (fun hc28=>?_)
   · rw[if_pos hc28] at h;have t29:=eq_true hc28;obtain⟨_u30,hu30,h⟩:=bind_some h;have gu30:=xf hu30;have f31:=(zV E34.len l6)
     refine rgE U [0,2,6,7,20,21,22] fun K J=>?_
     simp only[go_sem,qd,qf,qb,qe,qj,reduceCtorEq,zS,yE,qZ,qQ,true_and,ue,yM,yw,yR,t29,gu30,f31,xw,uc,q9,AV.one,qM,qD,ql,qr,qo,qH];apply J
     exact⟨_,_,⟨r27.2,l6++[(⟨y13.fTag,r27.1⟩:zr)],v7+1,rfl,rfl,h⟩,(.t [0,1,2,3] false)⟩
   rw[if_neg hc28] at h;have t32:=eq_false hc28;apply zj;exact⟨_,_,⟨r27.2,l6,v7,rfl,rfl,h⟩,(.t [0,1,2,3] false)⟩
 rintro _ _ ⟨m0_16,l17,v18,rfl,rfl,h⟩;unfold zY.j19 at h
 refine rgE U [0,2,6,7,20,21,22] fun K J=>?_
 simp only[go_sem,qd,qb,reduceCtorEq,hw13];apply J
 exact⟨_,_,_,qy q13.length,⟨p13++[y13],q13,x8+1,m0_16,l17,v18,rfl,rfl,rfl,hE'13,hi'13,h⟩,.s⟩
def zJ.j22 (x7:Int)(l5:List zk)(rec12:Int→zN→List zk→Option (List zk×zN))(m0_20:zN)(m3_21:zk):Option (List zk×zN):=
 (X7 (qa l5+1) 80).bind fun _u23=>(rec12 (x7+1) m0_20 (l5++[m3_21]))
def zJ.j36 (yi:zN→Int→yl→Option (zk×zN))(a1:Zb)(x7:Int)(m0_4:zN)(l5:List zk)(rec12:Int→zN→List zk→Option (List zk×zN))(r19:zk)(r25:zm)(x35:Bool):Option (List zk×zN):=
 (if x35=true then (match r25 with|.nil=>some (([]:List zk),m0_4)|.num n38=>some (([]:List zk),m0_4)|.str s38=>some (([]:List zk),m0_4)|.node e38 r38=>(yi m0_4 a1.fSub (⟨e38,r38⟩:yl)).bind fun r43=>(if ((decide (a1.fOp=4))&&(decide ((qa r43.1.fEntries:Int)=0)))=true then some (([]:List zk),r43.2) else (zJ.j22 x7 l5 rec12 r43.2 r43.1))) else (zJ.j22 x7 l5 rec12 m0_4 r19))
def zJ.l12 (yi:zN→Int→yl→Option (zk×zN))(a1:Zb):List zm→Int→zN→List zk→Option (List zk×zN)
 |[],x7,m0_4,l5=>some (l5,m0_4)
 |y12::q12,x7,m0_4,l5=>(zR xo y12).bind fun r19=>bnd (ZE y12) fun r25=>(if a1.fOp=2 then (match r25 with|.nil=>some (([]:List zk),m0_4)|.num n28=>bnd (wz n28) fun r31=>(zJ.j22 x7 l5 (zJ.l12 yi a1 q12) m0_4 (⟨r19.fKind,r31,r19.fS,r19.fEntries,r19.fRest⟩:zk))|.str s28=>some (([]:List zk),m0_4)|.node e28 r28=>some (([]:List zk),m0_4)) else (if a1.fOp=3 then (zJ.j36 yi a1 x7 m0_4 l5 (zJ.l12 yi a1 q12) r19 r25 (decide (a1.fOp=3))) else (zJ.j36 yi a1 x7 m0_4 l5 (zJ.l12 yi a1 q12) r19 r25 (decide (a1.fOp=4)))))
def zJ.j2 (yi:zN→Int→yl→Option (zk×zN))(a0:zN)(a1:Zb)(x1:List zm):Option (List zk×zN):=
 (zJ.l12 yi a1 x1 0 a0 ([]:List zk))
def zJ.body (yi:zN→Int→yl→Option (zk×zN))(y5:zN→Zb→(List zm)→Option (List zk×zN))(a0:zN)(a1:Zb)(a2:List zm):Option (List zk×zN):=
 (if a1.fOp=4 then (grd ((0:Int)≤IntKind.i64.wrap ((qa a2:Int)-1)∧IntKind.i64.wrap ((qa a2:Int)-1)≤(qa a2:Int)∧(qa a2:Int)≤(qa a2:Int))).bind fun _u52=>(zJ.j2 yi a0 a1 (vct a2 (IntKind.i64.wrap ((qa a2:Int)-1)) (qa a2:Int))) else (zJ.j2 yi a0 a1 a2))
end
section
set_option maxRecDepth 4000
set_option maxHeartbeats 1000000
open AM
theorem zJ.step (yi:zN→Int→yl→Option (zk×zN))(y5:zN→Zb→(List zm)→Option (List zk×zN))(vaq:∀ (a0:zN) (a1:Int) (a2:yl) (r:zk×zN),yi a0 a1 a2=some r→ACalls qg 199 [.op 0 0 0,.int .i64 a1,.dp (zO a2) 0] [.cells 0 (zZ a0)] (fun r' σ'=>r'=.agg (zd r.1)∧σ'=[.cells 0 (zZ r.2)]))(vap:∀ (a0:zN) (a1:Zb) (a2:List zm) (r:List zk×zN),y5 a0 a1 a2=some r→ACalls qg 237 [.op 0 0 0,.agg (yO a1),.ds true (qc zo a2) (qa a2) false] [.cells 0 (zZ a0)] (fun r' σ'=>r'=.ds true (qc yp r.1) (qa r.1) false∧σ'=[.cells 0 (zZ r.2)]))(a0:zN)(a1:Zb)(a2:List zm)(r:List zk×zN)(h:zJ.body yi y5 a0 a1 a2=some r):ACalls qg 237 [.op 0 0 0,.agg (yO a1),.ds true (qc zo a2) (qa a2) false] [.cells 0 (zZ a0)] (fun r' σ'=>r'=.ds true (qc yp r.1) (qa r.1) false∧σ'=[.cells 0 (zZ r.2)]):=by
 refine ZO [0] (rs:=[.tmp 6]) U Tryz.func237 rfl Tryz.ntmps237 rfl Tryz.call237 (by simp) rfl ?_;refine zA [(0,.op 0 0 0),(1,.agg (yO a1)),(2,.ds true (qc zo a2) (qa a2) false)] ⟨rfl,rfl,rfl,trivial⟩ ?_;unfold zJ.body at h
 refine rg U [0,2,4] fun K J=>?_
 simp only[go_sem,qd,qb,qe,reduceCtorEq,yO];apply J
 refine D [0,2,4,7] ?_;refine YV 7 5 rfl ?_;refine yT (L:=[(0,.op 0 0 0),(2,.ds true (qc zo a2) (qa a2) false),(4,.op 1 0 0),(7,.os true 5 2 0 0 (qa ([]:List zk)) false)]) (τ:=[.cells 0 (zZ a0),.cells 0 [.int .i64 a1.fOp,.int .i64 a1.fTag,.int .i64 a1.fSub],.cells 0 (qc yp ([]:List zk))]) .s ?_;refine xL (fun L τ=>∃ (x1:List zm),L=[(0,.op 0 0 0),(2,.ds true (qc zo x1) (qa x1) false),(4,.op 1 0 0),(7,.os true 5 2 0 0 (qa ([]:List zk)) false)]∧τ=([.cells 0 (zZ a0),.cells 0 [.int .i64 a1.fOp,.int .i64 a1.fTag,.int .i64 a1.fSub],.cells 0 (qc yp ([]:List zk))]:ze)∧zJ.j2 yi a0 a1 x1=some r) ?_ ?_
 · refine D [0,2,4,7,18] ?_;refine yn rfl (fun hc50=>?_) (fun hc50=>?_)
   · rw[if_pos hc50] at h;have t51:=eq_true hc50;obtain⟨_u52,hu52,h⟩:=bind_some h;have gu52:=Ya hu52;have f53:=E282.sl_lo gu52
     refine rgE U [0,2,4,7] fun K J=>?_
     simp only[go_sem,qd,qb,reduceCtorEq,t51,f53];apply J
     exact⟨_,_,⟨vct a2 (IntKind.i64.wrap ((qa a2:Int)-1)) (qa a2:Int),rfl,rfl,h⟩,.s⟩
   rw[if_neg hc50] at h;have t54:=eq_false hc50;apply zj;exact⟨_,_,⟨a2,rfl,rfl,h⟩,.s⟩
 rintro _ _ ⟨x1,rfl,rfl,h⟩;unfold zJ.j2 at h
 refine za fun Z3 hZ3=>?_
 refine D [0,4,7,24,25,26] ?_;apply zn
 refine xn 24 fun hb12=>?_
 replace hb12:qa x1≤9223372036854775807:=hb12.1;refine yh (fun m L τ=>∃ (p12 q12:List zm) (x7:Int) (m0_4:zN) (l5:List zk) (v6:Nat),m=qa q12∧L=[(0,.op 0 0 0),(4,.op 1 0 0),(7,.os true 5 2 v6 0 (qa l5) false),(24,.ds true (qc zo x1) (qa x1) false),(25,.int .i64 (qa x1:Int)),(26,.int .i64 x7)]∧τ=([.cells 0 (zZ m0_4),.cells 0 [.int .i64 a1.fOp,.int .i64 a1.fTag,.int .i64 a1.fSub],.cells v6 (qc yp l5)]:ze)∧x1=p12++q12∧x7=(qa p12:Int)∧zJ.l12 yi a1 q12 x7 m0_4 l5=some r) _ ⟨[],x1,0,a0,([]:List zk),0,rfl,rfl,rfl,rfl,rfl,h⟩ .s ?_;rintro m L τ ⟨p12,q12,x7,m0_4,l5,v6,rfl,rfl,rfl,hE12,hi12,h⟩
 rcases q12 with _|⟨y12,q12⟩
 · have hz12:=xC hE12 hi12;simp only[zJ.l12] at h
   refine rg U [0,4,7,24,25,26,27] fun K J=>?_
   simp only[go_sem,qd,qb,reduceCtorEq,hz12];apply J
   refine za fun Z13 hZ13=>?_
   refine zG rfl ?_;apply yf;apply hZ3;refine D [6] ?_;apply yk;cases h;simp only[ZJ,yQ,yZ,xQ,exists_eq_left',go_sem,qe];refine⟨by decide,by simp,?_,?_⟩
   · first|rfl|(simp only[go_sem,reduceCtorEq,push_cast,if_true,qz,qo,zz]<;>rfl)
   first|rfl|(simp only[go_sem,push_cast,qq,qn,qs,qv,qu,zz]<;>rfl)
 obtain⟨hz12,hw12,hx12,hE'12,hi'12⟩:=yU hE12 hi12 hb12;simp only[zJ.l12] at h
 refine rg U [0,4,7,24,25,26,27] fun K J=>?_
 simp only[go_sem,qd,qb,reduceCtorEq,hz12];apply J
 refine za fun Z14 hZ14=>?_
 refine zK rfl ?_;apply zj;apply hZ14
 refine za fun Z15 hZ15=>?_
 apply zn;have f16:=E282.idxS hx12;have f17:=E282.loadS rfl rfl hx12;have f18:=Yp y12;unfold AV.one at f18
 refine rg U [0,4,7,9,24,25,26] fun K J=>?_
 simp only[go_sem,qd,qf,qb,qe,reduceCtorEq,zo,f16,f17,f18];apply J
 refine rc [0,4,7,9,10,24,25,26] fun K J=>?_
 obtain⟨r19,hr19,h⟩:=bind_some h;refine O 1 ?_;refine clN rfl rfl rfl (zR.ev xo y12 r19 hr19 _) ?_;refine zB U 2 ?_;simp only[go_sem,qd,qf,qb,qe,reduceCtorEq,zd];refine nkN J ?_;refine xL (fun L τ=>∃ (m0_20:zN) (m3_21:zk),L=[(0,.op 0 0 0),(4,.op 1 0 0),(7,.os true 5 2 v6 0 (qa l5) false),(10,.op 3 0 0),(24,.ds true (qc zo x1) (qa x1) false),(25,.int .i64 (qa x1:Int)),(26,.int .i64 x7)]∧τ=([.cells 0 (zZ m0_20),.cells 0 [.int .i64 a1.fOp,.int .i64 a1.fTag,.int .i64 a1.fSub],.cells v6 (qc yp l5),.cells 0 (zd m3_21)]:ze)∧zJ.j22 x7 l5 (zJ.l12 yi a1 q12) m0_20 m3_21=some r) ?_ ?_
 · refine rc [0,4,7,10,11,24,25,26] fun K J=>?_
   obtain⟨r25,hr25,h⟩:=ye h;refine O 1 ?_;refine clN rfl rfl rfl ((ZE.ok hr25).c _) ?_;refine O 1 ?_;refine nkN J ?_;refine D [0,4,7,10,11,24,25,26,35] ?_;apply zn;refine D [0,4,7,10,11,24,25,26,35,36] ?_;refine yn rfl (fun hc26=>?_) (fun hc26=>?_)
   · rw[if_pos hc26] at h;have t27:=eq_true hc26
     rcases r25 with _|n28|s28|⟨e28,r28⟩
     · dsimp only at h
       try simp only[vdK]
       refine rg U [0,4,7,10,12,13,24,25,26] fun K J=>?_
       simp only[go_sem,qd,qb,qe,reduceCtorEq,t27,xG,xH,TypeDesc.isIface];apply J
       refine za fun Z29 hZ29=>?_
       refine D [0,4,7,10,12,24,25,26,44] ?_;refine zK rfl ?_;refine D [6] ?_;apply yk;cases h;simp only[ZJ,yQ,yZ,xQ,exists_eq_left',go_sem,qe];refine⟨by decide,by simp,?_,?_⟩
       · first|rfl|(simp only[go_sem,qd,qf,qb,qe,qj,qm,reduceIte,reduceCtorEq,push_cast,if_true,qz,qo,qq,qn,qF,qs,qK,qI,qv,qu,qt,zz,zd,zX,zZ,yu]<;>rfl)
       first|rfl|(simp only[go_sem,push_cast,qq,qn,qs,qv,qu,zz]<;>rfl)
     · dsimp only at h
       try simp only[vdJ]
       refine rg U [0,4,7,10,12,13,24,25,26] fun K J=>?_
       simp only[go_sem,qd,qb,qe,reduceCtorEq,t27,xG,xH,TypeDesc.isIface];apply J
       refine za fun Z30 hZ30=>?_
       refine D [0,4,7,10,12,24,25,26,44] ?_;refine zG rfl ?_;apply zj;apply hZ30
       refine rcE [0,4,7,10,24,25,26] fun K J=>?_
       obtain⟨r31,hr31,h⟩:=ye h;refine O 1 ?_;refine clN rfl rfl rfl ((wz.ok hr31).c _) ?_;refine O 2 ?_;refine nkN J ?_;exact⟨_,_,⟨m0_4,(⟨r19.fKind,r31,r19.fS,r19.fEntries,r19.fRest⟩:zk),rfl,rfl,h⟩,(.t [0,1,2,4] false)⟩
     · dsimp only at h
       try simp only[vdI]
       refine rg U [0,4,7,10,12,13,24,25,26] fun K J=>?_
       simp only[go_sem,qd,qb,qe,reduceCtorEq,t27,xG,xH,TypeDesc.isIface];apply J
       refine za fun Z32 hZ32=>?_
       refine D [0,4,7,10,12,24,25,26,44] ?_;refine zK rfl ?_;refine D [6] ?_;apply yk;cases h;simp only[ZJ,yQ,yZ,xQ,exists_eq_left',go_sem,qe];refine⟨by decide,by simp,?_,?_⟩
       · first|rfl|(simp only[go_sem,qd,qf,qb,qe,qj,qm,reduceIte,reduceCtorEq,push_cast,if_true,qz,qo,qq,qn,qF,qs,qK,qI,qv,qu,qt,zz,zd,zX,zZ,yu]<;>rfl)
       first|rfl|(simp only[go_sem,push_cast,qq,qn,qs,qv,qu,zz]<;>rfl)
     dsimp only at h
     try simp only[vcS]
     refine rg U [0,4,7,10,12,13,24,25,26] fun K J=>?_
     simp only[go_sem,qd,qb,qe,reduceCtorEq,t27,xG,xH,TypeDesc.isIface];apply J
     refine za fun Z33 hZ33=>?_
     refine D [0,4,7,10,12,24,25,26,44] ?_;refine zK rfl ?_;refine D [6] ?_;apply yk;cases h;simp only[ZJ,yQ,yZ,xQ,exists_eq_left',go_sem,qe];refine⟨by decide,by simp,?_,?_⟩
     · first|rfl|(simp only[go_sem,qd,qf,qb,qe,qj,qm,reduceIte,reduceCtorEq,push_cast,if_true,qz,qo,qq,qn,qF,qs,qK,qI,qv,qu,qt,zz,zd,zX,zZ,yu]<;>rfl)
     first|rfl|(simp only[go_sem,push_cast,qq,qn,qs,qv,qu,zz]<;>rfl)
   rw[if_neg hc26] at h;have t34:=eq_false hc26;refine xL (fun L τ=>∃ (x35:Bool),L=[(0,.op 0 0 0),(4,.op 1 0 0),(7,.os true 5 2 v6 0 (qa l5) false),(10,.op 3 0 0),(11,anyV r25),(24,.ds true (qc zo x1) (qa x1) false),(25,.int .i64 (qa x1:Int)),(26,.int .i64 x7),(48,.bool x35)]∧τ=([.cells 0 (zZ m0_4),.cells 0 [.int .i64 a1.fOp,.int .i64 a1.fTag,.int .i64 a1.fSub],.cells v6 (qc yp l5),.cells 0 (zd r19)]:ze)∧zJ.j36 yi a1 x7 m0_4 l5 (zJ.l12 yi a1 q12) r19 r25 x35=some r) ?_ ?_
   · refine rg U [0,4,7,10,11,24,25,26,35,48] fun K J=>?_
     simp only[go_sem,qd,qb,reduceCtorEq,t34];apply J
     refine yn rfl (fun hc47=>?_) (fun hc47=>?_)
     · rw[if_pos hc47] at h;have t48:=eq_true hc47;apply zj;exact⟨_,_,⟨decide (a1.fOp=3),rfl,rfl,h⟩,(.t [0,1,2,4] false)⟩
     rw[if_neg hc47] at h;have t49:=eq_false hc47
     refine rgE U [0,4,7,10,11,24,25,26,48] fun K J=>?_
     simp only[go_sem,qd,qb,reduceCtorEq,t49];apply J
     exact⟨_,_,⟨decide (a1.fOp=4),rfl,rfl,h⟩,(.t [0,1,2,4] false)⟩
   rintro _ _ ⟨x35,rfl,rfl,h⟩;unfold zJ.j36 at h;refine zU (b:=x35) rfl (fun hc37=>?_) (fun hc37=>?_)
   · rw[if_pos hc37] at h
     rcases r25 with _|n38|s38|⟨e38,r38⟩
     · dsimp only at h
       try simp only[vdK]
       refine rg U [0,4,7,10,14,15,24,25,26] fun K J=>?_
       simp only[go_sem,qd,qb,qe,reduceCtorEq,xG,xH,TypeDesc.isIface];apply J
       refine za fun Z39 hZ39=>?_
       refine D [0,4,7,10,14,24,25,26,57] ?_;refine zK rfl ?_;refine D [6] ?_;apply yk;cases h;simp only[ZJ,yQ,yZ,xQ,exists_eq_left',go_sem,qe];refine⟨by decide,by simp,?_,?_⟩
       · first|rfl|(simp only[go_sem,qd,qf,qb,qe,qj,qm,reduceIte,reduceCtorEq,push_cast,if_true,qz,qo,qq,qn,qF,qs,qK,qI,qv,qu,qt,zz,zd,zX,zZ,yu]<;>rfl)
       first|rfl|(simp only[go_sem,push_cast,qq,qn,qs,qv,qu,zz]<;>rfl)
     · dsimp only at h
       try simp only[vdJ]
       refine rg U [0,4,7,10,14,15,24,25,26] fun K J=>?_
       simp only[go_sem,qd,qb,qe,reduceCtorEq,xG,xH,TypeDesc.isIface];apply J
       refine za fun Z40 hZ40=>?_
       refine D [0,4,7,10,14,24,25,26,57] ?_;refine zK rfl ?_;refine D [6] ?_;apply yk;cases h;simp only[ZJ,yQ,yZ,xQ,exists_eq_left',go_sem,qe];refine⟨by decide,by simp,?_,?_⟩
       · first|rfl|(simp only[go_sem,qd,qf,qb,qe,qj,qm,reduceIte,reduceCtorEq,push_cast,if_true,qz,qo,qq,qn,qF,qs,qK,qI,qv,qu,qt,zz,zd,zX,zZ,yu]<;>rfl)
       first|rfl|(simp only[go_sem,push_cast,qq,qn,qs,qv,qu,zz]<;>rfl)
     · dsimp only at h
       try simp only[vdI]
       refine rg U [0,4,7,10,14,15,24,25,26] fun K J=>?_
       simp only[go_sem,qd,qb,qe,reduceCtorEq,xG,xH,TypeDesc.isIface];apply J
       refine za fun Z41 hZ41=>?_
       refine D [0,4,7,10,14,24,25,26,57] ?_;refine zK rfl ?_;refine D [6] ?_;apply yk;cases h;simp only[ZJ,yQ,yZ,xQ,exists_eq_left',go_sem,qe];refine⟨by decide,by simp,?_,?_⟩
       · first|rfl|(simp only[go_sem,qd,qf,qb,qe,qj,qm,reduceIte,reduceCtorEq,push_cast,if_true,qz,qo,qq,qn,qF,qs,qK,qI,qv,qu,qt,zz,zd,zX,zZ,yu]<;>rfl)
       first|rfl|(simp only[go_sem,push_cast,qq,qn,qs,qv,qu,zz]<;>rfl)
     dsimp only at h
     try simp only[vcS]
     refine rg U [0,4,7,10,14,15,24,25,26] fun K J=>?_
     simp only[go_sem,qd,qb,qe,reduceCtorEq,xG,xH,TypeDesc.isIface];apply J
     refine za fun Z42 hZ42=>?_
     refine D [0,4,7,10,14,24,25,26,57] ?_;refine zG rfl ?_;apply zj;apply hZ42
     refine rc [0,4,7,10,24,25,26] fun K J=>?_
     obtain⟨r43,hr43,h⟩:=bind_some h;refine O 4 ?_;refine clN rfl rfl rfl (@id (ACalls qg 199 [.op 0 0 0,.int .i64 a1.fSub,.dp [.ds true (qc y0 e38) (qa e38) false,.ds true (qc zs r38) (qa r38) false] 0] [.cells 0 (zZ m0_4),.cells 0 [.int .i64 a1.fOp,.int .i64 a1.fTag,.int .i64 a1.fSub],.cells v6 (qc yp l5),.cells 0 (zd r19)] (fun r' σ'=>r'=.agg (zd r43.1)∧σ'=[.cells 0 (zZ r43.2),.cells 0 [.int .i64 a1.fOp,.int .i64 a1.fTag,.int .i64 a1.fSub],.cells v6 (qc yp l5),.cells 0 (zd r19)])) ((vaq m0_4 a1.fSub (⟨e38,r38⟩:yl) r43 hr43).i [0])) ?_;refine zB U 1 ?_;simp only[go_sem,qf,qb,qe,reduceCtorEq,zd];refine nkN J ?_
     refine rc [0,4,7,10,24,25,26,71] fun K J=>?_
     refine O 4 ?_;refine zH 5 (fun L τ=>L=[(0,.op 0 0 0),(4,.op 1 0 0),(7,.os true 5 2 v6 0 (qa l5) false),(10,.op 3 0 0),(24,.ds true (qc zo x1) (qa x1) false),(25,.int .i64 (qa x1:Int)),(26,.int .i64 x7),(71,.bool ((decide (a1.fOp=4))&&(decide ((qa r43.1.fEntries:Int)=0))))]∧τ=([.cells 0 (zZ r43.2),.cells 0 [.int .i64 a1.fOp,.int .i64 a1.fTag,.int .i64 a1.fSub],.cells v6 (qc yp l5),.cells 0 (zd r43.1)]:ze)) ?_ ?_
     · refine wh 66 rfl (fun hg66=>?_) (fun hg66=>?_)
       · have t44:=eq_true hg66;refine O 5 ?_;refine zi ⟨rfl,_,_,⟨rfl,rfl⟩,.p t44⟩
       have t45:=eq_false hg66;refine O 5 ?_;refine zi ⟨rfl,_,_,⟨rfl,rfl⟩,.p t45⟩
     rintro _ _ ⟨rfl,rfl⟩;refine nkN J ?_;refine zU (b:=((decide (a1.fOp=4))&&(decide ((qa r43.1.fEntries:Int)=0)))) rfl (fun hc46=>?_) (fun hc46=>?_)
     · rw[if_pos hc46] at h;refine D [6] ?_;apply yk;cases h;simp only[ZJ,yQ,yZ,xQ,exists_eq_left',go_sem,qe];refine⟨by decide,by simp,?_,?_⟩
       · first|rfl|(simp only[go_sem,qd,qf,qb,qe,qj,qm,reduceIte,reduceCtorEq,push_cast,if_true,qz,qo,qq,qn,qF,qs,qK,qI,qv,qu,qt,zz,zd,zX,zZ,yu]<;>rfl)
       first|rfl|(simp only[go_sem,push_cast,qq,qn,qs,qv,qu,zz]<;>rfl)
     rw[Zf hc46] at h;apply zj;exact⟨_,_,⟨r43.2,r43.1,rfl,rfl,h⟩,.s⟩
   rw[Zf hc37] at h;apply zj;exact⟨_,_,⟨m0_4,r19,rfl,rfl,h⟩,.s⟩
 rintro _ _ ⟨m0_20,m3_21,rfl,rfl,h⟩;unfold zJ.j22 at h;obtain⟨_u23,hu23,h⟩:=bind_some h;have gu23:=xf hu23;have f24:=(zV E38.len l5)
 refine rgE U [0,4,7,24,25,26] fun K J=>?_
 simp only[go_sem,qd,qf,qb,qe,qj,reduceCtorEq,zS,yE,qZ,qQ,true_and,ue,yM,yw,yR,gu23,f24,xw,uc,q9,AV.one,qM,qD,ql,qr,qo,qH];apply J
 apply hZ15
 refine rgE U [0,4,7,24,25,26] fun K J=>?_
 simp only[go_sem,qd,qb,reduceCtorEq,hw12];apply J
 exact⟨_,_,_,qy q12.length,⟨p12++[y12],q12,x7+1,m0_20,l5++[m3_21],v6+1,rfl,rfl,rfl,hE'12,hi'12,h⟩,(.t [0,1,2] false)⟩
mutual
def zY : Nat→zN→Int→yl→Option (zk×zN)
 |0,_,_,_=>none
 |k+1,a0,a1,a2=>zY.body (zY k) (zJ k) a0 a1 a2
def zJ : Nat→zN→Zb→(List zm)→Option (List zk×zN)
 |0,_,_,_=>none
 |k+1,a0,a1,a2=>zJ.body (zY k) (zJ k) a0 a1 a2
end
theorem zY.all (k:Nat):(∀ (a0:zN) (a1:Int) (a2:yl) (r:zk×zN),zY k a0 a1 a2=some r→ACalls qg 199 [.op 0 0 0,.int .i64 a1,.dp (zO a2) 0] [.cells 0 (zZ a0)] (fun r' σ'=>r'=.agg (zd r.1)∧σ'=[.cells 0 (zZ r.2)]))∧(∀ (a0:zN) (a1:Zb) (a2:List zm) (r:List zk×zN),zJ k a0 a1 a2=some r→ACalls qg 237 [.op 0 0 0,.agg (yO a1),.ds true (qc zo a2) (qa a2) false] [.cells 0 (zZ a0)] (fun r' σ'=>r'=.ds true (qc yp r.1) (qa r.1) false∧σ'=[.cells 0 (zZ r.2)])):=by
 induction k with
 |zero=>exact⟨(fun a0 a1 a2 r h=>by simp only[zY] at h; cases h),(fun a0 a1 a2 r h=>by simp only[zJ] at h; cases h)⟩
 |succ k ih=>exact⟨(fun a0 a1 a2 r h=>zY.step _ _ ih.1 ih.2 a0 a1 a2 r (by simpa only [zY] using h)),(fun a0 a1 a2 r h=>zJ.step _ _ ih.1 ih.2 a0 a1 a2 r (by simpa only [zJ] using h))⟩
theorem zY.ok {k a0 a1 a2 r}(h:zY k a0 a1 a2=some r):ACalls qg 199 [.op 0 0 0,.int .i64 a1,.dp (zO a2) 0] [.cells 0 (zZ a0)] (fun r' σ'=>r'=.agg (zd r.1)∧σ'=[.cells 0 (zZ r.2)]):=(zY.all k).1 a0 a1 a2 r h
def Y8 (a0:we)(a1:zk):Option (zk×Int×Int):=
 bnd (wv a0) fun r2=>(if ((!r2)||(!(decide (a1.fKind=3))))=true then some ((⟨0,0,[],([]:List zr),([]:List yc)⟩:zk),0,1) else (Xz a1).bind fun r4=>(if (!r4.2)=true then some ((⟨0,0,[],([]:List zr),([]:List yc)⟩:zk),0,1) else (xT r4.1).bind fun r8=>(zY xo (⟨a0,0⟩:zN) 0 r8).bind fun r9=>some (r9.1,r9.2.flooks,0)))
theorem Y8.ok {a0 a1 r}(h:Y8 a0 a1=some r):ACalls qg 152 [.agg (zX a0),.agg (zd a1)] [] (fun r' _=>r'=.tup [.agg (zd r.1),.int .i64 r.2.1,.int .i64 r.2.2]):=by
 refine zt (rs:=[.cell 4 37,.tmp 5,.tmp 6]) U Tryz.func152 rfl Tryz.ntmps152 rfl Tryz.call152 (by simp) ?_;refine zA [(0,.agg (zX a0)),(1,.agg (zd a1))] ⟨rfl,rfl,trivial⟩ ?_;unfold Y8 at h
 refine rg U [2,3,4] fun K J=>?_
 simp only[go_sem,qd,qb,qe,reduceCtorEq,zd,zX];apply J
 refine za fun Z1 hZ1=>?_
 refine rc [2,3,4,18] fun K J=>?_
 obtain⟨r2,hr2,h⟩:=ye h;refine O 1 ?_;refine clN rfl rfl rfl ((wv.ok hr2).c _) ?_;refine O 2 ?_;refine zH 4 (fun L τ=>L=[(2,.op 0 0 0),(3,.op 1 0 0),(4,.op 2 0 0),(18,.bool ((!r2)||(!(decide (a1.fKind=3)))))]∧τ=([.cells 0 (zX a0),.cells 0 (zd a1),.cells 0 [.int .i64 0,.int .i64 0,.str [],.ds true [] 0 true,.ds true [] 0 true]]:ze)) ?_ ?_
 · refine yB (b:=(!r2)) 14 rfl (fun hg14=>?_) (fun hg14=>?_)
   · refine O 4 ?_;refine zi ⟨rfl,_,_,⟨rfl,rfl⟩,.b hg14⟩
   refine O 4 ?_;refine zi ⟨rfl,_,_,⟨rfl,rfl⟩,.b hg14⟩
 rintro _ _ ⟨rfl,rfl⟩;refine nkN J ?_;refine zU (b:=((!r2)||(!(decide (a1.fKind=3))))) rfl (fun hc3=>?_) (fun hc3=>?_)
 · rw[if_pos hc3] at h;refine D [4,5,6] ?_;cases h;exact rtA
 rw[Zf hc3] at h;apply zj;apply hZ1
 refine rc [2,4,7,8] fun K J=>?_
 obtain⟨r4,hr4,h⟩:=bind_some h;refine zB U 1 ?_;simp only[go_sem,qd,qf,qb,qe,zd];refine clN rfl rfl rfl ((Xz.ok hr4).c _) ?_;have f5:=Yp r4.1;unfold AV.one at f5;refine zB U 6 ?_;simp only[go_sem,qd,qf,qb,qe,zo,f5];refine nkN J ?_
 refine za fun Z6 hZ6=>?_
 refine D [2,4,7,26] ?_;refine zU (b:=(!r4.2)) rfl (fun hc7=>?_) (fun hc7=>?_)
 · rw[if_pos hc7] at h;refine D [4,5,6] ?_;cases h;exact rtA
 rw[Zf hc7] at h;apply zj;apply hZ6;refine D [4,7,9] ?_
 refine rc [4,9,10] fun K J=>?_
 obtain⟨r8,hr8,h⟩:=bind_some h;refine O 2 ?_;refine clN rfl rfl rfl ((xT.ok hr8).c _) ?_;obtain⟨r9,hr9,h⟩:=bind_some h;refine clN rfl rfl rfl (@id (ACalls qg 199 [.op 4 0 0,.int .i64 0,.dp (zO r8) 0] [.cells 0 (zX a0),.cells 0 (zd a1),.cells 0 [.int .i64 0,.int .i64 0,.str [],.ds true [] 0 true,.ds true [] 0 true],.cells 0 [vdv r4.1],.cells 0 [.ds true (qc (vae yO) a0.fParts) (qa a0.fParts) false,.int .i64 0]] (fun r' σ'=>r'=.agg (zd r9.1)∧σ'=[.cells 0 (zX a0),.cells 0 (zd a1),.cells 0 [.int .i64 0,.int .i64 0,.str [],.ds true [] 0 true,.ds true [] 0 true],.cells 0 [vdv r4.1],.cells 0 (zZ r9.2)])) ((zY.ok hr9).i [4])) ?_;refine zB U 2 ?_;simp only[go_sem,qd,qf,qb,qe,zd];refine nkN J ?_
 refine rd [4,5,6] fun K J=>?_
 refine DW.start (T:=tab) [.at [],.any,.any,.any,.own 1 [2],.eff,.any,.any] [(1,[2])] ?_;refine DW.runN U 8 ?_;simp only[go_sem,qd,qf,qb,qe,reduceCtorEq,zd];refine DW.fin U (by decide +kernel) rfl ?_;simp only[zC,upd,qb,reduceIte,yX,xK];apply J
 cases h;exact rtA
def ZB (a0:we)(a1:zk):Option (zk×Int):=
 (Y8 a0 a1).bind fun r1=>some (r1.1,r1.2.2)
theorem ZB.ok {a0 a1 r}(h:ZB a0 a1=some r):ACalls qg 100 [.agg (zX a0),.agg (zd a1)] [] (fun r' _=>r'=.tup [.agg (zd r.1),.int .i64 r.2]):=by
 refine zt (rs:=[.cell 4 37,.tmp 5]) U Tryz.func100 rfl Tryz.ntmps100 rfl Tryz.call100 (by simp) ?_;refine zA [(0,.agg (zX a0)),(1,.agg (zd a1))] ⟨rfl,rfl,trivial⟩ ?_;unfold ZB at h
 refine rg U [2,3,4] fun K J=>?_
 simp only[go_sem,qd,qb,qe,reduceCtorEq,zd,zX];apply J
 refine rc [4,6,8] fun K J=>?_
 obtain⟨r1,hr1,h⟩:=bind_some h;refine zB U 2 ?_;simp only[go_sem,qd,qf,qb,qe,zd];refine clN rfl rfl rfl ((Y8.ok hr1).c _) ?_;refine zB U 8 ?_;simp only[go_sem,qd,qf,qb,qe,zd];refine nkN J ?_;refine D [4,5] ?_;cases h;exact rtA
def ZH (a0:zE)(a1:List UInt8)(a2:List UInt8):Option (zk×Int):=
 (yH a0).bind fun r2=>(if r2=0 then bnd (yq a0 a1) fun r6=>(if (!r6.2)=true then some ((⟨0,0,[],([]:List zr),([]:List yc)⟩:zk),14) else (yg xo a0 r6.1 a2 1).bind fun r9=>some (r9.1,r9.2)) else some ((⟨0,0,[],([]:List zr),([]:List yc)⟩:zk),1))
theorem ZH.ok {a0 a1 a2 r}(h:ZH a0 a1 a2=some r):ACalls qg 98 [.agg (zb a0),.str a1,.ds true (qc ZR a2) (qa a2) false] [] (fun r' _=>r'=.tup [.agg (zd r.1),.int .i64 r.2]):=by
 refine zt (rs:=[.cell 6 37,.tmp 7]) U Tryz.func98 rfl Tryz.ntmps98 rfl Tryz.call98 (by simp) ?_;refine zA [(0,.agg (zb a0)),(1,.str a1),(2,.ds true (qc ZR a2) (qa a2) false)] ⟨rfl,rfl,rfl,trivial⟩ ?_;unfold ZH at h
 refine rg U [1,2,3,6] fun K J=>?_
 simp only[go_sem,qd,qb,qe,reduceCtorEq,zb];apply J
 refine za fun Z1 hZ1=>?_
 refine rc [1,2,3,6,12] fun K J=>?_
 obtain⟨r2,hr2,h⟩:=bind_some h;refine O 1 ?_;refine clN rfl rfl rfl ((yH.ok hr2).c _) ?_;refine O 1 ?_;refine nkN J ?_;refine yn rfl (fun hc3=>?_) (fun hc3=>?_)
 · rw[if_neg hc3] at h;have t4:=eq_false hc3
   refine rg U [6,7] fun K J=>?_
   simp only[go_sem,qd,qf,qb,qe,t4];apply J
   cases h;exact rtA
 rw[if_pos hc3] at h;have t5:=eq_true hc3;apply zj;apply hZ1
 refine rc [2,3,6,8,9] fun K J=>?_
 obtain⟨r6,hr6,h⟩:=ye h;refine zB U 2 ?_;simp only[go_sem,qd,qf,qb,qe,t5];refine clN rfl rfl rfl ((yq.ok hr6).c _) ?_;refine zB U 6 ?_;simp only[go_sem,qd,qf,qb,qe,zf];refine nkN J ?_
 refine za fun Z7 hZ7=>?_
 refine D [2,3,6,8,21] ?_;refine zU (b:=(!r6.2)) rfl (fun hc8=>?_) (fun hc8=>?_)
 · rw[if_pos hc8] at h;refine D [6,7] ?_;cases h;exact rtA
 rw[Zf hc8] at h;apply zj;apply hZ7
 refine rc [6,7] fun K J=>?_
 obtain⟨r9,hr9,h⟩:=bind_some h;refine O 3 ?_;refine clN rfl rfl rfl (yg.ev xo a0 r6.1 a2 1 r9 hr9 _) ?_;refine zB U 4 ?_;simp only[go_sem,qd,qf,qb,qe,zd];refine nkN J ?_;cases h;exact rtA
def Zl (a0:Int):Int:=
 (if 2147483647<(if a0<(-2147483648) then (-2147483648) else a0) then 2147483647 else (if a0<(-2147483648) then (-2147483648) else a0))
theorem Zl.ok {a0 r}(h:Zl a0=r):ACalls qg 21 [.int .i64 a0] [] (fun r' _=>r'=.int .i64 r):=by
 refine zt (rs:=[.tmp 2]) U Tryz.func21 rfl Tryz.ntmps21 rfl Tryz.call21 (by simp) ?_;refine zA [(0,.int .i64 a0)] ⟨rfl,trivial⟩ ?_;unfold Zl at h;refine D [0] ?_
 refine rg U [2] fun K J=>?_
 simp only[go_sem,qd,qb,reduceCtorEq,vbm,vdx,vcc,vcb];apply J
 cases h;exact rtA
def yG.l18 (xX:zk→Int→Option Int)(a1:Int)(x7:Int)(rec10:Int→Int→Option Int):List zk→Int→Int→Option Int
 |[],x15,x14=>(rec10 (x7+1) x14)
 |y18::q18,x15,x14=>(xX y18 (IntKind.i64.wrap (a1+1))).bind fun r30=>((yG.l18 xX a1 x7 rec10 q18) (x15+1) (if x14<r30 then r30 else x14))
def yG.l10 (xX:zk→Int→Option Int)(a1:Int):List zr→Int→Int→Option Int
 |[],x7,x6=>some (if 101<IntKind.i64.wrap (x6+1) then 101 else IntKind.i64.wrap (x6+1))
 |y10::q10,x7,x6=>(yG.l18 xX a1 x7 (yG.l10 xX a1 q10) y10.fTrees 0 x6)
def yG.body (xX:zk→Int→Option Int)(a0:zk)(a1:Int):Option Int:=
 (if ((!(decide (a0.fKind=3)))||(decide (100<a1)))=true then some 0 else (yG.l10 xX a1 a0.fEntries 0 0))
theorem yG.step (xX:zk→Int→Option Int)(ih_ref09_depth:∀ (a0:zk) (a1:Int) (r:Int),xX a0 a1=some r→ACalls qg 153 [.agg (zd a0),.int .i64 a1] [] (fun r' _=>r'=.int .i64 r))(a0:zk)(a1:Int)(r:Int)(h:yG.body xX a0 a1=some r):ACalls qg 153 [.agg (zd a0),.int .i64 a1] [] (fun r' _=>r'=.int .i64 r):=by
 have ev_ref09_depth:=fun a0 a1 r h σ=>(ih_ref09_depth a0 a1 r h).c σ
 refine zt (rs:=[.tmp 4]) U Tryz.func153 rfl Tryz.ntmps153 rfl Tryz.call153 (by simp) ?_;refine zA [(0,.agg (zd a0)),(1,.int .i64 a1)] ⟨rfl,rfl,trivial⟩ ?_;unfold yG.body at h
 refine rg U [1,2] fun K J=>?_
 simp only[go_sem,qd,qb,qe,reduceCtorEq,zd];apply J
 refine za fun Z1 hZ1=>?_
 refine rc [1,2,14] fun K J=>?_
 refine O 4 ?_;refine zH 3 (fun L τ=>L=[(1,.int .i64 a1),(2,.op 0 0 0),(14,.bool ((!(decide (a0.fKind=3)))||(decide (100<a1))))]∧τ=([.cells 0 (zd a0)]:ze)) ?_ ?_
 · refine wh 11 rfl (fun hg11=>?_) (fun hg11=>?_)
   · have t2:=eq_false hg11;refine O 3 ?_;refine zi ⟨rfl,_,_,⟨rfl,rfl⟩,.p t2⟩
   have t3:=eq_true hg11;refine O 3 ?_;refine zi ⟨rfl,_,_,⟨rfl,rfl⟩,.p t3⟩
 rintro _ _ ⟨rfl,rfl⟩;refine nkN J ?_;refine zU (b:=((!(decide (a0.fKind=3)))||(decide (100<a1)))) rfl (fun hc4=>?_) (fun hc4=>?_)
 · rw[if_pos hc4] at h;refine D [4] ?_;cases h;exact rtA
 rw[Zf hc4] at h;apply zj;apply hZ1;refine D [1,2,5] ?_
 refine za fun Z5 hZ5=>?_
 refine D [1,2,5,6] ?_;apply zn
 refine XK 0 rfl fun hb10=>?_
 replace hb10:qa a0.fEntries≤9223372036854775807:=hb10.2.2.2.1.1;refine yh (fun m L τ=>∃ (p10 q10:List zr) (x7:Int) (x6:Int),m=qa q10∧L=[(1,.int .i64 a1),(2,.op 0 0 0),(5,.int .i64 x6),(6,.int .i64 x7)]∧τ=([.cells 0 (zd a0)]:ze)∧a0.fEntries=p10++q10∧x7=(qa p10:Int)∧yG.l10 xX a1 q10 x7 x6=some r) _ ⟨[],a0.fEntries,0,0,rfl,rfl,rfl,rfl,rfl,h⟩ .s ?_;rintro m L τ ⟨p10,q10,x7,x6,rfl,rfl,rfl,hE10,hi10,h⟩
 rcases q10 with _|⟨y10,q10⟩
 · have hz10:=xC hE10 hi10;simp only[yG.l10] at h
   refine za fun Z11 hZ11=>?_
   refine rg U [1,2,5,6,19] fun K J=>?_
   simp only[go_sem,qd,qb,qe,hz10];apply J
   refine zG rfl ?_;apply yf;apply hZ5
   refine rg U [4] fun K J=>?_
   simp only[go_sem,qd,qb,vbm,vdx,vcb];apply J
   cases h;exact rtA
 obtain⟨hz10,hw10,hx10,hE'10,hi'10⟩:=yU hE10 hi10 hb10;simp only[yG.l10] at h
 refine za fun Z12 hZ12=>?_
 refine rg U [1,2,5,6,19] fun K J=>?_
 simp only[go_sem,qd,qb,qe,hz10];apply J
 refine zK rfl ?_;apply zj;apply hZ12
 refine za fun Z13 hZ13=>?_
 apply zn;refine D [1,2,5,6,7] ?_;apply zn
 refine XK 0 rfl fun hb18=>?_
 replace hb18:=deepL_idx hb18.2.2.2.1.2 hx10;rw[yK] at hb18;replace hb18:qa y10.fTrees≤9223372036854775807:=hb18.2.1.1;refine yh (fun m L τ=>∃ (p18 q18:List zk) (x15:Int) (x14:Int),m=qa q18∧L=[(1,.int .i64 a1),(2,.op 0 0 0),(5,.int .i64 x14),(6,.int .i64 x7),(7,.int .i64 x15)]∧τ=([.cells 0 (zd a0)]:ze)∧y10.fTrees=p18++q18∧x15=(qa p18:Int)∧yG.l18 xX a1 x7 (yG.l10 xX a1 q10) q18 x15 x14=some r) _ ⟨[],y10.fTrees,0,x6,rfl,rfl,rfl,rfl,rfl,h⟩ .s ?_;rintro m L τ ⟨p18,q18,x15,x14,rfl,rfl,rfl,hE18,hi18,h⟩
 rcases q18 with _|⟨y18,q18⟩
 · have hz18:=xC hE18 hi18;simp only[yG.l18] at h
   refine za fun Z19 hZ19=>?_
   have f20:=E34.idxS hx10;have f21:=E34.fldS (f:=38) rfl rfl hx10 (o:=1) (by decide)
   refine rg U [1,2,5,6,7,30] fun K J=>?_
   simp only[go_sem,qd,qb,qe,zQ,yK,hz18,f20,f21];apply J
   refine zG rfl ?_;apply yf;apply hZ13
   refine rgE U [1,2,5,6] fun K J=>?_
   simp only[go_sem,qd,qb,hw10];apply J
   exact⟨_,_,_,qy q10.length,⟨p10++[y10],q10,x7+1,x14,rfl,rfl,rfl,hE'10,hi'10,h⟩,.s⟩
 obtain⟨hz18,hw18,hx18,hE'18,hi'18⟩:=yU hE18 hi18 hb18;simp only[yG.l18] at h
 refine za fun Z22 hZ22=>?_
 have f23:=E34.idxS hx10;have f24:=E34.fldS (f:=38) rfl rfl hx10 (o:=1) (by decide)
 refine rg U [1,2,5,6,7,30] fun K J=>?_
 simp only[go_sem,qd,qb,qe,zQ,yK,hz18,f23,f24];apply J
 refine zK rfl ?_;apply zj;apply hZ22
 refine za fun Z25 hZ25=>?_
 apply zn
 refine rcE [1,2,5,6,7] fun K J=>?_
 have f26:=E34.idxS hx10;have f27:=E34.fldS (f:=38) rfl rfl hx10 (o:=1) (by decide);have f28:=E38.idxS hx18;have f29:=E38.loadS rfl rfl hx18;obtain⟨r30,hr30,h⟩:=bind_some h;refine zB U 10 ?_;simp only[go_sem,qd,qb,qe,zQ,zd,yK,yu,f26,f27,f28,f29];refine O 2 ?_;refine clN rfl rfl rfl (ev_ref09_depth y18 (IntKind.i64.wrap (a1+1)) r30 hr30 _) ?_;refine zB U 2 ?_;simp only[go_sem,qd,qb,vbm,vdx,vcc];refine nkN J ?_;apply hZ25
 refine rgE U [1,2,5,6,7] fun K J=>?_
 simp only[go_sem,qd,qb,hw18];apply J
 exact⟨_,_,_,qy q18.length,⟨p18++[y18],q18,x15+1,(if x14<r30 then r30 else x14),rfl,rfl,rfl,hE'18,hi'18,h⟩,.s⟩
def yG : Nat→zk→Int→Option Int
 |0,_,_=>none
 |k+1,a0,a1=>yG.body (yG k) a0 a1
theorem yG.all (k:Nat):(∀ (a0:zk) (a1:Int) (r:Int),yG k a0 a1=some r→ACalls qg 153 [.agg (zd a0),.int .i64 a1] [] (fun r' _=>r'=.int .i64 r)):=by
 induction k with
 |zero=>exact (fun a0 a1 r h=>by simp only[yG] at h; cases h)
 |succ k ih=>exact (fun a0 a1 r h=>yG.step _ ih a0 a1 r (by simpa only [yG] using h))
theorem yG.ev (k:Nat)(a0:zk)(a1:Int)(r:Int)(h:yG k a0 a1=some r)(σ:ze):ACalls qg 153 [.agg (zd a0),.int .i64 a1] σ (fun r' σ'=>r'=.int .i64 r∧σ'=σ):=
 ((yG.all k) a0 a1 r h).c σ
def YZ (a0:zk):Option Int:=
 (yG xo a0 0).bind fun r1=>some r1
theorem YZ.ok {a0 r}(h:YZ a0=some r):ACalls qg 101 [.agg (zd a0)] [] (fun r' _=>r'=.int .i64 r):=by
 refine zt (rs:=[.tmp 2]) U Tryz.func101 rfl Tryz.ntmps101 rfl Tryz.call101 (by simp) ?_;refine zA [(0,.agg (zd a0))] ⟨rfl,trivial⟩ ?_;unfold YZ at h
 refine rg U [1] fun K J=>?_
 simp only[go_sem,qd,qb,qe,reduceCtorEq,zd];apply J
 refine rc [2] fun K J=>?_
 obtain⟨r1,hr1,h⟩:=bind_some h;refine O 1 ?_;refine clN rfl rfl rfl (yG.ev xo a0 0 r1 hr1 _) ?_;refine O 1 ?_;refine nkN J ?_;cases h;exact rtA
def Yo (a0:yc):Bool:=
 (if ((decide (a0.fTag<1))||(decide (500<a0.fTag)))=true then false else (if a0.fWire=0 then decide (a0.fB=[]) else (((decide (a0.fWire=1))&&(decide (a0.fN=0)))&&(decide ((qa a0.fB:Int)≤4096)))))
theorem Yo.ok {a0 r}(h:Yo a0=r):ACalls qg 157 [.agg (zs a0)] [] (fun r' _=>r'=.bool r):=by
 refine zt (rs:=[.tmp 2]) U Tryz.func157 rfl Tryz.ntmps157 rfl Tryz.call157 (by simp) ?_;refine zA [(0,.agg (zs a0))] ⟨rfl,trivial⟩ ?_;unfold Yo at h
 refine rg U [1] fun K J=>?_
 simp only[go_sem,qd,qb,qe,reduceCtorEq,zs];apply J
 refine za fun Z1 hZ1=>?_
 refine rc [1,10] fun K J=>?_
 refine O 4 ?_;refine zH 4 (fun L τ=>L=[(1,.op 0 0 0),(10,.bool ((decide (a0.fTag<1))||(decide (500<a0.fTag))))]∧τ=([.cells 0 [.int .i64 a0.fTag,.int .i64 a0.fWire,.int .i64 a0.fN,.str a0.fB]]:ze)) ?_ ?_
 · refine wh 6 rfl (fun hg6=>?_) (fun hg6=>?_)
   · have t2:=eq_true hg6;refine O 4 ?_;refine zi ⟨rfl,_,_,⟨rfl,rfl⟩,.p t2⟩
   have t3:=eq_false hg6;refine O 4 ?_;refine zi ⟨rfl,_,_,⟨rfl,rfl⟩,.p t3⟩
 rintro _ _ ⟨rfl,rfl⟩;refine nkN J ?_;refine zU (b:=((decide (a0.fTag<1))||(decide (500<a0.fTag)))) rfl (fun hc4=>?_) (fun hc4=>?_)
 · rw[if_pos hc4] at h;refine D [2] ?_;cases h;exact rtA
 rw[Zf hc4] at h;apply zj;apply hZ1
 refine za fun Z5 hZ5=>?_
 refine D [1,13] ?_;refine yn rfl (fun hc6=>?_) (fun hc6=>?_)
 · rw[if_pos hc6] at h;have t7:=eq_true hc6
   refine rg U [2] fun K J=>?_
   simp only[go_sem,qd,qb,qe,t7];apply J
   cases h;exact rtA
 rw[if_neg hc6] at h;have t8:=eq_false hc6;apply zj;apply hZ5
 refine rc [2] fun K J=>?_
 refine zB U 4 ?_;simp only[go_sem,qd,qb,qe,t8];refine zH 4 (fun L τ=>L=[(1,.op 0 0 0),(24,.bool ((decide (a0.fWire=1))&&(decide (a0.fN=0))))]∧τ=([.cells 0 [.int .i64 a0.fTag,.int .i64 a0.fWire,.int .i64 a0.fN,.str a0.fB]]:ze)) ?_ ?_
 · refine wh 20 rfl (fun hg20=>?_) (fun hg20=>?_)
   · have t9:=eq_true hg20;refine O 4 ?_;refine zi ⟨rfl,_,_,⟨rfl,rfl⟩,.p t9⟩
   have t10:=eq_false hg20;refine O 4 ?_;refine zi ⟨rfl,_,_,⟨rfl,rfl⟩,.p t10⟩
 rintro _ _ ⟨rfl,rfl⟩;refine O 1 ?_;refine zH 5 (fun L τ=>L=[(30,.bool (((decide (a0.fWire=1))&&(decide (a0.fN=0)))&&(decide ((qa a0.fB:Int)≤4096))))]∧τ=([.cells 0 [.int .i64 a0.fTag,.int .i64 a0.fWire,.int .i64 a0.fN,.str a0.fB]]:ze)) ?_ ?_
 · refine yB (b:=((decide (a0.fWire=1))&&(decide (a0.fN=0)))) 25 rfl (fun hg25=>?_) (fun hg25=>?_)
   · refine O 5 ?_;refine zi ⟨rfl,_,_,⟨rfl,rfl⟩,.b hg25⟩
   refine O 5 ?_;refine zi ⟨rfl,_,_,⟨rfl,rfl⟩,.b hg25⟩
 rintro _ _ ⟨rfl,rfl⟩;refine O 1 ?_;refine nkN J ?_;cases h;exact rtA
def ZV.l4 (a1:Int):List zr→Int→Bool
 |[],x2=>false
 |y4::q4,x2=>(if y4.fTag=a1 then true else ((ZV.l4 a1 q4) (x2+1)))
def ZV (a0:zk)(a1:Int):Bool:=
 (ZV.l4 a1 a0.fEntries 0)
theorem ZV.ok {a0 a1 r}(h:ZV a0 a1=r):ACalls qg 200 [.agg (zd a0),.int .i64 a1] [] (fun r' _=>r'=.bool r):=by
 refine zt (rs:=[.tmp 4]) U Tryz.func200 rfl Tryz.ntmps200 rfl Tryz.call200 (by simp) ?_;refine zA [(0,.agg (zd a0)),(1,.int .i64 a1)] ⟨rfl,rfl,trivial⟩ ?_;unfold ZV at h
 refine rg U [1,2] fun K J=>?_
 simp only[go_sem,qd,qb,qe,reduceCtorEq,zd];apply J
 refine za fun Z1 hZ1=>?_
 refine D [1,2,5] ?_;apply zn
 refine XK 0 rfl fun hb4=>?_
 replace hb4:qa a0.fEntries≤9223372036854775807:=hb4.2.2.2.1.1;refine yh (fun m L τ=>∃ (p4 q4:List zr) (x2:Int),m=qa q4∧L=[(1,.int .i64 a1),(2,.op 0 0 0),(5,.int .i64 x2)]∧τ=([.cells 0 (zd a0)]:ze)∧a0.fEntries=p4++q4∧x2=(qa p4:Int)∧ZV.l4 a1 q4 x2=r) _ ⟨[],a0.fEntries,0,rfl,rfl,rfl,rfl,rfl,h⟩ .s ?_;rintro m L τ ⟨p4,q4,x2,rfl,rfl,rfl,hE4,hi4,h⟩
 rcases q4 with _|⟨y4,q4⟩
 · have hz4:=xC hE4 hi4;simp only[ZV.l4] at h
   refine za fun Z5 hZ5=>?_
   refine rg U [1,2,5,10] fun K J=>?_
   simp only[go_sem,qd,qb,qe,hz4];apply J
   refine zG rfl ?_;apply yf;apply hZ1;refine D [4] ?_;cases h;exact rtA
 obtain⟨hz4,hw4,hx4,hE'4,hi'4⟩:=yU hE4 hi4 hb4;simp only[ZV.l4] at h
 refine za fun Z6 hZ6=>?_
 refine rg U [1,2,5,10] fun K J=>?_
 simp only[go_sem,qd,qb,qe,hz4];apply J
 refine zK rfl ?_;apply zj;apply hZ6
 refine za fun Z7 hZ7=>?_
 apply zn;have f8:=E34.idxS hx4;have f9:=E34.fldS0 (f:=3) rfl rfl hx4
 refine rg U [1,2,5,20] fun K J=>?_
 simp only[go_sem,qd,qb,qe,zQ,yK,f8,f9];apply J
 refine yn rfl (fun hc10=>?_) (fun hc10=>?_)
 · rw[if_pos hc10] at h;have t11:=eq_true hc10
   refine rg U [4] fun K J=>?_
   simp only[go_sem,qd,qb,t11];apply J
   cases h;exact rtA
 rw[if_neg hc10] at h;have t12:=eq_false hc10;apply zj;apply hZ7
 refine rgE U [1,2,5] fun K J=>?_
 simp only[go_sem,qd,qb,hw4,t12];apply J
 exact⟨_,_,_,qy q4.length,⟨p4++[y4],q4,x2+1,rfl,rfl,rfl,hE'4,hi'4,h⟩,.s⟩
end
end Go.Proofs.YtaahlckibpiphaaGreatDoor
