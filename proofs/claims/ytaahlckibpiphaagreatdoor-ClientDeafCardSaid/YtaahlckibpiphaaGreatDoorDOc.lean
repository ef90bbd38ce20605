/- Parts of the proof, cut down to what it needs. -/
import Derived.Test.YtaahlckibpiphaaGreatDoorDCi
import Derived.Test.YtaahlckibpiphaaGreatDoorDU
import Derived.Test.YtaahlckibpiphaaGreatDoorRows
import Derived.Test.YtaahlckibpiphaaGreatDoorChecked
import Derived.Test.YtaahlckibpiphaaGreatDoorTie
import Derived.ProofKit
import Derived.OpenShut
import Derived.ShutString
import Derived.ChangeOld
import Derived.ChangeSame
import Derived.ChangeVars
import Derived.JoinedOf
import Derived.RowKit
import Derived.LaidLaws
import Derived.LaidHandle
import Derived.Lib.LaidIn
import Derived.Lib.LaidU8T
import Derived.SevenTiedAt
set_option linter.constructorNameAsVariable false
set_option linter.unusedSimpArgs false
set_option linter.unusedVariables false
namespace Go.Proofs.YtaahlckibpiphaaGreatDoor
open _root_.List renaming length → qg, flatMap → qh, drop_zero → qn, map_append → qo, map_cons → qp, map_nil → qs, length_append → qw, length_cons → qx, length_nil → qz, flatMap_append → qA, flatMap_cons → qB, getD_eq_getElem?_getD → qC, append_assoc → qD, append_nil → qF, cons_append → qH, nil_append → qJ, length_eq_zero_iff → qK, flatMap_nil → qL, replicate → qO, getElem?_append_left → qQ, getElem?_eq_some_iff → qR, range_zero → qS, all_cons → qT, getElem?_eq_getElem → qU, all_nil → qV, range_succ → qY, getElem?_set_ne → qZ, getElem?_append_right → q7, getElem?_eq_none → ua, length_map → ub, take_length → uc, all_eq_true → ud, mem_cons_of_mem → ue, take_of_length_le → ug, getElem?_set_self → uh, take_append_drop → ui, mem_cons → uk, mem_map → um, getElem?_cons_zero → uu, getElem?_cons_succ → uv, range → uw, set_cons_zero → ux, set_cons_succ → uy, length_take → uE, mem_of_getElem? → uL, mem_append_left → uM, eq_nil_of_length_eq_zero → uN, mem_cons_self → uO
open _root_.Option renaming bind_some → un, map_some → uq, getD_some → uB
open _root_.Nat renaming reduceEqDiff → qa, reduceLeDiff → qb, reduceAdd → qc, reduceSub → qd, reduceMul → qe, reduceLT → qf, zero_add → ql, le_refl → qy, lt_succ_self → qE, zero_le → qX, mul_le_mul_right → q2, reduceMod → q3, lt_of_lt_of_le → q5, add_assoc → ur, zero_mul → ut, sub_zero → uC, succ_mul → uH, sub_self → uI, le_trans → uJ, add_zero → uK, lt_or_ge → uQ
open _root_.Bool renaming not_false → qk, and_true → qm, or_true → qq, not_true → qr, and_false → qt, or_false → qv, and_self → qG, and_eq_true → qM, false_eq_true → qW, or_eq_true → uj, true_and → uF, false_or → uG
open _root_.Int renaming toNat → qP, toNat_natCast → uA
open _root_.BitVec renaming ofInt → qN, toNat → uf
open _root_.Array renaming length_toList → q1, getD_eq_getD_getElem? → ul, getElem?_eq_getElem → uz, getElem?_setIfInBounds_ne → uD, replicate → uP, getElem?_modify → uR
open _root_.UInt8 renaming ofNat → uo
open Result renaming andThen_ok → qj
open Sem renaming run_bind → qu, run_pure → qI
open _root_.Go.Proofs.Tryz renaming prog → qi
section
set_option maxRecDepth 4000
set_option maxHeartbeats 1000000
open AM
def xn  : Option Bool:=
 bnd (wn 1) fun r1=>(xb 1 0 [1] [r1]).bind fun r2=>(match r2.1 with|.none=>(if ((!(decide (r2.2=0)))||true)=true then some false else none)|.some y3=>(if ((!(decide (r2.2=0)))||false)=true then some false else (zW y3 [99] (⟨3,0,[],([]:List GEntry),([]:List GRaw)⟩:GTree)).bind fun r12=>(zi r12.2.2 (⟨2,0,1,1,1,[],0,[]⟩:GPacket)).bind fun r13=>bnd (if (((((decide (r12.2.1=0))&&(decide (r12.1.fKind=1)))&&r13.2.1)&&(decide (r13.1.fKind=3)))&&(decide (r13.1.fVersion=1)))=true then bnd (yU r13.2.2) fun r16=>r16 else false) fun c16=>some c16))
theorem xn.ok  (r:Bool)(h:xn=some r):ACalls qi 24 [] [] (fun r' _=>r'=.bool r):=by
 refine zj (rs:=[.tmp 0]) tok Tryz.func24 rfl Tryz.ntmps24 rfl Tryz.call24 (by simp) ?_;refine zm [] trivial ?_;unfold xn at h;refine rgN [] ?_
 refine rc [1,2] fun K hK=>?_
 obtain⟨r1,hr1,h⟩:=zB h;refine za tok 1 ?_;simp only[go_sem,qf,qb,qa,qc,qe,qd,reduceIte,reduceCtorEq,zL,zX,qY,qS,qX,true_and,q3];refine clN rfl rfl rfl (wn.ev 1 r1 hr1 _) ?_;obtain⟨r2,hr2,h⟩:=bind_some h;refine za tok 1 ?_;simp only[go_sem,qf,qb,qa,qc,qe,qd,reduceIte,reduceCtorEq,zL,zX,qY,qS,qX,true_and,q3,encGSchema];refine YQ (L:=[(8,.ds true (qh encI [1]) (qg [1]) false),(10,.ds true (qh encGSchema [r1]) (qg [r1]) false)]) (τ:=[]) (.t [] false) ?_;refine clN rfl rfl rfl (xb.at 1 0 [1] [r1] r2 hr2 _) ?_;refine za tok 5 ?_;simp only[go_sem,qf,qb,qa,qc,qe,qd,reduceIte,reduceCtorEq,encGSchema];refine nkN hK ?_
 generalize hz3:r2.1=z3 at h ⊢
 rcases z3 with _|y3
 · try dsimp only at h
   simp only[Xo,Xn,Xq,Xp]
   refine zd fun Z4 hZ4=>?_
   refine rc [1,19] fun K hK=>?_
   refine za tok 3 ?_;simp only[go_sem,qf,qb,qa,qc,qe,qd,reduceIte,reduceCtorEq,zn];refine zl 3 (fun L τ=>L=[(1,.nilp),(19,.bool ((!(decide (r2.2=0)))||true))]∧τ=[.dead]) ?_ ?_
   · refine yQ 16 rfl (fun hg16=>?_) (fun hg16=>?_)
     · have t5:=eq_false hg16;refine za tok 3 ?_;simp only[go_sem,qf,qb,qa,qc,qe,qd,reduceIte,reduceCtorEq,zn];refine ze ⟨rfl,_,_,⟨rfl,rfl⟩,.p t5⟩
     have t6:=eq_true hg16;refine za tok 3 ?_;simp only[go_sem,qf,qb,qa,qc,qe,qd,reduceIte,reduceCtorEq,zn];refine ze ⟨rfl,_,_,⟨rfl,rfl⟩,.p t6⟩
   rintro _ _ ⟨rfl,rfl⟩;refine nkN hK ?_;refine zs (b:=((!(decide (r2.2=0)))||true)) rfl (fun hc7=>?_) (fun hc7=>?_)
   · rw[if_pos hc7] at h;refine rgN [0] ?_;cases h;exact rtA
   rw[xI hc7] at h;apply zf;apply hZ4;cases h
 try dsimp only at h
 simp only[Xo,Xn,Xq,Xp]
 refine zd fun Z8 hZ8=>?_
 refine rc [1,19] fun K hK=>?_
 refine za tok 3 ?_;simp only[go_sem,qf,qb,qa,qc,qe,qd,reduceIte,reduceCtorEq,zn];refine zl 3 (fun L τ=>L=[(1,.op 0 0 0),(19,.bool ((!(decide (r2.2=0)))||false))]∧τ=[.cells 0 (encGClientClient y3)]) ?_ ?_
 · refine yQ 16 rfl (fun hg16=>?_) (fun hg16=>?_)
   · have t9:=eq_false hg16;refine za tok 3 ?_;simp only[go_sem,qf,qb,qa,qc,qe,qd,reduceIte,reduceCtorEq,zn];refine ze ⟨rfl,_,_,⟨rfl,rfl⟩,.p t9⟩
   have t10:=eq_true hg16;refine za tok 3 ?_;simp only[go_sem,qf,qb,qa,qc,qe,qd,reduceIte,reduceCtorEq,zn];refine ze ⟨rfl,_,_,⟨rfl,rfl⟩,.p t10⟩
 rintro _ _ ⟨rfl,rfl⟩;refine nkN hK ?_;refine zs (b:=((!(decide (r2.2=0)))||false)) rfl (fun hc11=>?_) (fun hc11=>?_)
 · rw[if_pos hc11] at h;refine rgN [0] ?_;cases h;exact rtA
 rw[xI hc11] at h;apply zf;apply hZ8
 refine rc [1,3,4] fun K hK=>?_
 obtain⟨r12,hr12,h⟩:=bind_some h;refine rnN 2 ?_;refine clN rfl rfl rfl (ACalls.loose (@id (ACalls qi 18 [.op 0 0 0,.str [99],.agg [.int .i64 3,.int .i64 0,.str [],.ds true (qh encGEntry ([]:List GEntry)) (qg ([]:List GEntry)) false,.ds true (qh encGRaw ([]:List GRaw)) (qg ([]:List GRaw)) false]] [.cells 0 (encGClientClient y3)] (fun r' σ'=>r'=.tup [.agg (encGPacket r12.1),.int .i64 r12.2.1]∧σ'=[.cells 0 (encGClientClient r12.2.2)])) ((zW.ok y3 [99] (⟨3,0,[],([]:List GEntry),([]:List GRaw)⟩:GTree) r12 hr12).i [0]))) ?_;refine za tok 6 ?_;simp only[go_sem,qf,qb,qa,qc,qe,qd,reduceIte,reduceCtorEq,encGPacket];refine nkN hK ?_
 refine rc [1,3,4,5,6] fun K hK=>?_
 obtain⟨r13,hr13,h⟩:=bind_some h;refine rnN 2 ?_;refine clN rfl rfl rfl (@id (ACalls qi 19 [.op 0 0 0,.agg [.int .i64 2,.int .i64 0,.int .i64 1,.int .i64 1,.int .i64 1,.str [],.int .i64 0,.str []]] [.cells 0 (encGClientClient r12.2.2),.cells 0 (encGPacket r12.1)] (fun r' σ'=>r'=.tup [.agg (encGPacket r13.1),.bool r13.2.1]∧σ'=[.cells 0 (encGClientClient r13.2.2),.cells 0 (encGPacket r12.1)])) ((zi.ok r12.2.2 (⟨2,0,1,1,1,[],0,[]⟩:GPacket) r13 hr13).i [0])) ?_;refine za tok 6 ?_;simp only[go_sem,qf,qb,qa,qc,qe,qd,reduceIte,reduceCtorEq,encGPacket];refine nkN hK ?_
 refine rc [0] fun K hK=>?_
 refine za tok 3 ?_;simp only[go_sem,qf,qb,qa,qc,qe,qd,reduceIte,reduceCtorEq,zn];refine zl 4 (fun L τ=>L=[(1,.op 0 0 0),(5,.op 2 0 0),(6,.bool r13.2.1),(38,.bool ((decide (r12.2.1=0))&&(decide (r12.1.fKind=1))))]∧τ=[.cells 0 (encGClientClient r13.2.2),.cells 0 (encGPacket r12.1),.cells 0 (encGPacket r13.1)]) ?_ ?_
 · refine yQ 34 rfl (fun hg34=>?_) (fun hg34=>?_)
   · have t14:=eq_true hg34;refine za tok 4 ?_;simp only[go_sem,qf,qb,qa,qc,qe,qd,reduceIte,reduceCtorEq,zn];refine ze ⟨rfl,_,_,⟨rfl,rfl⟩,.p t14⟩
   have t15:=eq_false hg34;refine za tok 4 ?_;simp only[go_sem,qf,qb,qa,qc,qe,qd,reduceIte,reduceCtorEq,zn];refine ze ⟨rfl,_,_,⟨rfl,rfl⟩,.p t15⟩
 rintro _ _ ⟨rfl,rfl⟩;refine rnN 1 ?_;refine zl 2 (fun L τ=>L=[(1,.op 0 0 0),(5,.op 2 0 0),(41,.bool (((decide (r12.2.1=0))&&(decide (r12.1.fKind=1)))&&r13.2.1))]∧τ=[.cells 0 (encGClientClient r13.2.2),.cells 0 (encGPacket r12.1),.cells 0 (encGPacket r13.1)]) ?_ ?_
 · refine zR (b:=((decide (r12.2.1=0))&&(decide (r12.1.fKind=1)))) 39 rfl (fun hg39=>?_) (fun hg39=>?_)
   · refine rnN 2 ?_;refine ze ⟨rfl,_,_,⟨rfl,rfl⟩,.b hg39⟩
   refine rnN 2 ?_;refine ze ⟨rfl,_,_,⟨rfl,rfl⟩,.b hg39⟩
 rintro _ _ ⟨rfl,rfl⟩;refine rnN 1 ?_;refine zl 4 (fun L τ=>L=[(1,.op 0 0 0),(5,.op 2 0 0),(46,.bool ((((decide (r12.2.1=0))&&(decide (r12.1.fKind=1)))&&r13.2.1)&&(decide (r13.1.fKind=3))))]∧τ=[.cells 0 (encGClientClient r13.2.2),.cells 0 (encGPacket r12.1),.cells 0 (encGPacket r13.1)]) ?_ ?_
 · refine zR (b:=(((decide (r12.2.1=0))&&(decide (r12.1.fKind=1)))&&r13.2.1)) 42 rfl (fun hg42=>?_) (fun hg42=>?_)
   · refine za tok 4 ?_;simp only[go_sem,qf,qb,qa,qc,qe,qd,reduceIte,reduceCtorEq,zn];refine ze ⟨rfl,_,_,⟨rfl,rfl⟩,.b hg42⟩
   refine za tok 4 ?_;simp only[go_sem,qf,qb,qa,qc,qe,qd,reduceIte,reduceCtorEq,zn];refine ze ⟨rfl,_,_,⟨rfl,rfl⟩,.b hg42⟩
 rintro _ _ ⟨rfl,rfl⟩;refine rnN 1 ?_;refine zl 4 (fun L τ=>L=[(1,.op 0 0 0),(51,.bool (((((decide (r12.2.1=0))&&(decide (r12.1.fKind=1)))&&r13.2.1)&&(decide (r13.1.fKind=3)))&&(decide (r13.1.fVersion=1))))]∧τ=[.cells 0 (encGClientClient r13.2.2),.cells 0 (encGPacket r12.1),.cells 0 (encGPacket r13.1)]) ?_ ?_
 · refine zR (b:=((((decide (r12.2.1=0))&&(decide (r12.1.fKind=1)))&&r13.2.1)&&(decide (r13.1.fKind=3)))) 47 rfl (fun hg47=>?_) (fun hg47=>?_)
   · refine za tok 4 ?_;simp only[go_sem,qf,qb,qa,qc,qe,qd,reduceIte,reduceCtorEq,zn];refine ze ⟨rfl,_,_,⟨rfl,rfl⟩,.b hg47⟩
   refine za tok 4 ?_;simp only[go_sem,qf,qb,qa,qc,qe,qd,reduceIte,reduceCtorEq,zn];refine ze ⟨rfl,_,_,⟨rfl,rfl⟩,.b hg47⟩
 rintro _ _ ⟨rfl,rfl⟩;refine rnN 1 ?_;obtain⟨c16,hc16,h⟩:=zB h;refine zl 3 (fun L τ=>L=[(55,.bool c16)]∧τ=[.cells 0 (encGClientClient r13.2.2),.cells 0 (encGPacket r12.1),.cells 0 (encGPacket r13.1)]) ?_ ?_
 · refine zR (b:=(((((decide (r12.2.1=0))&&(decide (r12.1.fKind=1)))&&r13.2.1)&&(decide (r13.1.fKind=3)))&&(decide (r13.1.fVersion=1)))) 52 rfl (fun hg52=>?_) (fun hg52=>?_)
   · rw[if_pos hg52] at hc16;obtain⟨r17,hr17,hc16⟩:=zB hc16;refine rnN 1 ?_;refine clN rfl rfl rfl (@id (ACalls qi 26 [.op 0 0 0] [.cells 0 (encGClientClient r13.2.2),.cells 0 (encGPacket r12.1),.cells 0 (encGPacket r13.1)] (fun r' σ'=>r'=.bool r17∧σ'=[.cells 0 (encGClientClient r13.2.2),.cells 0 (encGPacket r12.1),.cells 0 (encGPacket r13.1)])) ((yU.ok r13.2.2 r17 hr17).i [0])) ?_;refine rnN 1 ?_;subst hc16;refine ze ⟨rfl,_,_,⟨rfl,rfl⟩,.b hg52⟩
   rw[xI hg52] at hc16;refine rnN 3 ?_;subst hc16;refine ze ⟨rfl,_,_,⟨rfl,rfl⟩,.b hg52⟩
 rintro _ _ ⟨rfl,rfl⟩;refine rnN 1 ?_;refine nkN hK ?_;cases h;exact rtA
theorem xn.ev  (r:Bool)(h:xn=some r)(σ:Store):ACalls qi 24 [] σ (fun r' σ'=>r'=.bool r∧σ'=σ):=
 (xn.ok  r h).c σ
def law23_ClientDeaf.j27 (a0:GPacket)(a1:Bool)(m1_25:GClientClient)(m2_26:GPacket):Option Bool:=
 (if ((((decide (a0.fID=m2_26.fID))&&(decide (a0.fTo=1)))&&(decide (a0.fFrom=0)))&&(((!a1)&&(decide (a0.fKind=2)))||((a1&&(decide (a0.fKind=4)))&&(decide (a0.fVersion=3)))))=true then (xn).bind fun r32=>some r32 else (zi m1_25 a0).bind fun r33=>bnd (xv r33.2.2) fun r34=>bnd (xx r33.2.2) fun r35=>bnd (if (((((!r33.2.1)&&(decide (r33.1.fKind=0)&&(decide (r33.1.fFrom=0)&&(decide (r33.1.fTo=0)&&(decide (r33.1.fID=0)&&(decide (r33.1.fVersion=0)&&(decide (r33.1.fMethod=[])&&(decide (r33.1.fErr=0)&&decide (r33.1.fBody=[])))))))))&&r34.2)&&(decide (r34.1.fKind=m2_26.fKind)&&(decide (r34.1.fFrom=m2_26.fFrom)&&(decide (r34.1.fTo=m2_26.fTo)&&(decide (r34.1.fID=m2_26.fID)&&(decide (r34.1.fVersion=m2_26.fVersion)&&(decide (r34.1.fMethod=m2_26.fMethod)&&(decide (r34.1.fErr=m2_26.fErr)&&decide (r34.1.fBody=m2_26.fBody)))))))))&&(!r35.2.2.2.1))=true then bnd (yU r35.2.2.2.2) fun r36=>r36 else false) fun c36=>(if c36=true then (xn).bind fun r38=>some r38 else some false).bind fun c38=>some c38)
def law23_ClientDeaf (a0:GPacket)(a1:Bool):Option Bool:=
 bnd (wn 2) fun r1=>(xb 1 0 [3] [r1]).bind fun r2=>(match r2.1 with|.none=>(if ((!(decide (r2.2=0)))||(decide (5000<(qg a0.fBody:Int))))=true then (if r2.2=0 then (xn).bind fun r8=>some r8 else some false).bind fun c8=>some c8 else none)|.some y3=>(if ((!(decide (r2.2=0)))||(decide (5000<(qg a0.fBody:Int))))=true then (if r2.2=0 then (xn).bind fun r16=>some r16 else some false).bind fun c16=>some c16 else (zW y3 [99] (⟨3,0,[],([]:List GEntry),([]:List GRaw)⟩:GTree)).bind fun r20=>(if r20.2.1=0 then (if a1=true then (zi r20.2.2 (⟨2,0,1,r20.1.fID,3,[],0,[]⟩:GPacket)).bind fun r41=>(if (!r41.2.1)=true then some false else (law23_ClientDeaf.j27 a0 a1 r41.2.2 r41.1)) else (law23_ClientDeaf.j27 a0 a1 r20.2.2 r20.1)) else some false)))
theorem law23_ClientDeaf.ok (a0:GPacket)(a1:Bool)(r:Bool)(h:law23_ClientDeaf a0 a1=some r):ACalls qi 6 [.agg (encGPacket a0),.bool a1] [] (fun r' _=>r'=.bool r):=by
 refine zj (rs:=[.tmp 4]) tok Tryz.func6 rfl Tryz.ntmps6 rfl Tryz.call6 (by simp) ?_;refine zm [(0,.agg (encGPacket a0)),(1,.bool a1)] ⟨rfl,rfl,trivial⟩ ?_;unfold law23_ClientDeaf at h
 refine rg tok [1,2] fun K hK=>?_
 simp only[go_sem,qf,qb,qa,qc,qe,qd,reduceIte,reduceCtorEq,encGPacket];apply hK
 refine rc [1,2,5,6] fun K hK=>?_
 obtain⟨r1,hr1,h⟩:=zB h;refine za tok 1 ?_;simp only[go_sem,qf,qb,qa,qc,qe,qd,reduceIte,reduceCtorEq,zL,zX,qY,qS,qX,true_and,q3];refine clN rfl rfl rfl (wn.ev 2 r1 hr1 _) ?_;obtain⟨r2,hr2,h⟩:=bind_some h;refine za tok 1 ?_;simp only[go_sem,qf,qb,qa,qc,qe,qd,reduceIte,reduceCtorEq,zL,zX,qY,qS,qX,true_and,q3,encGSchema];refine YQ (L:=[(1,.bool a1),(2,.op 0 0 0),(21,.ds true (qh encI [3]) (qg [3]) false),(23,.ds true (qh encGSchema [r1]) (qg [r1]) false)]) (τ:=[.cells 0 (encGPacket a0)]) (.t [0] false) ?_;refine clN rfl rfl rfl (xb.at 1 0 [3] [r1] r2 hr2 _) ?_;refine za tok 5 ?_;simp only[go_sem,qf,qb,qa,qc,qe,qd,reduceIte,reduceCtorEq,encGSchema];refine nkN hK ?_
 generalize hz3:r2.1=z3 at h ⊢
 rcases z3 with _|y3
 · try dsimp only at h
   simp only[Xo,Xn,Xq,Xp]
   refine zd fun Z4 hZ4=>?_
   refine rc [1,2,5,6,34] fun K hK=>?_
   refine za tok 3 ?_;simp only[go_sem,qf,qb,qa,qc,qe,qd,reduceIte,reduceCtorEq,zn];refine zl 5 (fun L τ=>L=[(1,.bool a1),(2,.op 0 0 0),(5,.nilp),(6,.int .i64 r2.2),(34,.bool ((!(decide (r2.2=0)))||(decide (5000<(qg a0.fBody:Int)))))]∧τ=[.cells 0 (encGPacket a0),.dead]) ?_ ?_
   · refine yQ 29 rfl (fun hg29=>?_) (fun hg29=>?_)
     · have t5:=eq_false hg29;refine za tok 5 ?_;simp only[go_sem,qf,qb,qa,qc,qe,qd,reduceIte,reduceCtorEq,zn];refine ze ⟨rfl,_,_,⟨rfl,rfl⟩,.p t5⟩
     have t6:=eq_true hg29;refine za tok 5 ?_;simp only[go_sem,qf,qb,qa,qc,qe,qd,reduceIte,reduceCtorEq,zn];refine ze ⟨rfl,_,_,⟨rfl,rfl⟩,.p t6⟩
   rintro _ _ ⟨rfl,rfl⟩;refine nkN hK ?_;refine zs (b:=((!(decide (r2.2=0)))||(decide (5000<(qg a0.fBody:Int))))) rfl (fun hc7=>?_) (fun hc7=>?_)
   · rw[if_pos hc7] at h
     refine rc [4] fun K hK=>?_
     refine za tok 3 ?_;simp only[go_sem,qf,qb,qa,qc,qe,qd,reduceIte,reduceCtorEq,zn];obtain⟨c8,hc8,h⟩:=bind_some h;refine zl 2 (fun L τ=>L=[(39,.bool c8)]∧τ=[.cells 0 (encGPacket a0),.dead]) ?_ ?_
     · refine yQ 37 rfl (fun hg37=>?_) (fun hg37=>?_)
       · have t9:=eq_true hg37;rw[if_pos hg37] at hc8;obtain⟨r10,hr10,hc8⟩:=bind_some hc8;refine clN rfl rfl rfl (xn.ev  r10 hr10 _) ?_;refine rnN 1 ?_;cases hc8;refine ze ⟨rfl,_,_,⟨rfl,rfl⟩,.p t9⟩
       have t11:=eq_false hg37;rw[if_neg hg37] at hc8;refine rnN 2 ?_;cases hc8;refine ze ⟨rfl,_,_,⟨rfl,rfl⟩,.p t11⟩
     rintro _ _ ⟨rfl,rfl⟩;refine rnN 1 ?_;refine nkN hK ?_;cases h;exact rtA
   rw[xI hc7] at h;apply zf;apply hZ4;cases h
 try dsimp only at h
 simp only[Xo,Xn,Xq,Xp]
 refine zd fun Z12 hZ12=>?_
 refine rc [1,2,5,6,34] fun K hK=>?_
 refine za tok 3 ?_;simp only[go_sem,qf,qb,qa,qc,qe,qd,reduceIte,reduceCtorEq,zn];refine zl 5 (fun L τ=>L=[(1,.bool a1),(2,.op 0 0 0),(5,.op 1 0 0),(6,.int .i64 r2.2),(34,.bool ((!(decide (r2.2=0)))||(decide (5000<(qg a0.fBody:Int)))))]∧τ=[.cells 0 (encGPacket a0),.cells 0 (encGClientClient y3)]) ?_ ?_
 · refine yQ 29 rfl (fun hg29=>?_) (fun hg29=>?_)
   · have t13:=eq_false hg29;refine za tok 5 ?_;simp only[go_sem,qf,qb,qa,qc,qe,qd,reduceIte,reduceCtorEq,zn];refine ze ⟨rfl,_,_,⟨rfl,rfl⟩,.p t13⟩
   have t14:=eq_true hg29;refine za tok 5 ?_;simp only[go_sem,qf,qb,qa,qc,qe,qd,reduceIte,reduceCtorEq,zn];refine ze ⟨rfl,_,_,⟨rfl,rfl⟩,.p t14⟩
 rintro _ _ ⟨rfl,rfl⟩;refine nkN hK ?_;refine zs (b:=((!(decide (r2.2=0)))||(decide (5000<(qg a0.fBody:Int))))) rfl (fun hc15=>?_) (fun hc15=>?_)
 · rw[if_pos hc15] at h
   refine rc [4] fun K hK=>?_
   refine za tok 3 ?_;simp only[go_sem,qf,qb,qa,qc,qe,qd,reduceIte,reduceCtorEq,zn];obtain⟨c16,hc16,h⟩:=bind_some h;refine zl 2 (fun L τ=>L=[(39,.bool c16)]∧τ=[.cells 0 (encGPacket a0),.cells 0 (encGClientClient y3)]) ?_ ?_
   · refine yQ 37 rfl (fun hg37=>?_) (fun hg37=>?_)
     · have t17:=eq_true hg37;rw[if_pos hg37] at hc16;obtain⟨r18,hr18,hc16⟩:=bind_some hc16;refine clN rfl rfl rfl (xn.ev  r18 hr18 _) ?_;refine rnN 1 ?_;cases hc16;refine ze ⟨rfl,_,_,⟨rfl,rfl⟩,.p t17⟩
     have t19:=eq_false hg37;rw[if_neg hg37] at hc16;refine rnN 2 ?_;cases hc16;refine ze ⟨rfl,_,_,⟨rfl,rfl⟩,.p t19⟩
   rintro _ _ ⟨rfl,rfl⟩;refine rnN 1 ?_;refine nkN hK ?_;cases h;exact rtA
 rw[xI hc15] at h;apply zf;apply hZ12
 refine rc [1,2,5,7,8] fun K hK=>?_
 obtain⟨r20,hr20,h⟩:=bind_some h;refine rnN 2 ?_;refine clN rfl rfl rfl (ACalls.loose (@id (ACalls qi 18 [.op 1 0 0,.str [99],.agg [.int .i64 3,.int .i64 0,.str [],.ds true (qh encGEntry ([]:List GEntry)) (qg ([]:List GEntry)) false,.ds true (qh encGRaw ([]:List GRaw)) (qg ([]:List GRaw)) false]] [.cells 0 (encGPacket a0),.cells 0 (encGClientClient y3)] (fun r' σ'=>r'=.tup [.agg (encGPacket r20.1),.int .i64 r20.2.1]∧σ'=[.cells 0 (encGPacket a0),.cells 0 (encGClientClient r20.2.2)])) ((zW.ok y3 [99] (⟨3,0,[],([]:List GEntry),([]:List GRaw)⟩:GTree) r20 hr20).i [1]))) ?_;refine za tok 6 ?_;simp only[go_sem,qf,qb,qa,qc,qe,qd,reduceIte,reduceCtorEq,encGPacket];refine nkN hK ?_
 refine zd fun Z21 hZ21=>?_
 refine rg tok [1,2,5,7,47] fun K hK=>?_
 simp only[go_sem,qf,qb,qa,qc,qe,qd,reduceIte,reduceCtorEq,zn];apply hK
 refine zM rfl (fun hc22=>?_) (fun hc22=>?_)
 · rw[if_neg hc22] at h;have t23:=eq_false hc22
   refine rg tok [4] fun K hK=>?_
   simp only[go_sem,qf,qb,qa,qc,qe,qd,reduceIte,reduceCtorEq,t23];apply hK
   cases h;exact rtA
 rw[if_pos hc22] at h;have t24:=eq_true hc22;apply zf;apply hZ21;refine yR (fun L τ=>∃ (m1_25:GClientClient) (m2_26:GPacket),L=[(1,.bool a1),(2,.op 0 0 0),(5,.op 1 0 0),(7,.op 2 0 0)]∧τ=[.cells 0 (encGPacket a0),.cells 0 (encGClientClient m1_25),.cells 0 (encGPacket m2_26)]∧law23_ClientDeaf.j27 a0 a1 m1_25 m2_26=some r) ?_ ?_
 · refine rg tok [1,2,5,7,48] fun K hK=>?_
   simp only[go_sem,qf,qb,qa,qc,qe,qd,reduceIte,reduceCtorEq,t24];apply hK
   refine zs (b:=a1) rfl (fun hc40=>?_) (fun hc40=>?_)
   · rw[if_pos hc40] at h
     refine rc [1,2,5,7,9,10] fun K hK=>?_
     obtain⟨r41,hr41,h⟩:=bind_some h;refine za tok 4 ?_;simp only[go_sem,qf,qb,qa,qc,qe,qd,reduceIte,reduceCtorEq,t24];refine clN rfl rfl rfl (@id (ACalls qi 19 [.op 1 0 0,.agg [.int .i64 2,.int .i64 0,.int .i64 1,.int .i64 r20.1.fID,.int .i64 3,.str [],.int .i64 0,.str []]] [.cells 0 (encGPacket a0),.cells 0 (encGClientClient r20.2.2),.cells 0 (encGPacket r20.1)] (fun r' σ'=>r'=.tup [.agg (encGPacket r41.1),.bool r41.2.1]∧σ'=[.cells 0 (encGPacket a0),.cells 0 (encGClientClient r41.2.2),.cells 0 (encGPacket r20.1)])) ((zi.ok r20.2.2 (⟨2,0,1,r20.1.fID,3,[],0,[]⟩:GPacket) r41 hr41).i [1])) ?_;refine za tok 6 ?_;simp only[go_sem,qf,qb,qa,qc,qe,qd,reduceIte,reduceCtorEq,encGPacket,t24];refine nkN hK ?_
     refine zd fun Z42 hZ42=>?_
     refine rg tok [1,2,5,7,9,58] fun K hK=>?_
     simp only[go_sem,qf,qb,qa,qc,qe,qd,reduceIte,reduceCtorEq,t24];apply hK
     refine zs (b:=(!r41.2.1)) rfl (fun hc43=>?_) (fun hc43=>?_)
     · rw[if_pos hc43] at h
       refine rg tok [4] fun K hK=>?_
       simp only[go_sem,qf,qb,qa,qc,qe,qd,reduceIte,reduceCtorEq,t24];apply hK
       cases h;exact rtA
     rw[xI hc43] at h;apply zf;apply hZ42
     refine rgE tok [1,2,5,7] fun K hK=>?_
     simp only[go_sem,qf,qb,qa,qc,qe,qd,reduceIte,reduceCtorEq,encGPacket,t24];apply hK
     exact⟨_,_,⟨r41.2.2,r41.1,rfl,rfl,h⟩,(.t [0,1,2] false)⟩
   rw[xI hc40] at h;apply zf;exact⟨_,_,⟨r20.2.2,r20.1,rfl,rfl,h⟩,.s⟩
 rintro _ _ ⟨m1_25,m2_26,rfl,rfl,h⟩;unfold law23_ClientDeaf.j27 at h
 refine rc [2,5,7,11] fun K hK=>?_
 refine za tok 6 ?_;simp only[go_sem,qf,qb,qa,qc,qe,qd,reduceIte,reduceCtorEq,zn,t24];refine zl 4 (fun L τ=>L=[(1,.bool a1),(2,.op 0 0 0),(5,.op 1 0 0),(7,.op 2 0 0),(69,.bool ((decide (a0.fID=m2_26.fID))&&(decide (a0.fTo=1))))]∧τ=[.cells 0 (encGPacket a0),.cells 0 (encGClientClient m1_25),.cells 0 (encGPacket m2_26)]) ?_ ?_
 · refine yQ 65 rfl (fun hg65=>?_) (fun hg65=>?_)
   · have t28:=eq_true hg65;refine za tok 4 ?_;simp only[go_sem,qf,qb,qa,qc,qe,qd,reduceIte,reduceCtorEq,zn,t24];refine ze ⟨rfl,_,_,⟨rfl,rfl⟩,.p t28⟩
   have t29:=eq_false hg65;refine za tok 4 ?_;simp only[go_sem,qf,qb,qa,qc,qe,qd,reduceIte,reduceCtorEq,zn,t24];refine ze ⟨rfl,_,_,⟨rfl,rfl⟩,.p t29⟩
 rintro _ _ ⟨rfl,rfl⟩;refine za tok 1 ?_;simp only[go_sem,qf,qb,qa,qc,qe,qd,reduceIte,reduceCtorEq,t24];refine zl 4 (fun L τ=>L=[(1,.bool a1),(2,.op 0 0 0),(5,.op 1 0 0),(7,.op 2 0 0),(74,.bool (((decide (a0.fID=m2_26.fID))&&(decide (a0.fTo=1)))&&(decide (a0.fFrom=0))))]∧τ=[.cells 0 (encGPacket a0),.cells 0 (encGClientClient m1_25),.cells 0 (encGPacket m2_26)]) ?_ ?_
 · refine zR (b:=((decide (a0.fID=m2_26.fID))&&(decide (a0.fTo=1)))) 70 rfl (fun hg70=>?_) (fun hg70=>?_)
   · refine za tok 4 ?_;simp only[go_sem,qf,qb,qa,qc,qe,qd,reduceIte,reduceCtorEq,zn,t24];refine ze ⟨rfl,_,_,⟨rfl,rfl⟩,.b hg70⟩
   refine za tok 4 ?_;simp only[go_sem,qf,qb,qa,qc,qe,qd,reduceIte,reduceCtorEq,zn,t24];refine ze ⟨rfl,_,_,⟨rfl,rfl⟩,.b hg70⟩
 rintro _ _ ⟨rfl,rfl⟩;refine za tok 1 ?_;simp only[go_sem,qf,qb,qa,qc,qe,qd,reduceIte,reduceCtorEq,t24];refine zl 21 (fun L τ=>L=[(2,.op 0 0 0),(5,.op 1 0 0),(7,.op 2 0 0),(96,.bool ((((decide (a0.fID=m2_26.fID))&&(decide (a0.fTo=1)))&&(decide (a0.fFrom=0)))&&(((!a1)&&(decide (a0.fKind=2)))||((a1&&(decide (a0.fKind=4)))&&(decide (a0.fVersion=3))))))]∧τ=[.cells 0 (encGPacket a0),.cells 0 (encGClientClient m1_25),.cells 0 (encGPacket m2_26)]) ?_ ?_
 · refine zR (b:=(((decide (a0.fID=m2_26.fID))&&(decide (a0.fTo=1)))&&(decide (a0.fFrom=0)))) 75 rfl (fun hg75=>?_) (fun hg75=>?_)
   · refine za tok 3 ?_;simp only[go_sem,qf,qb,qa,qc,qe,qd,reduceIte,reduceCtorEq,t24];refine zl 4 (fun L τ=>L=[(1,.bool a1),(2,.op 0 0 0),(5,.op 1 0 0),(7,.op 2 0 0),(75,.bool true),(82,.bool ((!a1)&&(decide (a0.fKind=2))))]∧τ=[.cells 0 (encGPacket a0),.cells 0 (encGClientClient m1_25),.cells 0 (encGPacket m2_26)]) ?_ ?_
     · refine zR (b:=(!a1)) 78 rfl (fun hg78=>?_) (fun hg78=>?_)
       · refine za tok 4 ?_;simp only[go_sem,qf,qb,qa,qc,qe,qd,reduceIte,reduceCtorEq,zn,t24];refine ze ⟨rfl,_,_,⟨rfl,rfl⟩,.b hg78⟩
       refine za tok 4 ?_;simp only[go_sem,qf,qb,qa,qc,qe,qd,reduceIte,reduceCtorEq,zn,t24];refine ze ⟨rfl,_,_,⟨rfl,rfl⟩,.b hg78⟩
     rintro _ _ ⟨rfl,rfl⟩;refine za tok 1 ?_;simp only[go_sem,qf,qb,qa,qc,qe,qd,reduceIte,reduceCtorEq,t24];refine zl 12 (fun L τ=>L=[(2,.op 0 0 0),(5,.op 1 0 0),(7,.op 2 0 0),(75,.bool true),(95,.bool (((!a1)&&(decide (a0.fKind=2)))||((a1&&(decide (a0.fKind=4)))&&(decide (a0.fVersion=3)))))]∧τ=[.cells 0 (encGPacket a0),.cells 0 (encGClientClient m1_25),.cells 0 (encGPacket m2_26)]) ?_ ?_
     · refine zR (b:=((!a1)&&(decide (a0.fKind=2)))) 83 rfl (fun hg83=>?_) (fun hg83=>?_)
       · refine za tok 10 ?_;simp only[go_sem,qf,qb,qa,qc,qe,qd,reduceIte,reduceCtorEq,zn,t24];refine za tok 2 ?_;simp only[go_sem,qf,qb,qa,qc,qe,qd,reduceIte,reduceCtorEq,t24];refine ze ⟨rfl,_,_,⟨rfl,rfl⟩,.b hg83⟩
       refine za tok 2 ?_;simp only[go_sem,qf,qb,qa,qc,qe,qd,reduceIte,reduceCtorEq,t24];refine zl 4 (fun L τ=>L=[(2,.op 0 0 0),(5,.op 1 0 0),(7,.op 2 0 0),(75,.bool true),(83,.bool false),(89,.bool (a1&&(decide (a0.fKind=4))))]∧τ=[.cells 0 (encGPacket a0),.cells 0 (encGClientClient m1_25),.cells 0 (encGPacket m2_26)]) ?_ ?_
       · refine zR (b:=a1) 85 rfl (fun hg85=>?_) (fun hg85=>?_)
         · refine za tok 4 ?_;simp only[go_sem,qf,qb,qa,qc,qe,qd,reduceIte,reduceCtorEq,zn,t24];refine ze ⟨rfl,_,_,⟨rfl,rfl⟩,.b hg85⟩
         refine za tok 4 ?_;simp only[go_sem,qf,qb,qa,qc,qe,qd,reduceIte,reduceCtorEq,zn,t24];refine ze ⟨rfl,_,_,⟨rfl,rfl⟩,.b hg85⟩
       rintro _ _ ⟨rfl,rfl⟩;refine za tok 1 ?_;simp only[go_sem,qf,qb,qa,qc,qe,qd,reduceIte,reduceCtorEq,t24];refine zl 4 (fun L τ=>L=[(2,.op 0 0 0),(5,.op 1 0 0),(7,.op 2 0 0),(75,.bool true),(83,.bool false),(94,.bool ((a1&&(decide (a0.fKind=4)))&&(decide (a0.fVersion=3))))]∧τ=[.cells 0 (encGPacket a0),.cells 0 (encGClientClient m1_25),.cells 0 (encGPacket m2_26)]) ?_ ?_
       · refine zR (b:=(a1&&(decide (a0.fKind=4)))) 90 rfl (fun hg90=>?_) (fun hg90=>?_)
         · refine za tok 4 ?_;simp only[go_sem,qf,qb,qa,qc,qe,qd,reduceIte,reduceCtorEq,zn,t24];refine ze ⟨rfl,_,_,⟨rfl,rfl⟩,.b hg90⟩
         refine za tok 4 ?_;simp only[go_sem,qf,qb,qa,qc,qe,qd,reduceIte,reduceCtorEq,zn,t24];refine ze ⟨rfl,_,_,⟨rfl,rfl⟩,.b hg90⟩
       rintro _ _ ⟨rfl,rfl⟩;refine za tok 1 ?_;simp only[go_sem,qf,qb,qa,qc,qe,qd,reduceIte,reduceCtorEq,t24];refine ze ⟨rfl,_,_,⟨rfl,rfl⟩,.b hg83⟩
     rintro _ _ ⟨rfl,rfl⟩;refine za tok 1 ?_;simp only[go_sem,qf,qb,qa,qc,qe,qd,reduceIte,reduceCtorEq,t24];refine ze ⟨rfl,_,_,⟨rfl,rfl⟩,.b hg75⟩
   refine za tok 10 ?_;simp only[go_sem,qf,qb,qa,qc,qe,qd,reduceIte,reduceCtorEq,zn,t24];refine za tok 10 ?_;simp only[go_sem,qf,qb,qa,qc,qe,qd,reduceIte,reduceCtorEq,zn,t24];refine za tok 1 ?_;simp only[go_sem,qf,qb,qa,qc,qe,qd,reduceIte,reduceCtorEq,t24];refine ze ⟨rfl,_,_,⟨rfl,rfl⟩,.b hg75⟩
 rintro _ _ ⟨rfl,rfl⟩;refine za tok 1 ?_;simp only[go_sem,qf,qb,qa,qc,qe,qd,reduceIte,reduceCtorEq,t24];refine nkN hK ?_
 refine zd fun Z30 hZ30=>?_
 refine rg tok [2,5,7,97] fun K hK=>?_
 simp only[go_sem,qf,qb,qa,qc,qe,qd,reduceIte,reduceCtorEq,t24];apply hK
 refine zs (b:=((((decide (a0.fID=m2_26.fID))&&(decide (a0.fTo=1)))&&(decide (a0.fFrom=0)))&&(((!a1)&&(decide (a0.fKind=2)))||((a1&&(decide (a0.fKind=4)))&&(decide (a0.fVersion=3)))))) rfl (fun hc31=>?_) (fun hc31=>?_)
 · rw[if_pos hc31] at h
   refine rc [4] fun K hK=>?_
   obtain⟨r32,hr32,h⟩:=bind_some h;refine clN rfl rfl rfl (xn.ev  r32 hr32 _) ?_;refine za tok 1 ?_;simp only[go_sem,qf,qb,qa,qc,qe,qd,reduceIte,reduceCtorEq,t24];refine nkN hK ?_;cases h;exact rtA
 rw[xI hc31] at h;apply zf;apply hZ30
 refine rc [5,7,12,13] fun K hK=>?_
 obtain⟨r33,hr33,h⟩:=bind_some h;refine za tok 2 ?_;simp only[go_sem,qf,qb,qa,qc,qe,qd,reduceIte,reduceCtorEq,encGPacket,t24];refine clN rfl rfl rfl (@id (ACalls qi 19 [.op 1 0 0,.agg (encGPacket a0)] [.cells 0 (encGPacket a0),.cells 0 (encGClientClient m1_25),.cells 0 (encGPacket m2_26)] (fun r' σ'=>r'=.tup [.agg (encGPacket r33.1),.bool r33.2.1]∧σ'=[.cells 0 (encGPacket a0),.cells 0 (encGClientClient r33.2.2),.cells 0 (encGPacket m2_26)])) ((zi.ok m1_25 a0 r33 hr33).i [1])) ?_;refine za tok 6 ?_;simp only[go_sem,qf,qb,qa,qc,qe,qd,reduceIte,reduceCtorEq,encGPacket,t24];refine nkN hK ?_
 refine rc [5,7,12,13,14,15] fun K hK=>?_
 obtain⟨r34,hr34,h⟩:=zB h;refine za tok 1 ?_;simp only[go_sem,qf,qb,qa,qc,qe,qd,reduceIte,reduceCtorEq,t24];refine clN rfl rfl rfl (@id (ACalls qi 32 [.op 1 0 0] [.cells 0 (encGPacket a0),.cells 0 (encGClientClient r33.2.2),.cells 0 (encGPacket m2_26),.cells 0 (encGPacket r33.1)] (fun r' σ'=>r'=.tup [.agg (encGPacket r34.1),.bool r34.2]∧σ'=[.cells 0 (encGPacket a0),.cells 0 (encGClientClient r33.2.2),.cells 0 (encGPacket m2_26),.cells 0 (encGPacket r33.1)])) ((xv.ok r33.2.2 r34 hr34).i [1])) ?_;refine za tok 6 ?_;simp only[go_sem,qf,qb,qa,qc,qe,qd,reduceIte,reduceCtorEq,encGPacket,t24];refine nkN hK ?_
 refine rc [5,7,12,13,14,15,19] fun K hK=>?_
 obtain⟨r35,hr35,h⟩:=zB h;refine za tok 1 ?_;simp only[go_sem,qf,qb,qa,qc,qe,qd,reduceIte,reduceCtorEq,t24];refine clN rfl rfl rfl (@id (ACalls qi 22 [.op 1 0 0] [.cells 0 (encGPacket a0),.cells 0 (encGClientClient r33.2.2),.cells 0 (encGPacket m2_26),.cells 0 (encGPacket r33.1),.cells 0 (encGPacket r34.1)] (fun r' σ'=>r'=.tup [.int .i64 r35.1,.agg (cellsGTree r35.2.1),.int .i64 r35.2.2.1,.bool r35.2.2.2.1]∧σ'=[.cells 0 (encGPacket a0),.cells 0 (encGClientClient r35.2.2.2.2),.cells 0 (encGPacket m2_26),.cells 0 (encGPacket r33.1),.cells 0 (encGPacket r34.1)])) ((xx.ok r33.2.2 r35 hr35).i [1])) ?_;refine za tok 10 ?_;simp only[go_sem,qf,qb,qa,qc,qe,qd,reduceIte,reduceCtorEq,cellsGTree,zb,t24];refine nkN hK ?_
 refine rc [4] fun K hK=>?_
 refine za tok 3 ?_;simp only[go_sem,qf,qb,qa,qc,qe,qd,reduceIte,reduceCtorEq,t24];refine zl 4 (fun L τ=>L=[(5,.op 1 0 0),(7,.op 2 0 0),(14,.op 4 0 0),(15,.bool r34.2),(19,.bool r35.2.2.2.1),(123,.bool ((!r33.2.1)&&(decide (r33.1.fKind=0)&&(decide (r33.1.fFrom=0)&&(decide (r33.1.fTo=0)&&(decide (r33.1.fID=0)&&(decide (r33.1.fVersion=0)&&(decide (r33.1.fMethod=[])&&(decide (r33.1.fErr=0)&&decide (r33.1.fBody=[]))))))))))]∧τ=[.cells 0 (encGPacket a0),.cells 0 (encGClientClient r35.2.2.2.2),.cells 0 (encGPacket m2_26),.cells 0 (encGPacket r33.1),.cells 0 (encGPacket r34.1),.cells 0 (cellsGTree r35.2.1)]) ?_ ?_
 · refine zR (b:=(!r33.2.1)) 119 rfl (fun hg119=>?_) (fun hg119=>?_)
   · refine za tok 4 ?_;simp only[go_sem,qf,qb,qa,qc,qe,qd,reduceIte,reduceCtorEq,zn,encGPacket,t24,evEqA,ceqL,ceq];refine ze ⟨rfl,_,_,⟨rfl,rfl⟩,.b hg119⟩
   refine za tok 4 ?_;simp only[go_sem,qf,qb,qa,qc,qe,qd,reduceIte,reduceCtorEq,zn,encGPacket,t24];refine ze ⟨rfl,_,_,⟨rfl,rfl⟩,.b hg119⟩
 rintro _ _ ⟨rfl,rfl⟩;refine za tok 1 ?_;simp only[go_sem,qf,qb,qa,qc,qe,qd,reduceIte,reduceCtorEq,encGPacket,t24];refine zl 2 (fun L τ=>L=[(5,.op 1 0 0),(7,.op 2 0 0),(14,.op 4 0 0),(19,.bool r35.2.2.2.1),(126,.bool (((!r33.2.1)&&(decide (r33.1.fKind=0)&&(decide (r33.1.fFrom=0)&&(decide (r33.1.fTo=0)&&(decide (r33.1.fID=0)&&(decide (r33.1.fVersion=0)&&(decide (r33.1.fMethod=[])&&(decide (r33.1.fErr=0)&&decide (r33.1.fBody=[])))))))))&&r34.2))]∧τ=[.cells 0 (encGPacket a0),.cells 0 (encGClientClient r35.2.2.2.2),.cells 0 (encGPacket m2_26),.cells 0 (encGPacket r33.1),.cells 0 (encGPacket r34.1),.cells 0 (cellsGTree r35.2.1)]) ?_ ?_
 · refine zR (b:=((!r33.2.1)&&(decide (r33.1.fKind=0)&&(decide (r33.1.fFrom=0)&&(decide (r33.1.fTo=0)&&(decide (r33.1.fID=0)&&(decide (r33.1.fVersion=0)&&(decide (r33.1.fMethod=[])&&(decide (r33.1.fErr=0)&&decide (r33.1.fBody=[])))))))))) 124 rfl (fun hg124=>?_) (fun hg124=>?_)
   · refine za tok 2 ?_;simp only[go_sem,qf,qb,qa,qc,qe,qd,reduceIte,reduceCtorEq,encGPacket,t24];refine ze ⟨rfl,_,_,⟨rfl,rfl⟩,.b hg124⟩
   refine za tok 2 ?_;simp only[go_sem,qf,qb,qa,qc,qe,qd,reduceIte,reduceCtorEq,encGPacket,t24];refine ze ⟨rfl,_,_,⟨rfl,rfl⟩,.b hg124⟩
 rintro _ _ ⟨rfl,rfl⟩;refine za tok 1 ?_;simp only[go_sem,qf,qb,qa,qc,qe,qd,reduceIte,reduceCtorEq,encGPacket,t24];refine zl 4 (fun L τ=>L=[(5,.op 1 0 0),(19,.bool r35.2.2.2.1),(131,.bool ((((!r33.2.1)&&(decide (r33.1.fKind=0)&&(decide (r33.1.fFrom=0)&&(decide (r33.1.fTo=0)&&(decide (r33.1.fID=0)&&(decide (r33.1.fVersion=0)&&(decide (r33.1.fMethod=[])&&(decide (r33.1.fErr=0)&&decide (r33.1.fBody=[])))))))))&&r34.2)&&(decide (r34.1.fKind=m2_26.fKind)&&(decide (r34.1.fFrom=m2_26.fFrom)&&(decide (r34.1.fTo=m2_26.fTo)&&(decide (r34.1.fID=m2_26.fID)&&(decide (r34.1.fVersion=m2_26.fVersion)&&(decide (r34.1.fMethod=m2_26.fMethod)&&(decide (r34.1.fErr=m2_26.fErr)&&decide (r34.1.fBody=m2_26.fBody))))))))))]∧τ=[.cells 0 (encGPacket a0),.cells 0 (encGClientClient r35.2.2.2.2),.cells 0 (encGPacket m2_26),.cells 0 (encGPacket r33.1),.cells 0 (encGPacket r34.1),.cells 0 (cellsGTree r35.2.1)]) ?_ ?_
 · refine zR (b:=(((!r33.2.1)&&(decide (r33.1.fKind=0)&&(decide (r33.1.fFrom=0)&&(decide (r33.1.fTo=0)&&(decide (r33.1.fID=0)&&(decide (r33.1.fVersion=0)&&(decide (r33.1.fMethod=[])&&(decide (r33.1.fErr=0)&&decide (r33.1.fBody=[])))))))))&&r34.2)) 127 rfl (fun hg127=>?_) (fun hg127=>?_)
   · refine za tok 4 ?_;simp only[go_sem,qf,qb,qa,qc,qe,qd,reduceIte,reduceCtorEq,zn,encGPacket,t24,evEqA,ceqL,ceq];refine ze ⟨rfl,_,_,⟨rfl,rfl⟩,.b hg127⟩
   refine za tok 4 ?_;simp only[go_sem,qf,qb,qa,qc,qe,qd,reduceIte,reduceCtorEq,zn,encGPacket,t24];refine ze ⟨rfl,_,_,⟨rfl,rfl⟩,.b hg127⟩
 rintro _ _ ⟨rfl,rfl⟩;refine za tok 1 ?_;simp only[go_sem,qf,qb,qa,qc,qe,qd,reduceIte,reduceCtorEq,encGPacket,t24];refine zl 3 (fun L τ=>L=[(5,.op 1 0 0),(135,.bool (((((!r33.2.1)&&(decide (r33.1.fKind=0)&&(decide (r33.1.fFrom=0)&&(decide (r33.1.fTo=0)&&(decide (r33.1.fID=0)&&(decide (r33.1.fVersion=0)&&(decide (r33.1.fMethod=[])&&(decide (r33.1.fErr=0)&&decide (r33.1.fBody=[])))))))))&&r34.2)&&(decide (r34.1.fKind=m2_26.fKind)&&(decide (r34.1.fFrom=m2_26.fFrom)&&(decide (r34.1.fTo=m2_26.fTo)&&(decide (r34.1.fID=m2_26.fID)&&(decide (r34.1.fVersion=m2_26.fVersion)&&(decide (r34.1.fMethod=m2_26.fMethod)&&(decide (r34.1.fErr=m2_26.fErr)&&decide (r34.1.fBody=m2_26.fBody)))))))))&&(!r35.2.2.2.1)))]∧τ=[.cells 0 (encGPacket a0),.cells 0 (encGClientClient r35.2.2.2.2),.cells 0 (encGPacket m2_26),.cells 0 (encGPacket r33.1),.cells 0 (encGPacket r34.1),.cells 0 (cellsGTree r35.2.1)]) ?_ ?_
 · refine zR (b:=((((!r33.2.1)&&(decide (r33.1.fKind=0)&&(decide (r33.1.fFrom=0)&&(decide (r33.1.fTo=0)&&(decide (r33.1.fID=0)&&(decide (r33.1.fVersion=0)&&(decide (r33.1.fMethod=[])&&(decide (r33.1.fErr=0)&&decide (r33.1.fBody=[])))))))))&&r34.2)&&(decide (r34.1.fKind=m2_26.fKind)&&(decide (r34.1.fFrom=m2_26.fFrom)&&(decide (r34.1.fTo=m2_26.fTo)&&(decide (r34.1.fID=m2_26.fID)&&(decide (r34.1.fVersion=m2_26.fVersion)&&(decide (r34.1.fMethod=m2_26.fMethod)&&(decide (r34.1.fErr=m2_26.fErr)&&decide (r34.1.fBody=m2_26.fBody)))))))))) 132 rfl (fun hg132=>?_) (fun hg132=>?_)
   · refine za tok 3 ?_;simp only[go_sem,qf,qb,qa,qc,qe,qd,reduceIte,reduceCtorEq,encGPacket,t24];refine ze ⟨rfl,_,_,⟨rfl,rfl⟩,.b hg132⟩
   refine za tok 3 ?_;simp only[go_sem,qf,qb,qa,qc,qe,qd,reduceIte,reduceCtorEq,encGPacket,t24];refine ze ⟨rfl,_,_,⟨rfl,rfl⟩,.b hg132⟩
 rintro _ _ ⟨rfl,rfl⟩;refine za tok 1 ?_;simp only[go_sem,qf,qb,qa,qc,qe,qd,reduceIte,reduceCtorEq,encGPacket,t24];obtain⟨c36,hc36,h⟩:=zB h;refine zl 3 (fun L τ=>L=[(139,.bool c36)]∧τ=[.cells 0 (encGPacket a0),.cells 0 (encGClientClient r35.2.2.2.2),.cells 0 (encGPacket m2_26),.cells 0 (encGPacket r33.1),.cells 0 (encGPacket r34.1),.cells 0 (cellsGTree r35.2.1)]) ?_ ?_
 · refine zR (b:=(((((!r33.2.1)&&(decide (r33.1.fKind=0)&&(decide (r33.1.fFrom=0)&&(decide (r33.1.fTo=0)&&(decide (r33.1.fID=0)&&(decide (r33.1.fVersion=0)&&(decide (r33.1.fMethod=[])&&(decide (r33.1.fErr=0)&&decide (r33.1.fBody=[])))))))))&&r34.2)&&(decide (r34.1.fKind=m2_26.fKind)&&(decide (r34.1.fFrom=m2_26.fFrom)&&(decide (r34.1.fTo=m2_26.fTo)&&(decide (r34.1.fID=m2_26.fID)&&(decide (r34.1.fVersion=m2_26.fVersion)&&(decide (r34.1.fMethod=m2_26.fMethod)&&(decide (r34.1.fErr=m2_26.fErr)&&decide (r34.1.fBody=m2_26.fBody)))))))))&&(!r35.2.2.2.1))) 136 rfl (fun hg136=>?_) (fun hg136=>?_)
   · rw[if_pos hg136] at hc36;obtain⟨r37,hr37,hc36⟩:=zB hc36;refine za tok 1 ?_;simp only[go_sem,qf,qb,qa,qc,qe,qd,reduceIte,reduceCtorEq,encGPacket,t24];refine clN rfl rfl rfl (@id (ACalls qi 26 [.op 1 0 0] [.cells 0 (encGPacket a0),.cells 0 (encGClientClient r35.2.2.2.2),.cells 0 (encGPacket m2_26),.cells 0 (encGPacket r33.1),.cells 0 (encGPacket r34.1),.cells 0 (cellsGTree r35.2.1)] (fun r' σ'=>r'=.bool r37∧σ'=[.cells 0 (encGPacket a0),.cells 0 (encGClientClient r35.2.2.2.2),.cells 0 (encGPacket m2_26),.cells 0 (encGPacket r33.1),.cells 0 (encGPacket r34.1),.cells 0 (cellsGTree r35.2.1)])) ((yU.ok r35.2.2.2.2 r37 hr37).i [1])) ?_;refine za tok 1 ?_;simp only[go_sem,qf,qb,qa,qc,qe,qd,reduceIte,reduceCtorEq,encGPacket,t24];subst hc36;refine ze ⟨rfl,_,_,⟨rfl,rfl⟩,.b hg136⟩
   rw[xI hg136] at hc36;refine za tok 3 ?_;simp only[go_sem,qf,qb,qa,qc,qe,qd,reduceIte,reduceCtorEq,encGPacket,t24];subst hc36;refine ze ⟨rfl,_,_,⟨rfl,rfl⟩,.b hg136⟩
 rintro _ _ ⟨rfl,rfl⟩;refine za tok 1 ?_;simp only[go_sem,qf,qb,qa,qc,qe,qd,reduceIte,reduceCtorEq,encGPacket,t24];obtain⟨c38,hc38,h⟩:=bind_some h;refine zl 2 (fun L τ=>L=[(142,.bool c38)]∧τ=[.cells 0 (encGPacket a0),.cells 0 (encGClientClient r35.2.2.2.2),.cells 0 (encGPacket m2_26),.cells 0 (encGPacket r33.1),.cells 0 (encGPacket r34.1),.cells 0 (cellsGTree r35.2.1)]) ?_ ?_
 · refine zR (b:=c36) 140 rfl (fun hg140=>?_) (fun hg140=>?_)
   · rw[if_pos hg140] at hc38;obtain⟨r39,hr39,hc38⟩:=bind_some hc38;refine clN rfl rfl rfl (xn.ev  r39 hr39 _) ?_;refine za tok 1 ?_;simp only[go_sem,qf,qb,qa,qc,qe,qd,reduceIte,reduceCtorEq,encGPacket,t24];cases hc38;refine ze ⟨rfl,_,_,⟨rfl,rfl⟩,.b hg140⟩
   rw[xI hg140] at hc38;refine za tok 2 ?_;simp only[go_sem,qf,qb,qa,qc,qe,qd,reduceIte,reduceCtorEq,encGPacket,t24];cases hc38;refine ze ⟨rfl,_,_,⟨rfl,rfl⟩,.b hg140⟩
 rintro _ _ ⟨rfl,rfl⟩;refine za tok 1 ?_;simp only[go_sem,qf,qb,qa,qc,qe,qd,reduceIte,reduceCtorEq,encGPacket,t24];refine nkN hK ?_;cases h;exact rtA
end
section
set_option maxRecDepth 4000
open AM
theorem awakeP : xn=some true:=by decide +kernel
def cS : GSchema:=wn 2
def cT : GTree:=⟨3,0,[],[],[]⟩
def cZ : GTree:=⟨0,0,[],[],[]⟩
def pZ : GPacket:=⟨0,0,0,0,0,[],0,[]⟩
def cl (i w:Int)(m:List UInt8)(t:GTree)(sn:GPacket)(rs:Option GClientResult):GClientClient:=⟨1,0,[3],[cS],i,w,m,t,0,sn,rs⟩
def hel (i:Int):GPacket:=⟨1,1,0,i,0,[],0,[3]⟩
def cal (i:Int):GPacket:=⟨3,1,0,i,3,[99],0,[]⟩
theorem cNew : xb 1 0 [3] [cS]=some (some (cl 0 0 [] cZ pZ none),0):=by
 have h:xd 1 [3] [cS]=some true:=by decide +kernel
 unfold xb;rw[h]
 rfl
theorem cOwn (i w m t sn rs):yh (cl i w m t sn rs)=some cS:=rfl
theorem cMeth : ym cS [99]=(⟨[99],[109],[109]⟩,true):=by decide +kernel
theorem cValid : wi cS [109] cT=some 0:=by decide +kernel
theorem cEnc : xu cT=some ([],0):=by decide +kernel
theorem cMake : yk cS cS [109] [109]=some (⟨[[⟨1,1,0⟩]]⟩,0):=by decide +kernel
def treeB (t:GTree):Bool:=match t with
 |⟨k,n,s,es,rs⟩=>decide (k=3)&&decide (n=0)&&decide (s=[])&&es.isEmpty&&rs.isEmpty
theorem treeB_eq {t:GTree}(h:treeB t=true):t=cT:=by
 obtain⟨k,n,s,es,rs⟩:=t;simp only[treeB,qM,decide_eq_true_eq,List.isEmpty_iff] at h;obtain⟨⟨⟨⟨rfl,rfl⟩,rfl⟩,rfl⟩,rfl⟩:=h
 rfl
theorem cRun : xP ⟨[[⟨1,1,0⟩]]⟩ cT=some (cT,0):=by
 have h:(xP ⟨[[⟨1,1,0⟩]]⟩ cT).any (fun r=>treeB r.1&&decide (r.2=0))=true:=by decide +kernel
 cases hr:xP ⟨[[⟨1,1,0⟩]]⟩ cT with
 |none=>rw[hr] at h; cases h
 |some r=>
  rw[hr] at h;simp only[Option.any_some,qM,decide_eq_true_eq] at h;obtain⟨a,b⟩:=r;obtain⟨h1,h2⟩:=h;have e1:a=cT:=treeB_eq h1;have e2:b=0:=h2;rw[e1,e2]
theorem wrap1 {i:Int}(h0:0≤i)(h1:i<1000):IntKind.i64.wrap (i+1)=i+1:=by
 exact i64_in (by omega) (by omega)
theorem cCall {i:Int}(h0:0≤i)(h1:i<1000)(m t sn rs):zW (cl i 0 m t sn rs) [99] cT=some (hel (i+1),0,cl (i+1) 1 [99] cT (hel (i+1)) none):=by
 unfold zW;rw[cOwn,un];simp only[bnd,cMeth,cValid,cEnc,un,if_true];rw[if_pos (show (cl i 0 m t sn rs).fwaits=0 from rfl),if_neg (by decide)];simp only[cl,zW.l26];rw[wrap1 h0 h1]
 rfl
theorem cIn (i w sn rs):xH (cl i w [99] cT sn rs)=some ([],0):=by
 unfold xH;have h1:YD (cl i w [99] cT sn rs).fschemas (cl i w [99] cT sn rs).fagreed=some cS:=rfl;have h2:(cl i w [99] cT sn rs).fmethod=[99]:=rfl;have h3:(cl i w [99] cT sn rs).ft=cT:=rfl;simp only[h1,h2,h3,cOwn,un,bnd,cMeth,cMake,cRun,cEnc]
 rfl
theorem cAgreed (i sn rs):zi (cl i 1 [99] cT sn rs) ⟨2,0,1,i,3,[],0,[]⟩=some (cal i,true,cl i 2 [99] cT (cal i) rs):=by
 unfold zi;simp only[cl];rw[if_neg (by decide),if_pos trivial,if_pos trivial];unfold zi.j3
 dsimp only
 rw[if_neg (by simp),if_pos (by simp)];unfold zz
 dsimp only
 rw[if_neg (by decide)];simp only[zz.l10,if_true];have:=cIn i 1 sn rs;simp only[cl] at this;rw[this]
 rfl
theorem cDeaf (i w sn rs)(hw:w=1∨w=2)(p:GPacket)(hp:¬ (p.fID=i∧p.fTo=1∧p.fFrom=0∧((w=1∧p.fKind=2)∨(w=2∧p.fKind=4∧p.fVersion=3)))):
 zi (cl i w [99] cT sn rs) p=some (pZ,false,cl i w [99] cT sn rs):=by
 unfold zi
 have hw0:¬ w=0:=by omega
 have e3:∀ b:Bool,zi.j3 (cl i w [99] cT sn rs) p true=some (pZ,false,cl i w [99] cT sn rs):=fun _=>by
  unfold zi.j3;rw[if_pos rfl]
  rfl
 have j12f:zi.j12 (cl i w [99] cT sn rs) p false=some (pZ,false,cl i w [99] cT sn rs):=by
  unfold zi.j12;rw[if_neg (by decide)]
  rfl
 show (if w=0 then _ else if p.fID=i then (if p.fTo=1 then zi.j3 _ p (!decide (p.fFrom=0)) else _) else _)=_
 rw[if_neg hw0]
 split
 · rename_i h1
   split
   · rename_i h2
     by_cases h3:p.fFrom=0
     · have hp':¬ ((w=1∧p.fKind=2)∨(w=2∧p.fKind=4∧p.fVersion=3)):=fun h=>hp ⟨h1,h2,h3,h⟩
       rw[decide_eq_true h3];unfold zi.j3;rw[if_neg (by decide)]
       show (if (decide (w=1)&&decide (p.fKind=2))=true then _ else if w=2 then (if p.fKind=4 then (YD [3] 0).bind fun y=>zi.j12 _ p (decide (p.fVersion=y)) else _) else _)=_
       rw[if_neg (by simp only[qM,decide_eq_true_eq]; exact fun h=>hp' (.inl h))]
       split
       · rename_i h4
         split
         · rename_i h5
           show zi.j12 _ p (decide (p.fVersion=3))=_
           rw[decide_eq_false (fun h=>hp' (.inr ⟨h4,h5,h⟩))];exact j12f
         exact j12f
       exact j12f
     rw[decide_eq_false h3];exact e3 true
   exact e3 true
 exact e3 true
end
section
set_option maxRecDepth 4000
open AM
theorem deaf_end {w i:Int}{sn:GPacket}(hw:w=1∨w=2)(p:GPacket)(b:Bool)(hs:sn.fID=i)(hb:(b=true∧w=2)∨(b=false∧w=1)):
 law23_ClientDeaf.j27 p b (cl i w [99] cT sn none) sn=some true:=by
 unfold law23_ClientDeaf.j27
 split
 · rw[awakeP]; rfl
 rename_i hm
 have hp:¬ (p.fID=i∧p.fTo=1∧p.fFrom=0∧((w=1∧p.fKind=2)∨(w=2∧p.fKind=4∧p.fVersion=3))):=by
  rintro ⟨h1,h2,h3,h4⟩;refine hm ?_;simp only[qM,uj,decide_eq_true_eq,Bool.not_eq_true'];refine⟨⟨⟨by rw[hs]; exact h1,h2⟩,h3⟩,?_⟩
  rcases h4 with ⟨h4,h5⟩|⟨h4,h5,h6⟩
  · rcases hb with ⟨_,h⟩|⟨h,_⟩
    · omega
    exact .inl ⟨h,h5⟩
  rcases hb with ⟨h,_⟩|⟨_,h⟩
  · exact .inr ⟨⟨h,h5⟩,h6⟩
  omega
 rw[cDeaf i w sn none hw p hp,un]
 have ht:xv (cl i w [99] cT sn none)=(sn,true):=by
  unfold xv;rw[if_neg (show ¬ (cl i w [99] cT sn none).fwaits=0 by show ¬ w=0; omega)]
  rfl
 have hr:xx (cl i w [99] cT sn none)=(0,cZ,0,false,cl i w [99] cT sn none):=rfl
 have hwt:yU (cl i w [99] cT sn none)=true:=by
  unfold yU
  show (!decide (w=0))=true
  rw[decide_eq_false (by omega)]; rfl
 simp only[bnd,ht,hr,hwt,pZ,decide_true,qG,qk,if_true,awakeP,un]
theorem law23_ClientDeaf_true (p:GPacket)(b:Bool):law23_ClientDeaf p b=some true:=by
 unfold law23_ClientDeaf;simp only[bnd];have h0:xb 1 0 [3] [wn 2]=some (some (cl 0 0 [] cZ pZ none),0):=cNew;rw[h0,un]
 dsimp only
 split
 · rw[if_pos rfl,awakeP]; rfl
 have h1:zW (cl 0 0 [] cZ pZ none) [99] ⟨3,0,[],[],[]⟩=some (hel 1,0,cl 1 1 [99] cT (hel 1) none):=cCall (by decide) (by decide) _ _ _ _;rw[h1,un,if_pos rfl]
 cases b with
 |false=>
  rw[if_neg (by decide)];exact deaf_end (.inl rfl) p false rfl (.inr ⟨rfl,rfl⟩)
 |true=>
  rw[if_pos rfl];have h2:zi (cl 1 1 [99] cT (hel 1) none) ⟨2,0,1,(hel 1).fID,3,[],0,[]⟩=some (cal 1,true,cl 1 2 [99] cT (cal 1) none):=cAgreed 1 (hel 1) none;rw[h2,un,if_neg (by simp)];exact deaf_end (.inr rfl) p true rfl (.inl ⟨rfl,rfl⟩)
end
section
open Go.ChangeShapes Go.WideShapes Go.ChangeAt Go.RowKit Go.Shelf Go.Lib AM
theorem own : ownKnob Tryz.prog.godebug=none:=by kernel_rfl
theorem laidOut : laidOutB qi=true:=by kernel_rfl
def listed : List (String×DataW Unit):=[("unicode/utf8.acceptRanges",Rows.laid_unicode_utf8_acceptRanges),("unicode/utf8.first",Rows.laid_unicode_utf8_first)]
noncomputable def laidWorld (os:Os):World:=
 let w0:=World.holding qi os ⟨#[],#[],[]⟩
 let put (h:Array Obj) (g:Nat) (cs:Array Value):Array Obj:=h.modify g fun
  |.cells _ t frozen=>.cells cs t frozen
  |o=>o
 let h1:=put w0.heap (utf8Ren.g 3) (Lib.firstTab.map fun z=>Value.int .u8 z).toArray
 let h2:=put h1 (utf8Ren.g 4) ((uw 16).flatMap fun i=>[Value.int .u8 (Lib.accLo i),Value.int .u8 (Lib.accHi i)]).toArray
 { w0 with heap:=h2 }
theorem laid_met (os:Os)(args:Array Value):laidMet qi listed ((laidWorld os).forCall (fun _ _=>0) ⟨#[],args,[]⟩).memory:=
 (LaidIn.of_run (l:=listed) [0,1] 8 (by kernel_rfl) (by kernel_rfl) (by kernel_rfl) (by kernel_rfl)).met
theorem laid_metH (os:Os)(args:Array Value):laidMetH qi listed ((laidWorld os).forCall (fun _ _=>0) ⟨#[],args,[]⟩).memory:=laid_met os args
theorem firstD : Rows.laid_unicode_utf8_first=Lib.firstData:=by kernel_rfl
theorem acceptD : (Rows.laid_unicode_utf8_acceptRanges:DataW Unit)=Lib.acceptData:=by kernel_rfl
theorem u8types : U8Types qi utf8Ren:=⟨Xe.t5,Xe.t119,Xe.t138,Xe.t139⟩
theorem glb_of_laid {W:World}(hL:laidMetH qi listed W):Glb W fun b=>b<W.heap.size:=by
 have h':laidMet qi listed W:=hL;have r1:=Lib.laidMet.reads h' (.tail _ (.head _));have r2:=Lib.laidMet.reads h' (.head _);rw[firstD] at r1;rw[acceptD] at r2;have ht:Lib.Utf8Tabs (utf8Ren.g 3) (utf8Ren.g 4) W:=utf8Tabs_of_readsT u8types ⟨by kernel_rfl,by kernel_rfl,by kernel_rfl,by kernel_rfl,by kernel_rfl,by kernel_rfl,by kernel_rfl⟩ r1 r2;obtain⟨t1,t2⟩:=ht
 have lt:∀ {g o:Nat} {v:Value},W.cell? ⟨g,o,none⟩=some v→g<W.heap.size:=by
  intro g o v h
  refine Nat.lt_of_not_le fun hle=>?_
  unfold World.cell? at h;rw[Array.getElem?_eq_none hle] at h;cases h
 refine⟨fun g vs hm=>?_,fun g vs hm i v hv=>?_⟩
 · rcases uk.1 hm with e|hm
   · cases e; exact lt (t1 0 (by decide))
   rcases uk.1 hm with e|hm
   · cases e; exact lt (t2 0 (by decide)).1
   cases hm
 rcases uk.1 hm with e|hm
 · cases e
   have hi:i<256:=by
    have:=(qR.1 hv).1; simpa using this
   rw[List.getElem?_map,List.getElem?_range hi] at hv;cases hv;exact t1 i hi
 rcases uk.1 hm with e|hm
 · cases e
   have hi:i<32:=by
    have:=(qR.1 hv).1; simpa using this
   rw[List.getElem?_map,List.getElem?_range hi] at hv;cases hv;have h1:=t2 (i / 2) (by omega)
   have:i % 2=0∨i % 2=1:=by omega
   rcases this with h|h
   · have e:2*(i / 2)=i:=by omega
     rw[e] at h1
     simp only[h,if_true]; exact h1.1
   have e:2*(i / 2)+1=i:=by omega
   rw[e] at h1
   simp only[h]; exact h1.2
 cases hm
end
section
namespace AM
open Go.RowKit Go.ChangeShapes Go.WideShapes Go.Deep
section
variable {H:Type} {enc:TypeId×Value→H} {P:Program} {w:World} {base:Nat} {spare:Nat→Bool} {held:Bool}
def OpensS (enc:TypeId×Value→H)(P:Program)(w:World)(base:Nat)(spare:Nat→Bool)(held:Bool)(N:Nat)(t:TypeId)(A:List AV→Prop):Prop:=
 ∀ n cs y,DataW.trod enc P w base spare held n t cs=some y→SizeOf.sizeOf y.1<N→(∀ x∈y.1.weights P t,x≤reachBytes)→∃ avs,avs.length=cs.length∧A avs∧∀ i,i<avs.length→VR (Env.start w) (gc avs i) (cs.getD i undef)
variable {N:Nat}
theorem OpensS.mono {t:TypeId}{A B:List AV→Prop}(h:OpensS enc P w base spare held N t A)(k:∀ l,A l→B l):OpensS enc P w base spare held N t B:=fun n cs y hy hN hs=>by
 obtain⟨avs,h1,h2,h3⟩:=h n cs y hy hN hs;exact⟨avs,h1,k _ h2,h3⟩
theorem OpensS.less {t:TypeId}{A:List AV→Prop}(h:OpensS enc P w base spare held (N+1) t A):OpensS enc P w base spare held N t A:=fun n cs y hy hN hs=>h n cs y hy (by omega) hs
theorem Opens.sized {t:TypeId}{A:List AV→Prop}(h:Opens enc P w base spare held t A):OpensS enc P w base spare held N t A:=fun n cs y hy _ _=>h n cs y hy
theorem opensS_string {t:TypeId}(ht:P.underlying t=some .string):OpensS enc P w base spare held N t fun l=>∃ s,l=[.str s]∧s.length≤reachBytes:=by
 intro n cs y hy _ hs
 obtain⟨m,rfl,hy,hl⟩:=DataW.trod_string ht hy;refine⟨[.str m.data.toList],rfl,⟨_,rfl,?_⟩,fun i hi=>by simp at hi; subst hi; exact .str _ _ rfl⟩;have:=hs m.data.toList.length (by subst hy; simp[DataW.weights])
 simpa using this
def tiles (P:Program):List Field→Nat→Nat→Bool
 |[],o,e=>o==e
 |f::l,o,e=>f.offset==o&&tiles P l (o+P.cellsOf f.type) e
theorem tile {cs:List Value}{A:Nat→List AV→Prop}:∀ (l:List Field) (o k e:Nat),tiles P l o e=true→
 (∀ j f,l[j]?=some f→∃ avs:List AV,avs.length=P.cellsOf f.type∧A (k+j) avs∧∀ i,i<avs.length→VR (Env.start w) (gc avs i) (cs.getD (f.offset+i) undef))→
 ∃ parts:List (List AV),parts.length=l.length∧(∀ j,j<l.length→A (k+j) (parts.getD j []))∧o+parts.flatten.length=e∧∀ i,i<parts.flatten.length→VR (Env.start w) (gc parts.flatten i) (cs.getD (o+i) undef)
 |[],o,k,e,h,_=>⟨[],rfl,(fun j hj=>by simp at hj),by simpa [tiles] using h,(fun i hi=>by simp at hi)⟩
 |f::l,o,k,e,h,hA=>by
  simp only[tiles,qM,beq_iff_eq] at h;obtain⟨avs,a1,a2,a3⟩:=hA 0 f rfl
  obtain⟨parts,p1,p2,p3,p4⟩:=tile l (o+P.cellsOf f.type) (k+1) e h.2 fun j g hg=>by
   obtain⟨x,x1,x2,x3⟩:=hA (j+1) g (by simpa using hg);exact⟨x,x1,by rw[show k+1+j=k+(j+1) by omega]; exact x2,x3⟩
  refine⟨avs::parts,by simp[p1],?_,by rw[List.flatten_cons,qw]; omega,?_⟩
  · intro j hj
    cases j with
    |zero=>simpa using a2
    |succ j=>
     have:=p2 j (by simpa using hj);rw[show k+1+j=k+(j+1) by omega] at this
     simpa using this
  intro i hi
  rw[List.flatten_cons] at hi ⊢
  by_cases hlt:i<avs.length
  · have:=a3 i hlt;rw[h.1] at this;rw[gc,qC,qQ hlt]
    simpa [gc,qC] using this
  rw[qw] at hi;have:=p4 (i-avs.length) (by omega);rw[show o+P.cellsOf f.type+(i-avs.length)=o+i by omega] at this;rw[gc,qC,q7 (by omega)]
  simpa [gc,qC] using this
theorem mem_weightsEach {x:Nat}:∀ {ts:List TypeId} {ds:List (DataW H)} (j:Nat) (t:TypeId) (d:DataW H),ts[j]?=some t→ds[j]?=some d→x∈d.weights P t→x∈DataW.weightsEach P ts ds
 |[],_,j,t,d,h,_,_=>by simp at h
 |_::_,[],j,t,d,_,h,_=>by simp at h
 |t'::ts,d'::ds,j,t,d,ht,hd,hx=>by
  rw[DataW.weightsEach,List.mem_append]
  cases j with
  |zero=>
   simp at ht hd; subst ht hd; exact Or.inl hx
  |succ j=>exact Or.inr (mem_weightsEach j t d (by simpa using ht) (by simpa using hd) hx)
theorem opensS_struct {t:TypeId}{fs:Array Field}(ht:P.underlying t=some (.struct fs))(hC:tiles P fs.toList 0 (P.cellsOf t)=true){A:Nat→List AV→Prop}
 (hA:∀ j f,fs[j]?=some f→OpensS enc P w base spare held N f.type (A j)):OpensS enc P w base spare held (N+1) t fun l=>∃ parts:List (List AV),l=parts.flatten∧parts.length=fs.size∧∀ j,j<fs.size→A j (parts.getD j []):=by
 intro n cs y hy hN hs
 obtain⟨ys,n',_,he,hlen,hyl,hf⟩:=DataW.trod_struct ht hy
 have hends:∀ (l:List Field) (o e:Nat),tiles P l o e=true→o≤e∧∀ (j:Nat) (f:Field),l[j]?=some f→f.offset+P.cellsOf f.type≤e:=by
  intro l
  induction l with
  |nil=>intro o e h; simp[tiles] at h; exact⟨by omega,fun j f h=>by simp at h⟩
  |cons f l ih=>
   intro o e h
   simp only[tiles,qM,beq_iff_eq] at h;obtain⟨h1,h2⟩:=ih _ _ h.2;refine⟨by omega,fun j g hg=>?_⟩
   cases j with
   |zero=>simp at hg; subst hg; omega
   |succ j=>exact h2 j g (by simpa using hg)
 obtain⟨parts,p1,p2,p3,p4⟩:=tile (w:=w) (cs:=cs) (A:=A) fs.toList 0 0 (P.cellsOf t) hC fun j f hj=>by
  have hfj:fs[j]?=some f:=by simpa using hj
  have hlt:j<fs.size:=(Array.getElem?_eq_some_iff.1 hfj).1;have h1:=hf j f hfj;rw[qU (by omega)] at h1;have hend:=(hends _ _ _ hC).2 j f hj;have hm:ys[j]'(by omega)∈ys:=List.getElem_mem _
  have hsz:SizeOf.sizeOf (ys[j]'(by omega)).1<N:=by
   have h2:(ys[j]'(by omega)).1∈ys.map (·.1):=List.mem_map_of_mem hm;have h3:=List.sizeOf_lt_of_mem h2;rw[he] at hN;simp only[DataW.agg.sizeOf_spec] at hN
   omega
  obtain⟨avs,e1,e2,e3⟩:=hA j f hfj _ _ _ h1 hsz fun x hx=>hs x (by
   rw[he,DataW.weights,ht]
   exact mem_weightsEach j f.type _ (by simp[hj]) (by rw[List.getElem?_map,qU (by omega)]; rfl) hx)
  have hl1:avs.length=P.cellsOf f.type:=by rw[e1,uE,List.length_drop]; omega
  refine⟨avs,hl1,by rw[ql]; exact e2,fun i hi=>?_⟩;have h4:=e3 i hi
  have h5:((cs.drop f.offset).take (P.cellsOf f.type)).getD i undef=cs.getD (f.offset+i) undef:=by
   simp only[qC];rw[List.getElem?_take_of_lt (by omega),List.getElem?_drop]
  rw[h5] at h4; exact h4
 refine⟨parts.flatten,by omega,⟨parts,rfl,by simpa using p1,fun j hj=>?_⟩,fun i hi=>?_⟩
 · have:=p2 j (by simpa using hj)
   rwa [ql] at this
 have:=p4 i hi
 rwa [ql] at this
theorem OpensS.agg {t:TypeId}{A:List AV→Prop}(h:∀ N,OpensS enc P w base spare held N t A){vs:Array Value}{d:DataW H}{p:List MemPlace}(hv:DataW.Trod enc P w base spare held t (.agg vs) d p)(hw:∀ x∈d.weights P t,x≤reachBytes):∃ l,A l∧VR (Env.start w) (.agg l) (.agg vs):=by
 obtain⟨n,hn⟩:=hv;obtain⟨avs,e1,e2,e3⟩:=h _ _ _ _ hn (qE _) hw;refine⟨avs,e2,.agg _ _ (by simpa [Value.cells] using e1.symm) fun i hi=>?_⟩;have:=e3 i hi
 simpa [Value.cells,qC,ul] using this
end
end AM
open AM
def in64 (n:Int):Prop := -9223372036854775808≤n∧n<9223372036854775808
theorem wf64 {n:Int}(h:(Lit.int .i64 n).wf=true):in64 n:=by
 simp only[Lit.wf,IntKind.min,IntKind.max,IntKind.signed,IntKind.bits,qM,decide_eq_true_eq,if_true] at h
 unfold in64; omega
section
variable {H:Type} {enc:TypeId×Value→H} {w:World} {base:Nat} {spare:Nat→Bool} {held:Bool} {N:Nat}
theorem ZE : OpensS enc qi w base spare held N 3 fun x=>∃ n,x=[.int .i64 n]∧in64 n:=
 ((opens_int Tryz.underlying3).mono fun x ⟨n,h1,h2⟩=>⟨n,h1,wf64 h2⟩).sized
theorem opens_str : OpensS enc qi w base spare held N 9 fun x=>∃ s,x=[.str s]∧s.length≤140737488351232:=opensS_string Tryz.underlying9
end
end
section
open AM
section
variable {H:Type} {enc:TypeId×Value→H} {w:World} {base:Nat} {spare:Nat→Bool} {held:Bool}
end
end
section
open AM
def okPacket (y:GPacket):Prop:=in64 y.fKind∧in64 y.fFrom∧in64 y.fTo∧in64 y.fID∧in64 y.fVersion∧y.fMethod.length≤140737488351232∧in64 y.fErr∧y.fBody.length≤140737488351232
section
variable {H:Type} {enc:TypeId×Value→H} {w:World} {base:Nat} {spare:Nat→Bool} {held:Bool}
theorem opens_Packet (N:Nat):OpensS enc qi w base spare held N 43 fun x=>∃ y:GPacket,x=encGPacket y∧okPacket y:=by
 refine ((opensS_struct (N:=N) (A:=fun j x=>if j=0 then ∃ z:Int,x=[.int .i64 z]∧in64 z else if j=1 then ∃ z:Int,x=[.int .i64 z]∧in64 z else if j=2 then ∃ z:Int,x=[.int .i64 z]∧in64 z else if j=3 then ∃ z:Int,x=[.int .i64 z]∧in64 z else if j=4 then ∃ z:Int,x=[.int .i64 z]∧in64 z else if j=5 then ∃ z:List UInt8,x=[.str z]∧z.length≤140737488351232 else if j=6 then ∃ z:Int,x=[.int .i64 z]∧in64 z else if j=7 then ∃ z:List UInt8,x=[.str z]∧z.length≤140737488351232 else False) Tryz.underlying43 (by decide +kernel) ?_).mono ?_).less
 · intro j f hf
   match j with
   |0=>cases hf; exact ZE
   |1=>cases hf; exact ZE
   |2=>cases hf; exact ZE
   |3=>cases hf; exact ZE
   |4=>cases hf; exact ZE
   |5=>cases hf; exact opens_str
   |6=>cases hf; exact ZE
   |7=>cases hf; exact opens_str
   |j+8=>simp at hf
 rintro x ⟨parts,rfl,hl,hx⟩;obtain⟨a0,e0,w0⟩:=hx 0 (by decide);obtain⟨a1,e1,w1⟩:=hx 1 (by decide);obtain⟨a2,e2,w2⟩:=hx 2 (by decide);obtain⟨a3,e3,w3⟩:=hx 3 (by decide);obtain⟨a4,e4,w4⟩:=hx 4 (by decide);obtain⟨a5,e5,w5⟩:=hx 5 (by decide);obtain⟨a6,e6,w6⟩:=hx 6 (by decide);obtain⟨a7,e7,w7⟩:=hx 7 (by decide);refine⟨⟨a0,a1,a2,a3,a4,a5,a6,a7⟩,?_,w0,w1,w2,w3,w4,w5,w6,w7⟩
 match parts,hl with
 |[p0,p1,p2,p3,p4,p5,p6,p7],_=>
  simp only[List.getD_cons_zero,List.getD_cons_succ] at e0 e1 e2 e3 e4 e5 e6 e7
  subst e0 e1 e2 e3 e4 e5 e6 e7; rfl
end
end
end Go.Proofs.YtaahlckibpiphaaGreatDoor
