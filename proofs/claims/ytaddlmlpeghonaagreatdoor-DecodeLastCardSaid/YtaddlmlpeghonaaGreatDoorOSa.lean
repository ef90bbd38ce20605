/- Parts of the proof, cut down to what it needs. -/
import Derived.Test.YtaddlmlpeghonaaGreatDoorOFB
set_option linter.constructorNameAsVariable false
set_option linter.unusedSimpArgs false
set_option linter.unusedVariables false
namespace Go.Proofs.YtaddlmlpeghonaaGreatDoor
open _root_.List renaming length → qb, flatMap → qf, length_append → qi, length_cons → qk, length_nil → qn, append_assoc → qp, mem_cons_of_mem → qq, mem_cons_self → qr, getD_eq_getElem?_getD → qv, append_nil → qw, map_nil → qx, nil_append → qz, cons_append → qA, drop_zero → qD, length_eq_zero_iff → qE, length_singleton → qF, map_cons → qG, map_append → qH, flatMap_append → qI, mem_cons → qJ, flatMap_cons → qM, replicate → qQ, getElem?_append_left → qT, getElem?_eq_getElem → qV, getElem?_eq_some_iff → q1, length_map → q2, flatMap_nil → q3, all_cons → q5, range_zero → q7, getElem?_set_ne → q9, getElem?_append_right → ua, all_eq_true → ub, all_nil → ud, range_succ → ug, take_of_length_le → uh, getElem?_eq_none → ui, take_length → uj, take_append_drop → um, mem_append → un, pairwise_cons → uo, mem_singleton → uq, mem_append_right → ut, getElem?_set_self → uu, filter_cons → ux, range → uy, mem_map → uz, set_cons_zero → uA, getElem?_cons_zero → uE, getElem?_cons_succ → uF, toList_toArray → uG, length_take → uH, length_drop → uI, set_cons_succ → uQ, drop_eq_getElem_cons → uT, mem_append_left → uV, eq_nil_of_length_eq_zero → uZ, nodup_cons → u0, drop_drop → u6, getElem?_toArray → u9, map_congr_left → vg, ofFn → vn
open _root_.Option renaming bind_some → qg, map_some → uB, getD_some → uS
open _root_.Nat renaming reduceEqDiff → qa, reduceLT → qc, reduceAdd → qd, reduceLeDiff → qe, reduceMul → ql, reduceSub → qm, zero_add → qt, le_refl → qu, lt_succ_self → qy, mul_le_mul_right → qY, lt_of_lt_of_le → ue, reduceMod → ul, zero_le → ur, le_trans → uv, zero_mul → uC, sub_self → uM, add_assoc → uN, sub_zero → uR, add_mul → uW, succ_mul → uX, add_zero → uY, lt_or_ge → u4, le_of_not_lt → ve
open _root_.Bool renaming and_eq_true → qo, not_false → qC, not_true → qK, and_true → qL, or_true → qO, and_false → qR, or_eq_true → qS, or_false → qU, and_self → qX, false_eq_true → qZ, not_eq_true' → uD, false_ne_true → uJ, true_and → uK, false_or → uL, true_or → u3
open _root_.Int renaming toNat → qN, toNat_natCast → qW, le_refl → u7, fdiv → vj, reduceEq → vo, tmod_eq_emod_of_nonneg → vp
open _root_.BitVec renaming ofInt → qB, toNat → uk
open _root_.Array renaming length_toList → uc, getD_eq_getD_getElem? → uw, toList_map → uO, getElem?_eq_getElem → uP, getElem?_setIfInBounds_ne → uU, getElem?_modify → u5
open _root_.UInt8 renaming ofNat → uf
open Result renaming andThen_ok → qj
open Sem renaming run_bind → qs, run_pure → qP
open _root_.Go.Proofs.Tryz renaming prog → qh
section
set_option maxRecDepth 4000
set_option maxHeartbeats 1000000
open AM
def yK.body (xn:GTree→Option Bool)(zV:GTree→Option Bool)(a0:GTree):Option Bool:=
 (if a0.fKind=1 then some (((decide (a0.fS=[]))&&(decide ((qb a0.fEntries:Int)=0)))&&(decide ((qb a0.fRest:Int)=0))) else (if a0.fKind=2 then some (((decide (a0.fN=0))&&(decide ((qb a0.fEntries:Int)=0)))&&(decide ((qb a0.fRest:Int)=0))) else (if a0.fKind=3 then (if ((decide (a0.fN=0))&&(decide (a0.fS=[])))=true then (xn a0).bind fun r16=>some r16 else some false).bind fun c16=>(if c16=true then (yq a0).bind fun r18=>some r18 else some false).bind fun c18=>some c18 else some false)))
theorem yK.step (xn:GTree→Option Bool)(zV:GTree→Option Bool)(Zx:∀ (a0:GTree) (r:Bool),xn a0=some r→ACalls qh 153 [.agg (cellsGTree a0)] [] (fun r' _=>r'=.bool r))(ZY:∀ (a0:GTree) (r:Bool),zV a0=some r→ACalls qh 132 [.agg (cellsGTree a0)] [] (fun r' _=>r'=.bool r))(a0:GTree)(r:Bool)(h:yK.body xn zV a0=some r):ACalls qh 132 [.agg (cellsGTree a0)] [] (fun r' _=>r'=.bool r):=by
 have ev_value_entries:=fun a0 r h σ=>(Zx a0 r h).c σ
 have ev_value_right:=fun a0 r h σ=>(ZY a0 r h).c σ
 refine zi (rs:=[.tmp 2]) tok Tryz.func132 rfl Tryz.ntmps132 rfl Tryz.call132 (by simp) ?_;refine zm [(0,.agg (cellsGTree a0))] ⟨rfl,trivial⟩ ?_;unfold yK.body at h
 refine rg tok [1] fun K hK=>?_
 simp only[go_sem,qc,qa,qd,reduceCtorEq,cellsGTree];apply hK
 refine za fun Z1 hZ1=>?_
 refine rgN [1,4] ?_;apply ze;refine rgN [1,4,5] ?_;refine zD rfl (fun hc2=>?_) (fun hc2=>?_)
 · rw[if_pos hc2] at h;have t3:=eq_true hc2
   refine rc [2] fun K hK=>?_
   refine zj tok 4 ?_;simp only[go_sem,qc,qa,qd,t3];refine zh 5 (fun L τ=>L=[(1,.op 0 0 0),(15,.bool ((decide (a0.fS=[]))&&(decide ((qb a0.fEntries:Int)=0))))]∧τ=[.cells 0 (cellsGTree a0)]) ?_ ?_
   · refine yx 10 rfl (fun hg10=>?_) (fun hg10=>?_)
     · have t4:=eq_true hg10;refine rnN 5 ?_;refine zb ⟨rfl,_,_,⟨rfl,rfl⟩,.p t4⟩
     have t5:=eq_false hg10;refine rnN 5 ?_;refine zb ⟨rfl,_,_,⟨rfl,rfl⟩,.p t5⟩
   rintro _ _ ⟨rfl,rfl⟩;refine rnN 1 ?_;refine zh 5 (fun L τ=>L=[(21,.bool (((decide (a0.fS=[]))&&(decide ((qb a0.fEntries:Int)=0)))&&(decide ((qb a0.fRest:Int)=0))))]∧τ=[.cells 0 (cellsGTree a0)]) ?_ ?_
   · refine zK (b:=((decide (a0.fS=[]))&&(decide ((qb a0.fEntries:Int)=0)))) 16 rfl (fun hg16=>?_) (fun hg16=>?_)
     · refine rnN 5 ?_;refine zb ⟨rfl,_,_,⟨rfl,rfl⟩,.b hg16⟩
     refine rnN 5 ?_;refine zb ⟨rfl,_,_,⟨rfl,rfl⟩,.b hg16⟩
   rintro _ _ ⟨rfl,rfl⟩;refine rnN 1 ?_;refine nkN hK ?_;cases h;exact rtA
 rw[if_neg hc2] at h;have t6:=eq_false hc2
 refine rg tok [1,4,22] fun K hK=>?_
 simp only[go_sem,qc,qa,t6];apply hK
 refine zD rfl (fun hc7=>?_) (fun hc7=>?_)
 · rw[if_pos hc7] at h;have t8:=eq_true hc7
   refine rc [2] fun K hK=>?_
   refine zj tok 4 ?_;simp only[go_sem,qc,qa,qd,t8];refine zh 5 (fun L τ=>L=[(1,.op 0 0 0),(32,.bool ((decide (a0.fN=0))&&(decide ((qb a0.fEntries:Int)=0))))]∧τ=[.cells 0 (cellsGTree a0)]) ?_ ?_
   · refine yx 27 rfl (fun hg27=>?_) (fun hg27=>?_)
     · have t9:=eq_true hg27;refine rnN 5 ?_;refine zb ⟨rfl,_,_,⟨rfl,rfl⟩,.p t9⟩
     have t10:=eq_false hg27;refine rnN 5 ?_;refine zb ⟨rfl,_,_,⟨rfl,rfl⟩,.p t10⟩
   rintro _ _ ⟨rfl,rfl⟩;refine rnN 1 ?_;refine zh 5 (fun L τ=>L=[(38,.bool (((decide (a0.fN=0))&&(decide ((qb a0.fEntries:Int)=0)))&&(decide ((qb a0.fRest:Int)=0))))]∧τ=[.cells 0 (cellsGTree a0)]) ?_ ?_
   · refine zK (b:=((decide (a0.fN=0))&&(decide ((qb a0.fEntries:Int)=0)))) 33 rfl (fun hg33=>?_) (fun hg33=>?_)
     · refine rnN 5 ?_;refine zb ⟨rfl,_,_,⟨rfl,rfl⟩,.b hg33⟩
     refine rnN 5 ?_;refine zb ⟨rfl,_,_,⟨rfl,rfl⟩,.b hg33⟩
   rintro _ _ ⟨rfl,rfl⟩;refine rnN 1 ?_;refine nkN hK ?_;cases h;exact rtA
 rw[if_neg hc7] at h;have t11:=eq_false hc7
 refine rg tok [1,39] fun K hK=>?_
 simp only[go_sem,qc,qa,t11];apply hK
 refine zD rfl (fun hc12=>?_) (fun hc12=>?_)
 · rw[if_pos hc12] at h;have t13:=eq_true hc12
   refine rc [2] fun K hK=>?_
   refine zj tok 4 ?_;simp only[go_sem,qc,qa,qd,t13];refine zh 4 (fun L τ=>L=[(1,.op 0 0 0),(48,.bool ((decide (a0.fN=0))&&(decide (a0.fS=[]))))]∧τ=[.cells 0 (cellsGTree a0)]) ?_ ?_
   · refine yx 44 rfl (fun hg44=>?_) (fun hg44=>?_)
     · have t14:=eq_true hg44;refine rnN 4 ?_;refine zb ⟨rfl,_,_,⟨rfl,rfl⟩,.p t14⟩
     have t15:=eq_false hg44;refine rnN 4 ?_;refine zb ⟨rfl,_,_,⟨rfl,rfl⟩,.p t15⟩
   rintro _ _ ⟨rfl,rfl⟩;refine rnN 1 ?_;obtain⟨c16,hc16,h⟩:=bind_some h;refine zh 3 (fun L τ=>L=[(1,.op 0 0 0),(52,.bool c16)]∧τ=[.cells 0 (cellsGTree a0)]) ?_ ?_
   · refine zK (b:=((decide (a0.fN=0))&&(decide (a0.fS=[])))) 49 rfl (fun hg49=>?_) (fun hg49=>?_)
     · rw[if_pos hg49] at hc16;obtain⟨r17,hr17,hc16⟩:=bind_some hc16;refine rnN 1 ?_;refine clN rfl rfl rfl (ev_value_entries a0 r17 hr17 _) ?_;refine rnN 1 ?_;cases hc16;refine zb ⟨rfl,_,_,⟨rfl,rfl⟩,.b hg49⟩
     rw[xD hg49] at hc16;refine rnN 3 ?_;cases hc16;refine zb ⟨rfl,_,_,⟨rfl,rfl⟩,.b hg49⟩
   rintro _ _ ⟨rfl,rfl⟩;refine rnN 1 ?_;obtain⟨c18,hc18,h⟩:=bind_some h;refine zh 3 (fun L τ=>L=[(56,.bool c18)]∧τ=[.cells 0 (cellsGTree a0)]) ?_ ?_
   · refine zK (b:=c16) 53 rfl (fun hg53=>?_) (fun hg53=>?_)
     · rw[if_pos hg53] at hc18;obtain⟨r19,hr19,hc18⟩:=bind_some hc18;refine rnN 1 ?_;refine clN rfl rfl rfl (yq.ev a0 r19 hr19 _) ?_;refine rnN 1 ?_;cases hc18;refine zb ⟨rfl,_,_,⟨rfl,rfl⟩,.b hg53⟩
     rw[xD hg53] at hc18;refine rnN 3 ?_;cases hc18;refine zb ⟨rfl,_,_,⟨rfl,rfl⟩,.b hg53⟩
   rintro _ _ ⟨rfl,rfl⟩;refine rnN 1 ?_;refine nkN hK ?_;cases h;exact rtA
 rw[if_neg hc12] at h;have t20:=eq_false hc12;apply zd;apply hZ1
 refine rg tok [2] fun K hK=>?_
 simp only[go_sem,qc,qa,t20];apply hK
 cases h;exact rtA
mutual
def zq : Nat→GTree→Option Bool
 |0,_=>none
 |k+1,a0=>zq.body (zq k) (yK k) a0
def yK : Nat→GTree→Option Bool
 |0,_=>none
 |k+1,a0=>yK.body (zq k) (yK k) a0
end
theorem zq.all (k:Nat):(∀ (a0:GTree) (r:Bool),zq k a0=some r→ACalls qh 153 [.agg (cellsGTree a0)] [] (fun r' _=>r'=.bool r))∧(∀ (a0:GTree) (r:Bool),yK k a0=some r→ACalls qh 132 [.agg (cellsGTree a0)] [] (fun r' _=>r'=.bool r)):=by
 induction k with
 |zero=>exact⟨(fun a0 r h=>by simp only[zq] at h; cases h),(fun a0 r h=>by simp only[yK] at h; cases h)⟩
 |succ k ih=>exact⟨(fun a0 r h=>zq.step _ _ ih.1 ih.2 a0 r (by simpa only [zq] using h)),(fun a0 r h=>yK.step _ _ ih.1 ih.2 a0 r (by simpa only [yK] using h))⟩
theorem yK.ev (k:Nat)(a0:GTree)(r:Bool)(h:yK k a0=some r)(σ:Store):ACalls qh 132 [.agg (cellsGTree a0)] σ (fun r' σ'=>r'=.bool r∧σ'=σ):=
 ((zq.all k).2 a0 r h).c σ
def wi (a0:GTree):Option Bool:=
 (wh a0).bind fun r1=>(if r1≤10 then (yK rounds a0).bind fun r2=>some r2 else some false).bind fun c2=>some c2
theorem wi.ok (a0:GTree)(r:Bool)(h:wi a0=some r):ACalls qh 96 [.agg (cellsGTree a0)] [] (fun r' _=>r'=.bool r):=by
 refine zi (rs:=[.tmp 2]) tok Tryz.func96 rfl Tryz.ntmps96 rfl Tryz.call96 (by simp) ?_;refine zm [(0,.agg (cellsGTree a0))] ⟨rfl,trivial⟩ ?_;unfold wi at h
 refine rg tok [1] fun K hK=>?_
 simp only[go_sem,qc,qa,qd,reduceCtorEq,cellsGTree];apply hK
 refine rc [2] fun K hK=>?_
 obtain⟨r1,hr1,h⟩:=bind_some h;refine rnN 1 ?_;refine clN rfl rfl rfl (wh.ev a0 r1 hr1 _) ?_;refine rnN 2 ?_;obtain⟨c2,hc2,h⟩:=bind_some h;refine zh 3 (fun L τ=>L=[(9,.bool c2)]∧τ=[.cells 0 (cellsGTree a0)]) ?_ ?_
 · refine yx 6 rfl (fun hg6=>?_) (fun hg6=>?_)
   · have t3:=eq_true hg6;rw[if_pos hg6] at hc2;obtain⟨r4,hr4,hc2⟩:=bind_some hc2;refine rnN 1 ?_;refine clN rfl rfl rfl (yK.ev rounds a0 r4 hr4 _) ?_;refine rnN 1 ?_;cases hc2;refine zb ⟨rfl,_,_,⟨rfl,rfl⟩,.p t3⟩
   have t5:=eq_false hg6;rw[if_neg hg6] at hc2;refine rnN 3 ?_;cases hc2;refine zb ⟨rfl,_,_,⟨rfl,rfl⟩,.p t5⟩
 rintro _ _ ⟨rfl,rfl⟩;refine rnN 1 ?_;refine nkN hK ?_;cases h;exact rtA
theorem wi.ev (a0:GTree)(r:Bool)(h:wi a0=some r)(σ:Store):ACalls qh 96 [.agg (cellsGTree a0)] σ (fun r' σ'=>r'=.bool r∧σ'=σ):=
 (wi.ok a0 r h).c σ
def Zu (a0:Int):GValueValue:=
 (GValueValue.num a0)
theorem Zu.ok (a0:Int)(r:GValueValue)(h:Zu a0=r):ACalls qh 133 [.int .i64 a0] [] (fun r' _=>r'=.agg (encGValueValue r)):=by
 refine zi (rs:=[.cell 2 110]) tok Tryz.func133 rfl Tryz.ntmps133 rfl Tryz.call133 (by simp) ?_;refine zm [(0,.int .i64 a0)] ⟨rfl,trivial⟩ ?_;unfold Zu at h;refine rgN [0,2] ?_;refine rgN [2] ?_;cases h;exact rtA
theorem Zu.ev (a0:Int)(r:GValueValue)(h:Zu a0=r)(σ:Store):ACalls qh 133 [.int .i64 a0] σ (fun r' σ'=>r'=.agg (encGValueValue r)∧σ'=σ):=
 (Zu.ok a0 r h).c σ
def Zt (a0:List UInt8):GValueValue:=
 (GValueValue.str a0)
theorem Zt.ok (a0:List UInt8)(r:GValueValue)(h:Zt a0=r):ACalls qh 134 [.str a0] [] (fun r' _=>r'=.agg (encGValueValue r)):=by
 refine zi (rs:=[.cell 2 110]) tok Tryz.func134 rfl Tryz.ntmps134 rfl Tryz.call134 (by simp) ?_;refine zm [(0,.str a0)] ⟨rfl,trivial⟩ ?_;unfold Zt at h;refine rgN [0,2] ?_;refine rgN [2] ?_;cases h;exact rtA
theorem Zt.ev (a0:List UInt8)(r:GValueValue)(h:Zt a0=r)(σ:Store):ACalls qh 134 [.str a0] σ (fun r' σ'=>r'=.agg (encGValueValue r)∧σ'=σ):=
 (Zt.ok a0 r h).c σ
def yD (a0:List GRaw):Option (List GRaw):=(Y5 (qb a0) 40).bind fun _=>some a0
theorem yD.ok (a0 r:List GRaw)(h:yD a0=some r):ACalls qh 135 [.ds true (qf encGRaw a0) (qb a0) false] [] (fun r' _=>r'=.ds true (qf encGRaw r) (qb r) false):=by
 obtain⟨_u,hu,h⟩:=bind_some h;have gu:=yA hu;cases h
 have f1:=fun nl tt σ=>xZ E28.len a0 nl tt σ
 have f2:=zA E28.len a0;have f3:=Ze encGRaw a0
 have fin:∀ σ id ver tt,Store.at σ id ver=some (qf encGRaw a0)→tell σ [] true 12 (.os true 4 id ver 0 (qb a0) tt)=.ds true (qf encGRaw a0) (qb a0) false:=by
  intro σ id ver tt hs
  simp only[wZ,wP,hs,qD,qt];rw[if_pos (by rw[f2]; exact qu _),← f2,uj,zE]
 refine zi (rs:=[.tmp 2]) tok Tryz.func135 rfl Tryz.ntmps135 rfl Tryz.call135 (by simp) ?_;refine zm [(0,.ds true (qf encGRaw a0) (qb a0) false)] ⟨rfl,trivial⟩ ?_;refine rgN [0] ?_
 refine za fun Z1 hZ1=>?_
 refine rc [0,4] fun K hK=>?_
 refine rnN 1 ?_
 refine vai tok rfl rfl rfl rfl rfl rfl fun b hnil=>?_
 have hb:b=true→a0=[]:=fun hb=>by
  have:=hnil hb;simp only[yp,go_sem,reduceCtorEq] at this;exact uZ this
 clear hnil
 refine nkN hK ?_;cases b
 · refine zw rfl ?_;apply zd;apply hZ1
   refine rg tok [2] fun K hK=>?_
   by_cases h0:qb a0=0
   · obtain rfl:=uZ h0;simp only[go_sem,qc,qa,qd,reduceCtorEq,zQ,z6,q7,ur,ym,zW,yp,ya,q3,qn,uC,ud];apply hK
     apply yw;simp only[Zv,yP,yZ,xJ,exists_eq_left',go_sem]
     first|rfl|(simp only[go_sem,qc,qe,qa,qd,ql,qm,reduceIte,reduceCtorEq,wZ,wP,qx]<;>rfl)
   have h1:=eq_false h0;simp only[go_sem,qc,qa,qd,reduceCtorEq,zQ,z6,q7,ur,ym,zW,yp,f1,f3,h1,gu,yT,qx,qz,uC];apply hK
   apply yw;simp only[Zv,yP,yZ,xJ,exists_eq_left',go_sem];exact fin _ _ _ _ (by simp only[Store.at_hd,Store.at_tl,if_true])
 obtain rfl:=hb rfl;refine zz rfl ?_;refine rgN [2] ?_;apply yw;simp only[Zv,yP,yZ,xJ,exists_eq_left',go_sem]
 first|rfl|(simp only[go_sem,qc,qe,qa,qd,ql,qm,reduceIte,reduceCtorEq,YI,qx,qO,qK,qR]<;>rfl)
theorem yD.own (a0 r:List GRaw)(h:yD a0=some r):ACalls qh 135 [.ds true (qf encGRaw a0) (qb a0) false] [] (fun r' σ'=>r'=.os true 4 0 0 0 (qb r) false∧σ'=[.cells 0 (qf encGRaw r)]):=by
 obtain⟨_u,hu,h⟩:=bind_some h;have gu:=yA hu;cases h
 have f1:=fun nl tt σ=>xZ E28.len a0 nl tt σ
 have f2:=zA E28.len a0;have f3:=Ze encGRaw a0;refine vbP (rs:=[.tmp 2]) tok Tryz.func135 rfl Tryz.ntmps135 rfl Tryz.call135 (by simp) ?_;refine zm [(0,.ds true (qf encGRaw a0) (qb a0) false)] ⟨rfl,trivial⟩ ?_;refine rgN [0] ?_
 refine za fun Z1 hZ1=>?_
 refine rc [0,4] fun K hK=>?_
 refine rnN 1 ?_
 refine vai tok rfl rfl rfl rfl rfl rfl fun b hnil=>?_
 have hb:b=true→a0=[]:=fun hb=>by
  have:=hnil hb;simp only[yp,go_sem,reduceCtorEq] at this;exact uZ this
 clear hnil
 refine nkN hK ?_;cases b
 · refine zw rfl ?_;apply zd;apply hZ1
   refine rg tok [2] fun K hK=>?_
   by_cases h0:qb a0=0
   · obtain rfl:=uZ h0;simp only[go_sem,qc,qa,qd,reduceCtorEq,zQ,z6,q7,ur,ym,zW,yp,ya,q3,qn,uC,ud];apply hK
     apply yw;simp only[Zv,yP,yZ,xJ,exists_eq_left',go_sem];refine .inl ⟨0,true,by simp,?_,?_⟩
     · first|rfl|(simp only[go_sem,qc,qe,qa,qd,ql,qm,reduceIte,reduceCtorEq,wZ,wS,if_true]<;>rfl)
     first|rfl|(simp only[go_sem,qc,qe,qa,qd,ql,qm,reduceIte,reduceCtorEq,Yg,vbd,ZF,Yi,Yh,qx]<;>rfl)
   have h1:=eq_false h0;simp only[go_sem,qc,qa,qd,reduceCtorEq,zQ,z6,q7,ur,ym,zW,yp,f1,f3,h1,gu,yT,qx,qz,uC];apply hK
   apply yw;simp only[Zv,yP,yZ,xJ,exists_eq_left',go_sem,qd];refine .inl ⟨1,false,by simp,?_,?_⟩
   · first|rfl|(simp only[go_sem,qc,qe,qa,qd,ql,qm,reduceIte,reduceCtorEq,wZ,wS,if_true]<;>rfl)
   first|rfl|(simp only[go_sem,Yg,ZF,Yi,Yh,zE]<;>rfl)
 obtain rfl:=hb rfl;refine zz rfl ?_;refine rgN [2] ?_;apply yw;simp only[Zv,yP,yZ,xJ,exists_eq_left',go_sem];refine .inr ?_
 first|rfl|(simp only[go_sem,qc,qe,qa,qd,ql,qm,reduceIte,reduceCtorEq,YI,qx,qO,qU,qC,qL]<;>rfl)
theorem yD.ev (a0 r:List GRaw)(h:yD a0=some r)(σ:Store):ACalls qh 135 [.ds true (qf encGRaw a0) (qb a0) false] σ (fun r' σ'=>r'=.ds true (qf encGRaw r) (qb r) false∧σ'=σ):=
 (yD.ok a0 r h).pureAt (by simp only[AV.canon,canonL,canon_all,qX,qC,u3]) (by simp only[AV.canon,canon_all,qX,qC,u3]) σ
def zH.l35 (yg:GTree→Option GValueValue)(l14:List GValueEntry)(x16:Int)(rec20:List GValueEntry→Int→Option GValueValue)(y25:GEntry):List GTree→Int→List GValueValue→Option GValueValue
 |[],x31,l29=>(Y5 (qb l14+1) 32).bind fun _u37=>(rec20 (l14++[(⟨y25.fTag,l29⟩:GValueEntry)]) (IntKind.i64.wrap (x16+1)))
 |y35::q35,x31,l29=>(yg y35).bind fun r43=>(Y5 (qb l29+1) 16).bind fun _u45=>((zH.l35 yg l14 x16 rec20 y25 q35) (x31+1) (l29++[r43]))
def zH.l20 (yg:GTree→Option GValueValue)(a0:GTree)(r12:List GRaw):Nat→List GValueEntry→Int→Option GValueValue
 |0,_,_=>none
 |k20+1,l14,x16=>(if x16<(qb a0.fEntries:Int) then (wV a0.fEntries x16).bind fun y25=>(zH.l35 yg l14 x16 (zH.l20 yg a0 r12 k20) y25 y25.fTrees 0 ([]:List GValueValue)) else some (GValueValue.node l14 r12))
def zH.l62 (yg:GTree→Option GValueValue)(a0:GTree)(r12:List GRaw)(y52:GEntry):List GTree→Int→List GValueValue→Option GValueValue
 |[],x58,l56=>(zH.l20 yg a0 r12 rounds [(⟨y52.fTag,l56⟩:GValueEntry)] (IntKind.i64.wrap (0+1)))
 |y62::q62,x58,l56=>(yg y62).bind fun r68=>(Y5 (qb l56+1) 16).bind fun _u70=>((zH.l62 yg a0 r12 y52 q62) (x58+1) (l56++[r68]))
def zH.body (yg:GTree→Option GValueValue)(a0:GTree):Option GValueValue:=
 (if a0.fKind=1 then bnd (Zu a0.fN) fun r4=>some r4 else (if a0.fKind=2 then bnd (Zt a0.fS) fun r9=>some r9 else (yD a0.fRest).bind fun r12=>(if 0<(qb a0.fEntries:Int) then (wV a0.fEntries 0).bind fun y52=>(zH.l62 yg a0 r12 y52 y52.fTrees 0 ([]:List GValueValue)) else some (GValueValue.node ([]:List GValueEntry) r12))))
theorem zH.step (yg:GTree→Option GValueValue)(ih_value_made:∀ (a0:GTree) (r:GValueValue),yg a0=some r→ACalls qh 97 [.agg (cellsGTree a0)] [] (fun r' _=>r'=.agg (encGValueValue r)))(a0:GTree)(r:GValueValue)(h:zH.body yg a0=some r):ACalls qh 97 [.agg (cellsGTree a0)] [] (fun r' _=>r'=.agg (encGValueValue r)):=by
 have ev_value_made:=fun a0 r h σ=>(ih_value_made a0 r h).c σ
 refine zi (rs:=[.cell 2 110]) tok Tryz.func97 rfl Tryz.ntmps97 rfl Tryz.call97 (by simp) ?_;refine zm [(0,.agg (cellsGTree a0))] ⟨rfl,trivial⟩ ?_;unfold zH.body at h
 refine rg tok [1,2] fun K hK=>?_
 simp only[go_sem,qc,qa,qd,reduceCtorEq,cellsGTree];apply hK
 refine za fun Z1 hZ1=>?_
 refine rgN [1,2,10] ?_;apply ze;refine rgN [1,2,10,11] ?_;refine zD rfl (fun hc2=>?_) (fun hc2=>?_)
 · rw[if_pos hc2] at h;have t3:=eq_true hc2
   refine rc [2] fun K hK=>?_
   obtain⟨r4,hr4,h⟩:=zR h;refine zj tok 2 ?_;simp only[go_sem,qc,qa,qd,t3];refine clN rfl rfl rfl (Zu.ev a0.fN r4 hr4 _) ?_;have f5:=Zk r4;unfold AV.one at f5;refine zj tok 1 ?_;simp only[go_sem,qe,qa,encGValueValue,f5];refine nkN hK ?_;cases h;exact rtA
 rw[if_neg hc2] at h;have t6:=eq_false hc2
 refine rg tok [1,2,16] fun K hK=>?_
 simp only[go_sem,qc,qa,t6];apply hK
 refine zD rfl (fun hc7=>?_) (fun hc7=>?_)
 · rw[if_pos hc7] at h;have t8:=eq_true hc7
   refine rc [2] fun K hK=>?_
   obtain⟨r9,hr9,h⟩:=zR h;refine zj tok 2 ?_;simp only[go_sem,qc,qa,qd,t8];refine clN rfl rfl rfl (Zt.ev a0.fS r9 hr9 _) ?_;have f10:=Zk r9;unfold AV.one at f10;refine zj tok 1 ?_;simp only[go_sem,qe,qa,encGValueValue,f10];refine nkN hK ?_;cases h;exact rtA
 rw[if_neg hc7] at h;have t11:=eq_false hc7;apply zd;apply hZ1
 refine rc [1,2,3] fun K hK=>?_
 obtain⟨r12,hr12,h⟩:=bind_some h;refine zj tok 2 ?_;simp only[go_sem,qc,qa,qd,t11];refine clN rfl rfl rfl (yD.ev a0.fRest r12 hr12 _) ?_;refine rnN 3 ?_;refine nkN hK ?_
 refine za fun Z13 hZ13=>?_
 refine rgN [2,3,27,28,29] ?_;apply ze;refine awp_loopS1 (fun m L τ=>∃ (k20:Nat) (l14:List GValueEntry) (x16:Int) (v15:Nat),m=0+k20∧L=[(2,.op 0 0 0),(3,.op 1 0 0),(27,.ds true (qf encGEntry a0.fEntries) (qb a0.fEntries) false),(28,.int .i64 (qb a0.fEntries:Int)),(29,.int .i64 x16)]∧τ=[.cells 0 [.nilI],.cells 0 [.os true 2 2 v15 0 (qb l14) false,.ds true (qf encGRaw r12) (qb r12) false],.cells v15 (qf encGValueEntry l14)]∧zH.l20 yg a0 r12 k20 l14 x16=some r) (rounds+1) ?_ ?_
 · refine rgN [2,3,27,28,29,30] ?_
   refine za fun Z48 hZ48=>?_
   refine zD rfl (fun hc49=>?_) (fun hc49=>?_)
   · rw[if_pos hc49] at h;have t50:=eq_true hc49;apply zd;apply hZ48
     refine za fun Z51 hZ51=>?_
     apply ze;obtain⟨y52,hy52,h⟩:=bind_some h;have f53:=E27.idxS hy52;have f54:=E27.loadS rfl rfl hy52
     refine rg tok [2,3,5,27,28,29] fun K hK=>?_
     simp only[go_sem,qc,qe,qa,qd,cellsGEntry,yy,t50,f53,f54];apply hK
     refine rgN [2,3,5,6,27,28,29] ?_;refine ZM 4 1 1 rfl (by simp) rfl (L:=[(2,.op 1 0 0),(3,.op 2 0 0),(5,.op 3 0 0),(6,.op 4 0 0),(27,.ds true (qf encGEntry a0.fEntries) (qb a0.fEntries) false),(28,.int .i64 (qb a0.fEntries:Int)),(29,.int .i64 0)]) (τ:=[.cells 0 (cellsGTree a0),.cells 0 [.nilI],.cells 0 [.ds true [] 0 true,.ds true (qf encGRaw r12) (qb r12) false],.cells 0 (cellsGEntry y52),.cells 0 [.int .i64 y52.fTag,.os true 1 5 0 0 (qb ([]:List GValueValue)) false],.cells 0 (qf encGValueValue ([]:List GValueValue))]) .s ?_
     refine za fun Z55 hZ55=>?_
     refine rgN [2,3,6,27,28,29,37,38,39] ?_;apply ze
     refine xb 37 fun hb62=>?_
     replace hb62:qb y52.fTrees≤9223372036854775807:=hb62.1;refine zC (fun m L τ=>∃ (p62 q62:List GTree) (x58:Int) (l56:List GValueValue) (v57:Nat),m=qb q62∧L=[(2,.op 0 0 0),(3,.op 1 0 0),(6,.op 2 0 0),(27,.ds true (qf encGEntry a0.fEntries) (qb a0.fEntries) false),(28,.int .i64 (qb a0.fEntries:Int)),(29,.int .i64 0),(37,.ds true (qf encGTree y52.fTrees) (qb y52.fTrees) false),(38,.int .i64 (qb y52.fTrees:Int)),(39,.int .i64 x58)]∧τ=[.cells 0 [.nilI],.cells 0 [.ds true [] 0 true,.ds true (qf encGRaw r12) (qb r12) false],.cells 0 [.int .i64 y52.fTag,.os true 1 3 v57 0 (qb l56) false],.cells v57 (qf encGValueValue l56)]∧y52.fTrees=p62++q62∧x58=(qb p62:Int)∧zH.l62 yg a0 r12 y52 q62 x58 l56=some r) _ ⟨[],y52.fTrees,0,([]:List GValueValue),0,rfl,rfl,rfl,rfl,rfl,h⟩ (.t [1,2,4,5] false) ?_;rintro m L τ ⟨p62,q62,x58,l56,v57,rfl,rfl,rfl,hE62,hi62,h⟩
     rcases q62 with _|⟨y62,q62⟩
     · have hz62:=yz hE62 hi62;simp only[zH.l62] at h
       refine rg tok [2,3,6,27,28,29,37,38,39,40] fun K hK=>?_
       simp only[go_sem,qc,qa,hz62];apply hK
       refine za fun Z63 hZ63=>?_
       refine zw rfl ?_;apply zJ;apply hZ55
       refine rdE [2,3,27,28,29] fun K hK=>?_
       refine DW.start (T:=tab) [.any,.any,.any,.any,.own 1 [],.at [],.eff,.eff,.any,.any,.eff] [(1,[])] ?_;refine DW.runN tok 8 ?_;simp only[go_sem,qc,qe,qa,qd,ql,reduceCtorEq,zQ,z6,ug,q7,true_and,ul,ym,zW,yp,yT,ud,q5,AV.one,qX,qz,qk,qn,qt,qA];refine DW.runN tok 3 ?_;simp only[go_sem,qc,qe,qa,qd,qk,qn,qt];refine DW.fin tok (by decide +kernel) rfl ?_;simp only[zt,upd,qa,reduceIte,yV,xz];apply hK
       apply hZ51
       refine rgE tok [2,3,27,28,29] fun K hK=>?_
       simp only[go_sem,qc,qa];apply hK
       exact⟨_,_,_,(Nat.lt_succ_of_le (Nat.le_of_eq (qt rounds))),⟨rounds,[(⟨y52.fTag,l56⟩:GValueEntry)],IntKind.i64.wrap (0+1),0,rfl,rfl,rfl,h⟩,(.t [0,1,5] false)⟩
     obtain⟨hz62,hw62,hx62,hE'62,hi'62⟩:=yd hE62 hi62 hb62;simp only[zH.l62] at h
     refine rg tok [2,3,6,27,28,29,37,38,39,40] fun K hK=>?_
     simp only[go_sem,qc,qa,hz62];apply hK
     refine za fun Z64 hZ64=>?_
     refine zz rfl ?_;apply zd;apply hZ64
     refine za fun Z65 hZ65=>?_
     apply ze;have f66:=E90.idxS hx62;have f67:=E90.loadS rfl rfl hx62
     refine rg tok [2,3,6,8,27,28,29,37,38,39] fun K hK=>?_
     simp only[go_sem,qc,qe,qa,qd,cellsGTree,zO,f66,f67];apply hK
     obtain⟨r68,hr68,h⟩:=bind_some h;have f69:=Zk r68;unfold AV.one at f69;obtain⟨_u70,hu70,h⟩:=bind_some h;have gu70:=yA hu70;have f71:=(zA E156.len l56)
     refine rdE [2,3,6,27,28,29,37,38,39] fun K hK=>?_
     refine DW.start (T:=tab) [.any,.own 2 [],.at [],.eff,.eff,.eff,.any,.eff] [(2,[])] ?_;refine DW.runN tok 3 ?_;simp only[go_sem,qc,qe,qa,qd,encGValueValue,qk,qn,qt];refine DW.call rfl rfl rfl (ev_value_made y62 r68 hr68 _) ?_;refine DW.runN tok 4 ?_;simp only[go_sem,qc,qe,qa,qd,ql,zQ,z6,ug,q7,true_and,ul,ym,zW,yp,encGValueValue,f69,gu70,f71,yT,ud,q5,AV.one,qX,qz,qk,qn,qt,qA];refine DW.fin tok (by decide +kernel) rfl ?_;simp only[zt,upd,qa,reduceIte,yV,xz];apply hK
     apply hZ65
     refine rgE tok [2,3,6,27,28,29,37,38,39] fun K hK=>?_
     simp only[go_sem,qc,qa,hw62];apply hK
     exact⟨_,_,_,qy q62.length,⟨p62++[y62],q62,x58+1,l56++[r68],v57+1,rfl,rfl,rfl,hE'62,hi'62,h⟩,(.t [0,1,2,3] false)⟩
   rw[if_neg hc49] at h;have t72:=eq_false hc49;apply zJ;apply hZ13
   refine rg tok [2] fun K hK=>?_
   simp only[go_sem,qc,qe,qa,t72];apply hK
   cases h;exact rtA
 clear h
 rintro m L τ ⟨k20,l14,x16,v15,rfl,rfl,rfl,h⟩
 rcases k20 with _|k20
 · cases h
 simp only[zH.l20] at h;refine rgN [2,3,27,28,29,30] ?_
 refine za fun Z21 hZ21=>?_
 refine zD rfl (fun hc22=>?_) (fun hc22=>?_)
 · rw[if_pos hc22] at h;have t23:=eq_true hc22;apply zd;apply hZ21
   refine za fun Z24 hZ24=>?_
   apply ze;obtain⟨y25,hy25,h⟩:=bind_some h;have f26:=E27.idxS hy25;have f27:=E27.loadS rfl rfl hy25
   refine rg tok [2,3,5,27,28,29] fun K hK=>?_
   simp only[go_sem,qc,qe,qa,qd,cellsGEntry,yy,t23,f26,f27];apply hK
   refine rgN [2,3,5,6,27,28,29] ?_;refine ZM 4 1 1 rfl (by simp) rfl (L:=[(2,.op 0 0 0),(3,.op 1 0 0),(5,.op 3 0 0),(6,.op 4 0 0),(27,.ds true (qf encGEntry a0.fEntries) (qb a0.fEntries) false),(28,.int .i64 (qb a0.fEntries:Int)),(29,.int .i64 x16)]) (τ:=[.cells 0 [.nilI],.cells 0 [.os true 2 2 v15 0 (qb l14) false,.ds true (qf encGRaw r12) (qb r12) false],.cells v15 (qf encGValueEntry l14),.cells 0 (cellsGEntry y25),.cells 0 [.int .i64 y25.fTag,.os true 1 5 0 0 (qb ([]:List GValueValue)) false],.cells 0 (qf encGValueValue ([]:List GValueValue))]) .s ?_
   refine za fun Z28 hZ28=>?_
   refine rgN [2,3,6,27,28,29,37,38,39] ?_;apply ze
   refine xb 37 fun hb35=>?_
   replace hb35:qb y25.fTrees≤9223372036854775807:=hb35.1;refine zC (fun m L τ=>∃ (p35 q35:List GTree) (x31:Int) (l29:List GValueValue) (v30:Nat),m=qb q35∧L=[(2,.op 0 0 0),(3,.op 1 0 0),(6,.op 3 0 0),(27,.ds true (qf encGEntry a0.fEntries) (qb a0.fEntries) false),(28,.int .i64 (qb a0.fEntries:Int)),(29,.int .i64 x16),(37,.ds true (qf encGTree y25.fTrees) (qb y25.fTrees) false),(38,.int .i64 (qb y25.fTrees:Int)),(39,.int .i64 x31)]∧τ=[.cells 0 [.nilI],.cells 0 [.os true 2 2 v15 0 (qb l14) false,.ds true (qf encGRaw r12) (qb r12) false],.cells v15 (qf encGValueEntry l14),.cells 0 [.int .i64 y25.fTag,.os true 1 4 v30 0 (qb l29) false],.cells v30 (qf encGValueValue l29)]∧y25.fTrees=p35++q35∧x31=(qb p35:Int)∧zH.l35 yg l14 x16 (zH.l20 yg a0 r12 k20) y25 q35 x31 l29=some r) _ ⟨[],y25.fTrees,0,([]:List GValueValue),0,rfl,rfl,rfl,rfl,rfl,h⟩ (.t [0,1,2,4,5] false) ?_;rintro m L τ ⟨p35,q35,x31,l29,v30,rfl,rfl,rfl,hE35,hi35,h⟩
   rcases q35 with _|⟨y35,q35⟩
   · have hz35:=yz hE35 hi35;simp only[zH.l35] at h
     refine rg tok [2,3,6,27,28,29,37,38,39,40] fun K hK=>?_
     simp only[go_sem,qc,qa,hz35];apply hK
     refine za fun Z36 hZ36=>?_
     refine zw rfl ?_;apply zJ;apply hZ28;obtain⟨_u37,hu37,h⟩:=bind_some h;have gu37:=yA hu37;have f38:=(zA E190.len l14)
     refine rdE [2,3,27,28,29] fun K hK=>?_
     refine DW.start (T:=tab) [.any,.any,.any,.any,.own 1 [],.at [],.eff,.eff,.any,.any,.eff] [(1,[])] ?_;refine DW.runN tok 8 ?_;simp only[go_sem,qc,qe,qa,qd,ql,zQ,z6,ug,q7,true_and,ul,ym,zW,yp,gu37,f38,yT,ud,q5,AV.one,qX,qz,qk,qn,qt,qA];refine DW.runN tok 3 ?_;simp only[go_sem,qc,qe,qa,qd,qk,qn,qt];refine DW.fin tok (by decide +kernel) rfl ?_;simp only[zt,upd,qa,reduceIte,yV,xz];apply hK
     apply hZ24
     refine rgE tok [2,3,27,28,29] fun K hK=>?_
     simp only[go_sem,qc,qa];apply hK
     exact⟨_,_,_,qy (0+k20),⟨k20,l14++[(⟨y25.fTag,l29⟩:GValueEntry)],IntKind.i64.wrap (x16+1),v15+1,rfl,rfl,rfl,h⟩,(.t [0,1,2] false)⟩
   obtain⟨hz35,hw35,hx35,hE'35,hi'35⟩:=yd hE35 hi35 hb35;simp only[zH.l35] at h
   refine rg tok [2,3,6,27,28,29,37,38,39,40] fun K hK=>?_
   simp only[go_sem,qc,qa,hz35];apply hK
   refine za fun Z39 hZ39=>?_
   refine zz rfl ?_;apply zd;apply hZ39
   refine za fun Z40 hZ40=>?_
   apply ze;have f41:=E90.idxS hx35;have f42:=E90.loadS rfl rfl hx35
   refine rg tok [2,3,6,8,27,28,29,37,38,39] fun K hK=>?_
   simp only[go_sem,qc,qe,qa,qd,cellsGTree,zO,f41,f42];apply hK
   obtain⟨r43,hr43,h⟩:=bind_some h;have f44:=Zk r43;unfold AV.one at f44;obtain⟨_u45,hu45,h⟩:=bind_some h;have gu45:=yA hu45;have f46:=(zA E156.len l29)
   refine rdE [2,3,6,27,28,29,37,38,39] fun K hK=>?_
   refine DW.start (T:=tab) [.any,.own 2 [],.at [],.eff,.eff,.eff,.any,.eff] [(2,[])] ?_;refine DW.runN tok 3 ?_;simp only[go_sem,qc,qe,qa,qd,encGValueValue,qk,qn,qt];refine DW.call rfl rfl rfl (ev_value_made y35 r43 hr43 _) ?_;refine DW.runN tok 4 ?_;simp only[go_sem,qc,qe,qa,qd,ql,zQ,z6,ug,q7,true_and,ul,ym,zW,yp,encGValueValue,f44,gu45,f46,yT,ud,q5,AV.one,qX,qz,qk,qn,qt,qA];refine DW.fin tok (by decide +kernel) rfl ?_;simp only[zt,upd,qa,reduceIte,yV,xz];apply hK
   apply hZ40
   refine rgE tok [2,3,6,27,28,29,37,38,39] fun K hK=>?_
   simp only[go_sem,qc,qa,hw35];apply hK
   exact⟨_,_,_,qy q35.length,⟨p35++[y35],q35,x31+1,l29++[r43],v30+1,rfl,rfl,rfl,hE'35,hi'35,h⟩,(.t [0,1,2,3,4] false)⟩
 rw[if_neg hc22] at h;have t47:=eq_false hc22;apply zJ;apply hZ13
 refine rg tok [2] fun K hK=>?_
 simp only[go_sem,qc,qe,qa,t47];apply hK
 cases h;exact rtA
def zH : Nat→GTree→Option GValueValue
 |0,_=>none
 |k+1,a0=>zH.body (zH k) a0
theorem zH.all (k:Nat):(∀ (a0:GTree) (r:GValueValue),zH k a0=some r→ACalls qh 97 [.agg (cellsGTree a0)] [] (fun r' _=>r'=.agg (encGValueValue r))):=by
 induction k with
 |zero=>exact (fun a0 r h=>by simp only[zH] at h; cases h)
 |succ k ih=>exact (fun a0 r h=>zH.step _ ih a0 r (by simpa only [zH] using h))
theorem zH.ev (k:Nat)(a0:GTree)(r:GValueValue)(h:zH k a0=some r)(σ:Store):ACalls qh 97 [.agg (cellsGTree a0)] σ (fun r' σ'=>r'=.agg (encGValueValue r)∧σ'=σ):=
 ((zH.all k) a0 r h).c σ
def Zs (a0:GTree):Option (GValueValue×Bool):=
 (wi a0).bind fun r2=>(if (!r2)=true then some (GValueValue.nil,false) else (zH rounds a0).bind fun r4=>some (r4,true))
theorem Zs.ok (a0:GTree)(r:GValueValue×Bool)(h:Zs a0=some r):ACalls qh 57 [.agg (cellsGTree a0)] [] (fun r' _=>r'=.tup [.agg (encGValueValue r.1),.bool r.2]):=by
 refine zi (rs:=[.cell 2 110,.tmp 3]) tok Tryz.func57 rfl Tryz.ntmps57 rfl Tryz.call57 (by simp) ?_;refine zm [(0,.agg (cellsGTree a0))] ⟨rfl,trivial⟩ ?_;unfold Zs at h
 refine rg tok [1,2] fun K hK=>?_
 simp only[go_sem,qc,qa,qd,reduceCtorEq,cellsGTree];apply hK
 refine za fun Z1 hZ1=>?_
 refine rc [1,2,6] fun K hK=>?_
 obtain⟨r2,hr2,h⟩:=bind_some h;refine rnN 1 ?_;refine clN rfl rfl rfl (wi.ev a0 r2 hr2 _) ?_;refine rnN 1 ?_;refine nkN hK ?_;refine zn (b:=(!r2)) rfl (fun hc3=>?_) (fun hc3=>?_)
 · rw[if_pos hc3] at h;refine rgN [2,3] ?_;cases h;exact rtA
 rw[xD hc3] at h;apply zd;apply hZ1
 refine rc [2,3] fun K hK=>?_
 obtain⟨r4,hr4,h⟩:=bind_some h;refine rnN 1 ?_;refine clN rfl rfl rfl (zH.ev rounds a0 r4 hr4 _) ?_;have f5:=Zk r4;unfold AV.one at f5;refine zj tok 2 ?_;simp only[go_sem,qc,qe,qa,encGValueValue,f5];refine nkN hK ?_;cases h;exact rtA
theorem Zs.ev (a0:GTree)(r:GValueValue×Bool)(h:Zs a0=some r)(σ:Store):ACalls qh 57 [.agg (cellsGTree a0)] σ (fun r' σ'=>r'=.tup [.agg (encGValueValue r.1),.bool r.2]∧σ'=σ):=
 (Zs.ok a0 r h).c σ
def yo (a0:GValueValue):Option GValueNode:=
 (match a0 with|.nil=>none|.num n2=>none|.str s2=>none|.node e2 r2=>some (⟨e2,r2⟩:GValueNode))
theorem yo.ok (a0:GValueValue)(r:GValueNode)(h:yo a0=some r):ACalls qh 59 [.agg (encGValueValue a0)] [] (fun r' _=>r'=.dp (encGValueNode r) 0):=by
 refine zi (rs:=[.tmp 2]) tok Tryz.func59 rfl Tryz.ntmps59 rfl Tryz.call59 (by simp) ?_;refine zm [(0,.agg (encGValueValue a0))] ⟨rfl,trivial⟩ ?_;unfold yo at h;have f1:=Zk a0;unfold AV.one at f1
 refine rg tok [1] fun K hK=>?_
 simp only[go_sem,qc,qa,reduceCtorEq,encGValueValue,f1];apply hK
 rcases a0 with _|n2|s2|⟨e2,r2⟩
 · dsimp only at h
   try simp only[va2]
   cases h
 · dsimp only at h
   try simp only[va1]
   cases h
 · dsimp only at h
   try simp only[va0]
   cases h
 dsimp only at h
 try simp only[Xb]
 refine rg tok [2] fun K hK=>?_
 simp only[go_sem,qc,qa,xE,xM,TypeDesc.isIface];apply hK
 cases h;exact rtA
theorem yo.ev (a0:GValueValue)(r:GValueNode)(h:yo a0=some r)(σ:Store):ACalls qh 59 [.agg (encGValueValue a0)] σ (fun r' σ'=>r'=.dp (encGValueNode r) 0∧σ'=σ):=
 (yo.ok a0 r h).c σ
def wm (a0:GValueNode):Option (List GRaw):=
 (yD a0.frest).bind fun r1=>some r1
theorem wm.own (a0:GValueNode)(r:List GRaw)(h:wm a0=some r):ACalls qh 98 [.dp (encGValueNode a0) 0] [] (fun r' σ'=>r'=.os true 4 0 0 0 (qb r) false∧σ'=[.cells 0 (qf encGRaw r)]):=by
 refine ACalls.own0 (by simp only[push_cast]) ?_;refine Xn (rs:=[.tmp 2]) tok Tryz.func98 rfl Tryz.ntmps98 rfl Tryz.call98 (by simp) ?_;refine zm [(0,.dp (encGValueNode a0) 0)] ⟨rfl,trivial⟩ ?_;unfold wm at h;refine rgN [0] ?_
 refine rc [2] fun K hK=>?_
 obtain⟨r1,hr1,h⟩:=bind_some h;refine zj tok 4 ?_;simp only[go_sem,qc,qa,qd,reduceCtorEq,encGValueNode,XX];refine clN rfl rfl rfl (@id (ACalls qh 135 [.ds true (qf encGRaw a0.frest) (qb a0.frest) false] [] (fun r' σ'=>r'=.os true 4 0 0 0 (qb r1) false∧σ'=[.cells 0 (qf encGRaw r1)])) ((yD.own a0.frest r1 hr1).ownAt0 (by simp only[push_cast]) (by simp only[push_cast]) _)) ?_;refine rnN 1 ?_;refine nkN hK ?_;apply yw;cases h;simp only[Zv,yP,yZ,xJ,exists_eq_left',go_sem];refine⟨0,0,by simp,?_,?_⟩
 · first|rfl|(simp only[go_sem,qc,qe,qa,qd,ql,qm,reduceIte,reduceCtorEq,push_cast,if_true,qD,qt,qG,qx,qH,qO,qU,qL,qR,qK,qC,zE,encGRaw]<;>rfl)
 first|rfl|(simp only[go_sem,push_cast,qx,zE]<;>rfl)
def zU.l8 : List GValueEntry→Int→List Int→Option (List Int)
 |[],x4,l2=>some l2
 |y8::q8,x4,l2=>(Y5 (qb l2+1) 8).bind fun _u14=>((zU.l8 q8) (x4+1) (l2++[y8.ftag]))
def zU (a0:GValueNode):Option (List Int):=
 (zU.l8 a0.fentries 0 ([]:List Int))
theorem zU.own (a0:GValueNode)(r:List Int)(h:zU a0=some r):ACalls qh 99 [.dp (encGValueNode a0) 0] [] (fun r' σ'=>r'=.os true 1 0 0 0 (qb r) false∧σ'=[.cells 0 (qf encI r)]):=by
 refine ACalls.own0 (by simp only[push_cast]) ?_;refine Xn (rs:=[.tmp 2]) tok Tryz.func99 rfl Tryz.ntmps99 rfl Tryz.call99 (by simp) ?_;refine zm [(0,.dp (encGValueNode a0) 0)] ⟨rfl,trivial⟩ ?_;unfold zU at h;refine rgN [0] ?_;refine rgN [0,3] ?_;refine Zw 3 1 rfl ?_;refine yc (L:=[(0,.dp (encGValueNode a0) 0),(3,.os true 1 0 0 0 (qb ([]:List Int)) false)]) (τ:=[.cells 0 (qf encI ([]:List Int))]) .s ?_
 refine za fun Z1 hZ1=>?_
 refine rg tok [3,9,10,11] fun K hK=>?_
 simp only[go_sem,qc,qa,qd,reduceCtorEq,encGValueNode,XX];apply hK
 apply ze
 refine xb 9 fun hb8=>?_
 replace hb8:qb a0.fentries≤9223372036854775807:=hb8.1;refine zC (fun m L τ=>∃ (p8 q8:List GValueEntry) (x4:Int) (l2:List Int) (v3:Nat),m=qb q8∧L=[(3,.os true 1 0 v3 0 (qb l2) false),(9,.ds true (qf encGValueEntry a0.fentries) (qb a0.fentries) false),(10,.int .i64 (qb a0.fentries:Int)),(11,.int .i64 x4)]∧τ=[.cells v3 (qf encI l2)]∧a0.fentries=p8++q8∧x4=(qb p8:Int)∧zU.l8 q8 x4 l2=some r) _ ⟨[],a0.fentries,0,([]:List Int),0,rfl,rfl,rfl,rfl,rfl,h⟩ .s ?_;rintro m L τ ⟨p8,q8,x4,l2,v3,rfl,rfl,rfl,hE8,hi8,h⟩
 rcases q8 with _|⟨y8,q8⟩
 · have hz8:=yz hE8 hi8;simp only[zU.l8] at h
   refine rg tok [3,9,10,11,12] fun K hK=>?_
   simp only[go_sem,qc,qa,hz8];apply hK
   refine za fun Z9 hZ9=>?_
   refine zw rfl ?_;apply zJ;apply hZ1;refine rgN [2] ?_;apply yw;cases h;simp only[Zv,yP,yZ,xJ,exists_eq_left',go_sem];refine⟨0,v3,by simp,?_,?_⟩
   · first|rfl|(simp only[go_sem,qc,qe,qa,qd,ql,qm,reduceIte,reduceCtorEq,push_cast,if_true,qD,qt,qG,qx,qH,qO,qU,qL,qR,qK,qC,zE]<;>rfl)
   first|rfl|(simp only[go_sem,push_cast,qx,zE]<;>rfl)
 obtain⟨hz8,hw8,hx8,hE'8,hi'8⟩:=yd hE8 hi8 hb8;simp only[zU.l8] at h
 refine rg tok [3,9,10,11,12] fun K hK=>?_
 simp only[go_sem,qc,qa,hz8];apply hK
 refine za fun Z10 hZ10=>?_
 refine zz rfl ?_;apply zd;apply hZ10
 refine za fun Z11 hZ11=>?_
 apply ze;have f12:=E190.idxS hx8;have f13:=E190.loadS rfl rfl hx8
 refine rg tok [3,5,9,10,11] fun K hK=>?_
 simp only[go_sem,qc,qe,qa,qd,cellsGValueEntry,xB,f12,f13];apply hK
 obtain⟨_u14,hu14,h⟩:=bind_some h;have gu14:=yA hu14;have f15:=(zA E45.len l2)
 refine rgE tok [3,9,10,11] fun K hK=>?_
 simp only[go_sem,qc,qe,qa,qd,ql,zQ,z6,ug,q7,true_and,ul,ym,zW,yp,gu14,f15,yT,ud,q5,AV.one,qX,qz,qk,qn,qt,qA];apply hK
 apply hZ11
 refine rgE tok [3,9,10,11] fun K hK=>?_
 simp only[go_sem,qc,qa,hw8];apply hK
 exact⟨_,_,_,qy q8.length,⟨p8++[y8],q8,x4+1,l2++[y8.ftag],v3+1,rfl,rfl,rfl,hE'8,hi'8,h⟩,(.t [0] false)⟩
end
section
set_option maxRecDepth 4000
set_option maxHeartbeats 1000000
open AM
theorem zU.ok (a0:GValueNode)(r:List Int)(h:zU a0=some r):ACalls qh 99 [.dp (encGValueNode a0) 0] [] (fun r' _=>r'=.ds true (qf encI r) (qb r) false):=
 (zU.own a0 r h).ownData (zA E45.len r) (by simp only[push_cast])
theorem zU.ev (a0:GValueNode)(r:List Int)(h:zU a0=some r)(σ:Store):ACalls qh 99 [.dp (encGValueNode a0) 0] σ (fun r' σ'=>r'=.ds true (qf encI r) (qb r) false∧σ'=σ):=
 (zU.ok a0 r h).c σ
def wa (a0:List GValueValue):Option (List GValueValue):=(Y5 (qb a0) 16).bind fun _=>some a0
theorem wa.own (a0 r:List GValueValue)(h:wa a0=some r):ACalls qh 136 [.ds true (qf encGValueValue a0) (qb a0) false] [] (fun r' σ'=>r'=.os true 1 0 0 0 (qb r) false∧σ'=[.cells 0 (qf encGValueValue r)]):=by
 obtain⟨_u,hu,h⟩:=bind_some h;have gu:=yA hu;cases h
 have f1:=fun nl tt σ=>xZ E156.len a0 nl tt σ
 have f2:=zA E156.len a0;have f3:=Ze encGValueValue a0;refine vbP (rs:=[.tmp 2]) tok Tryz.func136 rfl Tryz.ntmps136 rfl Tryz.call136 (by simp) ?_;refine zm [(0,.ds true (qf encGValueValue a0) (qb a0) false)] ⟨rfl,trivial⟩ ?_;refine rgN [0] ?_
 refine za fun Z1 hZ1=>?_
 refine rc [0,4] fun K hK=>?_
 refine rnN 1 ?_
 refine vai tok rfl rfl rfl rfl rfl rfl fun b hnil=>?_
 have hb:b=true→a0=[]:=fun hb=>by
  have:=hnil hb;simp only[yp,go_sem,reduceCtorEq] at this;exact uZ this
 clear hnil
 refine nkN hK ?_;cases b
 · refine zw rfl ?_;apply zd;apply hZ1
   refine rg tok [2] fun K hK=>?_
   by_cases h0:qb a0=0
   · obtain rfl:=uZ h0;simp only[go_sem,qc,qa,reduceCtorEq,zQ,z6,q7,ur,ym,zW,yp,ya,q3,qn,uC,ud];apply hK
     apply yw;simp only[Zv,yP,yZ,xJ,exists_eq_left',go_sem];refine .inl ⟨0,true,by simp,?_,?_⟩
     · first|rfl|(simp only[go_sem,qc,qe,qa,qd,ql,qm,reduceIte,reduceCtorEq,wZ,wS,if_true]<;>rfl)
     first|rfl|(simp only[go_sem,qc,qe,qa,qd,ql,qm,reduceIte,reduceCtorEq,Yg,vbd,ZF,Yi,Yh,qx]<;>rfl)
   have h1:=eq_false h0;simp only[go_sem,qc,qa,reduceCtorEq,zQ,z6,q7,ur,ym,zW,yp,f1,f3,h1,gu,yT,qx,qz,uC];apply hK
   apply yw;simp only[Zv,yP,yZ,xJ,exists_eq_left',go_sem,qd];refine .inl ⟨1,false,by simp,?_,?_⟩
   · first|rfl|(simp only[go_sem,qc,qe,qa,qd,ql,qm,reduceIte,reduceCtorEq,wZ,wS,if_true]<;>rfl)
   first|rfl|(simp only[go_sem,Yg,ZF,Yi,Yh,zE]<;>rfl)
 obtain rfl:=hb rfl;refine zz rfl ?_;refine rgN [2] ?_;apply yw;simp only[Zv,yP,yZ,xJ,exists_eq_left',go_sem];refine .inr ?_
 first|rfl|(simp only[go_sem,qc,qe,qa,qd,ql,qm,reduceIte,reduceCtorEq,YI,qx,qO,qU,qC,qL]<;>rfl)
def yh.l4 (a1:Int):List GValueEntry→Int→Option (List GValueValue)
 |[],x2=>some ([]:List GValueValue)
 |y4::q4,x2=>(if y4.ftag=a1 then (wa y4.fl).bind fun r12=>some r12 else ((yh.l4 a1 q4) (x2+1)))
def yh (a0:GValueNode)(a1:Int):Option (List GValueValue):=
 (yh.l4 a1 a0.fentries 0)
theorem yh.ok (a0:GValueNode)(a1:Int)(r:List GValueValue)(h:yh a0 a1=some r):ACalls qh 100 [.dp (encGValueNode a0) 0,.int .i64 a1] [] (fun r' _=>r'=.ds true (qf encGValueValue r) (qb r) false):=by
 refine zi (rs:=[.tmp 4]) tok Tryz.func100 rfl Tryz.ntmps100 rfl Tryz.call100 (by simp) ?_;refine zm [(0,.dp (encGValueNode a0) 0),(1,.int .i64 a1)] ⟨rfl,rfl,trivial⟩ ?_;unfold yh at h;refine rgN [0,1] ?_
 refine za fun Z1 hZ1=>?_
 refine rg tok [1,10,11,12] fun K hK=>?_
 simp only[go_sem,qc,qa,qd,reduceCtorEq,encGValueNode,XX];apply hK
 apply ze
 refine xb 10 fun hb4=>?_
 replace hb4:qb a0.fentries≤9223372036854775807:=hb4.1;refine zC (fun m L τ=>∃ (p4 q4:List GValueEntry) (x2:Int),m=qb q4∧L=[(1,.int .i64 a1),(10,.ds true (qf encGValueEntry a0.fentries) (qb a0.fentries) false),(11,.int .i64 (qb a0.fentries:Int)),(12,.int .i64 x2)]∧τ=[]∧a0.fentries=p4++q4∧x2=(qb p4:Int)∧yh.l4 a1 q4 x2=some r) _ ⟨[],a0.fentries,0,rfl,rfl,rfl,rfl,rfl,h⟩ .s ?_;rintro m L τ ⟨p4,q4,x2,rfl,rfl,rfl,hE4,hi4,h⟩
 rcases q4 with _|⟨y4,q4⟩
 · have hz4:=yz hE4 hi4;simp only[yh.l4] at h
   refine rg tok [1,10,11,12,13] fun K hK=>?_
   simp only[go_sem,qc,qa,hz4];apply hK
   refine za fun Z5 hZ5=>?_
   refine zw rfl ?_;apply zJ;apply hZ1;refine rgN [4] ?_;cases h;exact rtA
 obtain⟨hz4,hw4,hx4,hE'4,hi'4⟩:=yd hE4 hi4 hb4;simp only[yh.l4] at h
 refine rg tok [1,10,11,12,13] fun K hK=>?_
 simp only[go_sem,qc,qa,hz4];apply hK
 refine za fun Z6 hZ6=>?_
 refine zz rfl ?_;apply zd;apply hZ6
 refine za fun Z7 hZ7=>?_
 apply ze;have f8:=E190.idxS hx4;have f9:=E190.loadS rfl rfl hx4
 refine rg tok [1,6,10,11,12] fun K hK=>?_
 simp only[go_sem,qc,qe,qa,qd,cellsGValueEntry,xB,f8,f9];apply hK
 refine rgN [1,6,10,11,12,19] ?_;refine zD rfl (fun hc10=>?_) (fun hc10=>?_)
 · rw[if_pos hc10] at h;have t11:=eq_true hc10
   refine rc [4] fun K hK=>?_
   obtain⟨r12,hr12,h⟩:=bind_some h;refine zj tok 2 ?_;simp only[go_sem,qc,qa,qd,t11];refine clN rfl rfl rfl (@id (ACalls qh 136 [.ds true (qf encGValueValue y4.fl) (qb y4.fl) false] [.cells 0 (cellsGValueEntry y4)] (fun r' σ'=>r'=.os true 1 1 0 0 (qb r12) false∧σ'=[.cells 0 (cellsGValueEntry y4),.cells 0 (qf encGValueValue r12)])) ((wa.own y4.fl r12 hr12).ownAt0 (by simp only[push_cast]) (by simp only[push_cast]) _)) ?_;refine rnN 1 ?_;refine nkN hK ?_;cases h;exact rtA
 rw[if_neg hc10] at h;have t13:=eq_false hc10;apply zd;apply hZ7
 refine rgE tok [1,10,11,12] fun K hK=>?_
 simp only[go_sem,qc,qa,hw4,t13];apply hK
 exact⟨_,_,_,qy q4.length,⟨p4++[y4],q4,x2+1,rfl,rfl,rfl,hE'4,hi'4,h⟩,(.t [] false)⟩
theorem yh.ev (a0:GValueNode)(a1:Int)(r:List GValueValue)(h:yh a0 a1=some r)(σ:Store):ACalls qh 100 [.dp (encGValueNode a0) 0,.int .i64 a1] σ (fun r' σ'=>r'=.ds true (qf encGValueValue r) (qb r) false∧σ'=σ):=
 (yh.ok a0 a1 r h).c σ
def xr (a0:GValueValue):Int×Bool:=
 (match a0 with|.nil=>(0,false)|.num n2=>(n2,true)|.str s2=>(0,false)|.node e2 r2=>(0,false))
theorem xr.ok (a0:GValueValue)(r:Int×Bool)(h:xr a0=r):ACalls qh 155 [.agg (encGValueValue a0)] [] (fun r' _=>r'=.tup [.int .i64 r.1,.bool r.2]):=by
 refine zi (rs:=[.tmp 2,.tmp 3]) tok Tryz.func155 rfl Tryz.ntmps155 rfl Tryz.call155 (by simp) ?_;refine zm [(0,.agg (encGValueValue a0))] ⟨rfl,trivial⟩ ?_;unfold xr at h;have f1:=Zk a0;unfold AV.one at f1
 refine rg tok [1] fun K hK=>?_
 simp only[go_sem,qc,qa,reduceCtorEq,encGValueValue,f1];apply hK
 rcases a0 with _|n2|s2|⟨e2,r2⟩
 · dsimp only at h
   try simp only[va2]
   refine rg tok [4,5] fun K hK=>?_
   simp only[go_sem,qc,qa,qd,xE,xM,TypeDesc.isIface];apply hK
   refine rgN [2,3] ?_;cases h;exact rtA
 · dsimp only at h
   try simp only[va1]
   refine rg tok [4,5] fun K hK=>?_
   simp only[go_sem,qc,qa,qd,xE,xM,TypeDesc.isIface];apply hK
   refine rgN [2,3] ?_;cases h;exact rtA
 · dsimp only at h
   try simp only[va0]
   refine rg tok [4,5] fun K hK=>?_
   simp only[go_sem,qc,qa,qd,xE,xM,TypeDesc.isIface];apply hK
   refine rgN [2,3] ?_;cases h;exact rtA
 dsimp only at h
 try simp only[Xb]
 refine rg tok [4,5] fun K hK=>?_
 simp only[go_sem,qc,qa,qd,xE,xM,TypeDesc.isIface];apply hK
 refine rgN [2,3] ?_;cases h;exact rtA
theorem xr.ev (a0:GValueValue)(r:Int×Bool)(h:xr a0=r)(σ:Store):ACalls qh 155 [.agg (encGValueValue a0)] σ (fun r' σ'=>r'=.tup [.int .i64 r.1,.bool r.2]∧σ'=σ):=
 (xr.ok a0 r h).c σ
def xq (a0:GValueValue):List UInt8×Bool:=
 (match a0 with|.nil=>([],false)|.num n2=>([],false)|.str s2=>(s2,true)|.node e2 r2=>([],false))
theorem xq.ok (a0:GValueValue)(r:List UInt8×Bool)(h:xq a0=r):ACalls qh 156 [.agg (encGValueValue a0)] [] (fun r' _=>r'=.tup [.str r.1,.bool r.2]):=by
 refine zi (rs:=[.tmp 2,.tmp 3]) tok Tryz.func156 rfl Tryz.ntmps156 rfl Tryz.call156 (by simp) ?_;refine zm [(0,.agg (encGValueValue a0))] ⟨rfl,trivial⟩ ?_;unfold xq at h;have f1:=Zk a0;unfold AV.one at f1
 refine rg tok [1] fun K hK=>?_
 simp only[go_sem,qc,qa,reduceCtorEq,encGValueValue,f1];apply hK
 rcases a0 with _|n2|s2|⟨e2,r2⟩
 · dsimp only at h
   try simp only[va2]
   refine rg tok [4,5] fun K hK=>?_
   simp only[go_sem,qc,qa,qd,xE,xM,TypeDesc.isIface];apply hK
   refine rgN [2,3] ?_;cases h;exact rtA
 · dsimp only at h
   try simp only[va1]
   refine rg tok [4,5] fun K hK=>?_
   simp only[go_sem,qc,qa,qd,xE,xM,TypeDesc.isIface];apply hK
   refine rgN [2,3] ?_;cases h;exact rtA
 · dsimp only at h
   try simp only[va0]
   refine rg tok [4,5] fun K hK=>?_
   simp only[go_sem,qc,qa,qd,xE,xM,TypeDesc.isIface];apply hK
   refine rgN [2,3] ?_;cases h;exact rtA
 dsimp only at h
 try simp only[Xb]
 refine rg tok [4,5] fun K hK=>?_
 simp only[go_sem,qc,qa,qd,xE,xM,TypeDesc.isIface];apply hK
 refine rgN [2,3] ?_;cases h;exact rtA
theorem xq.ev (a0:GValueValue)(r:List UInt8×Bool)(h:xq a0=r)(σ:Store):ACalls qh 156 [.agg (encGValueValue a0)] σ (fun r' σ'=>r'=.tup [.str r.1,.bool r.2]∧σ'=σ):=
 (xq.ok a0 r h).c σ
def xO (a0:GValueValue):Option GValueValue:=
 bnd (xr a0) fun r3=>(if r3.2=true then some (GValueValue.num r3.1) else bnd (xq a0) fun r6=>(if r6.2=true then some (GValueValue.str r6.1) else (yo a0).bind fun r8=>some (GValueValue.node r8.fentries r8.frest)))
theorem xO.ok (a0:GValueValue)(r:GValueValue)(h:xO a0=some r):ACalls qh 137 [.agg (encGValueValue a0)] [] (fun r' _=>r'=anyV r):=by
 refine zi (rs:=[.tmp 2]) tok Tryz.func137 rfl Tryz.ntmps137 rfl Tryz.call137 (by simp) ?_;refine zm [(0,.agg (encGValueValue a0))] ⟨rfl,trivial⟩ ?_;unfold xO at h;have f1:=Zk a0;unfold AV.one at f1
 refine rg tok [1] fun K hK=>?_
 simp only[go_sem,qc,qa,reduceCtorEq,encGValueValue,f1];apply hK
 refine za fun Z2 hZ2=>?_
 refine rc [1,3,4] fun K hK=>?_
 obtain⟨r3,hr3,h⟩:=zR h;refine rnN 1 ?_;refine clN rfl rfl rfl (xr.ev a0 r3 hr3 _) ?_;refine rnN 5 ?_;refine nkN hK ?_;refine rgN [1,3,12] ?_;refine zn (b:=r3.2) rfl (fun hc4=>?_) (fun hc4=>?_)
 · rw[if_pos hc4] at h;refine rgN [2] ?_;cases h;exact rtA
 rw[xD hc4] at h;apply zd;apply hZ2
 refine za fun Z5 hZ5=>?_
 refine rc [1,5,6] fun K hK=>?_
 obtain⟨r6,hr6,h⟩:=zR h;refine rnN 1 ?_;refine clN rfl rfl rfl (xq.ev a0 r6 hr6 _) ?_;refine rnN 5 ?_;refine nkN hK ?_;refine rgN [1,5,20] ?_;refine zn (b:=r6.2) rfl (fun hc7=>?_) (fun hc7=>?_)
 · rw[if_pos hc7] at h;refine rgN [2] ?_;cases h;exact rtA
 rw[xD hc7] at h;apply zd;apply hZ5
 refine rc [2] fun K hK=>?_
 obtain⟨r8,hr8,h⟩:=bind_some h;refine rnN 1 ?_;refine clN rfl rfl rfl (yo.ev a0 r8 hr8 _) ?_;refine rnN 2 ?_;refine nkN hK ?_;cases h;exact rtA
theorem xO.ev (a0:GValueValue)(r:GValueValue)(h:xO a0=some r)(σ:Store):ACalls qh 137 [.agg (encGValueValue a0)] σ (fun r' σ'=>r'=anyV r∧σ'=σ):=
 (xO.ok a0 r h).c σ
def yY.l9 : Nat→List UInt8→Int→Option (List UInt8)
 |0,_,_=>none
 |k9+1,l3,x5=>(if 128≤x5 then (Y5 (qb l3+1) 1).bind fun _u14=>((yY.l9 k9) (l3++[uf (qN (IntKind.u8.wrap ((uk (qB 8 (IntKind.u8.wrap x5) ||| qB 8 128):Nat):Int)))]) (vj x5 (2^(min (qN 7) 64)))) else (Y5 (qb l3+1) 1).bind fun _u18=>some (l3++[uf (qN (IntKind.u8.wrap x5))]))
def yY (a0:List UInt8)(a1:Int):Option (List UInt8):=
 (if 128≤a1 then (Y5 (qb a0+1) 1).bind fun _u24=>(yY.l9 rounds (a0++[uf (qN (IntKind.u8.wrap ((uk (qB 8 (IntKind.u8.wrap a1) ||| qB 8 128):Nat):Int)))]) (vj a1 (2^(min (qN 7) 64)))) else (Y5 (qb a0+1) 1).bind fun _u28=>some (a0++[uf (qN (IntKind.u8.wrap a1))]))
theorem yY.own (a0:List UInt8)(a1:Int)(r:List UInt8)(h:yY a0 a1=some r):ACalls qh 89 [.ds true (qf encB a0) (qb a0) false,.int .u64 a1] [] (fun r' σ'=>r'=.os true 1 0 0 0 (qb r) false∧σ'=[.cells 0 (qf encB r)]):=by
 refine ACalls.own0 (by simp only[push_cast]) ?_;refine Xn (rs:=[.tmp 4]) tok Tryz.func89 rfl Tryz.ntmps89 rfl Tryz.call89 (by simp) ?_;refine zm [(0,.ds true (qf encB a0) (qb a0) false),(1,.int .u64 a1)] ⟨rfl,rfl,trivial⟩ ?_;unfold yY at h;refine rgN [0,1] ?_;have f1:=E34.sl_tight a0 .i64 .i64
 refine rg tok [0,1] fun K hK=>?_
 simp only[go_sem,qc,qa,reduceCtorEq,f1];apply hK
 refine za fun Z2 hZ2=>?_
 apply ze;refine awp_loopS1 (fun m L τ=>∃ (k9:Nat) (l3:List UInt8) (x5:Int) (v4:Nat),m=0+k9∧L=[(0,.os true 1 0 v4 0 (qb l3) false),(1,.int .u64 x5)]∧τ=[.cells v4 (qf encB l3)]∧yY.l9 k9 l3 x5=some r) (rounds+1) ?_ ?_
 · refine za fun Z20 hZ20=>?_
   refine rgN [0,1,12] ?_;refine zD rfl (fun hc21=>?_) (fun hc21=>?_)
   · rw[if_pos hc21] at h;have t22:=eq_true hc21;apply zd;apply hZ20;apply ze;have f23:=xF (T:=tab) (src:=140) (dst:=5) rfl rfl rfl;obtain⟨_u24,hu24,h⟩:=bind_some h;have gu24:=yA hu24;have f25:=app_tight E34.len a0 (m:=1) (by decide)
     refine rg tok [0,1] fun K hK=>?_
     simp only[go_sem,qc,qe,qa,ql,reduceCtorEq,zQ,z6,ug,q7,true_and,ul,ym,yp,t22,f23,gu24,f25,yT,ud,q5,AV.one,qX,qz,qk,qn,qt,qA];apply hK
     refine yc (L:=[(0,.os true 1 1 0 0 (qb (a0++[uf (qN (IntKind.u8.wrap ((uk (qB 8 (IntKind.u8.wrap a1) ||| qB 8 128):Nat):Int)))])) false),(1,.int .u64 a1)]) (τ:=[.cells 0 [.int .u8 (IntKind.u8.wrap ((uk (qB 8 (IntKind.u8.wrap a1) ||| qB 8 128):Nat):Int))],.cells 0 (qf encB (a0++[uf (qN (IntKind.u8.wrap ((uk (qB 8 (IntKind.u8.wrap a1) ||| qB 8 128):Nat):Int)))]))]) (.same (by first|exact⟨rfl,rfl,trivial⟩|rfl|(simp only[go_sem,reduceCtorEq,Fits,qi,qk,qn,qt,and_self]<;>rfl)) (by first|exact⟨rfl,rfl,trivial⟩|rfl|(simp only[go_sem,encB,qI,qM,q3,qw,u8_wrap]<;>rfl))) ?_
     refine rgE tok [0,1] fun K hK=>?_
     simp only[go_sem,qc,qa,reduceCtorEq,Z0,Int.reduceLT];apply hK
     exact⟨_,_,_,(Nat.lt_succ_of_le (Nat.le_of_eq (qt rounds))),⟨rounds,a0++[uf (qN (IntKind.u8.wrap ((uk (qB 8 (IntKind.u8.wrap a1) ||| qB 8 128):Nat):Int)))],vj a1 (2^(min (qN 7) 64)),0,rfl,rfl,rfl,h⟩,(.t [1] false)⟩
   rw[if_neg hc21] at h;have t26:=eq_false hc21;apply zJ;apply hZ2;have f27:=xF (T:=tab) (src:=140) (dst:=5) rfl rfl rfl;obtain⟨_u28,hu28,h⟩:=bind_some h;have gu28:=yA hu28;have f29:=app_tight E34.len a0 (m:=1) (by decide)
   refine rg tok [4] fun K hK=>?_
   simp only[go_sem,qc,qe,qa,ql,reduceCtorEq,zQ,z6,ug,q7,true_and,ul,ym,yp,t26,f27,gu28,f29,yT,ud,q5,AV.one,qX,qz,qk,qn,qt,qA];apply hK
   refine yc (L:=[(4,.os true 1 1 0 0 (qb (a0++[uf (qN (IntKind.u8.wrap a1))])) false)]) (τ:=[.cells 0 [.int .u8 (IntKind.u8.wrap a1)],.cells 0 (qf encB (a0++[uf (qN (IntKind.u8.wrap a1))]))]) (.same (by first|exact⟨rfl,trivial⟩|rfl|(simp only[go_sem,Fits,qi,qk,qn,qt,and_self]<;>rfl)) (by first|exact⟨rfl,trivial⟩|rfl|(simp only[go_sem,encB,qI,qM,q3,qw,u8_wrap]<;>rfl))) ?_;apply yw;cases h;simp only[Zv,yP,yZ,xJ,exists_eq_left',go_sem,qd];refine⟨1,0,by simp,?_,?_⟩
   · first|rfl|(simp only[go_sem,qc,qe,qa,qd,ql,qm,reduceIte,reduceCtorEq,push_cast,if_true,qD,qt,qG,qx,qH,qO,qU,qL,qR,qK,qC,zE]<;>rfl)
   first|rfl|(simp only[go_sem,push_cast,qx,zE]<;>rfl)
 clear h
 rintro m L τ ⟨k9,l3,x5,v4,rfl,rfl,rfl,h⟩
 rcases k9 with _|k9
 · cases h
 simp only[yY.l9] at h
 refine za fun Z10 hZ10=>?_
 refine rgN [0,1,12] ?_;refine zD rfl (fun hc11=>?_) (fun hc11=>?_)
 · rw[if_pos hc11] at h;have t12:=eq_true hc11;apply zd;apply hZ10;apply ze;have f13:=xF (T:=tab) (src:=140) (dst:=5) rfl rfl rfl;obtain⟨_u14,hu14,h⟩:=bind_some h;have gu14:=yA hu14;have f15:=(zA E34.len l3)
   refine rg tok [0,1] fun K hK=>?_
   simp only[go_sem,qc,qe,qa,ql,reduceCtorEq,zQ,z6,ug,q7,true_and,ul,ym,zW,yp,t12,f13,gu14,f15,yT,ud,q5,AV.one,qX,qz,qk,qn,qt,qA];apply hK
   refine yc (L:=[(0,.os true 1 0 (v4+1) 0 (qb (l3++[uf (qN (IntKind.u8.wrap ((uk (qB 8 (IntKind.u8.wrap x5) ||| qB 8 128):Nat):Int)))])) false),(1,.int .u64 x5)]) (τ:=[.cells (v4+1) (qf encB (l3++[uf (qN (IntKind.u8.wrap ((uk (qB 8 (IntKind.u8.wrap x5) ||| qB 8 128):Nat):Int)))])),.cells 0 [.int .u8 (IntKind.u8.wrap ((uk (qB 8 (IntKind.u8.wrap x5) ||| qB 8 128):Nat):Int))]]) (.same (by first|exact⟨rfl,rfl,trivial⟩|rfl|(simp only[go_sem,reduceCtorEq,Fits,qi,qk,qn,qt,and_self]<;>rfl)) (by first|exact⟨rfl,rfl,trivial⟩|rfl|(simp only[go_sem,encB,qI,qM,q3,qw,u8_wrap]<;>rfl))) ?_
   refine rgE tok [0,1] fun K hK=>?_
   simp only[go_sem,qc,qa,reduceCtorEq,Z0,Int.reduceLT];apply hK
   exact⟨_,_,_,qy (0+k9),⟨k9,l3++[uf (qN (IntKind.u8.wrap ((uk (qB 8 (IntKind.u8.wrap x5) ||| qB 8 128):Nat):Int)))],vj x5 (2^(min (qN 7) 64)),v4+1,rfl,rfl,rfl,h⟩,(.t [0] false)⟩
 rw[if_neg hc11] at h;have t16:=eq_false hc11;apply zJ;apply hZ2;have f17:=xF (T:=tab) (src:=140) (dst:=5) rfl rfl rfl;obtain⟨_u18,hu18,h⟩:=bind_some h;have gu18:=yA hu18;have f19:=(zA E34.len l3)
 refine rg tok [4] fun K hK=>?_
 simp only[go_sem,qc,qe,qa,ql,reduceCtorEq,zQ,z6,ug,q7,true_and,ul,ym,zW,yp,t16,f17,gu18,f19,yT,ud,q5,AV.one,qX,qz,qk,qn,qt,qA];apply hK
 refine yc (L:=[(4,.os true 1 0 (v4+1) 0 (qb (l3++[uf (qN (IntKind.u8.wrap x5))])) false)]) (τ:=[.cells (v4+1) (qf encB (l3++[uf (qN (IntKind.u8.wrap x5))])),.cells 0 [.int .u8 (IntKind.u8.wrap x5)]]) (.same (by first|exact⟨rfl,trivial⟩|rfl|(simp only[go_sem,Fits,qi,qk,qn,qt,and_self]<;>rfl)) (by first|exact⟨rfl,trivial⟩|rfl|(simp only[go_sem,encB,qI,qM,q3,qw,u8_wrap]<;>rfl))) ?_;apply yw;cases h;simp only[Zv,yP,yZ,xJ,exists_eq_left',go_sem,qd];refine⟨0,v4+1,by simp,?_,?_⟩
 · first|rfl|(simp only[go_sem,qc,qe,qa,qd,ql,qm,reduceIte,reduceCtorEq,push_cast,if_true,qD,qt,qG,qx,qH,qO,qU,qL,qR,qK,qC,zE]<;>rfl)
 first|rfl|(simp only[go_sem,push_cast,qx,zE]<;>rfl)
theorem yY.ok (a0:List UInt8)(a1:Int)(r:List UInt8)(h:yY a0 a1=some r):ACalls qh 89 [.ds true (qf encB a0) (qb a0) false,.int .u64 a1] [] (fun r' _=>r'=.ds true (qf encB r) (qb r) false):=
 (yY.own a0 a1 r h).ownData (zA E34.len r) (by simp only[push_cast])
theorem yY.ev (a0:List UInt8)(a1:Int)(r:List UInt8)(h:yY a0 a1=some r)(σ:Store):ACalls qh 89 [.ds true (qf encB a0) (qb a0) false,.int .u64 a1] σ (fun r' σ'=>r'=.ds true (qf encB r) (qb r) false∧σ'=σ):=
 (yY.ok a0 a1 r h).c σ
def Zq (a0:Int):Int:=
 IntKind.u64.wrap ((uk (qB 64 (IntKind.u64.wrap ((IntKind.u64.wrap a0)*2^(min (qN 1) 64))) ^^^ qB 64 (IntKind.u64.wrap (vj a0 (2^(min (qN 63) 64))))):Nat):Int)
theorem Zq.ok (a0:Int)(r:Int)(h:Zq a0=r):ACalls qh 90 [.int .i64 a0] [] (fun r' _=>r'=.int .u64 r):=by
 refine zi (rs:=[.tmp 2]) tok Tryz.func90 rfl Tryz.ntmps90 rfl Tryz.call90 (by simp) ?_;refine zm [(0,.int .i64 a0)] ⟨rfl,trivial⟩ ?_;unfold Zq at h;refine rgN [0] ?_;have f1:=xF (T:=tab) (src:=3) (dst:=140) rfl rfl rfl;have f2:=xF (T:=tab) (src:=3) (dst:=140) rfl rfl rfl
 refine rg tok [2] fun K hK=>?_
 simp only[go_sem,qc,qa,reduceCtorEq,f1,Z0,Int.reduceLT];apply hK
 cases h;exact rtA
theorem Zq.ev (a0:Int)(r:Int)(h:Zq a0=r)(σ:Store):ACalls qh 90 [.int .i64 a0] σ (fun r' σ'=>r'=.int .u64 r∧σ'=σ):=
 (Zq.ok a0 r h).c σ
def Zp (a0:List UInt8)(a1:GRaw):Option (List UInt8×Bool):=
 bnd (yu a1) fun r2=>(if (!r2)=true then some (a0,false) else (yY a0 (IntKind.u64.wrap (IntKind.i64.wrap ((IntKind.i64.wrap (2*a1.fTag))+a1.fWire)))).bind fun r5=>(if a1.fWire=0 then bnd (Zq a1.fN) fun r9=>(yY r5 r9).bind fun r10=>some (r10,true) else (yY r5 (IntKind.u64.wrap (qb a1.fB:Int))).bind fun r13=>(Y5 (qb r13+qb a1.fB) 1).bind fun _u14=>some (r13++a1.fB,true)))
theorem Zp.ok (a0:List UInt8)(a1:GRaw)(r:List UInt8×Bool)(h:Zp a0 a1=some r):ACalls qh 52 [.ds true (qf encB a0) (qb a0) false,.agg (encGRaw a1)] [] (fun r' _=>r'=.tup [.ds true (qf encB r.1) (qb r.1) false,.bool r.2]):=by
 refine zi (rs:=[.tmp 4,.tmp 5]) tok Tryz.func52 rfl Tryz.ntmps52 rfl Tryz.call52 (by simp) ?_;refine zm [(0,.ds true (qf encB a0) (qb a0) false),(1,.agg (encGRaw a1))] ⟨rfl,rfl,trivial⟩ ?_;unfold Zp at h
 refine rg tok [0,3] fun K hK=>?_
 simp only[go_sem,qc,qa,qd,reduceCtorEq,encGRaw];apply hK
 refine za fun Z1 hZ1=>?_
 refine rc [0,3,9] fun K hK=>?_
 obtain⟨r2,hr2,h⟩:=zR h;refine rnN 1 ?_;refine clN rfl rfl rfl (yu.ev a1 r2 hr2 _) ?_;refine rnN 1 ?_;refine nkN hK ?_;refine zn (b:=(!r2)) rfl (fun hc3=>?_) (fun hc3=>?_)
 · rw[if_pos hc3] at h;refine rgN [4,5] ?_;cases h;exact rtA
 rw[xD hc3] at h;apply zd;apply hZ1
 refine rc [3,6] fun K hK=>?_
 have f4:=xF (T:=tab) (src:=3) (dst:=140) rfl rfl rfl;obtain⟨r5,hr5,h⟩:=bind_some h;refine zj tok 8 ?_;simp only[go_sem,qc,qa,qd,reduceCtorEq,f4];refine clN rfl rfl rfl (yY.ev a0 (IntKind.u64.wrap (IntKind.i64.wrap ((IntKind.i64.wrap (2*a1.fTag))+a1.fWire))) r5 hr5 _) ?_;refine rnN 1 ?_;refine nkN hK ?_
 refine za fun Z6 hZ6=>?_
 refine rgN [3,6,22] ?_;refine zD rfl (fun hc7=>?_) (fun hc7=>?_)
 · rw[if_pos hc7] at h;have t8:=eq_true hc7
   refine rc [4,5] fun K hK=>?_
   obtain⟨r9,hr9,h⟩:=zR h;refine zj tok 3 ?_;simp only[go_sem,qc,qa,qd,t8];refine clN rfl rfl rfl (Zq.ev a1.fN r9 hr9 _) ?_;obtain⟨r10,hr10,h⟩:=bind_some h;refine clN rfl rfl rfl (yY.ev r5 r9 r10 hr10 _) ?_;refine rnN 2 ?_;refine nkN hK ?_;cases h;exact rtA
 rw[if_neg hc7] at h;have t11:=eq_false hc7;apply zd;apply hZ6;have f12:=xF (T:=tab) (src:=3) (dst:=140) rfl rfl rfl;obtain⟨r13,hr13,h⟩:=bind_some h;obtain⟨_u14,hu14,h⟩:=bind_some h;have gu14:=yA hu14;have f15:=(zA E34.len r13)
 refine rd [4,5] fun K hK=>?_
 refine DW.start (T:=tab) [.any,.any,.at [],.at [],.at [],.eff,.any,.own 1 [],.eff,.any,.any] [(1,[])] ?_;refine DW.runN tok 5 ?_;simp only[go_sem,qc,qa,qd,t11,f12,qk,qn,qt];refine DW.callS rfl rfl rfl (@id (ACalls qh 89 [.ds true (qf encB r5) (qb r5) false,.int .u64 (IntKind.u64.wrap (qb a1.fB:Int))] [.cells 0 [.int .i64 a1.fTag,.int .i64 a1.fWire,.int .i64 a1.fN,.str a1.fB]] (fun r' σ'=>r'=.os true 1 1 0 0 (qb r13) false∧σ'=[.cells 0 [.int .i64 a1.fTag,.int .i64 a1.fWire,.int .i64 a1.fN,.str a1.fB],.cells 0 (qf encB r13)])) ((yY.own r5 (IntKind.u64.wrap (qb a1.fB:Int)) r13 hr13).ownAt0 (by simp only[push_cast]) (by simp only[push_cast]) _)) (ZN (by simp only[go_sem,qe])) ?_;refine DW.runN tok 5 ?_;simp only[go_sem,qc,qe,qa,qd,ym,zW,yp,true_and,gu14,f15,srcCells_s,XH,Ze,qk,qn,qt];refine DW.fin tok (by decide +kernel) rfl ?_;simp only[zt,upd,qa,reduceIte,yV,xz];apply hK
 refine yc (L:=[(4,.os true 1 1 (0+1) 0 (qb (r13++a1.fB)) false),(5,.bool true)]) (τ:=[.cells 0 [.int .i64 a1.fTag,.int .i64 a1.fWire,.int .i64 a1.fN,.str a1.fB],.cells (0+1) (qf encB (r13++a1.fB))]) .s ?_;cases h;exact rtA
theorem Zp.ev (a0:List UInt8)(a1:GRaw)(r:List UInt8×Bool)(h:Zp a0 a1=some r)(σ:Store):ACalls qh 52 [.ds true (qf encB a0) (qb a0) false,.agg (encGRaw a1)] σ (fun r' σ'=>r'=.tup [.ds true (qf encB r.1) (qb r.1) false,.bool r.2]∧σ'=σ):=
 (Zp.ok a0 a1 r h).c σ
def zX.l11 : List GRaw→Int→List UInt8→Option (List UInt8×Int)
 |[],x8,x7=>some (x7,0)
 |y11::q11,x8,x7=>(Zp x7 y11).bind fun r17=>(if 4096<(qb r17.1:Int) then some (([]:List UInt8),4) else ((zX.l11 q11) (x8+1) r17.1))
def zX.l4 (a0:List GRaw):List GRaw→Int→Option (List UInt8×Int)
 |[],x2=>(zX.l11 a0 0 ([]:List UInt8))
 |y4::q4,x2=>bnd (yu y4) fun r25=>(if (!r25)=true then some (([]:List UInt8),1) else ((zX.l4 a0 q4) (x2+1)))
def zX (a0:List GRaw):Option (List UInt8×Int):=
 (zX.l4 a0 a0 0)
theorem zX.ok (a0:List GRaw)(r:List UInt8×Int)(h:zX a0=some r):ACalls qh 26 [.ds true (qf encGRaw a0) (qb a0) false] [] (fun r' _=>r'=.tup [.ds true (qf encB r.1) (qb r.1) false,.int .i64 r.2]):=by
 refine zi (rs:=[.tmp 2,.tmp 3]) tok Tryz.func26 rfl Tryz.ntmps26 rfl Tryz.call26 (by simp) ?_;refine zm [(0,.ds true (qf encGRaw a0) (qb a0) false)] ⟨rfl,trivial⟩ ?_;unfold zX at h;refine rgN [0] ?_
 refine za fun Z1 hZ1=>?_
 refine rgN [0,9,10,11] ?_;apply ze
 refine xb 0 fun hb4=>?_
 replace hb4:qb a0≤9223372036854775807:=hb4.1;refine zC (fun m L τ=>∃ (p4 q4:List GRaw) (x2:Int),m=qb q4∧L=[(0,.ds true (qf encGRaw a0) (qb a0) false),(9,.ds true (qf encGRaw a0) (qb a0) false),(10,.int .i64 (qb a0:Int)),(11,.int .i64 x2)]∧τ=[]∧a0=p4++q4∧x2=(qb p4:Int)∧zX.l4 a0 q4 x2=some r) _ ⟨[],a0,0,rfl,rfl,rfl,rfl,rfl,h⟩ .s ?_;rintro m L τ ⟨p4,q4,x2,rfl,rfl,rfl,hE4,hi4,h⟩
 rcases q4 with _|⟨y4,q4⟩
 · have hz4:=yz hE4 hi4;simp only[zX.l4] at h
   refine rg tok [0,9,10,11,12] fun K hK=>?_
   simp only[go_sem,qc,qa,reduceCtorEq,hz4];apply hK
   refine za fun Z5 hZ5=>?_
   refine zw rfl ?_;apply zJ;apply hZ1;refine rgN [0,6] ?_
   refine za fun Z6 hZ6=>?_
   refine rgN [6,19,20,21] ?_;apply ze
   refine xb 19 fun hb11=>?_
   replace hb11:qb a0≤9223372036854775807:=hb11.1;refine zC (fun m L τ=>∃ (p11 q11:List GRaw) (x8:Int) (x7:List UInt8),m=qb q11∧L=[(6,.ds true (qf encB x7) (qb x7) false),(19,.ds true (qf encGRaw a0) (qb a0) false),(20,.int .i64 (qb a0:Int)),(21,.int .i64 x8)]∧τ=[]∧a0=p11++q11∧x8=(qb p11:Int)∧zX.l11 q11 x8 x7=some r) _ ⟨[],a0,0,([]:List UInt8),rfl,rfl,rfl,rfl,rfl,h⟩ (.t [] true) ?_;rintro m L τ ⟨p11,q11,x8,x7,rfl,rfl,rfl,hE11,hi11,h⟩
   rcases q11 with _|⟨y11,q11⟩
   · have hz11:=yz hE11 hi11;simp only[zX.l11] at h
     refine rg tok [6,19,20,21,22] fun K hK=>?_
     simp only[go_sem,qc,qa,hz11];apply hK
     refine za fun Z12 hZ12=>?_
     refine zw rfl ?_;apply zJ;apply hZ6;refine rgN [2,3] ?_;cases h;exact rtA
   obtain⟨hz11,hw11,hx11,hE'11,hi'11⟩:=yd hE11 hi11 hb11;simp only[zX.l11] at h
   refine rg tok [6,19,20,21,22] fun K hK=>?_
   simp only[go_sem,qc,qa,hz11];apply hK
   refine za fun Z13 hZ13=>?_
   refine zz rfl ?_;apply zd;apply hZ13
   refine za fun Z14 hZ14=>?_
   apply ze;have f15:=E28.idxS hx11;have f16:=E28.loadS rfl rfl hx11
   refine rg tok [6,8,19,20,21] fun K hK=>?_
   simp only[go_sem,qc,qe,qa,qd,encGRaw,f15,f16];apply hK
   refine rc [6,19,20,21] fun K hK=>?_
   obtain⟨r17,hr17,h⟩:=bind_some h;refine rnN 2 ?_;refine clN rfl rfl rfl (Zp.ev x7 y11 r17 hr17 _) ?_;refine rnN 4 ?_;refine nkN hK ?_;refine rgN [6,19,20,21,33] ?_;refine zD rfl (fun hc18=>?_) (fun hc18=>?_)
   · rw[if_pos hc18] at h;have t19:=eq_true hc18
     refine rg tok [2,3] fun K hK=>?_
     simp only[go_sem,qc,qa,t19];apply hK
     cases h;exact rtA
   rw[if_neg hc18] at h;have t20:=eq_false hc18;apply zd;apply hZ14
   refine rgE tok [6,19,20,21] fun K hK=>?_
   simp only[go_sem,qc,qa,hw11,t20];apply hK
   exact⟨_,_,_,qy q11.length,⟨p11++[y11],q11,x8+1,r17.1,rfl,rfl,rfl,hE'11,hi'11,h⟩,(.t [] false)⟩
 obtain⟨hz4,hw4,hx4,hE'4,hi'4⟩:=yd hE4 hi4 hb4;simp only[zX.l4] at h
 refine rg tok [0,9,10,11,12] fun K hK=>?_
 simp only[go_sem,qc,qa,reduceCtorEq,hz4];apply hK
 refine za fun Z21 hZ21=>?_
 refine zz rfl ?_;apply zd;apply hZ21
 refine za fun Z22 hZ22=>?_
 apply ze;have f23:=E28.idxS hx4;have f24:=E28.loadS rfl rfl hx4
 refine rg tok [0,5,9,10,11] fun K hK=>?_
 simp only[go_sem,qc,qe,qa,qd,reduceCtorEq,encGRaw,f23,f24];apply hK
 refine rc [0,9,10,11,17] fun K hK=>?_
 obtain⟨r25,hr25,h⟩:=zR h;refine rnN 1 ?_;refine clN rfl rfl rfl (yu.ev y4 r25 hr25 _) ?_;refine rnN 1 ?_;refine nkN hK ?_;refine zn (b:=(!r25)) rfl (fun hc26=>?_) (fun hc26=>?_)
 · rw[if_pos hc26] at h;refine rgN [2,3] ?_;cases h;exact rtA
 rw[xD hc26] at h;apply zd;apply hZ22
 refine rgE tok [0,9,10,11] fun K hK=>?_
 simp only[go_sem,qc,qa,reduceCtorEq,hw4];apply hK
 exact⟨_,_,_,qy q4.length,⟨p4++[y4],q4,x2+1,rfl,rfl,rfl,hE'4,hi'4,h⟩,(.t [] false)⟩
theorem zX.ev (a0:List GRaw)(r:List UInt8×Int)(h:zX a0=some r)(σ:Store):ACalls qh 26 [.ds true (qf encGRaw a0) (qb a0) false] σ (fun r' σ'=>r'=.tup [.ds true (qf encB r.1) (qb r.1) false,.int .i64 r.2]∧σ'=σ):=
 (zX.ok a0 r h).c σ
def yS.body (yE:GValueNode→Option (List UInt8×Int))(zY:Int→GValueValue→Option (GRaw×Int))(yJ:GValueNode→Option (List GRaw×Int))(a0:GValueNode):Option (List UInt8×Int):=
 (yJ a0).bind fun r1=>(if r1.2=0 then (zX r1.1).bind fun r6=>some (r6.1,r6.2) else some (([]:List UInt8),r1.2))
theorem yS.step (yE:GValueNode→Option (List UInt8×Int))(zY:Int→GValueValue→Option (GRaw×Int))(yJ:GValueNode→Option (List GRaw×Int))(wO:∀ (a0:GValueNode) (r:List UInt8×Int),yE a0=some r→ACalls qh 138 [.dp (encGValueNode a0) 0] [] (fun r' _=>r'=.tup [.ds true (qf encB r.1) (qb r.1) false,.int .i64 r.2]))(Zf:∀ (a0:Int) (a1:GValueValue) (r:GRaw×Int),zY a0 a1=some r→ACalls qh 101 [.int .i64 a0,.agg (encGValueValue a1)] [] (fun r' _=>r'=.tup [.agg (encGRaw r.1),.int .i64 r.2]))(wW:∀ (a0:GValueNode) (r:List GRaw×Int),yJ a0=some r→ACalls qh 58 [.dp (encGValueNode a0) 0] [] (fun r' _=>r'=.tup [.ds true (qf encGRaw r.1) (qb r.1) false,.int .i64 r.2]))(a0:GValueNode)(r:List UInt8×Int)(h:yS.body yE zY yJ a0=some r):ACalls qh 138 [.dp (encGValueNode a0) 0] [] (fun r' _=>r'=.tup [.ds true (qf encB r.1) (qb r.1) false,.int .i64 r.2]):=by
 have ev_encode_bytes:=fun a0 r h σ=>(wO a0 r h).c σ
 have ev_encode_raw:=fun a0 a1 r h σ=>(Zf a0 a1 r h).c σ
 have ev_encode_raws:=fun a0 r h σ=>(wW a0 r h).c σ
 refine zi (rs:=[.tmp 2,.tmp 3]) tok Tryz.func138 rfl Tryz.ntmps138 rfl Tryz.call138 (by simp) ?_;refine zm [(0,.dp (encGValueNode a0) 0)] ⟨rfl,trivial⟩ ?_;unfold yS.body at h;refine rgN [0] ?_
 refine rc [4,5] fun K hK=>?_
 obtain⟨r1,hr1,h⟩:=bind_some h;refine rnN 1 ?_;refine clN rfl rfl rfl (ev_encode_raws a0 r1 hr1 _) ?_;refine rnN 5 ?_;refine nkN hK ?_
 refine za fun Z2 hZ2=>?_
 refine rgN [4,5,12] ?_;refine zD rfl (fun hc3=>?_) (fun hc3=>?_)
 · rw[if_neg hc3] at h;have t4:=eq_false hc3
   refine rg tok [2,3] fun K hK=>?_
   simp only[go_sem,qc,qa,t4];apply hK
   cases h;exact rtA
 rw[if_pos hc3] at h;have t5:=eq_true hc3;apply zd;apply hZ2
 refine rc [2,3] fun K hK=>?_
 obtain⟨r6,hr6,h⟩:=bind_some h;refine zj tok 1 ?_;simp only[go_sem,qc,qa,t5];refine clN rfl rfl rfl (zX.ev r1.1 r6 hr6 _) ?_;refine rnN 4 ?_;refine nkN hK ?_;cases h;exact rtA
def yv.j3 (m1_2:GRaw):Option (GRaw×Int):=
 (if 4096<(qb m1_2.fB:Int) then some ((⟨0,0,0,[]⟩:GRaw),4) else some (m1_2,0))
def yv.body (yE:GValueNode→Option (List UInt8×Int))(zY:Int→GValueValue→Option (GRaw×Int))(yJ:GValueNode→Option (List GRaw×Int))(a0:Int)(a1:GValueValue):Option (GRaw×Int):=
 (xO a1).bind fun r8=>(match r8 with|.nil=>(yv.j3 (⟨a0,1,0,[]⟩:GRaw))|.num n9=>some ((⟨a0,0,n9,[]⟩:GRaw),0)|.str s9=>(yv.j3 (⟨a0,1,0,s9⟩:GRaw))|.node e9 r9=>(yE (⟨e9,r9⟩:GValueNode)).bind fun r10=>(if r10.2=0 then (yv.j3 (⟨a0,1,0,r10.1⟩:GRaw)) else some ((⟨0,0,0,[]⟩:GRaw),r10.2)))
theorem yv.step (yE:GValueNode→Option (List UInt8×Int))(zY:Int→GValueValue→Option (GRaw×Int))(yJ:GValueNode→Option (List GRaw×Int))(wO:∀ (a0:GValueNode) (r:List UInt8×Int),yE a0=some r→ACalls qh 138 [.dp (encGValueNode a0) 0] [] (fun r' _=>r'=.tup [.ds true (qf encB r.1) (qb r.1) false,.int .i64 r.2]))(Zf:∀ (a0:Int) (a1:GValueValue) (r:GRaw×Int),zY a0 a1=some r→ACalls qh 101 [.int .i64 a0,.agg (encGValueValue a1)] [] (fun r' _=>r'=.tup [.agg (encGRaw r.1),.int .i64 r.2]))(wW:∀ (a0:GValueNode) (r:List GRaw×Int),yJ a0=some r→ACalls qh 58 [.dp (encGValueNode a0) 0] [] (fun r' _=>r'=.tup [.ds true (qf encGRaw r.1) (qb r.1) false,.int .i64 r.2]))(a0:Int)(a1:GValueValue)(r:GRaw×Int)(h:yv.body yE zY yJ a0 a1=some r):ACalls qh 101 [.int .i64 a0,.agg (encGValueValue a1)] [] (fun r' _=>r'=.tup [.agg (encGRaw r.1),.int .i64 r.2]):=by
 have ev_encode_bytes:=fun a0 r h σ=>(wO a0 r h).c σ
 have ev_encode_raw:=fun a0 a1 r h σ=>(Zf a0 a1 r h).c σ
 have ev_encode_raws:=fun a0 r h σ=>(wW a0 r h).c σ
 refine zi (rs:=[.cell 4 62,.tmp 5]) tok Tryz.func101 rfl Tryz.ntmps101 rfl Tryz.call101 (by simp) ?_;refine zm [(0,.int .i64 a0),(1,.agg (encGValueValue a1))] ⟨rfl,rfl,trivial⟩ ?_;unfold yv.body at h;have f1:=Zk a1;unfold AV.one at f1
 refine rg tok [0,3,4] fun K hK=>?_
 simp only[go_sem,qc,qa,reduceCtorEq,encGValueValue,f1];apply hK
 refine rgN [0,3,4,6] ?_;refine xG (fun L τ=>∃ (m1_2:GRaw),L=[(4,.op 0 0 0),(6,.op 1 0 0)]∧τ=[.cells 0 [.int .i64 0,.int .i64 0,.int .i64 0,.str []],.cells 0 [.int .i64 m1_2.fTag,.int .i64 m1_2.fWire,.int .i64 m1_2.fN,.str m1_2.fB]]∧yv.j3 m1_2=some r) ?_ ?_
 · refine rc [0,4,6,15] fun K hK=>?_
   obtain⟨r8,hr8,h⟩:=bind_some h;refine rnN 1 ?_;refine clN rfl rfl rfl (xO.ev a1 r8 hr8 _) ?_;refine nkN hK ?_;apply ze
   rcases r8 with _|n9|s9|⟨e9,r9⟩
   · dsimp only at h
     try simp only[anyV_nil]
     refine rg tok [0,4,6,15,17,18] fun K hK=>?_
     simp only[go_sem,qc,qa,qd,reduceCtorEq,xE,xM,TypeDesc.isIface];apply hK
     refine zw rfl ?_
     refine rg tok [4,6,15,23,24] fun K hK=>?_
     simp only[go_sem,qc,qa,qd,reduceCtorEq,xE,xM,TypeDesc.isIface];apply hK
     refine zw rfl ?_
     refine rg tok [4,6,28,29] fun K hK=>?_
     simp only[go_sem,qc,qa,qd,xE,xM,TypeDesc.isIface];apply hK
     refine zw rfl ?_;apply zd;exact⟨_,_,⟨(⟨a0,1,0,[]⟩:GRaw),rfl,rfl,h⟩,(.t [1,2] false)⟩
   · dsimp only at h
     try simp only[anyV_num]
     refine rg tok [0,4,6,15,17,18] fun K hK=>?_
     simp only[go_sem,qc,qa,qd,reduceCtorEq,xE,xM,TypeDesc.isIface];apply hK
     refine zz rfl ?_;refine rgN [0,4,7] ?_;refine rgN [4,5] ?_;cases h;exact rtA
   · dsimp only at h
     try simp only[anyV_str]
     refine rg tok [0,4,6,15,17,18] fun K hK=>?_
     simp only[go_sem,qc,qa,qd,reduceCtorEq,xE,xM,TypeDesc.isIface];apply hK
     refine zw rfl ?_
     refine rg tok [4,6,15,23,24] fun K hK=>?_
     simp only[go_sem,qc,qa,qd,reduceCtorEq,xE,xM,TypeDesc.isIface];apply hK
     refine zz rfl ?_;refine rgN [4,6,8] ?_
     refine rgE tok [4,6] fun K hK=>?_
     simp only[go_sem,qc,qe,qa,qd];apply hK
     exact⟨_,_,⟨(⟨a0,1,0,s9⟩:GRaw),rfl,rfl,h⟩,(.t [1,2] false)⟩
   dsimp only at h
   try simp only[anyV_node]
   refine rg tok [0,4,6,15,17,18] fun K hK=>?_
   simp only[go_sem,qc,qa,qd,reduceCtorEq,xE,xM,TypeDesc.isIface];apply hK
   refine zw rfl ?_
   refine rg tok [4,6,15,23,24] fun K hK=>?_
   simp only[go_sem,qc,qa,qd,reduceCtorEq,xE,xM,TypeDesc.isIface];apply hK
   refine zw rfl ?_
   refine rg tok [4,6,28,29] fun K hK=>?_
   simp only[go_sem,qc,qa,qd,xE,xM,TypeDesc.isIface];apply hK
   refine zz rfl ?_;refine rgN [4,6,9] ?_
   refine rc [4,6,10,11] fun K hK=>?_
   obtain⟨r10,hr10,h⟩:=bind_some h;refine rnN 1 ?_;refine clN rfl rfl rfl (ev_encode_bytes (⟨e9,r9⟩:GValueNode) r10 hr10 _) ?_;refine rnN 5 ?_;refine nkN hK ?_
   refine za fun Z11 hZ11=>?_
   refine rgN [4,6,10,11,36] ?_;refine zD rfl (fun hc12=>?_) (fun hc12=>?_)
   · rw[if_neg hc12] at h;have t13:=eq_false hc12
     refine rg tok [4,5] fun K hK=>?_
     simp only[go_sem,qc,qe,qa,qd,t13];apply hK
     cases h;exact rtA
   rw[if_pos hc12] at h;have t14:=eq_true hc12;apply zd;apply hZ11;have f15:=va4 (T:=tab) (src:=34) (dst:=9) rfl rfl rfl rfl rfl rfl r10.1
   refine rgE tok [4,6] fun K hK=>?_
   simp only[go_sem,qc,qe,qa,qd,t14,f15];apply hK
   exact⟨_,_,⟨(⟨a0,1,0,r10.1⟩:GRaw),rfl,rfl,h⟩,(.t [1,2] false)⟩
 rintro _ _ ⟨m1_2,rfl,rfl,h⟩;unfold yv.j3 at h
 refine za fun Z4 hZ4=>?_
 refine rgN [4,6,45] ?_;refine zD rfl (fun hc5=>?_) (fun hc5=>?_)
 · rw[if_pos hc5] at h;have t6:=eq_true hc5
   refine rg tok [4,5] fun K hK=>?_
   simp only[go_sem,qc,qe,qa,qd,t6];apply hK
   cases h;exact rtA
 rw[if_neg hc5] at h;have t7:=eq_false hc5;apply zd;apply hZ4
 refine rg tok [4,5] fun K hK=>?_
 simp only[go_sem,qc,qe,qa,qd,t7];apply hK
 cases h;exact rtA
end
section
set_option maxRecDepth 4000
set_option maxHeartbeats 1000000
open AM
def zN.l24 (zY:Int→GValueValue→Option (GRaw×Int))(x6:Int)(rec10:Int→List GRaw→Option (List GRaw×Int))(y10:Int):List GValueValue→Int→List GRaw→Option (List GRaw×Int)
 |[],x20,l18=>(rec10 (x6+1) l18)
 |y24::q24,x20,l18=>(zY y10 y24).bind fun r31=>(if r31.2=0 then (Y5 (qb l18+1) 40).bind fun _u36=>((zN.l24 zY x6 rec10 y10 q24) (x20+1) (l18++[r31.1])) else some (([]:List GRaw),r31.2))
def zN.l10 (zY:Int→GValueValue→Option (GRaw×Int))(a0:GValueNode):List Int→Int→List GRaw→Option (List GRaw×Int)
 |[],x6,l4=>(zI l4).bind fun r12=>some (r12,0)
 |y10::q10,x6,l4=>(yh a0 y10).bind fun r17=>(zN.l24 zY x6 (zN.l10 zY a0 q10) y10 r17 0 l4)
def zN.body (yE:GValueNode→Option (List UInt8×Int))(zY:Int→GValueValue→Option (GRaw×Int))(yJ:GValueNode→Option (List GRaw×Int))(a0:GValueNode):Option (List GRaw×Int):=
 (wm a0).bind fun r1=>(zU a0).bind fun r3=>(zN.l10 zY a0 r3 0 r1)
theorem zN.step (yE:GValueNode→Option (List UInt8×Int))(zY:Int→GValueValue→Option (GRaw×Int))(yJ:GValueNode→Option (List GRaw×Int))(wO:∀ (a0:GValueNode) (r:List UInt8×Int),yE a0=some r→ACalls qh 138 [.dp (encGValueNode a0) 0] [] (fun r' _=>r'=.tup [.ds true (qf encB r.1) (qb r.1) false,.int .i64 r.2]))(Zf:∀ (a0:Int) (a1:GValueValue) (r:GRaw×Int),zY a0 a1=some r→ACalls qh 101 [.int .i64 a0,.agg (encGValueValue a1)] [] (fun r' _=>r'=.tup [.agg (encGRaw r.1),.int .i64 r.2]))(wW:∀ (a0:GValueNode) (r:List GRaw×Int),yJ a0=some r→ACalls qh 58 [.dp (encGValueNode a0) 0] [] (fun r' _=>r'=.tup [.ds true (qf encGRaw r.1) (qb r.1) false,.int .i64 r.2]))(a0:GValueNode)(r:List GRaw×Int)(h:zN.body yE zY yJ a0=some r):ACalls qh 58 [.dp (encGValueNode a0) 0] [] (fun r' _=>r'=.tup [.ds true (qf encGRaw r.1) (qb r.1) false,.int .i64 r.2]):=by
 have ev_encode_bytes:=fun a0 r h σ=>(wO a0 r h).c σ
 have ev_encode_raw:=fun a0 a1 r h σ=>(Zf a0 a1 r h).c σ
 have ev_encode_raws:=fun a0 r h σ=>(wW a0 r h).c σ
 refine zi (rs:=[.tmp 2,.tmp 3]) tok Tryz.func58 rfl Tryz.ntmps58 rfl Tryz.call58 (by simp) ?_;refine zm [(0,.dp (encGValueNode a0) 0)] ⟨rfl,trivial⟩ ?_;unfold zN.body at h;refine rgN [0] ?_
 refine rc [0,4] fun K hK=>?_
 obtain⟨r1,hr1,h⟩:=bind_some h;refine rnN 1 ?_;refine clN rfl rfl rfl (@id (ACalls qh 98 [.dp (encGValueNode a0) 0] [] (fun r' σ'=>r'=.os true 4 0 0 0 (qb r1) false∧σ'=[.cells 0 (qf encGRaw r1)])) ((wm.own a0 r1 hr1).ownAt0 (by simp only[push_cast]) (by simp only[push_cast]) _)) ?_;refine rnN 1 ?_;refine nkN hK ?_
 refine za fun Z2 hZ2=>?_
 refine rc [0,4,14,15,16] fun K hK=>?_
 obtain⟨r3,hr3,h⟩:=bind_some h;refine rnN 1 ?_;refine clN rfl rfl rfl (zU.ev a0 r3 hr3 _) ?_;refine rnN 2 ?_;refine nkN hK ?_;apply ze
 refine xb 14 fun hb10=>?_
 replace hb10:qb r3≤9223372036854775807:=hb10.1;refine zC (fun m L τ=>∃ (p10 q10:List Int) (x6:Int) (l4:List GRaw) (v5:Nat),m=qb q10∧L=[(0,.dp (encGValueNode a0) 0),(4,.os true 4 0 v5 0 (qb l4) false),(14,.ds true (qf encI r3) (qb r3) false),(15,.int .i64 (qb r3:Int)),(16,.int .i64 x6)]∧τ=[.cells v5 (qf encGRaw l4)]∧r3=p10++q10∧x6=(qb p10:Int)∧zN.l10 zY a0 q10 x6 l4=some r) _ ⟨[],r3,0,r1,0,rfl,rfl,rfl,rfl,rfl,h⟩ .s ?_;rintro m L τ ⟨p10,q10,x6,l4,v5,rfl,rfl,rfl,hE10,hi10,h⟩
 rcases q10 with _|⟨y10,q10⟩
 · have hz10:=yz hE10 hi10;simp only[zN.l10] at h
   refine rg tok [0,4,14,15,16,17] fun K hK=>?_
   simp only[go_sem,qc,qa,reduceCtorEq,hz10];apply hK
   refine za fun Z11 hZ11=>?_
   refine zw rfl ?_;apply zJ;apply hZ2
   refine rc [2,3] fun K hK=>?_
   obtain⟨r12,hr12,h⟩:=bind_some h;refine rnN 1 ?_;refine vbu (L:=[(43,.ds true (qf encGRaw l4) (qb l4) false)]) (τ:=[]) (.t [] false) ?_;refine clN rfl rfl rfl (zI.ev l4 r12 hr12 _) ?_;refine rnN 2 ?_;refine nkN hK ?_;cases h;exact rtA
 obtain⟨hz10,hw10,hx10,hE'10,hi'10⟩:=yd hE10 hi10 hb10;simp only[zN.l10] at h
 refine rg tok [0,4,14,15,16,17] fun K hK=>?_
 simp only[go_sem,qc,qa,reduceCtorEq,hz10];apply hK
 refine za fun Z13 hZ13=>?_
 refine zz rfl ?_;apply zd;apply hZ13
 refine za fun Z14 hZ14=>?_
 apply ze;have f15:=E45.idxS hx10;have f16:=E45.fldS0 (f:=3) rfl rfl hx10
 refine rg tok [0,4,6,14,15,16] fun K hK=>?_
 simp only[go_sem,qc,qa,reduceCtorEq,encI,f15,f16];apply hK
 refine rc [0,4,6,14,15,16,22,23,24] fun K hK=>?_
 obtain⟨r17,hr17,h⟩:=bind_some h;refine rnN 2 ?_;refine clN rfl rfl rfl (yh.ev a0 y10 r17 hr17 _) ?_;refine rnN 2 ?_;refine nkN hK ?_;apply ze
 refine xb 22 fun hb24=>?_
 replace hb24:qb r17≤9223372036854775807:=hb24.1;refine zC (fun m L τ=>∃ (p24 q24:List GValueValue) (x20:Int) (l18:List GRaw) (v19:Nat),m=qb q24∧L=[(0,.dp (encGValueNode a0) 0),(4,.os true 4 0 v19 0 (qb l18) false),(6,.int .i64 y10),(14,.ds true (qf encI r3) (qb r3) false),(15,.int .i64 (qb r3:Int)),(16,.int .i64 x6),(22,.ds true (qf encGValueValue r17) (qb r17) false),(23,.int .i64 (qb r17:Int)),(24,.int .i64 x20)]∧τ=[.cells v19 (qf encGRaw l18)]∧r17=p24++q24∧x20=(qb p24:Int)∧zN.l24 zY x6 (zN.l10 zY a0 q10) y10 q24 x20 l18=some r) _ ⟨[],r17,0,l4,v5,rfl,rfl,rfl,rfl,rfl,h⟩ .s ?_;rintro m L τ ⟨p24,q24,x20,l18,v19,rfl,rfl,rfl,hE24,hi24,h⟩
 rcases q24 with _|⟨y24,q24⟩
 · have hz24:=yz hE24 hi24;simp only[zN.l24] at h
   refine rg tok [0,4,6,14,15,16,22,23,24,25] fun K hK=>?_
   simp only[go_sem,qc,qa,reduceCtorEq,hz24];apply hK
   refine za fun Z25 hZ25=>?_
   refine zw rfl ?_;apply zJ;apply hZ14
   refine rgE tok [0,4,14,15,16] fun K hK=>?_
   simp only[go_sem,qc,qa,reduceCtorEq,hw10];apply hK
   exact⟨_,_,_,qy q10.length,⟨p10++[y10],q10,x6+1,l18,v19,rfl,rfl,rfl,hE'10,hi'10,h⟩,.s⟩
 obtain⟨hz24,hw24,hx24,hE'24,hi'24⟩:=yd hE24 hi24 hb24;simp only[zN.l24] at h
 refine rg tok [0,4,6,14,15,16,22,23,24,25] fun K hK=>?_
 simp only[go_sem,qc,qa,reduceCtorEq,hz24];apply hK
 refine za fun Z26 hZ26=>?_
 refine zz rfl ?_;apply zd;apply hZ26
 refine za fun Z27 hZ27=>?_
 apply ze;have f28:=E156.idxS hx24;have f29:=E156.loadS rfl rfl hx24;have f30:=Zk y24;unfold AV.one at f30
 refine rg tok [0,4,6,8,14,15,16,22,23,24] fun K hK=>?_
 simp only[go_sem,qc,qe,qa,reduceCtorEq,encGValueValue,f28,f29,f30];apply hK
 refine rc [0,4,6,9,10,14,15,16,22,23,24] fun K hK=>?_
 obtain⟨r31,hr31,h⟩:=bind_some h;refine rnN 2 ?_;refine clN rfl rfl rfl (ev_encode_raw y10 y24 r31 hr31 _) ?_;refine zj tok 6 ?_;simp only[go_sem,qc,qe,qa,qd,reduceCtorEq,encGRaw];refine nkN hK ?_
 refine za fun Z32 hZ32=>?_
 refine rgN [0,4,6,9,10,14,15,16,22,23,24,35] ?_;refine zD rfl (fun hc33=>?_) (fun hc33=>?_)
 · rw[if_neg hc33] at h;have t34:=eq_false hc33
   refine rg tok [2,3] fun K hK=>?_
   simp only[go_sem,qc,qa,reduceCtorEq,t34];apply hK
   cases h;exact rtA
 rw[if_pos hc33] at h;have t35:=eq_true hc33;apply zd;apply hZ32;obtain⟨_u36,hu36,h⟩:=bind_some h;have gu36:=yA hu36;have f37:=(zA E28.len l18)
 refine rgE tok [0,4,6,14,15,16,22,23,24] fun K hK=>?_
 simp only[go_sem,qc,qe,qa,qd,ql,reduceCtorEq,zQ,z6,ug,q7,true_and,ul,ym,zW,yp,t35,gu36,f37,yT,ud,q5,AV.one,qX,qz,qk,qn,qt,qA];apply hK
 apply hZ27
 refine rgE tok [0,4,6,14,15,16,22,23,24] fun K hK=>?_
 simp only[go_sem,qc,qa,reduceCtorEq,hw24];apply hK
 exact⟨_,_,_,qy q24.length,⟨p24++[y24],q24,x20+1,l18++[r31.1],v19+1,rfl,rfl,rfl,hE'24,hi'24,h⟩,(.t [0] false)⟩
mutual
def yS : Nat→GValueNode→Option (List UInt8×Int)
 |0,_=>none
 |k+1,a0=>yS.body (yS k) (yv k) (zN k) a0
def yv : Nat→Int→GValueValue→Option (GRaw×Int)
 |0,_,_=>none
 |k+1,a0,a1=>yv.body (yS k) (yv k) (zN k) a0 a1
def zN : Nat→GValueNode→Option (List GRaw×Int)
 |0,_=>none
 |k+1,a0=>zN.body (yS k) (yv k) (zN k) a0
end
theorem yS.all (k:Nat):(∀ (a0:GValueNode) (r:List UInt8×Int),yS k a0=some r→ACalls qh 138 [.dp (encGValueNode a0) 0] [] (fun r' _=>r'=.tup [.ds true (qf encB r.1) (qb r.1) false,.int .i64 r.2]))∧(∀ (a0:Int) (a1:GValueValue) (r:GRaw×Int),yv k a0 a1=some r→ACalls qh 101 [.int .i64 a0,.agg (encGValueValue a1)] [] (fun r' _=>r'=.tup [.agg (encGRaw r.1),.int .i64 r.2]))∧(∀ (a0:GValueNode) (r:List GRaw×Int),zN k a0=some r→ACalls qh 58 [.dp (encGValueNode a0) 0] [] (fun r' _=>r'=.tup [.ds true (qf encGRaw r.1) (qb r.1) false,.int .i64 r.2])):=by
 induction k with
 |zero=>exact⟨(fun a0 r h=>by simp only[yS] at h; cases h),(fun a0 a1 r h=>by simp only[yv] at h; cases h),(fun a0 r h=>by simp only[zN] at h; cases h)⟩
 |succ k ih=>exact⟨(fun a0 r h=>yS.step _ _ _ ih.1 ih.2.1 ih.2.2 a0 r (by simpa only [yS] using h)),(fun a0 a1 r h=>yv.step _ _ _ ih.1 ih.2.1 ih.2.2 a0 a1 r (by simpa only [yv] using h)),(fun a0 r h=>zN.step _ _ _ ih.1 ih.2.1 ih.2.2 a0 r (by simpa only [zN] using h))⟩
theorem zN.ev (k:Nat)(a0:GValueNode)(r:List GRaw×Int)(h:zN k a0=some r)(σ:Store):ACalls qh 58 [.dp (encGValueNode a0) 0] σ (fun r' σ'=>r'=.tup [.ds true (qf encGRaw r.1) (qb r.1) false,.int .i64 r.2]∧σ'=σ):=
 ((yS.all k).2.2 a0 r h).c σ
def wk (a0:GTree):Option (List GRaw×Int):=
 (Zs a0).bind fun r1=>(if ((!r1.2)||(!(decide (a0.fKind=3))))=true then some (([]:List GRaw),1) else (yo r1.1).bind fun r5=>(zN rounds r5).bind fun r6=>some (r6.1,r6.2))
theorem wk.ok (a0:GTree)(r:List GRaw×Int)(h:wk a0=some r):ACalls qh 37 [.agg (cellsGTree a0)] [] (fun r' _=>r'=.tup [.ds true (qf encGRaw r.1) (qb r.1) false,.int .i64 r.2]):=by
 refine zi (rs:=[.tmp 2,.tmp 3]) tok Tryz.func37 rfl Tryz.ntmps37 rfl Tryz.call37 (by simp) ?_;refine zm [(0,.agg (cellsGTree a0))] ⟨rfl,trivial⟩ ?_;unfold wk at h
 refine rg tok [1] fun K hK=>?_
 simp only[go_sem,qc,qa,qd,reduceCtorEq,cellsGTree];apply hK
 refine rc [1,4,5] fun K hK=>?_
 obtain⟨r1,hr1,h⟩:=bind_some h;refine rnN 1 ?_;refine clN rfl rfl rfl (Zs.ev a0 r1 hr1 _) ?_;have f2:=Zk r1.1;unfold AV.one at f2;refine zj tok 6 ?_;simp only[go_sem,qc,qe,qa,qd,encGValueValue,f2];refine nkN hK ?_
 refine za fun Z3 hZ3=>?_
 refine rc [4,17] fun K hK=>?_
 refine rnN 3 ?_;refine zh 4 (fun L τ=>L=[(4,.op 1 0 0),(17,.bool ((!r1.2)||(!(decide (a0.fKind=3)))))]∧τ=[.cells 0 (cellsGTree a0),.cells 0 [ifcV r1.1]]) ?_ ?_
 · refine zK (b:=(!r1.2)) 13 rfl (fun hg13=>?_) (fun hg13=>?_)
   · refine rnN 4 ?_;refine zb ⟨rfl,_,_,⟨rfl,rfl⟩,.b hg13⟩
   refine rnN 4 ?_;refine zb ⟨rfl,_,_,⟨rfl,rfl⟩,.b hg13⟩
 rintro _ _ ⟨rfl,rfl⟩;refine nkN hK ?_;refine zn (b:=((!r1.2)||(!(decide (a0.fKind=3))))) rfl (fun hc4=>?_) (fun hc4=>?_)
 · rw[if_pos hc4] at h;refine rgN [2,3] ?_;cases h;exact rtA
 rw[xD hc4] at h;apply zd;apply hZ3
 refine rc [2,3] fun K hK=>?_
 obtain⟨r5,hr5,h⟩:=bind_some h;refine rnN 1 ?_;refine clN rfl rfl rfl (yo.ev r1.1 r5 hr5 _) ?_;obtain⟨r6,hr6,h⟩:=bind_some h;refine clN rfl rfl rfl (zN.ev rounds r5 r6 hr6 _) ?_;refine rnN 4 ?_;refine nkN hK ?_;cases h;exact rtA
theorem wk.ev (a0:GTree)(r:List GRaw×Int)(h:wk a0=some r)(σ:Store):ACalls qh 37 [.agg (cellsGTree a0)] σ (fun r' σ'=>r'=.tup [.ds true (qf encGRaw r.1) (qb r.1) false,.int .i64 r.2]∧σ'=σ):=
 (wk.ok a0 r h).c σ
def xa (a0:GTree):Option (List UInt8×Int):=
 (wk a0).bind fun r1=>(if r1.2=0 then (zX r1.1).bind fun r6=>some (r6.1,r6.2) else some (([]:List UInt8),r1.2))
theorem xa.ok (a0:GTree)(r:List UInt8×Int)(h:xa a0=some r):ACalls qh 14 [.agg (cellsGTree a0)] [] (fun r' _=>r'=.tup [.ds true (qf encB r.1) (qb r.1) false,.int .i64 r.2]):=by
 refine zi (rs:=[.tmp 2,.tmp 3]) tok Tryz.func14 rfl Tryz.ntmps14 rfl Tryz.call14 (by simp) ?_;refine zm [(0,.agg (cellsGTree a0))] ⟨rfl,trivial⟩ ?_;unfold xa at h
 refine rg tok [1] fun K hK=>?_
 simp only[go_sem,qc,qa,qd,reduceCtorEq,cellsGTree];apply hK
 refine rc [4,5] fun K hK=>?_
 obtain⟨r1,hr1,h⟩:=bind_some h;refine rnN 1 ?_;refine clN rfl rfl rfl (wk.ev a0 r1 hr1 _) ?_;refine rnN 5 ?_;refine nkN hK ?_
 refine za fun Z2 hZ2=>?_
 refine rgN [4,5,12] ?_;refine zD rfl (fun hc3=>?_) (fun hc3=>?_)
 · rw[if_neg hc3] at h;have t4:=eq_false hc3
   refine rg tok [2,3] fun K hK=>?_
   simp only[go_sem,qc,qa,t4];apply hK
   cases h;exact rtA
 rw[if_pos hc3] at h;have t5:=eq_true hc3;apply zd;apply hZ2
 refine rc [2,3] fun K hK=>?_
 obtain⟨r6,hr6,h⟩:=bind_some h;refine zj tok 1 ?_;simp only[go_sem,qc,qa,t5];refine clN rfl rfl rfl (zX.ev r1.1 r6 hr6 _) ?_;refine rnN 4 ?_;refine nkN hK ?_;cases h;exact rtA
theorem xa.ev (a0:GTree)(r:List UInt8×Int)(h:xa a0=some r)(σ:Store):ACalls qh 14 [.agg (cellsGTree a0)] σ (fun r' σ'=>r'=.tup [.ds true (qf encB r.1) (qb r.1) false,.int .i64 r.2]∧σ'=σ):=
 (xa.ok a0 r h).c σ
def wE (a0:GSchema)(a1:List UInt8)(a2:List UInt8):Option Bool:=
 (yI a0 a1 a2).bind fun r1=>(if r1.2=0 then (xa r1.1).bind fun r6=>some ((decide (r6.2=0))&&(decide (r6.1=a2))) else some false)
theorem wE.ok (a0:GSchema)(a1:List UInt8)(a2:List UInt8)(r:Bool)(h:wE a0 a1 a2=some r):ACalls qh 24 [.agg (encGSchema a0),.str a1,.ds true (qf encB a2) (qb a2) false] [] (fun r' _=>r'=.bool r):=by
 refine zi (rs:=[.tmp 6]) tok Tryz.func24 rfl Tryz.ntmps24 rfl Tryz.call24 (by simp) ?_;refine zm [(0,.agg (encGSchema a0)),(1,.str a1),(2,.ds true (qf encB a2) (qb a2) false)] ⟨rfl,rfl,rfl,trivial⟩ ?_;unfold wE at h
 refine rg tok [1,2,3] fun K hK=>?_
 simp only[go_sem,qc,qa,qd,reduceCtorEq,encGSchema];apply hK
 refine rc [2,7,8] fun K hK=>?_
 obtain⟨r1,hr1,h⟩:=bind_some h;refine rnN 3 ?_;refine clN rfl rfl rfl (yI.ev a0 a1 a2 r1 hr1 _) ?_;refine zj tok 6 ?_;simp only[go_sem,qc,qe,qa,qd,cellsGTree];refine nkN hK ?_
 refine za fun Z2 hZ2=>?_
 refine rgN [2,7,18] ?_;refine zD rfl (fun hc3=>?_) (fun hc3=>?_)
 · rw[if_neg hc3] at h;have t4:=eq_false hc3
   refine rg tok [6] fun K hK=>?_
   simp only[go_sem,qc,qa,t4];apply hK
   cases h;exact rtA
 rw[if_pos hc3] at h;have t5:=eq_true hc3;apply zd;apply hZ2
 refine rc [2,8,9] fun K hK=>?_
 obtain⟨r6,hr6,h⟩:=bind_some h;refine zj tok 1 ?_;simp only[go_sem,qc,qe,qa,qd,t5];refine clN rfl rfl rfl (xa.ev r1.1 r6 hr6 _) ?_;refine rnN 5 ?_;refine nkN hK ?_
 refine rc [6] fun K hK=>?_
 refine rnN 3 ?_;refine zh 6 (fun L τ=>L=[(32,.bool ((decide (r6.2=0))&&(decide (r6.1=a2))))]∧τ=[.cells 0 (encGSchema a0),.cells 0 (cellsGTree r1.1)]) ?_ ?_
 · refine yx 26 rfl (fun hg26=>?_) (fun hg26=>?_)
   · have t7:=eq_true hg26;have f8:=va4 (T:=tab) (src:=34) (dst:=9) rfl rfl rfl rfl rfl rfl r6.1;have f9:=va4 (T:=tab) (src:=34) (dst:=9) rfl rfl rfl rfl rfl rfl a2;refine zj tok 6 ?_;simp only[go_sem,qc,qa,f8,f9];refine zb ⟨rfl,_,_,⟨rfl,rfl⟩,.p t7⟩
   have t10:=eq_false hg26;refine rnN 6 ?_;refine zb ⟨rfl,_,_,⟨rfl,rfl⟩,.p t10⟩
 rintro _ _ ⟨rfl,rfl⟩;refine rnN 1 ?_;refine nkN hK ?_;cases h;exact rtA
def xp  : Option Bool:=
 (yI (⟨[97],[(⟨[109],([]:List GField),([]:List Int)⟩:GMessage)],([]:List GEnumeration),([]:List GMethod)⟩:GSchema) [109] [(2:UInt8),(10:UInt8)]).bind fun r2=>(if ((decide (r2.2=0))&&(decide ((qb r2.1.fRest:Int)=1)))=true then (wV r2.1.fRest 0).bind fun y5=>some (decide (y5.fTag=1)&&(decide (y5.fWire=0)&&(decide (y5.fN=5)&&decide (y5.fB=[])))) else some false).bind fun c5=>(if c5=true then (wE (⟨[97],[(⟨[109],([]:List GField),([]:List Int)⟩:GMessage)],([]:List GEnumeration),([]:List GMethod)⟩:GSchema) [109] [(2:UInt8),(10:UInt8)]).bind fun r10=>some r10 else some false).bind fun c9=>some c9
theorem xp.ok  (r:Bool)(h:xp=some r):ACalls qh 13 [] [] (fun r' _=>r'=.bool r):=by
 refine zi (rs:=[.tmp 0]) tok Tryz.func13 rfl Tryz.ntmps13 rfl Tryz.call13 (by simp) ?_;refine zm [] trivial ?_;unfold xp at h;refine rgN [] ?_
 refine rg tok [1] fun K hK=>?_
 simp only[go_sem,qc,qe,qa,qd,ql,zQ,z6,ug,q7,true_and,ul];apply hK
 refine rc [1,2,3] fun K hK=>?_
 have f1:=fun (o0:Zo) (o1:Zo) (τ:Store)=>conv_same (T:=tab) (s:=34) (off:=0) (len:=2) (sz:=1) (nl:=true) (t:=true) rfl rfl rfl rfl (σ:=o0::o1::.cells 0 [.int .u8 2,.int .u8 10]::τ) (id:=2) (ver:=0) (by simp only[Store.at_hd,Store.at_tl,if_true]; rfl) ⟨by simp,by decide,rfl⟩
 obtain⟨r2,hr2,h⟩:=bind_some h;refine zj tok 3 ?_;simp only[go_sem,qc,qe,qa,qd,ql,zQ,z6,ug,q7,true_and,ul,f1];refine vbu (L:=[(1,.op 0 0 0),(8,.agg [.str [97],.ds true (qf encGMessage [(⟨[109],([]:List GField),([]:List Int)⟩:GMessage)]) (qb [(⟨[109],([]:List GField),([]:List Int)⟩:GMessage)]) false,.ds true (qf encGEnumeration ([]:List GEnumeration)) (qb ([]:List GEnumeration)) false,.ds true (qf encGMethod ([]:List GMethod)) (qb ([]:List GMethod)) false]),(10,.ds true (qf encB [(2:UInt8),(10:UInt8)]) (qb [(2:UInt8),(10:UInt8)]) false)]) (τ:=[.cells 0 [.str [97],.ds true (qf encGMessage [(⟨[109],([]:List GField),([]:List Int)⟩:GMessage)]) (qb [(⟨[109],([]:List GField),([]:List Int)⟩:GMessage)]) false,.ds true (qf encGEnumeration ([]:List GEnumeration)) (qb ([]:List GEnumeration)) false,.ds true (qf encGMethod ([]:List GMethod)) (qb ([]:List GMethod)) false]]) (.t [1] true) ?_;refine clN rfl rfl rfl (ACalls.loose (yI.ev (⟨[97],[(⟨[109],([]:List GField),([]:List Int)⟩:GMessage)],([]:List GEnumeration),([]:List GMethod)⟩:GSchema) [109] [(2:UInt8),(10:UInt8)] r2 hr2 _)) ?_;refine zj tok 6 ?_;simp only[go_sem,qc,qe,qa,qd,cellsGTree];refine nkN hK ?_
 refine rc [0] fun K hK=>?_
 refine rnN 3 ?_;refine zh 5 (fun L τ=>L=[(1,.op 0 0 0),(2,.op 1 0 0),(21,.bool ((decide (r2.2=0))&&(decide ((qb r2.1.fRest:Int)=1))))]∧τ=[.cells 0 [.str [97],.ds true (qf encGMessage [(⟨[109],([]:List GField),([]:List Int)⟩:GMessage)]) (qb [(⟨[109],([]:List GField),([]:List Int)⟩:GMessage)]) false,.ds true (qf encGEnumeration ([]:List GEnumeration)) (qb ([]:List GEnumeration)) false,.ds true (qf encGMethod ([]:List GMethod)) (qb ([]:List GMethod)) false],.cells 0 (cellsGTree r2.1)]) ?_ ?_
 · refine yx 16 rfl (fun hg16=>?_) (fun hg16=>?_)
   · have t3:=eq_true hg16;refine rnN 5 ?_;refine zb ⟨rfl,_,_,⟨rfl,rfl⟩,.p t3⟩
   have t4:=eq_false hg16;refine rnN 5 ?_;refine zb ⟨rfl,_,_,⟨rfl,rfl⟩,.p t4⟩
 rintro _ _ ⟨rfl,rfl⟩;refine rnN 1 ?_;obtain⟨c5,hc5,h⟩:=bind_some h;refine zh 7 (fun L τ=>L=[(1,.op 0 0 0),(29,.bool c5)]∧τ=[.cells 0 [.str [97],.ds true (qf encGMessage [(⟨[109],([]:List GField),([]:List Int)⟩:GMessage)]) (qb [(⟨[109],([]:List GField),([]:List Int)⟩:GMessage)]) false,.ds true (qf encGEnumeration ([]:List GEnumeration)) (qb ([]:List GEnumeration)) false,.ds true (qf encGMethod ([]:List GMethod)) (qb ([]:List GMethod)) false],.cells 0 (cellsGTree r2.1)]) ?_ ?_
 · refine zK (b:=((decide (r2.2=0))&&(decide ((qb r2.1.fRest:Int)=1)))) 22 rfl (fun hg22=>?_) (fun hg22=>?_)
   · rw[if_pos hg22] at hc5;obtain⟨y6,hy6,hc5⟩:=bind_some hc5;have f7:=E28.idxS hy6;have f8:=E28.loadS rfl rfl hy6;refine zj tok 7 ?_;simp only[go_sem,qc,qe,qa,qd,encGRaw,f7,f8,evEqA,ceqL,ceq];cases hc5;refine zb ⟨rfl,_,_,⟨rfl,rfl⟩,.b hg22⟩
   rw[xD hg22] at hc5;refine rnN 7 ?_;cases hc5;refine zb ⟨rfl,_,_,⟨rfl,rfl⟩,.b hg22⟩
 rintro _ _ ⟨rfl,rfl⟩;refine rnN 1 ?_;obtain⟨c9,hc9,h⟩:=bind_some h;refine zh 5 (fun L τ=>L=[(35,.bool c9)]∧τ=[]) ?_ ?_
 · refine zK (b:=c5) 30 rfl (fun hg30=>?_) (fun hg30=>?_)
   · rw[if_pos hg30] at hc9
     have f10:=fun (o0:Zo) (o1:Zo) (τ:Store)=>conv_same (T:=tab) (s:=34) (off:=0) (len:=2) (sz:=1) (nl:=true) (t:=true) rfl rfl rfl rfl (σ:=o0::o1::.cells 0 [.int .u8 2,.int .u8 10]::τ) (id:=2) (ver:=0) (by simp only[Store.at_hd,Store.at_tl,if_true]; rfl) ⟨by simp,by decide,rfl⟩
     obtain⟨r11,hr11,hc9⟩:=bind_some hc9;refine zj tok 3 ?_;simp only[go_sem,qc,qe,qa,qd,ql,zQ,z6,ug,q7,true_and,ul,f10];refine clN rfl rfl rfl (wE.ok (⟨[97],[(⟨[109],([]:List GField),([]:List Int)⟩:GMessage)],([]:List GEnumeration),([]:List GMethod)⟩:GSchema) [109] [(2:UInt8),(10:UInt8)] r11 hr11).ld ?_;refine rnN 1 ?_;cases hc9;refine zb ⟨rfl,_,_,⟨rfl,rfl⟩,.told [] false (by decide) (by simp) (by first|rfl|simp) (by first|rfl|(simp only[← qI,← qi]; simp only[go_sem,qc,qe,qa,qd,ql,qm,reduceIte,reduceCtorEq,push_cast,if_true,qD,qt,qG,qx,qH,qO,qU,qL,qR,qK,qC,TLS,encGMessage,and_self,zE]; done)|(simp only[go_sem,qc,qe,qa,qd,ql,qm,reduceIte,reduceCtorEq,push_cast,if_true,qD,qt,qG,qx,qH,qO,qU,qL,qR,qK,qC,TLS,encB,encI,encS,encBo,vas,yU,qI,qM,q3,qw,qz,qi,qk,qn,qt,qp,qA,uN,encGMessage,and_self,zE]<;>first|rfl|(and_intros<;>rfl))) (by first|rfl|(simp only[← qI,← qi]; simp only[go_sem,qc,qe,qa,qd,ql,qm,reduceIte,reduceCtorEq,push_cast,hg30,if_true,qD,qt,qG,qx,qH,qO,qU,qL,qR,qK,qC,TLS,encGMessage,and_self,zE]; done)|(simp only[go_sem,qa,push_cast,hg30,if_true,TLS,q3,qw,qn,encGMessage,and_self]<;>first|rfl|(and_intros<;>rfl)))⟩
   rw[xD hg30] at hc9;refine zj tok 5 ?_;simp only[go_sem,qc,qa,true_and];cases hc9;refine zb ⟨rfl,_,_,⟨rfl,rfl⟩,.told [] false (by decide) (by simp) (by first|rfl|simp) (by first|rfl|(simp only[← qI,← qi]; simp only[go_sem,qc,qe,qa,qd,ql,qm,reduceIte,reduceCtorEq,push_cast,if_true,qD,qt,qG,qx,qH,qO,qU,qL,qR,qK,qC,TLS,encGMessage,and_self,zE]; done)|(simp only[go_sem,qc,qe,qa,qd,ql,qm,reduceIte,reduceCtorEq,push_cast,if_true,qD,qt,qG,qx,qH,qO,qU,qL,qR,qK,qC,TLS,encB,encI,encS,encBo,vas,yU,qI,qM,q3,qw,qz,qi,qk,qn,qt,qp,qA,uN,encGMessage,and_self,zE]<;>first|rfl|(and_intros<;>rfl))) (by first|rfl|(simp only[← qI,← qi]; simp only[go_sem,qc,qe,qa,qd,ql,qm,reduceIte,reduceCtorEq,push_cast,hg30,if_true,qD,qt,qG,qx,qH,qO,qU,qL,qR,qK,qC,TLS,encGMessage,and_self,zE]; done)|(simp only[go_sem,qa,push_cast,hg30,if_true,TLS,q3,qw,qn,encGMessage,and_self]<;>first|rfl|(and_intros<;>rfl)))⟩
 rintro _ _ ⟨rfl,rfl⟩;refine rnN 1 ?_;refine nkN hK ?_;cases h;exact rtA
theorem xp.ev  (r:Bool)(h:xp=some r)(σ:Store):ACalls qh 13 [] σ (fun r' σ'=>r'=.bool r∧σ'=σ):=
 (xp.ok  r h).c σ
def wz (a0:List UInt8):Option (List UInt8):=
 (Y5 (qb a0) 1).bind fun _u2=>some a0
theorem wz.own (a0:List UInt8)(r:List UInt8)(h:wz a0=some r):ACalls qh 18 [.ds true (qf encB a0) (qb a0) false] [] (fun r' σ'=>r'=.os true 1 0 0 0 (qb r) false∧σ'=[.cells 0 (qf encB r)]):=by
 refine ACalls.own0 (by simp only[push_cast]) ?_;refine Xn (rs:=[.tmp 2]) tok Tryz.func18 rfl Tryz.ntmps18 rfl Tryz.call18 (by simp) ?_;refine zm [(0,.ds true (qf encB a0) (qb a0) false)] ⟨rfl,trivial⟩ ?_;unfold wz at h;refine rgN [0] ?_
 have f1:=fun nl tt σ=>xZ E34.len a0 nl tt σ
 obtain⟨_u2,hu2,h⟩:=bind_some h;have gu2:=yA hu2
 refine rg tok [2] fun K hK=>?_
 simp only[go_sem,qc,qa,reduceCtorEq,ym,zW,yp,true_and,f1,gu2,Ze,qz,qn,qt];apply hK
 refine yc (L:=[(2,.os true 1 0 0 0 (qb a0) false)]) (τ:=[.cells 0 (qf encB a0)]) .s ?_;apply yw;cases h;simp only[Zv,yP,yZ,xJ,exists_eq_left',go_sem];refine⟨0,0,by simp,?_,?_⟩
 · first|rfl|(simp only[go_sem,qc,qe,qa,qd,ql,qm,reduceIte,reduceCtorEq,push_cast,if_true,qD,qt,qG,qx,qH,qO,qU,qL,qR,qK,qC,zE]<;>rfl)
 first|rfl|(simp only[go_sem,push_cast,qx,zE]<;>rfl)
def y0 (a0:Int):Bool:=
 ((((((decide (97≤a0))&&(decide (a0≤122)))||((decide (65≤a0))&&(decide (a0≤90))))||(decide (a0=95)))||((((decide (192≤a0))&&(decide (a0≤591)))&&(!(decide (a0=215))))&&(!(decide (a0=247)))))||(((decide (913≤a0))&&(decide (a0≤969)))&&(!(decide (a0=930)))))
theorem y0.ok (a0:Int)(r:Bool)(h:y0 a0=r):ACalls qh 79 [.int .i32 a0] [] (fun r' _=>r'=.bool r):=by
 refine zi (rs:=[.tmp 2]) tok Tryz.func79 rfl Tryz.ntmps79 rfl Tryz.call79 (by simp) ?_;refine zm [(0,.int .i32 a0)] ⟨rfl,trivial⟩ ?_;unfold y0 at h;refine rgN [0] ?_
 refine rc [2] fun K hK=>?_
 refine rnN 3 ?_;refine zh 3 (fun L τ=>L=[(0,.int .i32 a0),(8,.bool ((decide (97≤a0))&&(decide (a0≤122))))]∧τ=[]) ?_ ?_
 · refine yx 5 rfl (fun hg5=>?_) (fun hg5=>?_)
   · have t1:=eq_true hg5;refine rnN 3 ?_;refine zb ⟨rfl,_,_,⟨rfl,rfl⟩,.p t1⟩
   have t2:=eq_false hg5;refine rnN 3 ?_;refine zb ⟨rfl,_,_,⟨rfl,rfl⟩,.p t2⟩
 rintro _ _ ⟨rfl,rfl⟩;refine rnN 1 ?_;refine zh 7 (fun L τ=>L=[(0,.int .i32 a0),(16,.bool (((decide (97≤a0))&&(decide (a0≤122)))||((decide (65≤a0))&&(decide (a0≤90)))))]∧τ=[]) ?_ ?_
 · refine zK (b:=((decide (97≤a0))&&(decide (a0≤122)))) 9 rfl (fun hg9=>?_) (fun hg9=>?_)
   · refine rnN 7 ?_;refine zb ⟨rfl,_,_,⟨rfl,rfl⟩,.b hg9⟩
   refine rnN 3 ?_;refine zh 3 (fun L τ=>L=[(0,.int .i32 a0),(9,.bool false),(15,.bool ((decide (65≤a0))&&(decide (a0≤90))))]∧τ=[]) ?_ ?_
   · refine yx 12 rfl (fun hg12=>?_) (fun hg12=>?_)
     · have t3:=eq_true hg12;refine rnN 3 ?_;refine zb ⟨rfl,_,_,⟨rfl,rfl⟩,.p t3⟩
     have t4:=eq_false hg12;refine rnN 3 ?_;refine zb ⟨rfl,_,_,⟨rfl,rfl⟩,.p t4⟩
   rintro _ _ ⟨rfl,rfl⟩;refine rnN 1 ?_;refine zb ⟨rfl,_,_,⟨rfl,rfl⟩,.b hg9⟩
 rintro _ _ ⟨rfl,rfl⟩;refine rnN 1 ?_;refine zh 3 (fun L τ=>L=[(0,.int .i32 a0),(20,.bool ((((decide (97≤a0))&&(decide (a0≤122)))||((decide (65≤a0))&&(decide (a0≤90))))||(decide (a0=95))))]∧τ=[]) ?_ ?_
 · refine zK (b:=(((decide (97≤a0))&&(decide (a0≤122)))||((decide (65≤a0))&&(decide (a0≤90))))) 17 rfl (fun hg17=>?_) (fun hg17=>?_)
   · refine rnN 3 ?_;refine zb ⟨rfl,_,_,⟨rfl,rfl⟩,.b hg17⟩
   refine rnN 3 ?_;refine zb ⟨rfl,_,_,⟨rfl,rfl⟩,.b hg17⟩
 rintro _ _ ⟨rfl,rfl⟩;refine rnN 1 ?_;refine zh 15 (fun L τ=>L=[(0,.int .i32 a0),(36,.bool (((((decide (97≤a0))&&(decide (a0≤122)))||((decide (65≤a0))&&(decide (a0≤90))))||(decide (a0=95)))||((((decide (192≤a0))&&(decide (a0≤591)))&&(!(decide (a0=215))))&&(!(decide (a0=247))))))]∧τ=[]) ?_ ?_
 · refine zK (b:=((((decide (97≤a0))&&(decide (a0≤122)))||((decide (65≤a0))&&(decide (a0≤90))))||(decide (a0=95)))) 21 rfl (fun hg21=>?_) (fun hg21=>?_)
   · refine rnN 10 ?_;refine rnN 5 ?_;refine zb ⟨rfl,_,_,⟨rfl,rfl⟩,.b hg21⟩
   refine rnN 3 ?_;refine zh 3 (fun L τ=>L=[(0,.int .i32 a0),(21,.bool false),(27,.bool ((decide (192≤a0))&&(decide (a0≤591))))]∧τ=[]) ?_ ?_
   · refine yx 24 rfl (fun hg24=>?_) (fun hg24=>?_)
     · have t5:=eq_true hg24;refine rnN 3 ?_;refine zb ⟨rfl,_,_,⟨rfl,rfl⟩,.p t5⟩
     have t6:=eq_false hg24;refine rnN 3 ?_;refine zb ⟨rfl,_,_,⟨rfl,rfl⟩,.p t6⟩
   rintro _ _ ⟨rfl,rfl⟩;refine rnN 1 ?_;refine zh 3 (fun L τ=>L=[(0,.int .i32 a0),(21,.bool false),(31,.bool (((decide (192≤a0))&&(decide (a0≤591)))&&(!(decide (a0=215)))))]∧τ=[]) ?_ ?_
   · refine zK (b:=((decide (192≤a0))&&(decide (a0≤591)))) 28 rfl (fun hg28=>?_) (fun hg28=>?_)
     · refine rnN 3 ?_;refine zb ⟨rfl,_,_,⟨rfl,rfl⟩,.b hg28⟩
     refine rnN 3 ?_;refine zb ⟨rfl,_,_,⟨rfl,rfl⟩,.b hg28⟩
   rintro _ _ ⟨rfl,rfl⟩;refine rnN 1 ?_;refine zh 3 (fun L τ=>L=[(0,.int .i32 a0),(21,.bool false),(35,.bool ((((decide (192≤a0))&&(decide (a0≤591)))&&(!(decide (a0=215))))&&(!(decide (a0=247)))))]∧τ=[]) ?_ ?_
   · refine zK (b:=(((decide (192≤a0))&&(decide (a0≤591)))&&(!(decide (a0=215))))) 32 rfl (fun hg32=>?_) (fun hg32=>?_)
     · refine rnN 3 ?_;refine zb ⟨rfl,_,_,⟨rfl,rfl⟩,.b hg32⟩
     refine rnN 3 ?_;refine zb ⟨rfl,_,_,⟨rfl,rfl⟩,.b hg32⟩
   rintro _ _ ⟨rfl,rfl⟩;refine rnN 1 ?_;refine zb ⟨rfl,_,_,⟨rfl,rfl⟩,.b hg21⟩
 rintro _ _ ⟨rfl,rfl⟩;refine rnN 1 ?_;refine zh 11 (fun L τ=>L=[(48,.bool ((((((decide (97≤a0))&&(decide (a0≤122)))||((decide (65≤a0))&&(decide (a0≤90))))||(decide (a0=95)))||((((decide (192≤a0))&&(decide (a0≤591)))&&(!(decide (a0=215))))&&(!(decide (a0=247)))))||(((decide (913≤a0))&&(decide (a0≤969)))&&(!(decide (a0=930))))))]∧τ=[]) ?_ ?_
 · refine zK (b:=(((((decide (97≤a0))&&(decide (a0≤122)))||((decide (65≤a0))&&(decide (a0≤90))))||(decide (a0=95)))||((((decide (192≤a0))&&(decide (a0≤591)))&&(!(decide (a0=215))))&&(!(decide (a0=247)))))) 37 rfl (fun hg37=>?_) (fun hg37=>?_)
   · refine rnN 10 ?_;refine rnN 1 ?_;refine zb ⟨rfl,_,_,⟨rfl,rfl⟩,.b hg37⟩
   refine rnN 3 ?_;refine zh 3 (fun L τ=>L=[(0,.int .i32 a0),(37,.bool false),(43,.bool ((decide (913≤a0))&&(decide (a0≤969))))]∧τ=[]) ?_ ?_
   · refine yx 40 rfl (fun hg40=>?_) (fun hg40=>?_)
     · have t7:=eq_true hg40;refine rnN 3 ?_;refine zb ⟨rfl,_,_,⟨rfl,rfl⟩,.p t7⟩
     have t8:=eq_false hg40;refine rnN 3 ?_;refine zb ⟨rfl,_,_,⟨rfl,rfl⟩,.p t8⟩
   rintro _ _ ⟨rfl,rfl⟩;refine rnN 1 ?_;refine zh 3 (fun L τ=>L=[(37,.bool false),(47,.bool (((decide (913≤a0))&&(decide (a0≤969)))&&(!(decide (a0=930)))))]∧τ=[]) ?_ ?_
   · refine zK (b:=((decide (913≤a0))&&(decide (a0≤969)))) 44 rfl (fun hg44=>?_) (fun hg44=>?_)
     · refine rnN 3 ?_;refine zb ⟨rfl,_,_,⟨rfl,rfl⟩,.b hg44⟩
     refine rnN 3 ?_;refine zb ⟨rfl,_,_,⟨rfl,rfl⟩,.b hg44⟩
   rintro _ _ ⟨rfl,rfl⟩;refine rnN 1 ?_;refine zb ⟨rfl,_,_,⟨rfl,rfl⟩,.b hg37⟩
 rintro _ _ ⟨rfl,rfl⟩;refine rnN 1 ?_;refine nkN hK ?_;cases h;exact rtA
theorem y0.ev (a0:Int)(r:Bool)(h:y0 a0=r)(σ:Store):ACalls qh 79 [.int .i32 a0] σ (fun r' σ'=>r'=.bool r∧σ'=σ):=
 (y0.ok a0 r h).c σ
def yR.j3 (x2:Bool):Bool:=
 (if x2=true then true else false)
def yR (a0:List UInt8):Bool:=
 (if a0=[115,99,104,101,109,97] then (yR.j3 (decide (a0=[115,99,104,101,109,97]))) else (if a0=[109,101,115,115,97,103,101] then (yR.j3 (decide (a0=[109,101,115,115,97,103,101]))) else (if a0=[101,110,117,109] then (yR.j3 (decide (a0=[101,110,117,109]))) else (if a0=[99,97,108,108] then (yR.j3 (decide (a0=[99,97,108,108]))) else (if a0=[114,101,116,117,114,110,115] then (yR.j3 (decide (a0=[114,101,116,117,114,110,115]))) else (if a0=[114,101,115,101,114,118,101,100] then (yR.j3 (decide (a0=[114,101,115,101,114,118,101,100]))) else (if a0=[111,112,116,105,111,110,97,108] then (yR.j3 (decide (a0=[111,112,116,105,111,110,97,108]))) else (if a0=[114,101,112,101,97,116,101,100] then (yR.j3 (decide (a0=[114,101,112,101,97,116,101,100]))) else (if a0=[105,110,116,51,50] then (yR.j3 (decide (a0=[105,110,116,51,50]))) else (if a0=[105,110,116,54,52] then (yR.j3 (decide (a0=[105,110,116,54,52]))) else (if a0=[98,111,111,108] then (yR.j3 (decide (a0=[98,111,111,108]))) else (if a0=[116,101,120,116] then (yR.j3 (decide (a0=[116,101,120,116]))) else (yR.j3 (decide (a0=[98,121,116,101,115])))))))))))))))
theorem yR.ok (a0:List UInt8)(r:Bool)(h:yR a0=r):ACalls qh 80 [.str a0] [] (fun r' _=>r'=.bool r):=by
 refine zi (rs:=[.tmp 2]) tok Tryz.func80 rfl Tryz.ntmps80 rfl Tryz.call80 (by simp) ?_;refine zm [(0,.str a0)] ⟨rfl,trivial⟩ ?_;unfold yR at h;refine rgN [0] ?_
 refine za fun Z1 hZ1=>?_
 refine rgN [3] ?_;apply ze;refine xG (fun L τ=>∃ (x2:Bool),L=[(4,.bool x2)]∧τ=[]∧yR.j3 x2=r) ?_ ?_
 · refine rgN [3,4] ?_;refine zD rfl (fun hc5=>?_) (fun hc5=>?_)
   · rw[if_pos hc5] at h;have t6:=eq_true hc5;apply zd;exact⟨_,_,⟨decide (a0=[115,99,104,101,109,97]),rfl,rfl,h⟩,.s⟩
   rw[if_neg hc5] at h;have t7:=eq_false hc5
   refine rg tok [3,4] fun K hK=>?_
   simp only[go_sem,qc,qa,t7];apply hK
   refine zD rfl (fun hc8=>?_) (fun hc8=>?_)
   · rw[if_pos hc8] at h;have t9:=eq_true hc8;apply zd;exact⟨_,_,⟨decide (a0=[109,101,115,115,97,103,101]),rfl,rfl,h⟩,.s⟩
   rw[if_neg hc8] at h;have t10:=eq_false hc8
   refine rg tok [3,4] fun K hK=>?_
   simp only[go_sem,qc,qa,t10];apply hK
   refine zD rfl (fun hc11=>?_) (fun hc11=>?_)
   · rw[if_pos hc11] at h;have t12:=eq_true hc11;apply zd;exact⟨_,_,⟨decide (a0=[101,110,117,109]),rfl,rfl,h⟩,.s⟩
   rw[if_neg hc11] at h;have t13:=eq_false hc11
   refine rg tok [3,4] fun K hK=>?_
   simp only[go_sem,qc,qa,t13];apply hK
   refine zD rfl (fun hc14=>?_) (fun hc14=>?_)
   · rw[if_pos hc14] at h;have t15:=eq_true hc14;apply zd;exact⟨_,_,⟨decide (a0=[99,97,108,108]),rfl,rfl,h⟩,.s⟩
   rw[if_neg hc14] at h;have t16:=eq_false hc14
   refine rg tok [3,4] fun K hK=>?_
   simp only[go_sem,qc,qa,t16];apply hK
   refine zD rfl (fun hc17=>?_) (fun hc17=>?_)
   · rw[if_pos hc17] at h;have t18:=eq_true hc17;apply zd;exact⟨_,_,⟨decide (a0=[114,101,116,117,114,110,115]),rfl,rfl,h⟩,.s⟩
   rw[if_neg hc17] at h;have t19:=eq_false hc17
   refine rg tok [3,4] fun K hK=>?_
   simp only[go_sem,qc,qa,t19];apply hK
   refine zD rfl (fun hc20=>?_) (fun hc20=>?_)
   · rw[if_pos hc20] at h;have t21:=eq_true hc20;apply zd;exact⟨_,_,⟨decide (a0=[114,101,115,101,114,118,101,100]),rfl,rfl,h⟩,.s⟩
   rw[if_neg hc20] at h;have t22:=eq_false hc20
   refine rg tok [3,4] fun K hK=>?_
   simp only[go_sem,qc,qa,t22];apply hK
   refine zD rfl (fun hc23=>?_) (fun hc23=>?_)
   · rw[if_pos hc23] at h;have t24:=eq_true hc23;apply zd;exact⟨_,_,⟨decide (a0=[111,112,116,105,111,110,97,108]),rfl,rfl,h⟩,.s⟩
   rw[if_neg hc23] at h;have t25:=eq_false hc23
   refine rg tok [3,4] fun K hK=>?_
   simp only[go_sem,qc,qa,t25];apply hK
   refine zD rfl (fun hc26=>?_) (fun hc26=>?_)
   · rw[if_pos hc26] at h;have t27:=eq_true hc26;apply zd;exact⟨_,_,⟨decide (a0=[114,101,112,101,97,116,101,100]),rfl,rfl,h⟩,.s⟩
   rw[if_neg hc26] at h;have t28:=eq_false hc26
   refine rg tok [3,4] fun K hK=>?_
   simp only[go_sem,qc,qa,t28];apply hK
   refine zD rfl (fun hc29=>?_) (fun hc29=>?_)
   · rw[if_pos hc29] at h;have t30:=eq_true hc29;apply zd;exact⟨_,_,⟨decide (a0=[105,110,116,51,50]),rfl,rfl,h⟩,.s⟩
   rw[if_neg hc29] at h;have t31:=eq_false hc29
   refine rg tok [3,4] fun K hK=>?_
   simp only[go_sem,qc,qa,t31];apply hK
   refine zD rfl (fun hc32=>?_) (fun hc32=>?_)
   · rw[if_pos hc32] at h;have t33:=eq_true hc32;apply zd;exact⟨_,_,⟨decide (a0=[105,110,116,54,52]),rfl,rfl,h⟩,.s⟩
   rw[if_neg hc32] at h;have t34:=eq_false hc32
   refine rg tok [3,4] fun K hK=>?_
   simp only[go_sem,qc,qa,t34];apply hK
   refine zD rfl (fun hc35=>?_) (fun hc35=>?_)
   · rw[if_pos hc35] at h;have t36:=eq_true hc35;apply zd;exact⟨_,_,⟨decide (a0=[98,111,111,108]),rfl,rfl,h⟩,.s⟩
   rw[if_neg hc35] at h;have t37:=eq_false hc35
   refine rg tok [3,4] fun K hK=>?_
   simp only[go_sem,qc,qa,t37];apply hK
   refine zD rfl (fun hc38=>?_) (fun hc38=>?_)
   · rw[if_pos hc38] at h;have t39:=eq_true hc38;apply zd;exact⟨_,_,⟨decide (a0=[116,101,120,116]),rfl,rfl,h⟩,.s⟩
   rw[if_neg hc38] at h;have t40:=eq_false hc38
   refine rgE tok [4] fun K hK=>?_
   simp only[go_sem,qc,qa,t40];apply hK
   exact⟨_,_,⟨decide (a0=[98,121,116,101,115]),rfl,rfl,h⟩,.s⟩
 rintro _ _ ⟨x2,rfl,rfl,h⟩;unfold yR.j3 at h;refine zn (b:=x2) rfl (fun hc4=>?_) (fun hc4=>?_)
 · rw[if_pos hc4] at h;refine rgN [2] ?_;cases h;exact rtA
 rw[xD hc4] at h;apply zd;apply hZ1;refine rgN [2] ?_;cases h;exact rtA
end
section
set_option maxRecDepth 4000
set_option maxHeartbeats 1000000
open AM
theorem yR.ev (a0:List UInt8)(r:Bool)(h:yR a0=r)(σ:Store):ACalls qh 80 [.str a0] σ (fun r' σ'=>r'=.bool r∧σ'=σ):=
 (yR.ok a0 r h).c σ
def xN (a0:Int):Bool:=
 ((decide (48≤a0))&&(decide (a0≤57)))
theorem xN.ok (a0:Int)(r:Bool)(h:xN a0=r):ACalls qh 81 [.int .i32 a0] [] (fun r' _=>r'=.bool r):=by
 refine zi (rs:=[.tmp 2]) tok Tryz.func81 rfl Tryz.ntmps81 rfl Tryz.call81 (by simp) ?_;refine zm [(0,.int .i32 a0)] ⟨rfl,trivial⟩ ?_;unfold xN at h;refine rgN [0] ?_
 refine rc [2] fun K hK=>?_
 refine rnN 3 ?_;refine zh 3 (fun L τ=>L=[(8,.bool ((decide (48≤a0))&&(decide (a0≤57))))]∧τ=[]) ?_ ?_
 · refine yx 5 rfl (fun hg5=>?_) (fun hg5=>?_)
   · have t1:=eq_true hg5;refine rnN 3 ?_;refine zb ⟨rfl,_,_,⟨rfl,rfl⟩,.p t1⟩
   have t2:=eq_false hg5;refine rnN 3 ?_;refine zb ⟨rfl,_,_,⟨rfl,rfl⟩,.p t2⟩
 rintro _ _ ⟨rfl,rfl⟩;refine rnN 1 ?_;refine nkN hK ?_;cases h;exact rtA
theorem xN.ev (a0:Int)(r:Bool)(h:xN a0=r)(σ:Store):ACalls qh 81 [.int .i32 a0] σ (fun r' σ'=>r'=.bool r∧σ'=σ):=
 (xN.ok a0 r h).c σ
def yO.l14 (r1:List Int×Bool):Nat→Int→Option Bool
 |0,_=>none
 |k14+1,x12=>(if x12<(qb r1.1:Int) then (wV r1.1 x12).bind fun y19=>bnd (y0 y19) fun r22=>bnd (if (!r22)=true then bnd (xN y19) fun r25 => !r25 else false) fun c23=>(if c23=true then some false else ((yO.l14 r1 k14) (IntKind.i64.wrap (x12+1)))) else some true)
def yO (a0:List UInt8):Option Bool:=
 (xH a0).bind fun r1=>(if (((!r1.2)||(decide ((qb r1.1:Int)<1)))||(decide (20<(qb r1.1:Int))))=true then some true else (wV r1.1 0).bind fun y3=>bnd (y0 y3) fun r6=>some (!r6)).bind fun c3=>bnd (if c3=true then true else bnd (yR a0) fun r8=>r8) fun c8=>(if c8=true then some false else (yO.l14 r1 rounds 1))
theorem yO.ok (a0:List UInt8)(r:Bool)(h:yO a0=some r):ACalls qh 45 [.str a0] [] (fun r' _=>r'=.bool r):=by
 refine zi (rs:=[.tmp 2]) tok Tryz.func45 rfl Tryz.ntmps45 rfl Tryz.call45 (by simp) ?_;refine zm [(0,.str a0)] ⟨rfl,trivial⟩ ?_;unfold yO at h;refine rgN [0] ?_
 refine rc [0,3,4] fun K hK=>?_
 obtain⟨r1,hr1,h⟩:=bind_some h;refine rnN 1 ?_;refine clN rfl rfl rfl (xH.ev a0 r1 hr1 _) ?_;refine rnN 5 ?_;refine nkN hK ?_
 refine za fun Z2 hZ2=>?_
 refine rc [3,33] fun K hK=>?_
 refine rnN 3 ?_;refine zh 4 (fun L τ=>L=[(0,.str a0),(3,.ds true (qf (vas .i32) r1.1) (qb r1.1) false),(17,.bool ((!r1.2)||(decide ((qb r1.1:Int)<1))))]∧τ=[]) ?_ ?_
 · refine zK (b:=(!r1.2)) 13 rfl (fun hg13=>?_) (fun hg13=>?_)
   · refine rnN 4 ?_;refine zb ⟨rfl,_,_,⟨rfl,rfl⟩,.b hg13⟩
   refine rnN 4 ?_;refine zb ⟨rfl,_,_,⟨rfl,rfl⟩,.b hg13⟩
 rintro _ _ ⟨rfl,rfl⟩;refine rnN 1 ?_;refine zh 4 (fun L τ=>L=[(0,.str a0),(3,.ds true (qf (vas .i32) r1.1) (qb r1.1) false),(22,.bool (((!r1.2)||(decide ((qb r1.1:Int)<1)))||(decide (20<(qb r1.1:Int)))))]∧τ=[]) ?_ ?_
 · refine zK (b:=((!r1.2)||(decide ((qb r1.1:Int)<1)))) 18 rfl (fun hg18=>?_) (fun hg18=>?_)
   · refine rnN 4 ?_;refine zb ⟨rfl,_,_,⟨rfl,rfl⟩,.b hg18⟩
   refine rnN 4 ?_;refine zb ⟨rfl,_,_,⟨rfl,rfl⟩,.b hg18⟩
 rintro _ _ ⟨rfl,rfl⟩;refine rnN 1 ?_;obtain⟨c3,hc3,h⟩:=bind_some h;refine zh 6 (fun L τ=>L=[(0,.str a0),(3,.ds true (qf (vas .i32) r1.1) (qb r1.1) false),(29,.bool c3)]∧τ=[]) ?_ ?_
 · refine zK (b:=(((!r1.2)||(decide ((qb r1.1:Int)<1)))||(decide (20<(qb r1.1:Int))))) 23 rfl (fun hg23=>?_) (fun hg23=>?_)
   · rw[if_pos hg23] at hc3;refine rnN 6 ?_;cases hc3;refine zb ⟨rfl,_,_,⟨rfl,rfl⟩,.b hg23⟩
   rw[xD hg23] at hc3;obtain⟨y4,hy4,hc3⟩:=bind_some hc3;have f5:=E130.idxS hy4;have f6:=E130.fldS0 (f:=21) rfl rfl hy4;obtain⟨r7,hr7,hc3⟩:=zR hc3;refine zj tok 3 ?_;simp only[go_sem,qc,qa,reduceCtorEq,vas,f5,f6];refine clN rfl rfl rfl (y0.ev y4 r7 hr7 _) ?_;refine rnN 2 ?_;cases hc3;refine zb ⟨rfl,_,_,⟨rfl,rfl⟩,.b hg23⟩
 rintro _ _ ⟨rfl,rfl⟩;refine rnN 1 ?_;obtain⟨c8,hc8,h⟩:=zR h;refine zh 3 (fun L τ=>L=[(3,.ds true (qf (vas .i32) r1.1) (qb r1.1) false),(33,.bool c8)]∧τ=[]) ?_ ?_
 · refine zK (b:=c3) 30 rfl (fun hg30=>?_) (fun hg30=>?_)
   · rw[if_pos hg30] at hc8;refine rnN 3 ?_;subst hc8;refine zb ⟨rfl,_,_,⟨rfl,rfl⟩,.b hg30⟩
   rw[xD hg30] at hc8;obtain⟨r9,hr9,hc8⟩:=zR hc8;refine rnN 1 ?_;refine clN rfl rfl rfl (yR.ev a0 r9 hr9 _) ?_;refine rnN 1 ?_;subst hc8;refine zb ⟨rfl,_,_,⟨rfl,rfl⟩,.b hg30⟩
 rintro _ _ ⟨rfl,rfl⟩;refine nkN hK ?_;refine zn (b:=c8) rfl (fun hc10=>?_) (fun hc10=>?_)
 · rw[if_pos hc10] at h;refine rgN [2] ?_;cases h;exact rtA
 rw[xD hc10] at h;apply zd;apply hZ2
 refine za fun Z11 hZ11=>?_
 refine rgN [3,5] ?_;apply ze;refine zC (fun m L τ=>∃ (k14:Nat) (x12:Int),m=0+k14∧L=[(3,.ds true (qf (vas .i32) r1.1) (qb r1.1) false),(5,.int .i64 x12)]∧τ=[]∧yO.l14 r1 k14 x12=some r) _ ⟨rounds,1,rfl,rfl,rfl,h⟩ .s ?_;rintro m L τ ⟨k14,x12,rfl,rfl,rfl,h⟩
 rcases k14 with _|k14
 · cases h
 simp only[yO.l14] at h
 refine za fun Z15 hZ15=>?_
 refine rgN [3,5,37] ?_;refine zD rfl (fun hc16=>?_) (fun hc16=>?_)
 · rw[if_pos hc16] at h;have t17:=eq_true hc16;apply zd;apply hZ15
   refine za fun Z18 hZ18=>?_
   apply ze
   refine rc [3,5,53] fun K hK=>?_
   obtain⟨y19,hy19,h⟩:=bind_some h;have f20:=E130.idxS hy19;have f21:=E130.fldS0 (f:=21) rfl rfl hy19;obtain⟨r22,hr22,h⟩:=zR h;refine zj tok 4 ?_;simp only[go_sem,qc,qa,vas,t17,f20,f21];refine clN rfl rfl rfl (y0.ev y19 r22 hr22 _) ?_;refine rnN 2 ?_;obtain⟨c23,hc23,h⟩:=zR h;refine zh 7 (fun L τ=>L=[(3,.ds true (qf (vas .i32) r1.1) (qb r1.1) false),(5,.int .i64 x12),(53,.bool c23)]∧τ=[]) ?_ ?_
   · refine zK (b:=(!r22)) 46 rfl (fun hg46=>?_) (fun hg46=>?_)
     · rw[if_pos hg46] at hc23;have f24:=E130.idxS hy19;have f25:=E130.fldS0 (f:=21) rfl rfl hy19;obtain⟨r26,hr26,hc23⟩:=zR hc23;refine zj tok 4 ?_;simp only[go_sem,qc,qa,vas,f24,f25];refine clN rfl rfl rfl (xN.ev y19 r26 hr26 _) ?_;refine rnN 2 ?_;subst hc23;refine zb ⟨rfl,_,_,⟨rfl,rfl⟩,.b hg46⟩
     rw[xD hg46] at hc23;refine rnN 7 ?_;subst hc23;refine zb ⟨rfl,_,_,⟨rfl,rfl⟩,.b hg46⟩
   rintro _ _ ⟨rfl,rfl⟩;refine nkN hK ?_;refine zn (b:=c23) rfl (fun hc27=>?_) (fun hc27=>?_)
   · rw[if_pos hc27] at h;refine rgN [2] ?_;cases h;exact rtA
   rw[xD hc27] at h;apply zd;apply hZ18
   refine rgE tok [3,5] fun K hK=>?_
   simp only[go_sem,qc,qa];apply hK
   exact⟨_,_,_,qy (0+k14),⟨k14,IntKind.i64.wrap (x12+1),rfl,rfl,rfl,h⟩,.s⟩
 rw[if_neg hc16] at h;have t28:=eq_false hc16;apply zJ;apply hZ11
 refine rg tok [2] fun K hK=>?_
 simp only[go_sem,qc,qa,t28];apply hK
 cases h;exact rtA
theorem yO.ev (a0:List UInt8)(r:Bool)(h:yO a0=some r)(σ:Store):ACalls qh 45 [.str a0] σ (fun r' σ'=>r'=.bool r∧σ'=σ):=
 (yO.ok a0 r h).c σ
def yb.l4 (a0:List UInt8):List (List UInt8)→Int→Option Bool
 |[],x2=>(yO a0).bind fun r6=>some r6
 |y4::q4,x2=>(if y4=a0 then some false else ((yb.l4 a0 q4) (x2+1)))
def yb (a0:List UInt8)(a1:List (List UInt8)):Option Bool:=
 (yb.l4 a0 a1 0)
theorem yb.ok (a0:List UInt8)(a1:List (List UInt8))(r:Bool)(h:yb a0 a1=some r):ACalls qh 47 [.str a0,.ds true (qf encS a1) (qb a1) false] [] (fun r' _=>r'=.bool r):=by
 refine zi (rs:=[.tmp 4]) tok Tryz.func47 rfl Tryz.ntmps47 rfl Tryz.call47 (by simp) ?_;refine zm [(0,.str a0),(1,.ds true (qf encS a1) (qb a1) false)] ⟨rfl,rfl,trivial⟩ ?_;unfold yb at h;refine rgN [0,1] ?_
 refine za fun Z1 hZ1=>?_
 refine rgN [0,1,5] ?_;apply ze
 refine xb 1 fun hb4=>?_
 replace hb4:qb a1≤9223372036854775807:=hb4.1;refine zC (fun m L τ=>∃ (p4 q4:List (List UInt8)) (x2:Int),m=qb q4∧L=[(0,.str a0),(1,.ds true (qf encS a1) (qb a1) false),(5,.int .i64 x2)]∧τ=[]∧a1=p4++q4∧x2=(qb p4:Int)∧yb.l4 a0 q4 x2=some r) _ ⟨[],a1,0,rfl,rfl,rfl,rfl,rfl,h⟩ .s ?_;rintro m L τ ⟨p4,q4,x2,rfl,rfl,rfl,hE4,hi4,h⟩
 rcases q4 with _|⟨y4,q4⟩
 · have hz4:=yz hE4 hi4;simp only[yb.l4] at h
   refine za fun Z5 hZ5=>?_
   refine rg tok [0,1,5,9] fun K hK=>?_
   simp only[go_sem,qc,qa,reduceCtorEq,hz4];apply hK
   refine zw rfl ?_;apply zJ;apply hZ1
   refine rc [4] fun K hK=>?_
   obtain⟨r6,hr6,h⟩:=bind_some h;refine rnN 1 ?_;refine clN rfl rfl rfl (yO.ev a0 r6 hr6 _) ?_;refine rnN 1 ?_;refine nkN hK ?_;cases h;exact rtA
 obtain⟨hz4,hw4,hx4,hE'4,hi'4⟩:=yd hE4 hi4 hb4;simp only[yb.l4] at h
 refine za fun Z7 hZ7=>?_
 refine rg tok [0,1,5,9] fun K hK=>?_
 simp only[go_sem,qc,qa,reduceCtorEq,hz4];apply hK
 refine zz rfl ?_;apply zd;apply hZ7
 refine za fun Z8 hZ8=>?_
 apply ze;have f9:=E98.idxS hx4;have f10:=E98.fldS0 (f:=9) rfl rfl hx4
 refine rg tok [0,1,5,17] fun K hK=>?_
 simp only[go_sem,qc,qa,reduceCtorEq,encS,f9,f10];apply hK
 refine zD rfl (fun hc11=>?_) (fun hc11=>?_)
 · rw[if_pos hc11] at h;have t12:=eq_true hc11
   refine rg tok [4] fun K hK=>?_
   simp only[go_sem,qc,qa,reduceCtorEq,t12];apply hK
   cases h;exact rtA
 rw[if_neg hc11] at h;have t13:=eq_false hc11;apply zd;apply hZ8
 refine rgE tok [0,1,5] fun K hK=>?_
 simp only[go_sem,qc,qa,reduceCtorEq,hw4,t13];apply hK
 exact⟨_,_,_,qy q4.length,⟨p4++[y4],q4,x2+1,rfl,rfl,rfl,hE'4,hi'4,h⟩,.s⟩
def ye.l4 (a1:Int):List Int→Int→Bool
 |[],x2=>false
 |y4::q4,x2=>(if y4=a1 then true else ((ye.l4 a1 q4) (x2+1)))
def ye (a0:GMessage)(a1:Int):Bool:=
 (ye.l4 a1 a0.fReserved 0)
theorem ye.ok (a0:GMessage)(a1:Int)(r:Bool)(h:ye a0 a1=r):ACalls qh 121 [.agg (encGMessage a0),.int .i64 a1] [] (fun r' _=>r'=.bool r):=by
 refine zi (rs:=[.tmp 4]) tok Tryz.func121 rfl Tryz.ntmps121 rfl Tryz.call121 (by simp) ?_;refine zm [(0,.agg (encGMessage a0)),(1,.int .i64 a1)] ⟨rfl,rfl,trivial⟩ ?_;unfold ye at h
 refine rg tok [1,2] fun K hK=>?_
 simp only[go_sem,qc,qa,qd,reduceCtorEq,encGMessage];apply hK
 refine za fun Z1 hZ1=>?_
 refine rgN [1,2,5] ?_;apply ze
 refine xI 0 rfl fun hb4=>?_
 replace hb4:qb a0.fReserved≤9223372036854775807:=hb4.2.2.1.1;refine zC (fun m L τ=>∃ (p4 q4:List Int) (x2:Int),m=qb q4∧L=[(1,.int .i64 a1),(2,.op 0 0 0),(5,.int .i64 x2)]∧τ=[.cells 0 (encGMessage a0)]∧a0.fReserved=p4++q4∧x2=(qb p4:Int)∧ye.l4 a1 q4 x2=r) _ ⟨[],a0.fReserved,0,rfl,rfl,rfl,rfl,rfl,h⟩ .s ?_;rintro m L τ ⟨p4,q4,x2,rfl,rfl,rfl,hE4,hi4,h⟩
 rcases q4 with _|⟨y4,q4⟩
 · have hz4:=yz hE4 hi4;simp only[ye.l4] at h
   refine za fun Z5 hZ5=>?_
   refine rg tok [1,2,5,10] fun K hK=>?_
   simp only[go_sem,qc,qa,qd,hz4];apply hK
   refine zw rfl ?_;apply zJ;apply hZ1;refine rgN [4] ?_;cases h;exact rtA
 obtain⟨hz4,hw4,hx4,hE'4,hi'4⟩:=yd hE4 hi4 hb4;simp only[ye.l4] at h
 refine za fun Z6 hZ6=>?_
 refine rg tok [1,2,5,10] fun K hK=>?_
 simp only[go_sem,qc,qa,qd,hz4];apply hK
 refine zz rfl ?_;apply zd;apply hZ6
 refine za fun Z7 hZ7=>?_
 apply ze;have f8:=E45.idxS hx4;have f9:=E45.fldS0 (f:=3) rfl rfl hx4
 refine rg tok [1,2,5,19] fun K hK=>?_
 simp only[go_sem,qc,qa,qd,encI,f8,f9];apply hK
 refine zD rfl (fun hc10=>?_) (fun hc10=>?_)
 · rw[if_pos hc10] at h;have t11:=eq_true hc10
   refine rg tok [4] fun K hK=>?_
   simp only[go_sem,qc,qa,t11];apply hK
   cases h;exact rtA
 rw[if_neg hc10] at h;have t12:=eq_false hc10;apply zd;apply hZ7
 refine rgE tok [1,2,5] fun K hK=>?_
 simp only[go_sem,qc,qa,hw4,t12];apply hK
 exact⟨_,_,_,qy q4.length,⟨p4++[y4],q4,x2+1,rfl,rfl,rfl,hE'4,hi'4,h⟩,.s⟩
theorem ye.ev (a0:GMessage)(a1:Int)(r:Bool)(h:ye a0 a1=r)(σ:Store):ACalls qh 121 [.agg (encGMessage a0),.int .i64 a1] σ (fun r' σ'=>r'=.bool r∧σ'=σ):=
 (ye.ok a0 a1 r h).c σ
def xu.l4 (a1:List UInt8):List GEnumeration→Int→GEnumeration×Bool
 |[],x2=>((⟨[],([]:List GNamed)⟩:GEnumeration),false)
 |y4::q4,x2=>(if y4.fName=a1 then (y4,true) else ((xu.l4 a1 q4) (x2+1)))
def xu (a0:GSchema)(a1:List UInt8):GEnumeration×Bool:=
 (xu.l4 a1 a0.fEnums 0)
theorem xu.ok (a0:GSchema)(a1:List UInt8)(r:GEnumeration×Bool)(h:xu a0 a1=r):ACalls qh 147 [.agg (encGSchema a0),.str a1] [] (fun r' _=>r'=.tup [.agg (encGEnumeration r.1),.bool r.2]):=by
 refine zi (rs:=[.cell 4 84,.tmp 5]) tok Tryz.func147 rfl Tryz.ntmps147 rfl Tryz.call147 (by simp) ?_;refine zm [(0,.agg (encGSchema a0)),(1,.str a1)] ⟨rfl,rfl,trivial⟩ ?_;unfold xu at h
 refine rg tok [1,2,4] fun K hK=>?_
 simp only[go_sem,qc,qa,qd,reduceCtorEq,encGSchema];apply hK
 refine za fun Z1 hZ1=>?_
 refine rgN [1,2,4,6] ?_;apply ze
 refine xI 0 rfl fun hb4=>?_
 replace hb4:qb a0.fEnums≤9223372036854775807:=hb4.2.2.1.1;refine zC (fun m L τ=>∃ (p4 q4:List GEnumeration) (x2:Int),m=qb q4∧L=[(1,.str a1),(2,.op 0 0 0),(4,.op 1 0 0),(6,.int .i64 x2)]∧τ=[.cells 0 (encGSchema a0),.cells 0 [.str [],.ds true [] 0 true]]∧a0.fEnums=p4++q4∧x2=(qb p4:Int)∧xu.l4 a1 q4 x2=r) _ ⟨[],a0.fEnums,0,rfl,rfl,rfl,rfl,rfl,h⟩ .s ?_;rintro m L τ ⟨p4,q4,x2,rfl,rfl,rfl,hE4,hi4,h⟩
 rcases q4 with _|⟨y4,q4⟩
 · have hz4:=yz hE4 hi4;simp only[xu.l4] at h
   refine za fun Z5 hZ5=>?_
   refine rg tok [1,2,4,6,11] fun K hK=>?_
   simp only[go_sem,qc,qa,qd,hz4];apply hK
   refine zw rfl ?_;apply zJ;apply hZ1;refine rgN [4,5] ?_;cases h;exact rtA
 obtain⟨hz4,hw4,hx4,hE'4,hi'4⟩:=yd hE4 hi4 hb4;simp only[xu.l4] at h
 refine za fun Z6 hZ6=>?_
 refine rg tok [1,2,4,6,11] fun K hK=>?_
 simp only[go_sem,qc,qa,qd,hz4];apply hK
 refine zz rfl ?_;apply zd;apply hZ6
 refine za fun Z7 hZ7=>?_
 apply ze;have f8:=E23.idxS hx4;have f9:=E23.fldS0 (f:=9) rfl rfl hx4
 refine rg tok [1,2,4,6,21] fun K hK=>?_
 simp only[go_sem,qc,qa,qd,encGEnumeration,f8,f9];apply hK
 refine zD rfl (fun hc10=>?_) (fun hc10=>?_)
 · rw[if_pos hc10] at h;have t11:=eq_true hc10;have f12:=E23.idxS hx4;have f13:=E23.loadS rfl rfl hx4
   refine rg tok [4,5] fun K hK=>?_
   simp only[go_sem,qc,qe,qa,qd,encGEnumeration,t11,f12,f13];apply hK
   cases h;exact rtA
 rw[if_neg hc10] at h;have t14:=eq_false hc10;apply zd;apply hZ7
 refine rgE tok [1,2,4,6] fun K hK=>?_
 simp only[go_sem,qc,qa,hw4,t14];apply hK
 exact⟨_,_,_,qy q4.length,⟨p4++[y4],q4,x2+1,rfl,rfl,rfl,hE'4,hi'4,h⟩,.s⟩
theorem xu.ev (a0:GSchema)(a1:List UInt8)(r:GEnumeration×Bool)(h:xu a0 a1=r)(σ:Store):ACalls qh 147 [.agg (encGSchema a0),.str a1] σ (fun r' σ'=>r'=.tup [.agg (encGEnumeration r.1),.bool r.2]∧σ'=σ):=
 (xu.ok a0 a1 r h).c σ
def yH.j3 (a0:GSchema)(a1:GType)(x2:Bool):Bool:=
 (if x2=true then decide (a1.fName=[]) else (if a1.fKind=6 then bnd (xu a0 a1.fName) fun r7=>r7.2 else (if a1.fKind=7 then bnd (zZ a0 a1.fName) fun r11=>r11.2 else false)))
def yH (a0:GSchema)(a1:GType):Bool:=
 (if a1.fKind=1 then (yH.j3 a0 a1 (decide (a1.fKind=1))) else (if a1.fKind=2 then (yH.j3 a0 a1 (decide (a1.fKind=2))) else (if a1.fKind=3 then (yH.j3 a0 a1 (decide (a1.fKind=3))) else (if a1.fKind=4 then (yH.j3 a0 a1 (decide (a1.fKind=4))) else (yH.j3 a0 a1 (decide (a1.fKind=5)))))))
theorem yH.ok (a0:GSchema)(a1:GType)(r:Bool)(h:yH a0 a1=r):ACalls qh 122 [.agg (encGSchema a0),.agg (encGType a1)] [] (fun r' _=>r'=.bool r):=by
 refine zi (rs:=[.tmp 4]) tok Tryz.func122 rfl Tryz.ntmps122 rfl Tryz.call122 (by simp) ?_;refine zm [(0,.agg (encGSchema a0)),(1,.agg (encGType a1))] ⟨rfl,rfl,trivial⟩ ?_;unfold yH at h
 refine rg tok [2,3] fun K hK=>?_
 simp only[go_sem,qc,qa,qd,reduceCtorEq,encGSchema,encGType];apply hK
 refine za fun Z1 hZ1=>?_
 refine rgN [2,3,10] ?_;apply ze;refine xG (fun L τ=>∃ (x2:Bool),L=[(2,.op 0 0 0),(3,.op 1 0 0),(10,.int .i64 a1.fKind),(11,.bool x2)]∧τ=[.cells 0 (encGSchema a0),.cells 0 [.int .i64 a1.fKind,.str a1.fName]]∧yH.j3 a0 a1 x2=r) ?_ ?_
 · refine rgN [2,3,10,11] ?_;refine zD rfl (fun hc13=>?_) (fun hc13=>?_)
   · rw[if_pos hc13] at h;have t14:=eq_true hc13;apply zd;exact⟨_,_,⟨decide (a1.fKind=1),rfl,rfl,h⟩,.s⟩
   rw[if_neg hc13] at h;have t15:=eq_false hc13
   refine rg tok [2,3,10,11] fun K hK=>?_
   simp only[go_sem,qc,qa,t15];apply hK
   refine zD rfl (fun hc16=>?_) (fun hc16=>?_)
   · rw[if_pos hc16] at h;have t17:=eq_true hc16;apply zd;exact⟨_,_,⟨decide (a1.fKind=2),rfl,rfl,h⟩,.s⟩
   rw[if_neg hc16] at h;have t18:=eq_false hc16
   refine rg tok [2,3,10,11] fun K hK=>?_
   simp only[go_sem,qc,qa,t18];apply hK
   refine zD rfl (fun hc19=>?_) (fun hc19=>?_)
   · rw[if_pos hc19] at h;have t20:=eq_true hc19;apply zd;exact⟨_,_,⟨decide (a1.fKind=3),rfl,rfl,h⟩,.s⟩
   rw[if_neg hc19] at h;have t21:=eq_false hc19
   refine rg tok [2,3,10,11] fun K hK=>?_
   simp only[go_sem,qc,qa,t21];apply hK
   refine zD rfl (fun hc22=>?_) (fun hc22=>?_)
   · rw[if_pos hc22] at h;have t23:=eq_true hc22;apply zd;exact⟨_,_,⟨decide (a1.fKind=4),rfl,rfl,h⟩,.s⟩
   rw[if_neg hc22] at h;have t24:=eq_false hc22
   refine rgE tok [2,3,10,11] fun K hK=>?_
   simp only[go_sem,qc,qa,t24];apply hK
   exact⟨_,_,⟨decide (a1.fKind=5),rfl,rfl,h⟩,.s⟩
 rintro _ _ ⟨x2,rfl,rfl,h⟩;unfold yH.j3 at h;refine zn (b:=x2) rfl (fun hc4=>?_) (fun hc4=>?_)
 · rw[if_pos hc4] at h;refine rgN [4] ?_;cases h;exact rtA
 rw[xD hc4] at h;refine rgN [2,3,10,20] ?_;refine zD rfl (fun hc5=>?_) (fun hc5=>?_)
 · rw[if_pos hc5] at h;have t6:=eq_true hc5
   refine rc [6] fun K hK=>?_
   obtain⟨r7,hr7,h⟩:=zR h;refine zj tok 3 ?_;simp only[go_sem,qc,qe,qa,qd,t6];refine clN rfl rfl rfl (xu.ev a0 a1.fName r7 hr7 _) ?_;refine zj tok 6 ?_;simp only[go_sem,qc,qe,qa,qd,encGEnumeration];refine nkN hK ?_;refine rgN [4] ?_;cases h;exact rtA
 rw[if_neg hc5] at h;have t8:=eq_false hc5
 refine rg tok [2,3,30] fun K hK=>?_
 simp only[go_sem,qc,qa,t8];apply hK
 refine zD rfl (fun hc9=>?_) (fun hc9=>?_)
 · rw[if_pos hc9] at h;have t10:=eq_true hc9
   refine rc [8] fun K hK=>?_
   obtain⟨r11,hr11,h⟩:=zR h;refine zj tok 3 ?_;simp only[go_sem,qc,qe,qa,qd,t10];refine clN rfl rfl rfl (zZ.ev a0 a1.fName r11 hr11 _) ?_;refine zj tok 6 ?_;simp only[go_sem,qc,qe,qa,qd,encGMessage];refine nkN hK ?_;refine rgN [4] ?_;cases h;exact rtA
 rw[if_neg hc9] at h;have t12:=eq_false hc9;apply zd;apply hZ1
 refine rg tok [4] fun K hK=>?_
 simp only[go_sem,qc,qa,t12];apply hK
 cases h;exact rtA
theorem yH.ev (a0:GSchema)(a1:GType)(r:Bool)(h:yH a0 a1=r)(σ:Store):ACalls qh 122 [.agg (encGSchema a0),.agg (encGType a1)] σ (fun r' σ'=>r'=.bool r∧σ'=σ):=
 (yH.ok a0 a1 r h).c σ
def zB.l17 (a0:GSchema)(a1:GMessage):List GField→Int→List (List UInt8)→Option Int
 |[],x13,l11=>some 0
 |y17::q17,x13,l11=>(yb y17.fName l11).bind fun r24=>(if (!r24)=true then some 6 else (Y5 (qb l11+1) 16).bind fun _u26=>(grd ((0:Int)≤0∧0≤x13∧x13≤(qb a1.fFields:Int))).bind fun _u29=>bnd (yC (⟨[],Yx a1.fFields 0 x13,([]:List Int)⟩:GMessage) y17.fTag) fun r31=>bnd (if ((r31.2||(decide (y17.fTag<1)))||(decide (500<y17.fTag)))=true then true else bnd (ye a1 y17.fTag) fun r32=>r32) fun c32=>(if c32=true then some 7 else bnd (if ((decide (y17.fLabel<1))||(decide (3<y17.fLabel)))=true then true else bnd (yH a0 y17.fType) fun r37 => !r37) fun c37=>(if c37=true then some 8 else ((zB.l17 a0 a1 q17) (x13+1) (l11++[y17.fName])))))
def zB.j43 (x6:Int)(rec8:Int→Option Int)(x42:Bool):Option Int:=
 (if x42=true then some 7 else (rec8 (x6+1)))
def zB.l8 (a0:GSchema)(a1:GMessage):List Int→Int→Option Int
 |[],x6=>(zB.l17 a0 a1 a1.fFields 0 ([]:List (List UInt8)))
 |y8::q8,x6=>(if y8<1 then (zB.j43 x6 (zB.l8 a0 a1 q8) true) else (if 500<y8 then (zB.j43 x6 (zB.l8 a0 a1 q8) true) else (grd ((0:Int)≤0∧0≤x6∧x6≤(qb a1.fReserved:Int))).bind fun _u53=>bnd (ye (⟨[],([]:List GField),Yx a1.fReserved 0 x6⟩:GMessage) y8) fun r57=>(zB.j43 x6 (zB.l8 a0 a1 q8) r57)))
def zB (a0:GSchema)(a1:GMessage):Option Int:=
 (if ((decide (16<(qb a1.fFields:Int)))||(decide (32<(qb a1.fReserved:Int))))=true then some 4 else (zB.l8 a0 a1 a1.fReserved 0))
theorem zB.ok (a0:GSchema)(a1:GMessage)(r:Int)(h:zB a0 a1=some r):ACalls qh 82 [.agg (encGSchema a0),.agg (encGMessage a1)] [] (fun r' _=>r'=.int .i64 r):=by
 refine zi (rs:=[.tmp 4]) tok Tryz.func82 rfl Tryz.ntmps82 rfl Tryz.call82 (by simp) ?_;refine zm [(0,.agg (encGSchema a0)),(1,.agg (encGMessage a1))] ⟨rfl,rfl,trivial⟩ ?_;unfold zB at h
 refine rg tok [2,3] fun K hK=>?_
 simp only[go_sem,qc,qa,qd,reduceCtorEq,encGMessage,encGSchema];apply hK
 refine za fun Z1 hZ1=>?_
 refine rc [2,3,20] fun K hK=>?_
 refine rnN 5 ?_;refine zh 5 (fun L τ=>L=[(2,.op 0 0 0),(3,.op 1 0 0),(20,.bool ((decide (16<(qb a1.fFields:Int)))||(decide (32<(qb a1.fReserved:Int)))))]∧τ=[.cells 0 (encGSchema a0),.cells 0 (encGMessage a1)]) ?_ ?_
 · refine yx 15 rfl (fun hg15=>?_) (fun hg15=>?_)
   · have t2:=eq_true hg15;refine rnN 5 ?_;refine zb ⟨rfl,_,_,⟨rfl,rfl⟩,.p t2⟩
   have t3:=eq_false hg15;refine rnN 5 ?_;refine zb ⟨rfl,_,_,⟨rfl,rfl⟩,.p t3⟩
 rintro _ _ ⟨rfl,rfl⟩;refine nkN hK ?_;refine zn (b:=((decide (16<(qb a1.fFields:Int)))||(decide (32<(qb a1.fReserved:Int))))) rfl (fun hc4=>?_) (fun hc4=>?_)
 · rw[if_pos hc4] at h;refine rgN [4] ?_;cases h;exact rtA
 rw[xD hc4] at h;apply zd;apply hZ1
 refine za fun Z5 hZ5=>?_
 refine rgN [2,3,5] ?_;apply ze
 refine xI 1 rfl fun hb8=>?_
 replace hb8:qb a1.fReserved≤9223372036854775807:=hb8.2.2.1.1;refine zC (fun m L τ=>∃ (p8 q8:List Int) (x6:Int),m=qb q8∧L=[(2,.op 0 0 0),(3,.op 1 0 0),(5,.int .i64 x6)]∧τ=[.cells 0 (encGSchema a0),.cells 0 (encGMessage a1)]∧a1.fReserved=p8++q8∧x6=(qb p8:Int)∧zB.l8 a0 a1 q8 x6=some r) _ ⟨[],a1.fReserved,0,rfl,rfl,rfl,rfl,rfl,h⟩ .s ?_;rintro m L τ ⟨p8,q8,x6,rfl,rfl,rfl,hE8,hi8,h⟩
 rcases q8 with _|⟨y8,q8⟩
 · have hz8:=yz hE8 hi8;simp only[zB.l8] at h
   refine za fun Z9 hZ9=>?_
   refine rg tok [2,3,5,25] fun K hK=>?_
   simp only[go_sem,qc,qa,qd,hz8];apply hK
   refine zw rfl ?_;apply zJ;apply hZ5;refine rgN [2,3,6] ?_;refine Zw 6 1 rfl ?_;refine yc (L:=[(2,.op 0 0 0),(3,.op 1 0 0),(6,.os true 1 2 0 0 (qb ([]:List (List UInt8))) false)]) (τ:=[.cells 0 (encGSchema a0),.cells 0 (encGMessage a1),.cells 0 (qf encS ([]:List (List UInt8)))]) .s ?_
   refine za fun Z10 hZ10=>?_
   refine rgN [2,3,6,7] ?_;apply ze
   refine xI 1 rfl fun hb17=>?_
   replace hb17:qb a1.fFields≤9223372036854775807:=hb17.2.1.1;refine zC (fun m L τ=>∃ (p17 q17:List GField) (x13:Int) (l11:List (List UInt8)) (v12:Nat),m=qb q17∧L=[(2,.op 0 0 0),(3,.op 1 0 0),(6,.os true 1 2 v12 0 (qb l11) false),(7,.int .i64 x13)]∧τ=[.cells 0 (encGSchema a0),.cells 0 (encGMessage a1),.cells v12 (qf encS l11)]∧a1.fFields=p17++q17∧x13=(qb p17:Int)∧zB.l17 a0 a1 q17 x13 l11=some r) _ ⟨[],a1.fFields,0,([]:List (List UInt8)),0,rfl,rfl,rfl,rfl,rfl,h⟩ .s ?_;rintro m L τ ⟨p17,q17,x13,l11,v12,rfl,rfl,rfl,hE17,hi17,h⟩
   rcases q17 with _|⟨y17,q17⟩
   · have hz17:=yz hE17 hi17;simp only[zB.l17] at h
     refine za fun Z18 hZ18=>?_
     refine rg tok [2,3,6,7,59] fun K hK=>?_
     simp only[go_sem,qc,qa,qd,hz17];apply hK
     refine zw rfl ?_;apply zJ;apply hZ10;refine rgN [4] ?_;cases h;exact rtA
   obtain⟨hz17,hw17,hx17,hE'17,hi'17⟩:=yd hE17 hi17 hb17;simp only[zB.l17] at h
   refine za fun Z19 hZ19=>?_
   refine rg tok [2,3,6,7,59] fun K hK=>?_
   simp only[go_sem,qc,qa,qd,hz17];apply hK
   refine zz rfl ?_;apply zd;apply hZ19
   refine za fun Z20 hZ20=>?_
   apply ze;have f21:=E47.idxS hx17;have f22:=E47.loadS rfl rfl hx17
   refine rg tok [2,3,6,7,8] fun K hK=>?_
   simp only[go_sem,qc,qe,qa,qd,encGField,f21,f22];apply hK
   refine za fun Z23 hZ23=>?_
   refine rc [2,3,6,7,8,71] fun K hK=>?_
   obtain⟨r24,hr24,h⟩:=bind_some h;refine rnN 3 ?_;refine clN rfl rfl rfl (yb.ok y17.fName l11 r24 hr24).ld ?_;refine rnN 1 ?_;refine nkN hK ?_;refine zn (b:=(!r24)) rfl (fun hc25=>?_) (fun hc25=>?_)
   · rw[if_pos hc25] at h;refine rgN [4] ?_;cases h;exact rtA
   rw[xD hc25] at h;apply zd;apply hZ23;obtain⟨_u26,hu26,h⟩:=bind_some h;have gu26:=yA hu26;have f27:=(zA E98.len l11)
   refine rg tok [2,3,6,7,8] fun K hK=>?_
   simp only[go_sem,qc,qe,qa,qd,ql,zQ,z6,ug,q7,true_and,ul,ym,zW,yp,gu26,f27,yT,ud,q5,AV.one,qX,qz,qk,qn,qt,qA];apply hK
   refine yc (L:=[(2,.op 0 0 0),(3,.op 1 0 0),(6,.os true 1 2 (v12+1) 0 (qb (l11++[y17.fName])) false),(7,.int .i64 x13),(8,.op 3 0 0)]) (τ:=[.cells 0 (encGSchema a0),.cells 0 (encGMessage a1),.cells (v12+1) (qf encS (l11++[y17.fName])),.cells 0 (encGField y17),.cells 0 [.str y17.fName]]) .s ?_
   refine za fun Z28 hZ28=>?_
   obtain⟨_u29,hu29,h⟩:=bind_some h;have gu29:=wB hu29;have f30:=E47.sl_hi gu29;obtain⟨r31,hr31,h⟩:=zR h
   refine rd [2,3,6,7,8,10] fun K hK=>?_
   refine DW.start (T:=tab) [.any,.at [],.any,.any,.any,.any,.at [],.eff,.any,.any,.any,.flt,.eff,.any] [] ?_;refine DW.runN tok 7 ?_;simp only[go_sem,qc,qe,qa,qd,f30];refine DW.call rfl rfl rfl (ACalls.loose (yC.ev (⟨[],Yx a1.fFields 0 x13,([]:List Int)⟩:GMessage) y17.fTag r31 hr31 _)) ?_;refine DW.runN tok 6 ?_;simp only[go_sem,qc,qe,qa,qd,encGField];refine DW.fin tok (by decide +kernel) rfl ?_;simp only[zt,upd,qa,reduceIte,yV,xz];apply hK
   refine rc [2,3,6,7,8,104] fun K hK=>?_
   refine rnN 2 ?_;refine zh 4 (fun L τ=>L=[(2,.op 0 0 0),(3,.op 1 0 0),(6,.os true 1 2 (v12+1) 0 (qb (l11++[y17.fName])) false),(7,.int .i64 x13),(8,.op 3 0 0),(93,.bool (r31.2||(decide (y17.fTag<1))))]∧τ=[.cells 0 (encGSchema a0),.cells 0 (encGMessage a1),.cells (v12+1) (qf encS (l11++[y17.fName])),.cells 0 (encGField y17),.cells 0 [.str y17.fName],.cells 0 (encGField r31.1)]) ?_ ?_
   · refine zK (b:=r31.2) 89 rfl (fun hg89=>?_) (fun hg89=>?_)
     · refine rnN 4 ?_;refine zb ⟨rfl,_,_,⟨rfl,rfl⟩,.b hg89⟩
     refine rnN 4 ?_;refine zb ⟨rfl,_,_,⟨rfl,rfl⟩,.b hg89⟩
   rintro _ _ ⟨rfl,rfl⟩;refine rnN 1 ?_;refine zh 4 (fun L τ=>L=[(2,.op 0 0 0),(3,.op 1 0 0),(6,.os true 1 2 (v12+1) 0 (qb (l11++[y17.fName])) false),(7,.int .i64 x13),(8,.op 3 0 0),(98,.bool ((r31.2||(decide (y17.fTag<1)))||(decide (500<y17.fTag))))]∧τ=[.cells 0 (encGSchema a0),.cells 0 (encGMessage a1),.cells (v12+1) (qf encS (l11++[y17.fName])),.cells 0 (encGField y17),.cells 0 [.str y17.fName],.cells 0 (encGField r31.1)]) ?_ ?_
   · refine zK (b:=(r31.2||(decide (y17.fTag<1)))) 94 rfl (fun hg94=>?_) (fun hg94=>?_)
     · refine rnN 4 ?_;refine zb ⟨rfl,_,_,⟨rfl,rfl⟩,.b hg94⟩
     refine rnN 4 ?_;refine zb ⟨rfl,_,_,⟨rfl,rfl⟩,.b hg94⟩
   rintro _ _ ⟨rfl,rfl⟩;refine rnN 1 ?_;obtain⟨c32,hc32,h⟩:=zR h;refine zh 5 (fun L τ=>L=[(2,.op 0 0 0),(3,.op 1 0 0),(6,.os true 1 2 (v12+1) 0 (qb (l11++[y17.fName])) false),(7,.int .i64 x13),(8,.op 3 0 0),(104,.bool c32)]∧τ=[.cells 0 (encGSchema a0),.cells 0 (encGMessage a1),.cells (v12+1) (qf encS (l11++[y17.fName])),.cells 0 (encGField y17),.cells 0 [.str y17.fName],.cells 0 (encGField r31.1)]) ?_ ?_
   · refine zK (b:=((r31.2||(decide (y17.fTag<1)))||(decide (500<y17.fTag)))) 99 rfl (fun hg99=>?_) (fun hg99=>?_)
     · rw[if_pos hg99] at hc32;refine rnN 5 ?_;subst hc32;refine zb ⟨rfl,_,_,⟨rfl,rfl⟩,.b hg99⟩
     rw[xD hg99] at hc32;obtain⟨r33,hr33,hc32⟩:=zR hc32;refine rnN 3 ?_;refine clN rfl rfl rfl (ye.ev a1 y17.fTag r33 hr33 _) ?_;refine rnN 1 ?_;subst hc32;refine zb ⟨rfl,_,_,⟨rfl,rfl⟩,.b hg99⟩
   rintro _ _ ⟨rfl,rfl⟩;refine nkN hK ?_;refine zn (b:=c32) rfl (fun hc34=>?_) (fun hc34=>?_)
   · rw[if_pos hc34] at h;refine rgN [4] ?_;cases h;exact rtA
   rw[xD hc34] at h;apply zd;apply hZ28
   refine rc [2,3,6,7,119] fun K hK=>?_
   refine rnN 4 ?_;refine zh 4 (fun L τ=>L=[(2,.op 0 0 0),(3,.op 1 0 0),(6,.os true 1 2 (v12+1) 0 (qb (l11++[y17.fName])) false),(7,.int .i64 x13),(8,.op 3 0 0),(112,.bool ((decide (y17.fLabel<1))||(decide (3<y17.fLabel))))]∧τ=[.cells 0 (encGSchema a0),.cells 0 (encGMessage a1),.cells (v12+1) (qf encS (l11++[y17.fName])),.cells 0 (encGField y17),.cells 0 [.str y17.fName],.cells 0 (encGField r31.1)]) ?_ ?_
   · refine yx 108 rfl (fun hg108=>?_) (fun hg108=>?_)
     · have t35:=eq_true hg108;refine rnN 4 ?_;refine zb ⟨rfl,_,_,⟨rfl,rfl⟩,.p t35⟩
     have t36:=eq_false hg108;refine rnN 4 ?_;refine zb ⟨rfl,_,_,⟨rfl,rfl⟩,.p t36⟩
   rintro _ _ ⟨rfl,rfl⟩;refine rnN 1 ?_;obtain⟨c37,hc37,h⟩:=zR h;refine zh 6 (fun L τ=>L=[(2,.op 0 0 0),(3,.op 1 0 0),(6,.os true 1 2 (v12+1) 0 (qb (l11++[y17.fName])) false),(7,.int .i64 x13),(119,.bool c37)]∧τ=[.cells 0 (encGSchema a0),.cells 0 (encGMessage a1),.cells (v12+1) (qf encS (l11++[y17.fName])),.cells 0 (encGField y17),.cells 0 [.str y17.fName],.cells 0 (encGField r31.1)]) ?_ ?_
   · refine zK (b:=((decide (y17.fLabel<1))||(decide (3<y17.fLabel)))) 113 rfl (fun hg113=>?_) (fun hg113=>?_)
     · rw[if_pos hg113] at hc37;refine rnN 6 ?_;subst hc37;refine zb ⟨rfl,_,_,⟨rfl,rfl⟩,.b hg113⟩
     rw[xD hg113] at hc37;obtain⟨r38,hr38,hc37⟩:=zR hc37;refine rnN 3 ?_;refine clN rfl rfl rfl (yH.ev a0 y17.fType r38 hr38 _) ?_;refine rnN 2 ?_;subst hc37;refine zb ⟨rfl,_,_,⟨rfl,rfl⟩,.b hg113⟩
   rintro _ _ ⟨rfl,rfl⟩;refine nkN hK ?_;refine zn (b:=c37) rfl (fun hc39=>?_) (fun hc39=>?_)
   · rw[if_pos hc39] at h;refine rgN [4] ?_;cases h;exact rtA
   rw[xD hc39] at h;apply zd;apply hZ20
   refine rgE tok [2,3,6,7] fun K hK=>?_
   simp only[go_sem,qc,qa,hw17];apply hK
   exact⟨_,_,_,qy q17.length,⟨p17++[y17],q17,x13+1,l11++[y17.fName],v12+1,rfl,rfl,rfl,hE'17,hi'17,h⟩,(.t [0,1,2] false)⟩
 obtain⟨hz8,hw8,hx8,hE'8,hi'8⟩:=yd hE8 hi8 hb8;simp only[zB.l8] at h
 refine za fun Z40 hZ40=>?_
 refine rg tok [2,3,5,25] fun K hK=>?_
 simp only[go_sem,qc,qa,qd,hz8];apply hK
 refine zz rfl ?_;apply zd;apply hZ40
 refine za fun Z41 hZ41=>?_
 apply ze;refine xG (fun L τ=>∃ (x42:Bool),L=[(2,.op 0 0 0),(3,.op 1 0 0),(5,.int .i64 x6),(54,.bool x42)]∧τ=[.cells 0 (encGSchema a0),.cells 0 (encGMessage a1)]∧zB.j43 x6 (zB.l8 a0 a1 q8) x42=some r) ?_ ?_
 · refine rdE [2,3,5,54] fun K hK=>?_
   refine DW.start (T:=tab) [.any,.at [],.any,.any,.at [],.any,.any,.any,.at [],.any,.any,.at [],.any,.any,.any,.any,.at [],.any,.any,.any,.any,.at [],.any,.any,.at [],.eff,.any] [] ?_;have f45:=E45.idxS hx8;have f46:=E45.fldS0 (f:=3) rfl rfl hx8;refine DW.runN tok 7 ?_;simp only[go_sem,qc,qa,qd,encI,f45,f46]
   refine DW.if 34 rfl (fun hg34=>?_) (fun hg34=>?_)
   · rw[if_pos hg34] at h;have t47:=eq_true hg34;refine DW.runN tok 8 ?_;simp only[go_sem,qc,qa,t47];refine DW.runN tok 8 ?_;simp only[go_sem,qc,qa];refine DW.runN tok 4 ?_;simp only[go_sem,qc,qa];refine DW.fin tok (by decide +kernel) rfl ?_;simp only[zt,upd,qa,reduceIte,yV,xz];apply hK
     exact⟨_,_,⟨true,rfl,rfl,h⟩,.s⟩
   rw[if_neg hg34] at h;have t48:=eq_false hg34;have f49:=E45.idxS hx8;have f50:=E45.fldS0 (f:=3) rfl rfl hx8;refine DW.runN tok 8 ?_;simp only[go_sem,qc,qa,qd,encI,t48,f49,f50]
   refine DW.if 42 rfl (fun hg42=>?_) (fun hg42=>?_)
   · rw[if_pos hg42] at h;have t51:=eq_true hg42;refine DW.runN tok 8 ?_;simp only[go_sem,qc,qa,t51];refine DW.runN tok 4 ?_;simp only[go_sem,qc,qa];refine DW.fin tok (by decide +kernel) rfl ?_;simp only[zt,upd,qa,reduceIte,yV,xz];apply hK
     exact⟨_,_,⟨true,rfl,rfl,h⟩,.s⟩
   rw[if_neg hg42] at h;have t52:=eq_false hg42;obtain⟨_u53,hu53,h⟩:=bind_some h;have gu53:=wB hu53;have f54:=E45.sl_hi gu53;have f55:=E45.idxS hx8;have f56:=E45.fldS0 (f:=3) rfl rfl hx8;obtain⟨r57,hr57,h⟩:=zR h;refine DW.runN tok 8 ?_;simp only[go_sem,qc,qe,qa,qd,t52,f54];refine DW.runN tok 2 ?_;simp only[go_sem,qc,qa,encI,f55,f56];refine DW.call rfl rfl rfl (ACalls.loose (ye.ev (⟨[],([]:List GField),Yx a1.fReserved 0 x6⟩:GMessage) y8 r57 hr57 _)) ?_;refine DW.runN tok 1 ?_;simp only[go_sem,qc,qa];refine DW.fin tok (by decide +kernel) rfl ?_;simp only[zt,upd,qa,reduceIte,yV,xz];apply hK
   exact⟨_,_,⟨r57,rfl,rfl,h⟩,.s⟩
 rintro _ _ ⟨x42,rfl,rfl,h⟩;unfold zB.j43 at h;refine zn (b:=x42) rfl (fun hc44=>?_) (fun hc44=>?_)
 · rw[if_pos hc44] at h;refine rgN [4] ?_;cases h;exact rtA
 rw[xD hc44] at h;apply zd;apply hZ41
 refine rgE tok [2,3,5] fun K hK=>?_
 simp only[go_sem,qc,qa,hw8];apply hK
 exact⟨_,_,_,qy q8.length,⟨p8++[y8],q8,x6+1,rfl,rfl,rfl,hE'8,hi'8,h⟩,.s⟩
theorem zB.ev (a0:GSchema)(a1:GMessage)(r:Int)(h:zB a0 a1=some r)(σ:Store):ACalls qh 82 [.agg (encGSchema a0),.agg (encGMessage a1)] σ (fun r' σ'=>r'=.int .i64 r∧σ'=σ):=
 (zB.ok a0 a1 r h).c σ
def zT.l38 (a0:GEnumeration)(x17:Int)(l15:List (List UInt8))(rec21:Int→List (List UInt8)→Option Int)(y21:GNamed):Nat→Int→Option Int
 |0,_=>none
 |k38+1,x36=>(if x36<x17 then (wV a0.fValues x36).bind fun y43=>(if y43.fN=y21.fN then some 11 else ((zT.l38 a0 x17 l15 rec21 y21 k38) (IntKind.i64.wrap (x36+1)))) else (rec21 (x17+1) (l15++[y21.fName])))
def zT.l21 (a0:GEnumeration):List GNamed→Int→List (List UInt8)→Option Int
 |[],x17,l15=>some 0
 |y21::q21,x17,l15=>(yb y21.fName l15).bind fun r28=>(if (!r28)=true then some 6 else (Y5 (qb l15+1) 16).bind fun _u30=>(if ((decide (y21.fN<0))||(decide (2147483647<y21.fN)))=true then some 11 else (zT.l38 a0 x17 l15 (zT.l21 a0 q21) y21 rounds 0)))
def zT.l10 (a0:GEnumeration):List GNamed→Int→Bool→Option Int
 |[],x7,x6=>(if (!x6)=true then some 12 else (zT.l21 a0 a0.fValues 0 ([]:List (List UInt8))))
 |y10::q10,x7,x6=>((zT.l10 a0 q10) (x7+1) (x6||(decide (y10.fN=0))))
def zT (a0:GEnumeration):Option Int:=
 (if 16<(qb a0.fValues:Int) then some 4 else (zT.l10 a0 a0.fValues 0 false))
end
section
set_option maxRecDepth 4000
set_option maxHeartbeats 1000000
open AM
theorem zT.ok (a0:GEnumeration)(r:Int)(h:zT a0=some r):ACalls qh 83 [.agg (encGEnumeration a0)] [] (fun r' _=>r'=.int .i64 r):=by
 refine zi (rs:=[.tmp 2]) tok Tryz.func83 rfl Tryz.ntmps83 rfl Tryz.call83 (by simp) ?_;refine zm [(0,.agg (encGEnumeration a0))] ⟨rfl,trivial⟩ ?_;unfold zT at h
 refine rg tok [1] fun K hK=>?_
 simp only[go_sem,qc,qa,qd,reduceCtorEq,encGEnumeration];apply hK
 refine za fun Z1 hZ1=>?_
 refine rgN [1,12] ?_;refine zD rfl (fun hc2=>?_) (fun hc2=>?_)
 · rw[if_pos hc2] at h;have t3:=eq_true hc2
   refine rg tok [2] fun K hK=>?_
   simp only[go_sem,qc,qa,t3];apply hK
   cases h;exact rtA
 rw[if_neg hc2] at h;have t4:=eq_false hc2;apply zd;apply hZ1
 refine rg tok [1,3] fun K hK=>?_
 simp only[go_sem,qc,qa,t4];apply hK
 refine za fun Z5 hZ5=>?_
 refine rgN [1,3,4] ?_;apply ze
 refine xI 0 rfl fun hb10=>?_
 replace hb10:qb a0.fValues≤9223372036854775807:=hb10.2.1.1;refine zC (fun m L τ=>∃ (p10 q10:List GNamed) (x7:Int) (x6:Bool),m=qb q10∧L=[(1,.op 0 0 0),(3,.bool x6),(4,.int .i64 x7)]∧τ=[.cells 0 (encGEnumeration a0)]∧a0.fValues=p10++q10∧x7=(qb p10:Int)∧zT.l10 a0 q10 x7 x6=some r) _ ⟨[],a0.fValues,0,false,rfl,rfl,rfl,rfl,rfl,h⟩ .s ?_;rintro m L τ ⟨p10,q10,x7,x6,rfl,rfl,rfl,hE10,hi10,h⟩
 rcases q10 with _|⟨y10,q10⟩
 · have hz10:=yz hE10 hi10;simp only[zT.l10] at h
   refine za fun Z11 hZ11=>?_
   refine rg tok [1,3,4,17] fun K hK=>?_
   simp only[go_sem,qc,qa,qd,hz10];apply hK
   refine zw rfl ?_;apply zJ;apply hZ5
   refine za fun Z12 hZ12=>?_
   refine rgN [1,31] ?_;refine zn (b:=(!x6)) rfl (fun hc13=>?_) (fun hc13=>?_)
   · rw[if_pos hc13] at h;refine rgN [2] ?_;cases h;exact rtA
   rw[xD hc13] at h;apply zd;apply hZ12;refine rgN [1,5] ?_;refine Zw 5 1 rfl ?_;refine yc (L:=[(1,.op 0 0 0),(5,.os true 1 1 0 0 (qb ([]:List (List UInt8))) false)]) (τ:=[.cells 0 (encGEnumeration a0),.cells 0 (qf encS ([]:List (List UInt8)))]) .s ?_
   refine za fun Z14 hZ14=>?_
   refine rgN [1,5,6] ?_;apply ze
   refine xI 0 rfl fun hb21=>?_
   replace hb21:qb a0.fValues≤9223372036854775807:=hb21.2.1.1;refine zC (fun m L τ=>∃ (p21 q21:List GNamed) (x17:Int) (l15:List (List UInt8)) (v16:Nat),m=qb q21∧L=[(1,.op 0 0 0),(5,.os true 1 1 v16 0 (qb l15) false),(6,.int .i64 x17)]∧τ=[.cells 0 (encGEnumeration a0),.cells v16 (qf encS l15)]∧a0.fValues=p21++q21∧x17=(qb p21:Int)∧zT.l21 a0 q21 x17 l15=some r) _ ⟨[],a0.fValues,0,([]:List (List UInt8)),0,rfl,rfl,rfl,rfl,rfl,h⟩ .s ?_;rintro m L τ ⟨p21,q21,x17,l15,v16,rfl,rfl,rfl,hE21,hi21,h⟩
   rcases q21 with _|⟨y21,q21⟩
   · have hz21:=yz hE21 hi21;simp only[zT.l21] at h
     refine za fun Z22 hZ22=>?_
     refine rg tok [1,5,6,36] fun K hK=>?_
     simp only[go_sem,qc,qa,qd,hz21];apply hK
     refine zw rfl ?_;apply zJ;apply hZ14;refine rgN [2] ?_;cases h;exact rtA
   obtain⟨hz21,hw21,hx21,hE'21,hi'21⟩:=yd hE21 hi21 hb21;simp only[zT.l21] at h
   refine za fun Z23 hZ23=>?_
   refine rg tok [1,5,6,36] fun K hK=>?_
   simp only[go_sem,qc,qa,qd,hz21];apply hK
   refine zz rfl ?_;apply zd;apply hZ23
   refine za fun Z24 hZ24=>?_
   apply ze;have f25:=E82.idxS hx21;have f26:=E82.loadS rfl rfl hx21
   refine rg tok [1,5,6,7] fun K hK=>?_
   simp only[go_sem,qc,qe,qa,qd,encGNamed,f25,f26];apply hK
   refine za fun Z27 hZ27=>?_
   refine rc [1,5,6,7,48] fun K hK=>?_
   obtain⟨r28,hr28,h⟩:=bind_some h;refine rnN 3 ?_;refine clN rfl rfl rfl (yb.ok y21.fName l15 r28 hr28).ld ?_;refine rnN 1 ?_;refine nkN hK ?_;refine zn (b:=(!r28)) rfl (fun hc29=>?_) (fun hc29=>?_)
   · rw[if_pos hc29] at h;refine rgN [2] ?_;cases h;exact rtA
   rw[xD hc29] at h;apply zd;apply hZ27;obtain⟨_u30,hu30,h⟩:=bind_some h;have gu30:=yA hu30;have f31:=(zA E98.len l15)
   refine rg tok [1,5,6,7] fun K hK=>?_
   simp only[go_sem,qc,qe,qa,qd,ql,zQ,z6,ug,q7,true_and,ul,ym,zW,yp,gu30,f31,yT,ud,q5,AV.one,qX,qz,qk,qn,qt,qA];apply hK
   refine yc (L:=[(1,.op 0 0 0),(5,.os true 1 1 (v16+1) 0 (qb (l15++[y21.fName])) false),(6,.int .i64 x17),(7,.op 2 0 0)]) (τ:=[.cells 0 (encGEnumeration a0),.cells (v16+1) (qf encS (l15++[y21.fName])),.cells 0 [.str y21.fName,.int .i64 y21.fN],.cells 0 [.str y21.fName]]) .s ?_
   refine za fun Z32 hZ32=>?_
   refine rc [1,5,6,7,61] fun K hK=>?_
   refine rnN 4 ?_;refine zh 4 (fun L τ=>L=[(1,.op 0 0 0),(5,.os true 1 1 (v16+1) 0 (qb (l15++[y21.fName])) false),(6,.int .i64 x17),(7,.op 2 0 0),(61,.bool ((decide (y21.fN<0))||(decide (2147483647<y21.fN))))]∧τ=[.cells 0 (encGEnumeration a0),.cells (v16+1) (qf encS (l15++[y21.fName])),.cells 0 [.str y21.fName,.int .i64 y21.fN],.cells 0 [.str y21.fName]]) ?_ ?_
   · refine yx 57 rfl (fun hg57=>?_) (fun hg57=>?_)
     · have t33:=eq_true hg57;refine rnN 4 ?_;refine zb ⟨rfl,_,_,⟨rfl,rfl⟩,.p t33⟩
     have t34:=eq_false hg57;refine rnN 4 ?_;refine zb ⟨rfl,_,_,⟨rfl,rfl⟩,.p t34⟩
   rintro _ _ ⟨rfl,rfl⟩;refine nkN hK ?_;refine zn (b:=((decide (y21.fN<0))||(decide (2147483647<y21.fN)))) rfl (fun hc35=>?_) (fun hc35=>?_)
   · rw[if_pos hc35] at h;refine rgN [2] ?_;cases h;exact rtA
   rw[xD hc35] at h;apply zd;apply hZ32;refine rgN [1,5,6,7,8] ?_;apply ze;refine zC (fun m L τ=>∃ (k38:Nat) (x36:Int),m=0+k38∧L=[(1,.op 0 0 0),(5,.os true 1 1 (v16+1) 0 (qb (l15++[y21.fName])) false),(6,.int .i64 x17),(7,.op 2 0 0),(8,.int .i64 x36)]∧τ=[.cells 0 (encGEnumeration a0),.cells (v16+1) (qf encS (l15++[y21.fName])),.cells 0 [.str y21.fName,.int .i64 y21.fN]]∧zT.l38 a0 x17 l15 (zT.l21 a0 q21) y21 k38 x36=some r) _ ⟨rounds,0,rfl,rfl,rfl,h⟩ (.t [0,1,2] false) ?_;rintro m L τ ⟨k38,x36,rfl,rfl,rfl,h⟩
   rcases k38 with _|k38
   · cases h
   simp only[zT.l38] at h
   refine za fun Z39 hZ39=>?_
   refine rgN [1,5,6,7,8,64] ?_;refine zD rfl (fun hc40=>?_) (fun hc40=>?_)
   · rw[if_pos hc40] at h;have t41:=eq_true hc40;apply zd;apply hZ39
     refine za fun Z42 hZ42=>?_
     apply ze;obtain⟨y43,hy43,h⟩:=bind_some h;have f44:=E82.idxS hy43;have f45:=E82.fldS (f:=3) rfl rfl hy43 (o:=1) (by decide)
     refine rd [1,5,6,7,8,75] fun K hK=>?_
     refine DW.start (T:=tab) [.any,.at [],.any,.any,.any,.at [],.any,.at [],.any] [] ?_;refine DW.runN tok 8 ?_;simp only[go_sem,qc,qa,qd,encGNamed,t41,f44,f45];refine DW.runN tok 1 ?_;simp only[go_sem,qc,qa];refine DW.fin tok (by decide +kernel) rfl ?_;simp only[zt,upd,qa,reduceIte,yV,xz];apply hK
     refine zD rfl (fun hc46=>?_) (fun hc46=>?_)
     · rw[if_pos hc46] at h;have t47:=eq_true hc46
       refine rg tok [2] fun K hK=>?_
       simp only[go_sem,qc,qa,t47];apply hK
       cases h;exact rtA
     rw[if_neg hc46] at h;have t48:=eq_false hc46;apply zd;apply hZ42
     refine rgE tok [1,5,6,7,8] fun K hK=>?_
     simp only[go_sem,qc,qa,t48];apply hK
     exact⟨_,_,_,qy (0+k38),⟨k38,IntKind.i64.wrap (x36+1),rfl,rfl,rfl,h⟩,.s⟩
   rw[if_neg hc40] at h;have t49:=eq_false hc40;apply zJ;apply hZ24
   refine rgE tok [1,5,6] fun K hK=>?_
   simp only[go_sem,qc,qa,hw21,t49];apply hK
   exact⟨_,_,_,qy q21.length,⟨p21++[y21],q21,x17+1,l15++[y21.fName],v16+1,rfl,rfl,rfl,hE'21,hi'21,h⟩,(.t [0,1] false)⟩
 obtain⟨hz10,hw10,hx10,hE'10,hi'10⟩:=yd hE10 hi10 hb10;simp only[zT.l10] at h
 refine za fun Z50 hZ50=>?_
 refine rg tok [1,3,4,17] fun K hK=>?_
 simp only[go_sem,qc,qa,qd,hz10];apply hK
 refine zz rfl ?_;apply zd;apply hZ50
 refine za fun Z51 hZ51=>?_
 apply ze
 refine rcE [1,3,4] fun K hK=>?_
 refine rnN 2 ?_;refine zh 8 (fun L τ=>L=[(1,.op 0 0 0),(3,.bool x6),(4,.int .i64 x7),(29,.bool (x6||(decide (y10.fN=0))))]∧τ=[.cells 0 (encGEnumeration a0)]) ?_ ?_
 · refine zK (b:=x6) 21 rfl (fun hg21=>?_) (fun hg21=>?_)
   · refine rnN 8 ?_;refine zb ⟨rfl,_,_,⟨rfl,rfl⟩,.b hg21⟩
   have f52:=E82.idxS hx10;have f53:=E82.fldS (f:=3) rfl rfl hx10 (o:=1) (by decide);refine zj tok 8 ?_;simp only[go_sem,qc,qa,qd,encGNamed,f52,f53];refine zb ⟨rfl,_,_,⟨rfl,rfl⟩,.b hg21⟩
 rintro _ _ ⟨rfl,rfl⟩;refine rnN 1 ?_;refine nkN hK ?_;apply hZ51
 refine rgE tok [1,3,4] fun K hK=>?_
 simp only[go_sem,qc,qa,hw10];apply hK
 exact⟨_,_,_,qy q10.length,⟨p10++[y10],q10,x7+1,(x6||(decide (y10.fN=0))),rfl,rfl,rfl,hE'10,hi'10,h⟩,.s⟩
theorem zT.ev (a0:GEnumeration)(r:Int)(h:zT a0=some r)(σ:Store):ACalls qh 83 [.agg (encGEnumeration a0)] σ (fun r' σ'=>r'=.int .i64 r∧σ'=σ):=
 (zT.ok a0 r h).c σ
def yk.l17 : List GEnumeration→Int→List (List UInt8)→Option Int
 |[],x13,l11=>some 0
 |y17::q17,x13,l11=>(yb y17.fName l11).bind fun r24=>(if (!r24)=true then some 6 else (Y5 (qb l11+1) 16).bind fun _u28=>(zT y17).bind fun r32=>(if r32=0 then ((yk.l17 q17) (x13+1) (l11++[y17.fName])) else some r32))
def yk.l8 (a0:GSchema):List GMessage→Int→List (List UInt8)→Option Int
 |[],x4,l2=>(yk.l17 a0.fEnums 0 l2)
 |y8::q8,x4,l2=>(yb y8.fName l2).bind fun r41=>(if (!r41)=true then some 6 else (Y5 (qb l2+1) 16).bind fun _u45=>(zB a0 y8).bind fun r49=>(if r49=0 then ((yk.l8 a0 q8) (x4+1) (l2++[y8.fName])) else some r49))
def yk (a0:GSchema):Option Int:=
 (yk.l8 a0 a0.fMessages 0 ([]:List (List UInt8)))
theorem yk.ok (a0:GSchema)(r:Int)(h:yk a0=some r):ACalls qh 46 [.agg (encGSchema a0)] [] (fun r' _=>r'=.int .i64 r):=by
 refine zi (rs:=[.tmp 2]) tok Tryz.func46 rfl Tryz.ntmps46 rfl Tryz.call46 (by simp) ?_;refine zm [(0,.agg (encGSchema a0))] ⟨rfl,trivial⟩ ?_;unfold yk at h
 refine rg tok [1] fun K hK=>?_
 simp only[go_sem,qc,qa,qd,reduceCtorEq,encGSchema];apply hK
 refine rgN [1,3] ?_;refine Zw 3 1 rfl ?_;refine yc (L:=[(1,.op 0 0 0),(3,.os true 1 1 0 0 (qb ([]:List (List UInt8))) false)]) (τ:=[.cells 0 (encGSchema a0),.cells 0 (qf encS ([]:List (List UInt8)))]) .s ?_
 refine za fun Z1 hZ1=>?_
 refine rgN [1,3,4] ?_;apply ze
 refine xI 0 rfl fun hb8=>?_
 replace hb8:qb a0.fMessages≤9223372036854775807:=hb8.2.1.1;refine zC (fun m L τ=>∃ (p8 q8:List GMessage) (x4:Int) (l2:List (List UInt8)) (v3:Nat),m=qb q8∧L=[(1,.op 0 0 0),(3,.os true 1 1 v3 0 (qb l2) false),(4,.int .i64 x4)]∧τ=[.cells 0 (encGSchema a0),.cells v3 (qf encS l2)]∧a0.fMessages=p8++q8∧x4=(qb p8:Int)∧yk.l8 a0 q8 x4 l2=some r) _ ⟨[],a0.fMessages,0,([]:List (List UInt8)),0,rfl,rfl,rfl,rfl,rfl,h⟩ .s ?_;rintro m L τ ⟨p8,q8,x4,l2,v3,rfl,rfl,rfl,hE8,hi8,h⟩
 rcases q8 with _|⟨y8,q8⟩
 · have hz8:=yz hE8 hi8;simp only[yk.l8] at h
   refine za fun Z9 hZ9=>?_
   refine rg tok [1,3,4,12] fun K hK=>?_
   simp only[go_sem,qc,qa,qd,hz8];apply hK
   refine zw rfl ?_;apply zJ;apply hZ1
   refine za fun Z10 hZ10=>?_
   refine rgN [1,3,6] ?_;apply ze
   refine xI 0 rfl fun hb17=>?_
   replace hb17:qb a0.fEnums≤9223372036854775807:=hb17.2.2.1.1;refine zC (fun m L τ=>∃ (p17 q17:List GEnumeration) (x13:Int) (l11:List (List UInt8)) (v12:Nat),m=qb q17∧L=[(1,.op 0 0 0),(3,.os true 1 1 v12 0 (qb l11) false),(6,.int .i64 x13)]∧τ=[.cells 0 (encGSchema a0),.cells v12 (qf encS l11)]∧a0.fEnums=p17++q17∧x13=(qb p17:Int)∧yk.l17 q17 x13 l11=some r) _ ⟨[],a0.fEnums,0,l2,v3,rfl,rfl,rfl,rfl,rfl,h⟩ .s ?_;rintro m L τ ⟨p17,q17,x13,l11,v12,rfl,rfl,rfl,hE17,hi17,h⟩
   rcases q17 with _|⟨y17,q17⟩
   · have hz17:=yz hE17 hi17;simp only[yk.l17] at h
     refine za fun Z18 hZ18=>?_
     refine rg tok [1,3,6,47] fun K hK=>?_
     simp only[go_sem,qc,qa,qd,hz17];apply hK
     refine zw rfl ?_;apply zJ;apply hZ10;refine rgN [2] ?_;cases h;exact rtA
   obtain⟨hz17,hw17,hx17,hE'17,hi'17⟩:=yd hE17 hi17 hb17;simp only[yk.l17] at h
   refine za fun Z19 hZ19=>?_
   refine rg tok [1,3,6,47] fun K hK=>?_
   simp only[go_sem,qc,qa,qd,hz17];apply hK
   refine zz rfl ?_;apply zd;apply hZ19
   refine za fun Z20 hZ20=>?_
   apply ze
   refine za fun Z21 hZ21=>?_
   refine rc [1,3,6,58] fun K hK=>?_
   have f22:=E23.idxS hx17;have f23:=E23.fldS0 (f:=9) rfl rfl hx17;obtain⟨r24,hr24,h⟩:=bind_some h;refine zj tok 7 ?_;simp only[go_sem,qc,qa,qd,encGEnumeration,f22,f23];refine clN rfl rfl rfl (yb.ok y17.fName l11 r24 hr24).ld ?_;refine rnN 1 ?_;refine nkN hK ?_;refine zn (b:=(!r24)) rfl (fun hc25=>?_) (fun hc25=>?_)
   · rw[if_pos hc25] at h;refine rgN [2] ?_;cases h;exact rtA
   rw[xD hc25] at h;apply zd;apply hZ21;have f26:=E23.idxS hx17;have f27:=E23.fldS0 (f:=9) rfl rfl hx17;obtain⟨_u28,hu28,h⟩:=bind_some h;have gu28:=yA hu28;have f29:=(zA E98.len l11)
   refine rg tok [1,3,6] fun K hK=>?_
   simp only[go_sem,qc,qe,qa,qd,ql,zQ,z6,ug,q7,true_and,ul,ym,zW,yp,encGEnumeration,f26,f27,gu28,f29,yT,ud,q5,AV.one,qX,qz,qk,qn,qt,qA];apply hK
   refine yc (L:=[(1,.op 0 0 0),(3,.os true 1 1 (v12+1) 0 (qb (l11++[y17.fName])) false),(6,.int .i64 x13)]) (τ:=[.cells 0 (encGSchema a0),.cells (v12+1) (qf encS (l11++[y17.fName])),.cells 0 [.str y17.fName]]) .s ?_
   refine rc [1,3,6,7] fun K hK=>?_
   have f30:=E23.idxS hx17;have f31:=E23.loadS rfl rfl hx17;obtain⟨r32,hr32,h⟩:=bind_some h;refine zj tok 5 ?_;simp only[go_sem,qc,qa,qd,encGEnumeration,f30,f31];refine clN rfl rfl rfl (zT.ev y17 r32 hr32 _) ?_;refine rnN 1 ?_;refine nkN hK ?_;refine rgN [1,3,6,7,75] ?_;refine zD rfl (fun hc33=>?_) (fun hc33=>?_)
   · rw[if_neg hc33] at h;have t34:=eq_false hc33
     refine rg tok [2] fun K hK=>?_
     simp only[go_sem,qc,qa,t34];apply hK
     cases h;exact rtA
   rw[if_pos hc33] at h;have t35:=eq_true hc33;apply zd;apply hZ20
   refine rgE tok [1,3,6] fun K hK=>?_
   simp only[go_sem,qc,qa,hw17,t35];apply hK
   exact⟨_,_,_,qy q17.length,⟨p17++[y17],q17,x13+1,l11++[y17.fName],v12+1,rfl,rfl,rfl,hE'17,hi'17,h⟩,(.t [0,1] false)⟩
 obtain⟨hz8,hw8,hx8,hE'8,hi'8⟩:=yd hE8 hi8 hb8;simp only[yk.l8] at h
 refine za fun Z36 hZ36=>?_
 refine rg tok [1,3,4,12] fun K hK=>?_
 simp only[go_sem,qc,qa,qd,hz8];apply hK
 refine zz rfl ?_;apply zd;apply hZ36
 refine za fun Z37 hZ37=>?_
 apply ze
 refine za fun Z38 hZ38=>?_
 refine rc [1,3,4,23] fun K hK=>?_
 have f39:=E22.idxS hx8;have f40:=E22.fldS0 (f:=9) rfl rfl hx8;obtain⟨r41,hr41,h⟩:=bind_some h;refine zj tok 7 ?_;simp only[go_sem,qc,qa,qd,encGMessage,f39,f40];refine clN rfl rfl rfl (yb.ok y8.fName l2 r41 hr41).ld ?_;refine rnN 1 ?_;refine nkN hK ?_;refine zn (b:=(!r41)) rfl (fun hc42=>?_) (fun hc42=>?_)
 · rw[if_pos hc42] at h;refine rgN [2] ?_;cases h;exact rtA
 rw[xD hc42] at h;apply zd;apply hZ38;have f43:=E22.idxS hx8;have f44:=E22.fldS0 (f:=9) rfl rfl hx8;obtain⟨_u45,hu45,h⟩:=bind_some h;have gu45:=yA hu45;have f46:=(zA E98.len l2)
 refine rg tok [1,3,4] fun K hK=>?_
 simp only[go_sem,qc,qe,qa,qd,ql,zQ,z6,ug,q7,true_and,ul,ym,zW,yp,encGMessage,f43,f44,gu45,f46,yT,ud,q5,AV.one,qX,qz,qk,qn,qt,qA];apply hK
 refine yc (L:=[(1,.op 0 0 0),(3,.os true 1 1 (v3+1) 0 (qb (l2++[y8.fName])) false),(4,.int .i64 x4)]) (τ:=[.cells 0 (encGSchema a0),.cells (v3+1) (qf encS (l2++[y8.fName])),.cells 0 [.str y8.fName]]) .s ?_;have f47:=E22.idxS hx8;have f48:=E22.loadS rfl rfl hx8;obtain⟨r49,hr49,h⟩:=bind_some h
 refine rd [1,3,4,5] fun K hK=>?_
 refine DW.start (T:=tab) [.at [],.any,.at [],.any,.any,.at [],.eff,.any] [] ?_;refine DW.runN tok 6 ?_;simp only[go_sem,qc,qe,qa,qd,encGMessage,f47,f48];refine DW.call rfl rfl rfl (zB.ev a0 y8 r49 hr49 _) ?_;refine DW.runN tok 1 ?_;simp only[go_sem,qc,qa];refine DW.fin tok (by decide +kernel) rfl ?_;simp only[zt,upd,qa,reduceIte,yV,xz];apply hK
 refine rgN [1,3,4,5,41] ?_;refine zD rfl (fun hc50=>?_) (fun hc50=>?_)
 · rw[if_neg hc50] at h;have t51:=eq_false hc50
   refine rg tok [2] fun K hK=>?_
   simp only[go_sem,qc,qa,t51];apply hK
   cases h;exact rtA
 rw[if_pos hc50] at h;have t52:=eq_true hc50;apply zd;apply hZ37
 refine rgE tok [1,3,4] fun K hK=>?_
 simp only[go_sem,qc,qa,hw8,t52];apply hK
 exact⟨_,_,_,qy q8.length,⟨p8++[y8],q8,x4+1,l2++[y8.fName],v3+1,rfl,rfl,rfl,hE'8,hi'8,h⟩,(.t [0,1] false)⟩
theorem yk.ev (a0:GSchema)(r:Int)(h:yk a0=some r)(σ:Store):ACalls qh 46 [.agg (encGSchema a0)] σ (fun r' σ'=>r'=.int .i64 r∧σ'=σ):=
 (yk.ok a0 r h).c σ
def yN.l22 (a0:GSchema):List GMethod→Int→List (List UInt8)→Option Int
 |[],x18,l16=>some 0
 |y22::q22,x18,l16=>(yb y22.fName l16).bind fun r29=>(if (!r29)=true then some 6 else (Y5 (qb l16+1) 16).bind fun _u31=>bnd (zZ a0 y22.fIn) fun r33=>bnd (zZ a0 y22.fOut) fun r34=>(if ((!r33.2)||(!r34.2))=true then some 8 else ((yN.l22 a0 q22) (x18+1) (l16++[y22.fName]))))
def yN (a0:GSchema):Option Int:=
 (yO a0.fName).bind fun r2=>(if (!r2)=true then some 6 else (if (qb a0.fMessages:Int)=0 then some 12 else (if (((decide (10<(qb a0.fMessages:Int)))||(decide (6<(qb a0.fEnums:Int))))||(decide (6<(qb a0.fMethods:Int))))=true then some 4 else (yk a0).bind fun r11=>(if r11=0 then (yN.l22 a0 a0.fMethods 0 ([]:List (List UInt8))) else some r11))))
theorem yN.ok (a0:GSchema)(r:Int)(h:yN a0=some r):ACalls qh 21 [.agg (encGSchema a0)] [] (fun r' _=>r'=.int .i64 r):=by
 refine zi (rs:=[.tmp 2]) tok Tryz.func21 rfl Tryz.ntmps21 rfl Tryz.call21 (by simp) ?_;refine zm [(0,.agg (encGSchema a0))] ⟨rfl,trivial⟩ ?_;unfold yN at h
 refine rg tok [1] fun K hK=>?_
 simp only[go_sem,qc,qa,qd,reduceCtorEq,encGSchema];apply hK
 refine za fun Z1 hZ1=>?_
 apply ze
 refine rc [1,11] fun K hK=>?_
 obtain⟨r2,hr2,h⟩:=bind_some h;refine rnN 2 ?_;refine clN rfl rfl rfl (yO.ev a0.fName r2 hr2 _) ?_;refine rnN 2 ?_;refine nkN hK ?_;refine zn (b:=(!r2)) rfl (fun hc3=>?_) (fun hc3=>?_)
 · rw[if_pos hc3] at h;refine rgN [2] ?_;cases h;exact rtA
 rw[xD hc3] at h;refine rgN [1,16] ?_;refine zD rfl (fun hc4=>?_) (fun hc4=>?_)
 · rw[if_pos hc4] at h;have t5:=eq_true hc4
   refine rg tok [2] fun K hK=>?_
   simp only[go_sem,qc,qa,t5];apply hK
   cases h;exact rtA
 rw[if_neg hc4] at h;have t6:=eq_false hc4
 refine rc [1,21] fun K hK=>?_
 refine zj tok 5 ?_;simp only[go_sem,qc,qa,qd,t6];refine zh 5 (fun L τ=>L=[(1,.op 0 0 0),(31,.bool ((decide (10<(qb a0.fMessages:Int)))||(decide (6<(qb a0.fEnums:Int)))))]∧τ=[.cells 0 (encGSchema a0)]) ?_ ?_
 · refine yx 26 rfl (fun hg26=>?_) (fun hg26=>?_)
   · have t7:=eq_true hg26;refine rnN 5 ?_;refine zb ⟨rfl,_,_,⟨rfl,rfl⟩,.p t7⟩
   have t8:=eq_false hg26;refine rnN 5 ?_;refine zb ⟨rfl,_,_,⟨rfl,rfl⟩,.p t8⟩
 rintro _ _ ⟨rfl,rfl⟩;refine rnN 1 ?_;refine zh 5 (fun L τ=>L=[(1,.op 0 0 0),(37,.bool (((decide (10<(qb a0.fMessages:Int)))||(decide (6<(qb a0.fEnums:Int))))||(decide (6<(qb a0.fMethods:Int)))))]∧τ=[.cells 0 (encGSchema a0)]) ?_ ?_
 · refine zK (b:=((decide (10<(qb a0.fMessages:Int)))||(decide (6<(qb a0.fEnums:Int))))) 32 rfl (fun hg32=>?_) (fun hg32=>?_)
   · refine rnN 5 ?_;refine zb ⟨rfl,_,_,⟨rfl,rfl⟩,.b hg32⟩
   refine rnN 5 ?_;refine zb ⟨rfl,_,_,⟨rfl,rfl⟩,.b hg32⟩
 rintro _ _ ⟨rfl,rfl⟩;refine rnN 1 ?_;refine nkN hK ?_;refine zn (b:=(((decide (10<(qb a0.fMessages:Int)))||(decide (6<(qb a0.fEnums:Int))))||(decide (6<(qb a0.fMethods:Int))))) rfl (fun hc9=>?_) (fun hc9=>?_)
 · rw[if_pos hc9] at h;refine rgN [2] ?_;cases h;exact rtA
 rw[xD hc9] at h;apply zd;apply hZ1
 refine za fun Z10 hZ10=>?_
 refine rc [1,3] fun K hK=>?_
 obtain⟨r11,hr11,h⟩:=bind_some h;refine rnN 1 ?_;refine clN rfl rfl rfl (yk.ev a0 r11 hr11 _) ?_;refine rnN 1 ?_;refine nkN hK ?_;refine rgN [1,3,41] ?_;refine zD rfl (fun hc12=>?_) (fun hc12=>?_)
 · rw[if_neg hc12] at h;have t13:=eq_false hc12
   refine rg tok [2] fun K hK=>?_
   simp only[go_sem,qc,qa,t13];apply hK
   cases h;exact rtA
 rw[if_pos hc12] at h;have t14:=eq_true hc12;apply zd;apply hZ10
 refine rg tok [1,4] fun K hK=>?_
 simp only[go_sem,qc,qa,t14];apply hK
 refine Zw 4 1 rfl ?_;refine yc (L:=[(1,.op 0 0 0),(4,.os true 1 1 0 0 (qb ([]:List (List UInt8))) false)]) (τ:=[.cells 0 (encGSchema a0),.cells 0 (qf encS ([]:List (List UInt8)))]) .s ?_
 refine za fun Z15 hZ15=>?_
 refine rgN [1,4,5] ?_;apply ze
 refine xI 0 rfl fun hb22=>?_
 replace hb22:qb a0.fMethods≤9223372036854775807:=hb22.2.2.2.1.1;refine zC (fun m L τ=>∃ (p22 q22:List GMethod) (x18:Int) (l16:List (List UInt8)) (v17:Nat),m=qb q22∧L=[(1,.op 0 0 0),(4,.os true 1 1 v17 0 (qb l16) false),(5,.int .i64 x18)]∧τ=[.cells 0 (encGSchema a0),.cells v17 (qf encS l16)]∧a0.fMethods=p22++q22∧x18=(qb p22:Int)∧yN.l22 a0 q22 x18 l16=some r) _ ⟨[],a0.fMethods,0,([]:List (List UInt8)),0,rfl,rfl,rfl,rfl,rfl,h⟩ .s ?_;rintro m L τ ⟨p22,q22,x18,l16,v17,rfl,rfl,rfl,hE22,hi22,h⟩
 rcases q22 with _|⟨y22,q22⟩
 · have hz22:=yz hE22 hi22;simp only[yN.l22] at h
   refine za fun Z23 hZ23=>?_
   refine rg tok [1,4,5,47] fun K hK=>?_
   simp only[go_sem,qc,qa,qd,hz22];apply hK
   refine zw rfl ?_;apply zJ;apply hZ15;refine rgN [2] ?_;cases h;exact rtA
 obtain⟨hz22,hw22,hx22,hE'22,hi'22⟩:=yd hE22 hi22 hb22;simp only[yN.l22] at h
 refine za fun Z24 hZ24=>?_
 refine rg tok [1,4,5,47] fun K hK=>?_
 simp only[go_sem,qc,qa,qd,hz22];apply hK
 refine zz rfl ?_;apply zd;apply hZ24
 refine za fun Z25 hZ25=>?_
 apply ze;have f26:=E24.idxS hx22;have f27:=E24.loadS rfl rfl hx22
 refine rg tok [1,4,5,6] fun K hK=>?_
 simp only[go_sem,qc,qe,qa,qd,encGMethod,f26,f27];apply hK
 refine za fun Z28 hZ28=>?_
 refine rc [1,4,5,6,59] fun K hK=>?_
 obtain⟨r29,hr29,h⟩:=bind_some h;refine rnN 3 ?_;refine clN rfl rfl rfl (yb.ok y22.fName l16 r29 hr29).ld ?_;refine rnN 1 ?_;refine nkN hK ?_;refine zn (b:=(!r29)) rfl (fun hc30=>?_) (fun hc30=>?_)
 · rw[if_pos hc30] at h;refine rgN [2] ?_;cases h;exact rtA
 rw[xD hc30] at h;apply zd;apply hZ28;obtain⟨_u31,hu31,h⟩:=bind_some h;have gu31:=yA hu31;have f32:=(zA E98.len l16)
 refine rg tok [1,4,5,6] fun K hK=>?_
 simp only[go_sem,qc,qe,qa,qd,ql,zQ,z6,ug,q7,true_and,ul,ym,zW,yp,gu31,f32,yT,ud,q5,AV.one,qX,qz,qk,qn,qt,qA];apply hK
 refine yc (L:=[(1,.op 0 0 0),(4,.os true 1 1 (v17+1) 0 (qb (l16++[y22.fName])) false),(5,.int .i64 x18),(6,.op 2 0 0)]) (τ:=[.cells 0 (encGSchema a0),.cells (v17+1) (qf encS (l16++[y22.fName])),.cells 0 [.str y22.fName,.str y22.fIn,.str y22.fOut],.cells 0 [.str y22.fName]]) .s ?_
 refine rc [1,4,5,6,8] fun K hK=>?_
 obtain⟨r33,hr33,h⟩:=zR h;refine rnN 3 ?_;refine clN rfl rfl rfl (zZ.ev a0 y22.fIn r33 hr33 _) ?_;refine zj tok 6 ?_;simp only[go_sem,qc,qe,qa,qd,encGMessage];refine nkN hK ?_
 refine rc [1,4,5,8,10] fun K hK=>?_
 obtain⟨r34,hr34,h⟩:=zR h;refine rnN 3 ?_;refine clN rfl rfl rfl (zZ.ev a0 y22.fOut r34 hr34 _) ?_;refine zj tok 6 ?_;simp only[go_sem,qc,qe,qa,qd,encGMessage];refine nkN hK ?_
 refine rc [1,4,5,84] fun K hK=>?_
 refine rnN 3 ?_;refine zh 3 (fun L τ=>L=[(1,.op 0 0 0),(4,.os true 1 1 (v17+1) 0 (qb (l16++[y22.fName])) false),(5,.int .i64 x18),(84,.bool ((!r33.2)||(!r34.2)))]∧τ=[.cells 0 (encGSchema a0),.cells (v17+1) (qf encS (l16++[y22.fName])),.cells 0 [.str y22.fName,.str y22.fIn,.str y22.fOut],.cells 0 [.str y22.fName],.cells 0 (encGMessage r33.1),.cells 0 (encGMessage r34.1)]) ?_ ?_
 · refine zK (b:=(!r33.2)) 81 rfl (fun hg81=>?_) (fun hg81=>?_)
   · refine rnN 3 ?_;refine zb ⟨rfl,_,_,⟨rfl,rfl⟩,.b hg81⟩
   refine rnN 3 ?_;refine zb ⟨rfl,_,_,⟨rfl,rfl⟩,.b hg81⟩
 rintro _ _ ⟨rfl,rfl⟩;refine nkN hK ?_;refine zn (b:=((!r33.2)||(!r34.2))) rfl (fun hc35=>?_) (fun hc35=>?_)
 · rw[if_pos hc35] at h;refine rgN [2] ?_;cases h;exact rtA
 rw[xD hc35] at h;apply zd;apply hZ25
 refine rgE tok [1,4,5] fun K hK=>?_
 simp only[go_sem,qc,qa,hw22];apply hK
 exact⟨_,_,_,qy q22.length,⟨p22++[y22],q22,x18+1,l16++[y22.fName],v17+1,rfl,rfl,rfl,hE'22,hi'22,h⟩,(.t [0,1] false)⟩
theorem yN.ev (a0:GSchema)(r:Int)(h:yN a0=some r)(σ:Store):ACalls qh 21 [.agg (encGSchema a0)] σ (fun r' σ'=>r'=.int .i64 r∧σ'=σ):=
 (yN.ok a0 r h).c σ
def zL.l28 (yj:GTree→GTree→Option Bool)(x11:Int)(rec13:Int→Option Bool)(y19:GEntry):List GTree→Int→Option Bool
 |[],x26=>(rec13 (x11+1))
 |y28::q28,x26=>(wV y19.fTrees x26).bind fun y34=>(yj y28 y34).bind fun r37=>(if (!r37)=true then some false else ((zL.l28 yj x11 rec13 y19 q28) (x26+1)))
def zL.l13 (yj:GTree→GTree→Option Bool)(a1:GTree):List GEntry→Int→Option Bool
 |[],x11=>some true
 |y13::q13,x11=>(wV a1.fEntries x11).bind fun y19=>(if ((!(decide (y13.fTag=y19.fTag)))||(!(decide ((qb y13.fTrees:Int)=(qb y19.fTrees:Int)))))=true then some false else (zL.l28 yj x11 (zL.l13 yj a1 q13) y19 y13.fTrees 0))
def zL.l8 (yj:GTree→GTree→Option Bool)(a0:GTree)(a1:GTree):List GRaw→Int→Option Bool
 |[],x6=>(zL.l13 yj a1 a0.fEntries 0)
 |y8::q8,x6=>(wV a1.fRest x6).bind fun y43=>(if (!(decide (y8.fTag=y43.fTag)&&(decide (y8.fWire=y43.fWire)&&(decide (y8.fN=y43.fN)&&decide (y8.fB=y43.fB)))))=true then some false else ((zL.l8 yj a0 a1 q8) (x6+1)))
def zL.body (yj:GTree→GTree→Option Bool)(a0:GTree)(a1:GTree):Option Bool:=
 (if (((((!(decide (a0.fKind=a1.fKind)))||(!(decide (a0.fN=a1.fN))))||(!(decide (a0.fS=a1.fS))))||(!(decide ((qb a0.fEntries:Int)=(qb a1.fEntries:Int)))))||(!(decide ((qb a0.fRest:Int)=(qb a1.fRest:Int)))))=true then some false else (zL.l8 yj a0 a1 a0.fRest 0))
theorem zL.step (yj:GTree→GTree→Option Bool)(ih_ref09_Same:∀ (a0:GTree) (a1:GTree) (r:Bool),yj a0 a1=some r→ACalls qh 20 [.agg (cellsGTree a0),.agg (cellsGTree a1)] [] (fun r' _=>r'=.bool r))(a0:GTree)(a1:GTree)(r:Bool)(h:zL.body yj a0 a1=some r):ACalls qh 20 [.agg (cellsGTree a0),.agg (cellsGTree a1)] [] (fun r' _=>r'=.bool r):=by
 have ev_ref09_Same:=fun a0 a1 r h σ=>(ih_ref09_Same a0 a1 r h).c σ
 refine zi (rs:=[.tmp 4]) tok Tryz.func20 rfl Tryz.ntmps20 rfl Tryz.call20 (by simp) ?_;refine zm [(0,.agg (cellsGTree a0)),(1,.agg (cellsGTree a1))] ⟨rfl,rfl,trivial⟩ ?_;unfold zL.body at h
 refine rg tok [2,3] fun K hK=>?_
 simp only[go_sem,qc,qa,qd,reduceCtorEq,cellsGTree];apply hK
 refine za fun Z1 hZ1=>?_
 refine rc [2,3,46] fun K hK=>?_
 refine rnN 6 ?_;refine zh 6 (fun L τ=>L=[(2,.op 0 0 0),(3,.op 1 0 0),(21,.bool ((!(decide (a0.fKind=a1.fKind)))||(!(decide (a0.fN=a1.fN)))))]∧τ=[.cells 0 (cellsGTree a0),.cells 0 (cellsGTree a1)]) ?_ ?_
 · refine yx 15 rfl (fun hg15=>?_) (fun hg15=>?_)
   · have t2:=eq_false hg15;refine rnN 6 ?_;refine zb ⟨rfl,_,_,⟨rfl,rfl⟩,.p t2⟩
   have t3:=eq_true hg15;refine rnN 6 ?_;refine zb ⟨rfl,_,_,⟨rfl,rfl⟩,.p t3⟩
 rintro _ _ ⟨rfl,rfl⟩;refine rnN 1 ?_;refine zh 6 (fun L τ=>L=[(2,.op 0 0 0),(3,.op 1 0 0),(28,.bool (((!(decide (a0.fKind=a1.fKind)))||(!(decide (a0.fN=a1.fN))))||(!(decide (a0.fS=a1.fS)))))]∧τ=[.cells 0 (cellsGTree a0),.cells 0 (cellsGTree a1)]) ?_ ?_
 · refine zK (b:=((!(decide (a0.fKind=a1.fKind)))||(!(decide (a0.fN=a1.fN))))) 22 rfl (fun hg22=>?_) (fun hg22=>?_)
   · refine rnN 6 ?_;refine zb ⟨rfl,_,_,⟨rfl,rfl⟩,.b hg22⟩
   refine rnN 6 ?_;refine zb ⟨rfl,_,_,⟨rfl,rfl⟩,.b hg22⟩
 rintro _ _ ⟨rfl,rfl⟩;refine rnN 1 ?_;refine zh 8 (fun L τ=>L=[(2,.op 0 0 0),(3,.op 1 0 0),(37,.bool ((((!(decide (a0.fKind=a1.fKind)))||(!(decide (a0.fN=a1.fN))))||(!(decide (a0.fS=a1.fS))))||(!(decide ((qb a0.fEntries:Int)=(qb a1.fEntries:Int))))))]∧τ=[.cells 0 (cellsGTree a0),.cells 0 (cellsGTree a1)]) ?_ ?_
 · refine zK (b:=(((!(decide (a0.fKind=a1.fKind)))||(!(decide (a0.fN=a1.fN))))||(!(decide (a0.fS=a1.fS))))) 29 rfl (fun hg29=>?_) (fun hg29=>?_)
   · refine rnN 8 ?_;refine zb ⟨rfl,_,_,⟨rfl,rfl⟩,.b hg29⟩
   refine rnN 8 ?_;refine zb ⟨rfl,_,_,⟨rfl,rfl⟩,.b hg29⟩
 rintro _ _ ⟨rfl,rfl⟩;refine rnN 1 ?_;refine zh 8 (fun L τ=>L=[(2,.op 0 0 0),(3,.op 1 0 0),(46,.bool (((((!(decide (a0.fKind=a1.fKind)))||(!(decide (a0.fN=a1.fN))))||(!(decide (a0.fS=a1.fS))))||(!(decide ((qb a0.fEntries:Int)=(qb a1.fEntries:Int)))))||(!(decide ((qb a0.fRest:Int)=(qb a1.fRest:Int))))))]∧τ=[.cells 0 (cellsGTree a0),.cells 0 (cellsGTree a1)]) ?_ ?_
 · refine zK (b:=((((!(decide (a0.fKind=a1.fKind)))||(!(decide (a0.fN=a1.fN))))||(!(decide (a0.fS=a1.fS))))||(!(decide ((qb a0.fEntries:Int)=(qb a1.fEntries:Int)))))) 38 rfl (fun hg38=>?_) (fun hg38=>?_)
   · refine rnN 8 ?_;refine zb ⟨rfl,_,_,⟨rfl,rfl⟩,.b hg38⟩
   refine rnN 8 ?_;refine zb ⟨rfl,_,_,⟨rfl,rfl⟩,.b hg38⟩
 rintro _ _ ⟨rfl,rfl⟩;refine nkN hK ?_;refine zn (b:=(((((!(decide (a0.fKind=a1.fKind)))||(!(decide (a0.fN=a1.fN))))||(!(decide (a0.fS=a1.fS))))||(!(decide ((qb a0.fEntries:Int)=(qb a1.fEntries:Int)))))||(!(decide ((qb a0.fRest:Int)=(qb a1.fRest:Int)))))) rfl (fun hc4=>?_) (fun hc4=>?_)
 · rw[if_pos hc4] at h;refine rgN [4] ?_;cases h;exact rtA
 rw[xD hc4] at h;apply zd;apply hZ1
 refine za fun Z5 hZ5=>?_
 refine rgN [2,3,5] ?_;apply ze
 refine xI 0 rfl fun hb8=>?_
 replace hb8:qb a0.fRest≤9223372036854775807:=hb8.2.2.2.2.1.1;refine zC (fun m L τ=>∃ (p8 q8:List GRaw) (x6:Int),m=qb q8∧L=[(2,.op 0 0 0),(3,.op 1 0 0),(5,.int .i64 x6)]∧τ=[.cells 0 (cellsGTree a0),.cells 0 (cellsGTree a1)]∧a0.fRest=p8++q8∧x6=(qb p8:Int)∧zL.l8 yj a0 a1 q8 x6=some r) _ ⟨[],a0.fRest,0,rfl,rfl,rfl,rfl,rfl,h⟩ .s ?_;rintro m L τ ⟨p8,q8,x6,rfl,rfl,rfl,hE8,hi8,h⟩
 rcases q8 with _|⟨y8,q8⟩
 · have hz8:=yz hE8 hi8;simp only[zL.l8] at h
   refine za fun Z9 hZ9=>?_
   refine rg tok [2,3,5,51] fun K hK=>?_
   simp only[go_sem,qc,qa,qd,hz8];apply hK
   refine zw rfl ?_;apply zJ;apply hZ5
   refine za fun Z10 hZ10=>?_
   refine rgN [2,3,6] ?_;apply ze
   refine xI 0 rfl fun hb13=>?_
   replace hb13:qb a0.fEntries≤9223372036854775807:=hb13.2.2.2.1.1;refine zC (fun m L τ=>∃ (p13 q13:List GEntry) (x11:Int),m=qb q13∧L=[(2,.op 0 0 0),(3,.op 1 0 0),(6,.int .i64 x11)]∧τ=[.cells 0 (cellsGTree a0),.cells 0 (cellsGTree a1)]∧a0.fEntries=p13++q13∧x11=(qb p13:Int)∧zL.l13 yj a1 q13 x11=some r) _ ⟨[],a0.fEntries,0,rfl,rfl,rfl,rfl,rfl,h⟩ .s ?_;rintro m L τ ⟨p13,q13,x11,rfl,rfl,rfl,hE13,hi13,h⟩
   rcases q13 with _|⟨y13,q13⟩
   · have hz13:=yz hE13 hi13;simp only[zL.l13] at h
     refine za fun Z14 hZ14=>?_
     refine rg tok [2,3,6,69] fun K hK=>?_
     simp only[go_sem,qc,qa,qd,hz13];apply hK
     refine zw rfl ?_;apply zJ;apply hZ10;refine rgN [4] ?_;cases h;exact rtA
   obtain⟨hz13,hw13,hx13,hE'13,hi'13⟩:=yd hE13 hi13 hb13;simp only[zL.l13] at h
   refine za fun Z15 hZ15=>?_
   refine rg tok [2,3,6,69] fun K hK=>?_
   simp only[go_sem,qc,qa,qd,hz13];apply hK
   refine zz rfl ?_;apply zd;apply hZ15
   refine za fun Z16 hZ16=>?_
   apply ze;have f17:=E27.idxS hx13;have f18:=E27.loadS rfl rfl hx13;obtain⟨y19,hy19,h⟩:=bind_some h;have f20:=E27.idxS hy19;have f21:=E27.loadS rfl rfl hy19
   refine rd [2,3,6,7,8] fun K hK=>?_
   refine DW.start (T:=tab) [.any,.own 2 [],.any,.any,.own 2 [],.any,.own 3 [],.any,.any,.own 3 [],.eff,.flt,.eff,.eff] [(2,[]),(3,[])] ?_;refine DW.runN tok 8 ?_;simp only[go_sem,qc,qa,qd,cellsGEntry,yy,f17,f18];refine DW.runN tok 6 ?_;simp only[go_sem,qc,qe,qa,qd,cellsGEntry,yy,f20,f21];refine DW.fin tok (by decide +kernel) rfl ?_;simp only[zt,upd,qa,reduceIte,yV,xz];apply hK
   refine za fun Z22 hZ22=>?_
   refine rc [2,3,6,7,8,95] fun K hK=>?_
   refine rnN 6 ?_;refine zh 8 (fun L τ=>L=[(2,.op 0 0 0),(3,.op 1 0 0),(6,.int .i64 x11),(7,.op 2 0 0),(8,.op 3 0 0),(95,.bool ((!(decide (y13.fTag=y19.fTag)))||(!(decide ((qb y13.fTrees:Int)=(qb y19.fTrees:Int))))))]∧τ=[.cells 0 (cellsGTree a0),.cells 0 (cellsGTree a1),.cells 0 (cellsGEntry y13),.cells 0 (cellsGEntry y19)]) ?_ ?_
   · refine yx 87 rfl (fun hg87=>?_) (fun hg87=>?_)
     · have t23:=eq_false hg87;refine rnN 8 ?_;refine zb ⟨rfl,_,_,⟨rfl,rfl⟩,.p t23⟩
     have t24:=eq_true hg87;refine rnN 8 ?_;refine zb ⟨rfl,_,_,⟨rfl,rfl⟩,.p t24⟩
   rintro _ _ ⟨rfl,rfl⟩;refine nkN hK ?_;refine zn (b:=((!(decide (y13.fTag=y19.fTag)))||(!(decide ((qb y13.fTrees:Int)=(qb y19.fTrees:Int)))))) rfl (fun hc25=>?_) (fun hc25=>?_)
   · rw[if_pos hc25] at h;refine rgN [4] ?_;cases h;exact rtA
   rw[xD hc25] at h;apply zd;apply hZ22;refine rgN [2,3,6,7,8,9] ?_;apply ze
   refine xI 2 rfl fun hb28=>?_
   replace hb28:qb y13.fTrees≤9223372036854775807:=hb28.2.1.1;refine zC (fun m L τ=>∃ (p28 q28:List GTree) (x26:Int),m=qb q28∧L=[(2,.op 0 0 0),(3,.op 1 0 0),(6,.int .i64 x11),(7,.op 2 0 0),(8,.op 3 0 0),(9,.int .i64 x26)]∧τ=[.cells 0 (cellsGTree a0),.cells 0 (cellsGTree a1),.cells 0 (cellsGEntry y13),.cells 0 (cellsGEntry y19)]∧y13.fTrees=p28++q28∧x26=(qb p28:Int)∧zL.l28 yj x11 (zL.l13 yj a1 q13) y19 q28 x26=some r) _ ⟨[],y13.fTrees,0,rfl,rfl,rfl,rfl,rfl,h⟩ .s ?_;rintro m L τ ⟨p28,q28,x26,rfl,rfl,rfl,hE28,hi28,h⟩
   rcases q28 with _|⟨y28,q28⟩
   · have hz28:=yz hE28 hi28;simp only[zL.l28] at h
     refine za fun Z29 hZ29=>?_
     refine rg tok [2,3,6,7,8,9,100] fun K hK=>?_
     simp only[go_sem,qc,qa,qd,hz28];apply hK
     refine zw rfl ?_;apply zJ;apply hZ16
     refine rgE tok [2,3,6] fun K hK=>?_
     simp only[go_sem,qc,qa,hw13];apply hK
     exact⟨_,_,_,qy q13.length,⟨p13++[y13],q13,x11+1,rfl,rfl,rfl,hE'13,hi'13,h⟩,(.t [0,1] false)⟩
   obtain⟨hz28,hw28,hx28,hE'28,hi'28⟩:=yd hE28 hi28 hb28;simp only[zL.l28] at h
   refine za fun Z30 hZ30=>?_
   refine rg tok [2,3,6,7,8,9,100] fun K hK=>?_
   simp only[go_sem,qc,qa,qd,hz28];apply hK
   refine zz rfl ?_;apply zd;apply hZ30
   refine za fun Z31 hZ31=>?_
   apply ze;have f32:=E90.idxS hx28;have f33:=E90.loadS rfl rfl hx28;obtain⟨y34,hy34,h⟩:=bind_some h;have f35:=E90.idxS hy34;have f36:=E90.loadS rfl rfl hy34;obtain⟨r37,hr37,h⟩:=bind_some h
   refine rd [2,3,6,7,8,9,114] fun K hK=>?_
   refine DW.start (T:=tab) [.any,.at [],.any,.any,.at [],.any,.at [],.any,.any,.at [],.eff,.any] [] ?_;refine DW.runN tok 8 ?_;simp only[go_sem,qc,qa,qd,cellsGTree,zO,f32,f33];refine DW.runN tok 2 ?_;simp only[go_sem,qc,qa,cellsGTree,zO,f35,f36];refine DW.call rfl rfl rfl (ev_ref09_Same y28 y34 r37 hr37 _) ?_;refine DW.runN tok 1 ?_;simp only[go_sem,qc,qa];refine DW.fin tok (by decide +kernel) rfl ?_;simp only[zt,upd,qa,reduceIte,yV,xz];apply hK
   refine zn (b:=(!r37)) rfl (fun hc38=>?_) (fun hc38=>?_)
   · rw[if_pos hc38] at h;refine rgN [4] ?_;cases h;exact rtA
   rw[xD hc38] at h;apply zd;apply hZ31
   refine rgE tok [2,3,6,7,8,9] fun K hK=>?_
   simp only[go_sem,qc,qa,hw28];apply hK
   exact⟨_,_,_,qy q28.length,⟨p28++[y28],q28,x26+1,rfl,rfl,rfl,hE'28,hi'28,h⟩,.s⟩
 obtain⟨hz8,hw8,hx8,hE'8,hi'8⟩:=yd hE8 hi8 hb8;simp only[zL.l8] at h
 refine za fun Z39 hZ39=>?_
 refine rg tok [2,3,5,51] fun K hK=>?_
 simp only[go_sem,qc,qa,qd,hz8];apply hK
 refine zz rfl ?_;apply zd;apply hZ39
 refine za fun Z40 hZ40=>?_
 apply ze;have f41:=E28.idxS hx8;have f42:=E28.loadS rfl rfl hx8;obtain⟨y43,hy43,h⟩:=bind_some h;have f44:=E28.idxS hy43;have f45:=E28.loadS rfl rfl hy43
 refine rd [2,3,5,64] fun K hK=>?_
 refine DW.start (T:=tab) [.any,.at [],.any,.any,.at [],.any,.at [],.any,.any,.at [],.any] [] ?_;refine DW.runN tok 8 ?_;simp only[go_sem,qc,qa,qd,encGRaw,f41,f42];refine DW.runN tok 3 ?_;simp only[go_sem,qc,qa,encGRaw,f44,f45,evEqA,ceqL,ceq];refine DW.fin tok (by decide +kernel) rfl ?_;simp only[zt,upd,qa,reduceIte,yV,xz];apply hK
 refine zn (b:=(!(decide (y8.fTag=y43.fTag)&&(decide (y8.fWire=y43.fWire)&&(decide (y8.fN=y43.fN)&&decide (y8.fB=y43.fB)))))) rfl (fun hc46=>?_) (fun hc46=>?_)
 · rw[if_pos hc46] at h;refine rgN [4] ?_;cases h;exact rtA
 rw[xD hc46] at h;apply zd;apply hZ40
 refine rgE tok [2,3,5] fun K hK=>?_
 simp only[go_sem,qc,qa,hw8];apply hK
 exact⟨_,_,_,qy q8.length,⟨p8++[y8],q8,x6+1,rfl,rfl,rfl,hE'8,hi'8,h⟩,.s⟩
end
section
set_option maxRecDepth 4000
set_option maxHeartbeats 1000000
open AM
def zL : Nat→GTree→GTree→Option Bool
 |0,_,_=>none
 |k+1,a0,a1=>zL.body (zL k) a0 a1
theorem zL.all (k:Nat):(∀ (a0:GTree) (a1:GTree) (r:Bool),zL k a0 a1=some r→ACalls qh 20 [.agg (cellsGTree a0),.agg (cellsGTree a1)] [] (fun r' _=>r'=.bool r)):=by
 induction k with
 |zero=>exact (fun a0 a1 r h=>by simp only[zL] at h; cases h)
 |succ k ih=>exact (fun a0 a1 r h=>zL.step _ ih a0 a1 r (by simpa only [zL] using h))
theorem zL.ev (k:Nat)(a0:GTree)(a1:GTree)(r:Bool)(h:zL k a0 a1=some r)(σ:Store):ACalls qh 20 [.agg (cellsGTree a0),.agg (cellsGTree a1)] σ (fun r' σ'=>r'=.bool r∧σ'=σ):=
 ((zL.all k) a0 a1 r h).c σ
def y1.j3 (x2:Int):Option Int:=
 some x2
def y1 (a0:Int)(a1:Int):Option Int:=
 (grd (a1≠0)).bind fun _u1=>(if (a0).tmod a1<0 then (y1.j3 (IntKind.i64.wrap ((a0).tmod a1+a1))) else (y1.j3 ((a0).tmod a1)))
theorem y1.ok (a0:Int)(a1:Int)(r:Int)(h:y1 a0 a1=some r):ACalls qh 22 [.int .i64 a0,.int .i64 a1] [] (fun r' _=>r'=.int .i64 r):=by
 refine zi (rs:=[.tmp 4]) tok Tryz.func22 rfl Tryz.ntmps22 rfl Tryz.call22 (by simp) ?_;refine zm [(0,.int .i64 a0),(1,.int .i64 a1)] ⟨rfl,rfl,trivial⟩ ?_;unfold y1 at h;refine rgN [0,1] ?_;obtain⟨_u1,hu1,h⟩:=bind_some h;have gu1:=wB hu1;have gu1f:=eq_false gu1
 refine rg tok [1,5] fun K hK=>?_
 simp only[go_sem,qc,qa,reduceCtorEq,gu1f];apply hK
 refine xG (fun L τ=>∃ (x2:Int),L=[(5,.int .i64 x2)]∧τ=[]∧y1.j3 x2=some r) ?_ ?_
 · refine rgN [1,5,10] ?_;refine zD rfl (fun hc4=>?_) (fun hc4=>?_)
   · rw[if_pos hc4] at h;have t5:=eq_true hc4
     refine rgE tok [5] fun K hK=>?_
     simp only[go_sem,qc,qa,t5];apply hK
     exact⟨_,_,⟨IntKind.i64.wrap ((a0).tmod a1+a1),rfl,rfl,h⟩,.s⟩
   rw[if_neg hc4] at h;have t6:=eq_false hc4;apply zd;exact⟨_,_,⟨(a0).tmod a1,rfl,rfl,h⟩,.s⟩
 rintro _ _ ⟨x2,rfl,rfl,h⟩;unfold y1.j3 at h;refine rgN [4] ?_;cases h;exact rtA
theorem y1.ev (a0:Int)(a1:Int)(r:Int)(h:y1 a0 a1=some r)(σ:Store):ACalls qh 22 [.int .i64 a0,.int .i64 a1] σ (fun r' σ'=>r'=.int .i64 r∧σ'=σ):=
 (y1.ok a0 a1 r h).c σ
def xY (a0:List Int)(a1:Int):Option (Int×Int):=
 (if (qb a0:Int)=0 then some (0,a1) else (grd ((qb a0:Int)≠0)).bind fun _u5=>(y1 (IntKind.i64.wrap ((IntKind.i64.wrap ((IntKind.i64.wrap (a1+1))*7))+(IntKind.i64.wrap ((IntKind.i64.wrap (a1+1)).tdiv (qb a0:Int))))) (qb a0:Int)).bind fun r6=>(wV a0 r6).bind fun y7=>some (IntKind.i64.wrap ((uk (qB 64 y7 &&& qB 64 4611686018427387903):Nat):Int),IntKind.i64.wrap (a1+1)))
theorem xY.ok (a0:List Int)(a1:Int)(r:Int×Int)(h:xY a0 a1=some r):ACalls qh 84 [.ds true (qf encI a0) (qb a0) false,.op 0 0 0] [.cells 0 [.int .i64 a1]] (fun r' σ'=>r'=.int .i64 r.1∧σ'=[.cells 0 [.int .i64 r.2]]):=by
 refine YD [0] (rs:=[.tmp 4]) tok Tryz.func84 rfl Tryz.ntmps84 rfl Tryz.call84 (by simp) rfl ?_;refine zm [(0,.ds true (qf encI a0) (qb a0) false),(1,.op 0 0 0)] ⟨rfl,rfl,trivial⟩ ?_;unfold xY at h;refine rgN [0,1] ?_
 refine za fun Z1 hZ1=>?_
 refine rgN [0,1,7] ?_;refine zD rfl (fun hc2=>?_) (fun hc2=>?_)
 · rw[if_pos hc2] at h;have t3:=eq_true hc2
   refine rg tok [4] fun K hK=>?_
   simp only[go_sem,qc,qa,reduceCtorEq,t3];apply hK
   apply yw;cases h;simp only[Zv,yP,yZ,xJ,exists_eq_left',go_sem];refine⟨by decide,by simp,?_,?_⟩
   · first|rfl|(simp only[go_sem,qc,qe,qa,qd,ql,qm,reduceIte,reduceCtorEq,push_cast,if_true,qD,qt,qG,qx,qH,qO,qU,qL,qR,qK,qC,zE]<;>rfl)
   first|rfl|(simp only[go_sem,qc,qe,qa,qd,ql,qm,reduceIte,reduceCtorEq,push_cast,if_true,qD,qt,qG,qx,qH,qO,qU,qL,qR,qK,qC,zE]<;>rfl)
 rw[if_neg hc2] at h;have t4:=eq_false hc2;apply zd;apply hZ1
 refine rg tok [0,1] fun K hK=>?_
 simp only[go_sem,qc,qe,qa,reduceCtorEq,t4];apply hK
 obtain⟨_u5,hu5,h⟩:=bind_some h;have gu5:=wB hu5;have gu5f:=eq_false gu5;obtain⟨r6,hr6,h⟩:=bind_some h;obtain⟨y7,hy7,h⟩:=bind_some h;have f8:=E45.idxS hy7;have f9:=E45.fldS0 (f:=3) rfl rfl hy7
 refine rd [4] fun K hK=>?_
 refine DW.start (T:=tab) [.any,.any,.any,.at [],.any,.any,.any,.at [],.any,.at [],.any,.any,.any,.at [],.eff,.any,.at [],.any,.any] [] ?_;refine DW.runN tok 8 ?_;simp only[go_sem,qc,qa,reduceCtorEq];refine DW.runN tok 6 ?_;simp only[go_sem,qc,qa,reduceCtorEq,t4];refine DW.call rfl rfl rfl (y1.ev (IntKind.i64.wrap ((IntKind.i64.wrap ((IntKind.i64.wrap (a1+1))*7))+(IntKind.i64.wrap ((IntKind.i64.wrap (a1+1)).tdiv (qb a0:Int))))) (qb a0:Int) r6 hr6 _) ?_;refine DW.runN tok 4 ?_;simp only[go_sem,qc,qa,reduceCtorEq,encI,f8,f9];refine DW.fin tok (by decide +kernel) rfl ?_;simp only[zt,upd,qa,reduceIte,yV,xz];apply hK
 apply yw;cases h;simp only[Zv,yP,yZ,xJ,exists_eq_left',go_sem];refine⟨by decide,by simp,?_,?_⟩
 · first|rfl|(simp only[go_sem,qc,qe,qa,qd,ql,qm,reduceIte,reduceCtorEq,push_cast,if_true,qD,qt,qG,qx,qH,qO,qU,qL,qR,qK,qC,zE]<;>rfl)
 first|rfl|(simp only[go_sem,qc,qe,qa,qd,ql,qm,reduceIte,reduceCtorEq,push_cast,if_true,qD,qt,qG,qx,qH,qO,qU,qL,qR,qK,qC,zE]<;>rfl)
def zv.j19 (x6:Int)(rec11:Int→List GEntry→Int→Option (GTree×Int))(m0_16:Int)(l17:List GEntry):Option (GTree×Int):=
 (rec11 m0_16 l17 (IntKind.i64.wrap (x6+1)))
def zv.j46 (x34:Int)(rec39:Int→List GTree→Int→Option (GTree×Int))(m0_43:Int)(l44:List GTree):Option (GTree×Int):=
 (rec39 m0_43 l44 (IntKind.i64.wrap (x34+1)))
def zv.l39 (zP:GSchema→GField→(List Int)→Int→Int→Option (GTree×Int))(a0:GSchema)(a2:List Int)(a4:Int)(l4:List GEntry)(x6:Int)(rec11:Int→List GEntry→Int→Option (GTree×Int))(r20:GField×Bool)(x28:Int):Nat→Int→List GTree→Int→Option (GTree×Int)
 |0,_,_,_=>none
 |k39+1,m0_31,l32,x34=>(if x34<x28 then (zP a0 r20.1 a2 m0_31 a4).bind fun r47=>bnd (if r20.1.fLabel=1 then bnd (wI r47.1) fun r48 => !r48 else true) fun c48=>(if c48=true then (Y5 (qb l32+1) 80).bind fun _u53=>(zv.j46 x34 (zv.l39 zP a0 a2 a4 l4 x6 rec11 r20 x28 k39) r47.2 (l32++[r47.1])) else (zv.j46 x34 (zv.l39 zP a0 a2 a4 l4 x6 rec11 r20 x28 k39) r47.2 l32)) else (if 0<(qb l32:Int) then (Y5 (qb l4+1) 32).bind fun _u58=>(zv.j19 x6 rec11 m0_31 (l4++[(⟨x6,l32⟩:GEntry)])) else (zv.j19 x6 rec11 m0_31 l4)))
def zv.j29 (zP:GSchema→GField→(List Int)→Int→Int→Option (GTree×Int))(a0:GSchema)(a2:List Int)(a4:Int)(l4:List GEntry)(x6:Int)(rec11:Int→List GEntry→Int→Option (GTree×Int))(r20:GField×Bool)(m0_27:Int)(x28:Int):Option (GTree×Int):=
 (zv.l39 zP a0 a2 a4 l4 x6 rec11 r20 x28 rounds m0_27 ([]:List GTree) 0)
def zv.l11 (zP:GSchema→GField→(List Int)→Int→Int→Option (GTree×Int))(a0:GSchema)(a2:List Int)(a4:Int)(r1:GMessage×Bool):Nat→Int→List GEntry→Int→Option (GTree×Int)
 |0,_,_,_=>none
 |k11+1,m0_3,l4,x6=>(if ((decide (x6≤500))&&(decide (m0_3<150)))=true then bnd (yC r1.1 x6) fun r20=>(if (!r20.2)=true then some (true,m0_3) else (xY a2 m0_3).bind fun r22=>some (decide ((r22.1).tmod 3=0),r22.2)).bind fun c22=>(if (c22.1||((decide (r20.1.fType.fKind=7))&&(decide (5≤a4))))=true then (zv.j19 x6 (zv.l11 zP a0 a2 a4 r1 k11) c22.2 l4) else (if r20.1.fLabel=3 then (xY a2 c22.2).bind fun r63=>(zv.j29 zP a0 a2 a4 l4 x6 (zv.l11 zP a0 a2 a4 r1 k11) r20 r63.2 (IntKind.i64.wrap (1+((r63.1).tmod 3)))) else (zv.j29 zP a0 a2 a4 l4 x6 (zv.l11 zP a0 a2 a4 r1 k11) r20 c22.2 1))) else some ((⟨3,0,[],l4,([]:List GRaw)⟩:GTree),m0_3))
def zv.body (xg:GSchema→(List UInt8)→(List Int)→Int→Int→Option (GTree×Int))(zP:GSchema→GField→(List Int)→Int→Int→Option (GTree×Int))(a0:GSchema)(a1:List UInt8)(a2:List Int)(a3:Int)(a4:Int):Option (GTree×Int):=
 bnd (zZ a0 a1) fun r1=>(zv.l11 zP a0 a2 a4 r1 rounds a3 ([]:List GEntry) 1)
theorem zv.step (xg:GSchema→(List UInt8)→(List Int)→Int→Int→Option (GTree×Int))(zP:GSchema→GField→(List Int)→Int→Int→Option (GTree×Int))(vaE:∀ (a0:GSchema) (a1:List UInt8) (a2:List Int) (a3:Int) (a4:Int) (r:GTree×Int),xg a0 a1 a2 a3 a4=some r→ACalls qh 48 [.agg (encGSchema a0),.str a1,.ds true (qf encI a2) (qb a2) false,.op 0 0 0,.int .i64 a4] [.cells 0 [.int .i64 a3]] (fun r' σ'=>r'=.agg (cellsGTree r.1)∧σ'=[.cells 0 [.int .i64 r.2]]))(vaD:∀ (a0:GSchema) (a1:GField) (a2:List Int) (a3:Int) (a4:Int) (r:GTree×Int),zP a0 a1 a2 a3 a4=some r→ACalls qh 85 [.agg (encGSchema a0),.agg (encGField a1),.ds true (qf encI a2) (qb a2) false,.op 0 0 0,.int .i64 a4] [.cells 0 [.int .i64 a3]] (fun r' σ'=>r'=.agg (cellsGTree r.1)∧σ'=[.cells 0 [.int .i64 r.2]]))(a0:GSchema)(a1:List UInt8)(a2:List Int)(a3:Int)(a4:Int)(r:GTree×Int)(h:zv.body xg zP a0 a1 a2 a3 a4=some r):ACalls qh 48 [.agg (encGSchema a0),.str a1,.ds true (qf encI a2) (qb a2) false,.op 0 0 0,.int .i64 a4] [.cells 0 [.int .i64 a3]] (fun r' σ'=>r'=.agg (cellsGTree r.1)∧σ'=[.cells 0 [.int .i64 r.2]]):=by
 refine YD [0] (rs:=[.cell 10 30]) tok Tryz.func48 rfl Tryz.ntmps48 rfl Tryz.call48 (by simp) rfl ?_;refine zm [(0,.agg (encGSchema a0)),(1,.str a1),(2,.ds true (qf encI a2) (qb a2) false),(3,.op 0 0 0),(4,.int .i64 a4)] ⟨rfl,rfl,rfl,rfl,rfl,trivial⟩ ?_;unfold zv.body at h
 refine rg tok [1,2,3,4,5,10] fun K hK=>?_
 simp only[go_sem,qc,qa,qd,reduceCtorEq,encGSchema];apply hK
 refine rgN [1,2,3,4,5,10,11] ?_;refine ZM 3 3 2 rfl (by simp) rfl (L:=[(1,.str a1),(2,.ds true (qf encI a2) (qb a2) false),(3,.op 0 0 0),(4,.int .i64 a4),(5,.op 1 0 0),(10,.op 2 0 0),(11,.op 3 0 0)]) (τ:=[.cells 0 [.int .i64 a3],.cells 0 (encGSchema a0),.cells 0 [.int .i64 0,.int .i64 0,.str [],.ds true [] 0 true,.ds true [] 0 true],.cells 0 [.int .i64 3,.int .i64 0,.str [],.os true 2 4 0 0 (qb ([]:List GEntry)) false,.ds true [] 0 true],.cells 0 (qf encGEntry ([]:List GEntry))]) .s ?_
 refine rc [2,3,4,5,10,11,12] fun K hK=>?_
 obtain⟨r1,hr1,h⟩:=zR h;refine rnN 2 ?_;refine clN rfl rfl rfl (zZ.ev a0 a1 r1 hr1 _) ?_;refine zj tok 6 ?_;simp only[go_sem,qc,qe,qa,qd,encGMessage];refine nkN hK ?_
 refine za fun Z2 hZ2=>?_
 refine rgN [2,3,4,5,10,11,12,14] ?_;apply ze;refine zC (fun m L τ=>∃ (k11:Nat) (m0_3:Int) (l4:List GEntry) (x6:Int) (v5:Nat),m=0+k11∧L=[(2,.ds true (qf encI a2) (qb a2) false),(3,.op 0 0 0),(4,.int .i64 a4),(5,.op 1 0 0),(10,.op 2 0 0),(11,.op 3 0 0),(12,.op 5 0 0),(14,.int .i64 x6)]∧τ=[.cells 0 [.int .i64 m0_3],.cells 0 (encGSchema a0),.cells 0 [.int .i64 0,.int .i64 0,.str [],.ds true [] 0 true,.ds true [] 0 true],.cells 0 [.int .i64 3,.int .i64 0,.str [],.os true 2 4 v5 0 (qb l4) false,.ds true [] 0 true],.cells v5 (qf encGEntry l4),.cells 0 (encGMessage r1.1)]∧zv.l11 zP a0 a2 a4 r1 k11 m0_3 l4 x6=some r) _ ⟨rounds,a3,([]:List GEntry),1,0,rfl,rfl,rfl,h⟩ .s ?_;rintro m L τ ⟨k11,m0_3,l4,x6,v5,rfl,rfl,rfl,h⟩
 rcases k11 with _|k11
 · cases h
 simp only[zv.l11] at h
 refine za fun Z12 hZ12=>?_
 refine rc [2,3,4,5,10,11,12,14,35] fun K hK=>?_
 refine rnN 3 ?_;refine zh 5 (fun L τ=>L=[(2,.ds true (qf encI a2) (qb a2) false),(3,.op 0 0 0),(4,.int .i64 a4),(5,.op 1 0 0),(10,.op 2 0 0),(11,.op 3 0 0),(12,.op 5 0 0),(14,.int .i64 x6),(35,.bool ((decide (x6≤500))&&(decide (m0_3<150))))]∧τ=[.cells 0 [.int .i64 m0_3],.cells 0 (encGSchema a0),.cells 0 [.int .i64 0,.int .i64 0,.str [],.ds true [] 0 true,.ds true [] 0 true],.cells 0 [.int .i64 3,.int .i64 0,.str [],.os true 2 4 v5 0 (qb l4) false,.ds true [] 0 true],.cells v5 (qf encGEntry l4),.cells 0 (encGMessage r1.1)]) ?_ ?_
 · refine yx 30 rfl (fun hg30=>?_) (fun hg30=>?_)
   · have t13:=eq_true hg30;refine rnN 5 ?_;refine zb ⟨rfl,_,_,⟨rfl,rfl⟩,.p t13⟩
   have t14:=eq_false hg30;refine rnN 5 ?_;refine zb ⟨rfl,_,_,⟨rfl,rfl⟩,.p t14⟩
 rintro _ _ ⟨rfl,rfl⟩;refine nkN hK ?_;refine zn (b:=((decide (x6≤500))&&(decide (m0_3<150)))) rfl (fun hc15=>?_) (fun hc15=>?_)
 · rw[if_pos hc15] at h;apply zd;apply hZ12;refine xG (fun L τ=>∃ (m0_16:Int) (l17:List GEntry) (v18:Nat),L=[(2,.ds true (qf encI a2) (qb a2) false),(3,.op 0 0 0),(4,.int .i64 a4),(5,.op 1 0 0),(10,.op 2 0 0),(11,.op 3 0 0),(12,.op 5 0 0),(14,.int .i64 x6)]∧τ=[.cells 0 [.int .i64 m0_16],.cells 0 (encGSchema a0),.cells 0 [.int .i64 0,.int .i64 0,.str [],.ds true [] 0 true,.ds true [] 0 true],.cells 0 [.int .i64 3,.int .i64 0,.str [],.os true 2 4 v18 0 (qb l17) false,.ds true [] 0 true],.cells v18 (qf encGEntry l17),.cells 0 (encGMessage r1.1)]∧zv.j19 x6 (zv.l11 zP a0 a2 a4 r1 k11) m0_16 l17=some r) ?_ ?_
   · apply ze
     refine rc [2,3,4,5,10,11,12,14,15,16] fun K hK=>?_
     obtain⟨r20,hr20,h⟩:=zR h;refine rnN 2 ?_;refine clN rfl rfl rfl (yC.ev r1.1 x6 r20 hr20 _) ?_;refine zj tok 6 ?_;simp only[go_sem,qc,qe,qa,qd,encGField];refine nkN hK ?_
     refine za fun Z21 hZ21=>?_
     refine rc [2,3,4,5,10,11,12,14,15,62] fun K hK=>?_
     refine rnN 3 ?_;obtain⟨c22,hc22,h⟩:=bind_some h;refine zh 6 (fun L τ=>L=[(2,.ds true (qf encI a2) (qb a2) false),(3,.op 0 0 0),(4,.int .i64 a4),(5,.op 1 0 0),(10,.op 2 0 0),(11,.op 3 0 0),(12,.op 5 0 0),(14,.int .i64 x6),(15,.op 6 0 0),(52,.bool c22.1)]∧τ=[.cells 0 [.int .i64 c22.2],.cells 0 (encGSchema a0),.cells 0 [.int .i64 0,.int .i64 0,.str [],.ds true [] 0 true,.ds true [] 0 true],.cells 0 [.int .i64 3,.int .i64 0,.str [],.os true 2 4 v5 0 (qb l4) false,.ds true [] 0 true],.cells v5 (qf encGEntry l4),.cells 0 (encGMessage r1.1),.cells 0 (encGField r20.1)]) ?_ ?_
     · refine zK (b:=(!r20.2)) 46 rfl (fun hg46=>?_) (fun hg46=>?_)
       · rw[if_pos hg46] at hc22;refine rnN 6 ?_;cases hc22;refine zb ⟨rfl,_,_,⟨rfl,rfl⟩,.b hg46⟩
       rw[xD hg46] at hc22;obtain⟨r23,hr23,hc22⟩:=bind_some hc22;refine rnN 2 ?_;refine clN rfl rfl rfl (@id (ACalls qh 84 [.ds true (qf encI a2) (qb a2) false,.op 0 0 0] [.cells 0 [.int .i64 m0_3],.cells 0 (encGSchema a0),.cells 0 [.int .i64 0,.int .i64 0,.str [],.ds true [] 0 true,.ds true [] 0 true],.cells 0 [.int .i64 3,.int .i64 0,.str [],.os true 2 4 v5 0 (qb l4) false,.ds true [] 0 true],.cells v5 (qf encGEntry l4),.cells 0 (encGMessage r1.1),.cells 0 (encGField r20.1)] (fun r' σ'=>r'=.int .i64 r23.1∧σ'=[.cells 0 [.int .i64 r23.2],.cells 0 (encGSchema a0),.cells 0 [.int .i64 0,.int .i64 0,.str [],.ds true [] 0 true,.ds true [] 0 true],.cells 0 [.int .i64 3,.int .i64 0,.str [],.os true 2 4 v5 0 (qb l4) false,.ds true [] 0 true],.cells v5 (qf encGEntry l4),.cells 0 (encGMessage r1.1),.cells 0 (encGField r20.1)])) ((xY.ok a2 m0_3 r23 hr23).i [0])) ?_;refine zj tok 3 ?_;simp only[go_sem,qc,qa,vo];cases hc22;refine zb ⟨rfl,_,_,⟨rfl,rfl⟩,.b hg46⟩
     rintro _ _ ⟨rfl,rfl⟩;refine rnN 1 ?_;refine zh 9 (fun L τ=>L=[(2,.ds true (qf encI a2) (qb a2) false),(3,.op 0 0 0),(4,.int .i64 a4),(5,.op 1 0 0),(10,.op 2 0 0),(11,.op 3 0 0),(12,.op 5 0 0),(14,.int .i64 x6),(15,.op 6 0 0),(62,.bool (c22.1||((decide (r20.1.fType.fKind=7))&&(decide (5≤a4)))))]∧τ=[.cells 0 [.int .i64 c22.2],.cells 0 (encGSchema a0),.cells 0 [.int .i64 0,.int .i64 0,.str [],.ds true [] 0 true,.ds true [] 0 true],.cells 0 [.int .i64 3,.int .i64 0,.str [],.os true 2 4 v5 0 (qb l4) false,.ds true [] 0 true],.cells v5 (qf encGEntry l4),.cells 0 (encGMessage r1.1),.cells 0 (encGField r20.1)]) ?_ ?_
     · refine zK (b:=c22.1) 53 rfl (fun hg53=>?_) (fun hg53=>?_)
       · refine rnN 9 ?_;refine zb ⟨rfl,_,_,⟨rfl,rfl⟩,.b hg53⟩
       refine rnN 5 ?_;refine zh 3 (fun L τ=>L=[(2,.ds true (qf encI a2) (qb a2) false),(3,.op 0 0 0),(4,.int .i64 a4),(5,.op 1 0 0),(10,.op 2 0 0),(11,.op 3 0 0),(12,.op 5 0 0),(14,.int .i64 x6),(15,.op 6 0 0),(53,.bool false),(61,.bool ((decide (r20.1.fType.fKind=7))&&(decide (5≤a4))))]∧τ=[.cells 0 [.int .i64 c22.2],.cells 0 (encGSchema a0),.cells 0 [.int .i64 0,.int .i64 0,.str [],.ds true [] 0 true,.ds true [] 0 true],.cells 0 [.int .i64 3,.int .i64 0,.str [],.os true 2 4 v5 0 (qb l4) false,.ds true [] 0 true],.cells v5 (qf encGEntry l4),.cells 0 (encGMessage r1.1),.cells 0 (encGField r20.1)]) ?_ ?_
       · refine yx 58 rfl (fun hg58=>?_) (fun hg58=>?_)
         · have t24:=eq_true hg58;refine rnN 3 ?_;refine zb ⟨rfl,_,_,⟨rfl,rfl⟩,.p t24⟩
         have t25:=eq_false hg58;refine rnN 3 ?_;refine zb ⟨rfl,_,_,⟨rfl,rfl⟩,.p t25⟩
       rintro _ _ ⟨rfl,rfl⟩;refine rnN 1 ?_;refine zb ⟨rfl,_,_,⟨rfl,rfl⟩,.b hg53⟩
     rintro _ _ ⟨rfl,rfl⟩;refine nkN hK ?_;refine zn (b:=(c22.1||((decide (r20.1.fType.fKind=7))&&(decide (5≤a4))))) rfl (fun hc26=>?_) (fun hc26=>?_)
     · rw[if_pos hc26] at h;apply zJ;exact⟨_,_,⟨c22.2,l4,v5,rfl,rfl,h⟩,(.t [0,1,2,3,4,5] false)⟩
     rw[xD hc26] at h;apply zd;apply hZ21;refine rgN [2,3,4,5,10,11,12,14,15,17] ?_;refine xG (fun L τ=>∃ (m0_27:Int) (x28:Int),L=[(2,.ds true (qf encI a2) (qb a2) false),(3,.op 0 0 0),(4,.int .i64 a4),(5,.op 1 0 0),(10,.op 2 0 0),(11,.op 3 0 0),(12,.op 5 0 0),(14,.int .i64 x6),(15,.op 6 0 0),(17,.int .i64 x28)]∧τ=[.cells 0 [.int .i64 m0_27],.cells 0 (encGSchema a0),.cells 0 [.int .i64 0,.int .i64 0,.str [],.ds true [] 0 true,.ds true [] 0 true],.cells 0 [.int .i64 3,.int .i64 0,.str [],.os true 2 4 v5 0 (qb l4) false,.ds true [] 0 true],.cells v5 (qf encGEntry l4),.cells 0 (encGMessage r1.1),.cells 0 (encGField r20.1)]∧zv.j29 zP a0 a2 a4 l4 x6 (zv.l11 zP a0 a2 a4 r1 k11) r20 m0_27 x28=some r) ?_ ?_
     · refine rgN [2,3,4,5,10,11,12,14,15,17,65] ?_;refine zD rfl (fun hc61=>?_) (fun hc61=>?_)
       · rw[if_pos hc61] at h;have t62:=eq_true hc61
         refine rcE [2,3,4,5,10,11,12,14,15,17] fun K hK=>?_
         obtain⟨r63,hr63,h⟩:=bind_some h;refine zj tok 2 ?_;simp only[go_sem,qc,qa,t62];refine clN rfl rfl rfl (@id (ACalls qh 84 [.ds true (qf encI a2) (qb a2) false,.op 0 0 0] [.cells 0 [.int .i64 c22.2],.cells 0 (encGSchema a0),.cells 0 [.int .i64 0,.int .i64 0,.str [],.ds true [] 0 true,.ds true [] 0 true],.cells 0 [.int .i64 3,.int .i64 0,.str [],.os true 2 4 v5 0 (qb l4) false,.ds true [] 0 true],.cells v5 (qf encGEntry l4),.cells 0 (encGMessage r1.1),.cells 0 (encGField r20.1)] (fun r' σ'=>r'=.int .i64 r63.1∧σ'=[.cells 0 [.int .i64 r63.2],.cells 0 (encGSchema a0),.cells 0 [.int .i64 0,.int .i64 0,.str [],.ds true [] 0 true,.ds true [] 0 true],.cells 0 [.int .i64 3,.int .i64 0,.str [],.os true 2 4 v5 0 (qb l4) false,.ds true [] 0 true],.cells v5 (qf encGEntry l4),.cells 0 (encGMessage r1.1),.cells 0 (encGField r20.1)])) ((xY.ok a2 c22.2 r63 hr63).i [0])) ?_;refine zj tok 3 ?_;simp only[go_sem,qc,qa,vo];refine nkN hK ?_;exact⟨_,_,⟨r63.2,IntKind.i64.wrap (1+((r63.1).tmod 3)),rfl,rfl,h⟩,.s⟩
       rw[if_neg hc61] at h;have t64:=eq_false hc61;apply zd;exact⟨_,_,⟨c22.2,1,rfl,rfl,h⟩,.s⟩
     rintro _ _ ⟨m0_27,x28,rfl,rfl,h⟩;unfold zv.j29 at h;refine rgN [2,3,4,5,10,11,12,14,15,17,18] ?_;refine ZM 7 1 5 rfl (by simp) rfl (L:=[(2,.ds true (qf encI a2) (qb a2) false),(3,.op 0 0 0),(4,.int .i64 a4),(5,.op 1 0 0),(10,.op 2 0 0),(11,.op 3 0 0),(12,.op 5 0 0),(14,.int .i64 x6),(15,.op 6 0 0),(17,.int .i64 x28),(18,.op 7 0 0)]) (τ:=[.cells 0 [.int .i64 m0_27],.cells 0 (encGSchema a0),.cells 0 [.int .i64 0,.int .i64 0,.str [],.ds true [] 0 true,.ds true [] 0 true],.cells 0 [.int .i64 3,.int .i64 0,.str [],.os true 2 4 v5 0 (qb l4) false,.ds true [] 0 true],.cells v5 (qf encGEntry l4),.cells 0 (encGMessage r1.1),.cells 0 (encGField r20.1),.cells 0 [.int .i64 x6,.os true 5 8 0 0 (qb ([]:List GTree)) false],.cells 0 (qf encGTree ([]:List GTree))]) .s ?_
     refine za fun Z30 hZ30=>?_
     refine rgN [2,3,4,5,10,11,12,14,15,17,18,19] ?_;apply ze;refine zC (fun m L τ=>∃ (k39:Nat) (m0_31:Int) (l32:List GTree) (x34:Int) (v33:Nat),m=0+k39∧L=[(2,.ds true (qf encI a2) (qb a2) false),(3,.op 0 0 0),(4,.int .i64 a4),(5,.op 1 0 0),(10,.op 2 0 0),(11,.op 3 0 0),(12,.op 5 0 0),(14,.int .i64 x6),(15,.op 6 0 0),(17,.int .i64 x28),(18,.op 7 0 0),(19,.int .i64 x34)]∧τ=[.cells 0 [.int .i64 m0_31],.cells 0 (encGSchema a0),.cells 0 [.int .i64 0,.int .i64 0,.str [],.ds true [] 0 true,.ds true [] 0 true],.cells 0 [.int .i64 3,.int .i64 0,.str [],.os true 2 4 v5 0 (qb l4) false,.ds true [] 0 true],.cells v5 (qf encGEntry l4),.cells 0 (encGMessage r1.1),.cells 0 (encGField r20.1),.cells 0 [.int .i64 x6,.os true 5 8 v33 0 (qb l32) false],.cells v33 (qf encGTree l32)]∧zv.l39 zP a0 a2 a4 l4 x6 (zv.l11 zP a0 a2 a4 r1 k11) r20 x28 k39 m0_31 l32 x34=some r) _ ⟨rounds,m0_27,([]:List GTree),0,0,rfl,rfl,rfl,h⟩ .s ?_;rintro m L τ ⟨k39,m0_31,l32,x34,v33,rfl,rfl,rfl,h⟩
     rcases k39 with _|k39
     · cases h
     simp only[zv.l39] at h
     refine za fun Z40 hZ40=>?_
     refine rgN [2,3,4,5,10,11,12,14,15,17,18,19,75] ?_;refine zD rfl (fun hc41=>?_) (fun hc41=>?_)
     · rw[if_pos hc41] at h;have t42:=eq_true hc41;apply zd;apply hZ40;refine xG (fun L τ=>∃ (m0_43:Int) (l44:List GTree) (v45:Nat),L=[(2,.ds true (qf encI a2) (qb a2) false),(3,.op 0 0 0),(4,.int .i64 a4),(5,.op 1 0 0),(10,.op 2 0 0),(11,.op 3 0 0),(12,.op 5 0 0),(14,.int .i64 x6),(15,.op 6 0 0),(17,.int .i64 x28),(18,.op 7 0 0),(19,.int .i64 x34)]∧τ=[.cells 0 [.int .i64 m0_43],.cells 0 (encGSchema a0),.cells 0 [.int .i64 0,.int .i64 0,.str [],.ds true [] 0 true,.ds true [] 0 true],.cells 0 [.int .i64 3,.int .i64 0,.str [],.os true 2 4 v5 0 (qb l4) false,.ds true [] 0 true],.cells v5 (qf encGEntry l4),.cells 0 (encGMessage r1.1),.cells 0 (encGField r20.1),.cells 0 [.int .i64 x6,.os true 5 8 v45 0 (qb l44) false],.cells v45 (qf encGTree l44)]∧zv.j46 x34 (zv.l39 zP a0 a2 a4 l4 x6 (zv.l11 zP a0 a2 a4 r1 k11) r20 x28 k39) m0_43 l44=some r) ?_ ?_
       · apply ze
         refine rc [2,3,4,5,10,11,12,14,15,17,18,19,20] fun K hK=>?_
         obtain⟨r47,hr47,h⟩:=bind_some h;refine zj tok 5 ?_;simp only[go_sem,qc,qe,qa,qd,t42];refine clN rfl rfl rfl (@id (ACalls qh 85 [.agg (encGSchema a0),.agg (encGField r20.1),.ds true (qf encI a2) (qb a2) false,.op 0 0 0,.int .i64 a4] [.cells 0 [.int .i64 m0_31],.cells 0 (encGSchema a0),.cells 0 [.int .i64 0,.int .i64 0,.str [],.ds true [] 0 true,.ds true [] 0 true],.cells 0 [.int .i64 3,.int .i64 0,.str [],.os true 2 4 v5 0 (qb l4) false,.ds true [] 0 true],.cells v5 (qf encGEntry l4),.cells 0 (encGMessage r1.1),.cells 0 (encGField r20.1),.cells 0 [.int .i64 x6,.os true 5 8 v33 0 (qb l32) false],.cells v33 (qf encGTree l32)] (fun r' σ'=>r'=.agg (cellsGTree r47.1)∧σ'=[.cells 0 [.int .i64 r47.2],.cells 0 (encGSchema a0),.cells 0 [.int .i64 0,.int .i64 0,.str [],.ds true [] 0 true,.ds true [] 0 true],.cells 0 [.int .i64 3,.int .i64 0,.str [],.os true 2 4 v5 0 (qb l4) false,.ds true [] 0 true],.cells v5 (qf encGEntry l4),.cells 0 (encGMessage r1.1),.cells 0 (encGField r20.1),.cells 0 [.int .i64 x6,.os true 5 8 v33 0 (qb l32) false],.cells v33 (qf encGTree l32)])) ((vaD a0 r20.1 a2 m0_31 a4 r47 hr47).i [0])) ?_;refine zj tok 2 ?_;simp only[go_sem,qc,qe,qa,qd,cellsGTree];refine nkN hK ?_
         refine rc [2,3,4,5,10,11,12,14,15,17,18,19,20,91] fun K hK=>?_
         refine rnN 4 ?_;obtain⟨c48,hc48,h⟩:=zR h;refine zh 4 (fun L τ=>L=[(2,.ds true (qf encI a2) (qb a2) false),(3,.op 0 0 0),(4,.int .i64 a4),(5,.op 1 0 0),(10,.op 2 0 0),(11,.op 3 0 0),(12,.op 5 0 0),(14,.int .i64 x6),(15,.op 6 0 0),(17,.int .i64 x28),(18,.op 7 0 0),(19,.int .i64 x34),(20,.op 9 0 0),(91,.bool c48)]∧τ=[.cells 0 [.int .i64 r47.2],.cells 0 (encGSchema a0),.cells 0 [.int .i64 0,.int .i64 0,.str [],.ds true [] 0 true,.ds true [] 0 true],.cells 0 [.int .i64 3,.int .i64 0,.str [],.os true 2 4 v5 0 (qb l4) false,.ds true [] 0 true],.cells v5 (qf encGEntry l4),.cells 0 (encGMessage r1.1),.cells 0 (encGField r20.1),.cells 0 [.int .i64 x6,.os true 5 8 v33 0 (qb l32) false],.cells v33 (qf encGTree l32),.cells 0 (cellsGTree r47.1)]) ?_ ?_
         · refine yx 87 rfl (fun hg87=>?_) (fun hg87=>?_)
           · have t49:=eq_false hg87;rw[if_neg hg87] at hc48;refine rnN 4 ?_;subst hc48;refine zb ⟨rfl,_,_,⟨rfl,rfl⟩,.p t49⟩
           have t50:=eq_true hg87;rw[if_pos hg87] at hc48;obtain⟨r51,hr51,hc48⟩:=zR hc48;refine rnN 1 ?_;refine clN rfl rfl rfl (wI.ev r47.1 r51 hr51 _) ?_;refine rnN 2 ?_;subst hc48;refine zb ⟨rfl,_,_,⟨rfl,rfl⟩,.p t50⟩
         rintro _ _ ⟨rfl,rfl⟩;refine nkN hK ?_;refine zn (b:=c48) rfl (fun hc52=>?_) (fun hc52=>?_)
         · rw[if_pos hc52] at h;obtain⟨_u53,hu53,h⟩:=bind_some h;have gu53:=yA hu53;have f54:=(zA E90.len l32)
           refine rgE tok [2,3,4,5,10,11,12,14,15,17,18,19] fun K hK=>?_
           simp only[go_sem,qc,qe,qa,qd,ql,zQ,z6,ug,q7,true_and,ul,ym,zW,yp,gu53,f54,yT,ud,q5,AV.one,qX,qz,qk,qn,qt,qA];apply hK
           exact⟨_,_,⟨r47.2,l32++[r47.1],v33+1,rfl,rfl,h⟩,(.t [0,1,2,3,4,5,6,7,8] false)⟩
         rw[xD hc52] at h;apply zd;exact⟨_,_,⟨r47.2,l32,v33,rfl,rfl,h⟩,(.t [0,1,2,3,4,5,6,7,8] false)⟩
       rintro _ _ ⟨m0_43,l44,v45,rfl,rfl,h⟩;unfold zv.j46 at h
       refine rgE tok [2,3,4,5,10,11,12,14,15,17,18,19] fun K hK=>?_
       simp only[go_sem,qc,qa];apply hK
       exact⟨_,_,_,qy (0+k39),⟨k39,m0_43,l44,IntKind.i64.wrap (x34+1),v45,rfl,rfl,rfl,h⟩,.s⟩
     rw[if_neg hc41] at h;have t55:=eq_false hc41;apply zJ;apply hZ30
     refine rg tok [2,3,4,5,10,11,12,14,18,101] fun K hK=>?_
     simp only[go_sem,qc,qa,qd,t55];apply hK
     refine zD rfl (fun hc56=>?_) (fun hc56=>?_)
     · rw[if_pos hc56] at h;have t57:=eq_true hc56;obtain⟨_u58,hu58,h⟩:=bind_some h;have gu58:=yA hu58;have f59:=(zA E27.len l4)
       refine rgE tok [2,3,4,5,10,11,12,14] fun K hK=>?_
       simp only[go_sem,qc,qe,qa,qd,ql,zQ,z6,ug,q7,true_and,ul,ym,zW,yp,t57,gu58,f59,yT,ud,q5,AV.one,qX,qz,qk,qn,qt,qA];apply hK
       exact⟨_,_,⟨m0_31,l4++[(⟨x6,l32⟩:GEntry)],v5+1,rfl,rfl,h⟩,(.t [0,1,2,3,4,5] false)⟩
     rw[if_neg hc56] at h;have t60:=eq_false hc56;apply zd;exact⟨_,_,⟨m0_31,l4,v5,rfl,rfl,h⟩,(.t [0,1,2,3,4,5] false)⟩
   rintro _ _ ⟨m0_16,l17,v18,rfl,rfl,h⟩;unfold zv.j19 at h
   refine rgE tok [2,3,4,5,10,11,12,14] fun K hK=>?_
   simp only[go_sem,qc,qa];apply hK
   exact⟨_,_,_,qy (0+k11),⟨k11,m0_16,l17,IntKind.i64.wrap (x6+1),v18,rfl,rfl,rfl,h⟩,.s⟩
 rw[xD hc15] at h;apply zJ;apply hZ2;refine rgN [10] ?_;apply yw;cases h;simp only[Zv,yP,yZ,xJ,exists_eq_left',go_sem,qe,qd,cellsGTree];refine⟨by decide,by simp,?_,?_⟩
 · first|rfl|(simp only[go_sem,reduceCtorEq,push_cast,if_true,qD,qt,qG,qx,qO,qR,qK,zE]<;>rfl)
 first|rfl|(simp only[go_sem,qc,qe,qa,qd,ql,qm,reduceIte,reduceCtorEq,push_cast,if_true,qD,qt,qG,qx,qH,qO,qU,qL,qR,qK,qC,zE,cellsGEntry,cellsGTree,yy,zO]<;>rfl)
def xl.j16 (xg:GSchema→(List UInt8)→(List Int)→Int→Int→Option (GTree×Int))(a0:GSchema)(a1:GField)(a2:List Int)(a4:Int)(r1:Int×Int)(x15:Bool):Option (GTree×Int):=
 (if x15=true then (wV ([0,1,2,4,6,7]:List Int) ((r1.1).tmod 6)).bind fun y18=>(grd ((0:Int)≤0∧0≤y18∧y18≤(qb ([103,114,195,182,195,159,101]:List UInt8):Int))).bind fun _u20=>some ((⟨2,0,Yx ([103,114,195,182,195,159,101]:List UInt8) 0 y18,([]:List GEntry),([]:List GRaw)⟩:GTree),r1.2) else (xg a0 a1.fType.fName a2 r1.2 (IntKind.i64.wrap (a4+1))).bind fun r22=>some (r22.1,r22.2))
def xl.body (xg:GSchema→(List UInt8)→(List Int)→Int→Int→Option (GTree×Int))(zP:GSchema→GField→(List Int)→Int→Int→Option (GTree×Int))(a0:GSchema)(a1:GField)(a2:List Int)(a3:Int)(a4:Int):Option (GTree×Int):=
 (xY a2 a3).bind fun r1=>(if a1.fType.fKind=1 then some ((⟨1,IntKind.i64.wrap ((r1.1).tmod 4294967296-2147483648),[],([]:List GEntry),([]:List GRaw)⟩:GTree),r1.2) else (if a1.fType.fKind=2 then some ((⟨1,IntKind.i64.wrap (r1.1-2305843009213693952),[],([]:List GEntry),([]:List GRaw)⟩:GTree),r1.2) else (if a1.fType.fKind=3 then some ((⟨1,(r1.1).tmod 2,[],([]:List GEntry),([]:List GRaw)⟩:GTree),r1.2) else (if a1.fType.fKind=6 then some ((⟨1,(r1.1).tmod 5,[],([]:List GEntry),([]:List GRaw)⟩:GTree),r1.2) else (if a1.fType.fKind=4 then (xl.j16 xg a0 a1 a2 a4 r1 (decide (a1.fType.fKind=4))) else (xl.j16 xg a0 a1 a2 a4 r1 (decide (a1.fType.fKind=5))))))))
theorem xl.step (xg:GSchema→(List UInt8)→(List Int)→Int→Int→Option (GTree×Int))(zP:GSchema→GField→(List Int)→Int→Int→Option (GTree×Int))(vaE:∀ (a0:GSchema) (a1:List UInt8) (a2:List Int) (a3:Int) (a4:Int) (r:GTree×Int),xg a0 a1 a2 a3 a4=some r→ACalls qh 48 [.agg (encGSchema a0),.str a1,.ds true (qf encI a2) (qb a2) false,.op 0 0 0,.int .i64 a4] [.cells 0 [.int .i64 a3]] (fun r' σ'=>r'=.agg (cellsGTree r.1)∧σ'=[.cells 0 [.int .i64 r.2]]))(vaD:∀ (a0:GSchema) (a1:GField) (a2:List Int) (a3:Int) (a4:Int) (r:GTree×Int),zP a0 a1 a2 a3 a4=some r→ACalls qh 85 [.agg (encGSchema a0),.agg (encGField a1),.ds true (qf encI a2) (qb a2) false,.op 0 0 0,.int .i64 a4] [.cells 0 [.int .i64 a3]] (fun r' σ'=>r'=.agg (cellsGTree r.1)∧σ'=[.cells 0 [.int .i64 r.2]]))(a0:GSchema)(a1:GField)(a2:List Int)(a3:Int)(a4:Int)(r:GTree×Int)(h:xl.body xg zP a0 a1 a2 a3 a4=some r):ACalls qh 85 [.agg (encGSchema a0),.agg (encGField a1),.ds true (qf encI a2) (qb a2) false,.op 0 0 0,.int .i64 a4] [.cells 0 [.int .i64 a3]] (fun r' σ'=>r'=.agg (cellsGTree r.1)∧σ'=[.cells 0 [.int .i64 r.2]]):=by
 refine YD [0] (rs:=[.cell 10 30]) tok Tryz.func85 rfl Tryz.ntmps85 rfl Tryz.call85 (by simp) rfl ?_;refine zm [(0,.agg (encGSchema a0)),(1,.agg (encGField a1)),(2,.ds true (qf encI a2) (qb a2) false),(3,.op 0 0 0),(4,.int .i64 a4)] ⟨rfl,rfl,rfl,rfl,rfl,trivial⟩ ?_;unfold xl.body at h
 refine rg tok [2,3,4,5,6,10] fun K hK=>?_
 simp only[go_sem,qc,qa,qd,reduceCtorEq,encGField,encGSchema];apply hK
 refine rc [2,3,4,5,6,10,11] fun K hK=>?_
 obtain⟨r1,hr1,h⟩:=bind_some h;refine rnN 2 ?_;refine clN rfl rfl rfl (@id (ACalls qh 84 [.ds true (qf encI a2) (qb a2) false,.op 0 0 0] [.cells 0 [.int .i64 a3],.cells 0 (encGSchema a0),.cells 0 (encGField a1),.cells 0 [.int .i64 0,.int .i64 0,.str [],.ds true [] 0 true,.ds true [] 0 true]] (fun r' σ'=>r'=.int .i64 r1.1∧σ'=[.cells 0 [.int .i64 r1.2],.cells 0 (encGSchema a0),.cells 0 (encGField a1),.cells 0 [.int .i64 0,.int .i64 0,.str [],.ds true [] 0 true,.ds true [] 0 true]])) ((xY.ok a2 a3 r1 hr1).i [0])) ?_;refine rnN 1 ?_;refine nkN hK ?_
 refine za fun Z2 hZ2=>?_
 refine rgN [2,3,4,5,6,10,11,17] ?_;apply ze;refine rgN [2,3,4,5,6,10,11,17,18] ?_;refine zD rfl (fun hc3=>?_) (fun hc3=>?_)
 · rw[if_pos hc3] at h;have t4:=eq_true hc3
   refine rg tok [10] fun K hK=>?_
   simp only[go_sem,qc,qe,qa,qd,t4,vo];apply hK
   apply yw;cases h;simp only[Zv,yP,yZ,xJ,exists_eq_left',go_sem,qe,qd,cellsGTree];refine⟨by decide,by simp,?_,?_⟩
   · first|rfl|(simp only[go_sem,qc,qe,qa,qd,ql,qm,reduceIte,reduceCtorEq,push_cast,if_true,qD,qt,qG,qx,qH,qO,qU,qL,qR,qK,qC,zE,cellsGTree,zO]<;>rfl)
   first|rfl|(simp only[go_sem,qc,qe,qa,qd,ql,qm,reduceIte,reduceCtorEq,push_cast,if_true,qD,qt,qG,qx,qH,qO,qU,qL,qR,qK,qC,zE,cellsGTree,zO]<;>rfl)
 rw[if_neg hc3] at h;have t5:=eq_false hc3
 refine rg tok [2,3,4,5,6,10,11,17,24] fun K hK=>?_
 simp only[go_sem,qc,qa,t5];apply hK
 refine zD rfl (fun hc6=>?_) (fun hc6=>?_)
 · rw[if_pos hc6] at h;have t7:=eq_true hc6
   refine rg tok [10] fun K hK=>?_
   simp only[go_sem,qc,qe,qa,qd,t7];apply hK
   apply yw;cases h;simp only[Zv,yP,yZ,xJ,exists_eq_left',go_sem,qe,qd,cellsGTree];refine⟨by decide,by simp,?_,?_⟩
   · first|rfl|(simp only[go_sem,qc,qe,qa,qd,ql,qm,reduceIte,reduceCtorEq,push_cast,if_true,qD,qt,qG,qx,qH,qO,qU,qL,qR,qK,qC,zE,cellsGTree,zO]<;>rfl)
   first|rfl|(simp only[go_sem,qc,qe,qa,qd,ql,qm,reduceIte,reduceCtorEq,push_cast,if_true,qD,qt,qG,qx,qH,qO,qU,qL,qR,qK,qC,zE,cellsGTree,zO]<;>rfl)
 rw[if_neg hc6] at h;have t8:=eq_false hc6
 refine rg tok [2,3,4,5,6,10,11,17,29] fun K hK=>?_
 simp only[go_sem,qc,qa,t8];apply hK
 refine zD rfl (fun hc9=>?_) (fun hc9=>?_)
 · rw[if_pos hc9] at h;have t10:=eq_true hc9
   refine rg tok [10] fun K hK=>?_
   simp only[go_sem,qc,qe,qa,qd,t10,vo];apply hK
   apply yw;cases h;simp only[Zv,yP,yZ,xJ,exists_eq_left',go_sem,qe,qd,cellsGTree];refine⟨by decide,by simp,?_,?_⟩
   · first|rfl|(simp only[go_sem,qc,qe,qa,qd,ql,qm,reduceIte,reduceCtorEq,push_cast,if_true,qD,qt,qG,qx,qH,qO,qU,qL,qR,qK,qC,zE,cellsGTree,zO]<;>rfl)
   first|rfl|(simp only[go_sem,qc,qe,qa,qd,ql,qm,reduceIte,reduceCtorEq,push_cast,if_true,qD,qt,qG,qx,qH,qO,qU,qL,qR,qK,qC,zE,cellsGTree,zO]<;>rfl)
 rw[if_neg hc9] at h;have t11:=eq_false hc9
 refine rg tok [2,3,4,5,6,10,11,17,34] fun K hK=>?_
 simp only[go_sem,qc,qa,t11];apply hK
 refine zD rfl (fun hc12=>?_) (fun hc12=>?_)
 · rw[if_pos hc12] at h;have t13:=eq_true hc12
   refine rg tok [10] fun K hK=>?_
   simp only[go_sem,qc,qe,qa,qd,t13,vo];apply hK
   apply yw;cases h;simp only[Zv,yP,yZ,xJ,exists_eq_left',go_sem,qe,qd,cellsGTree];refine⟨by decide,by simp,?_,?_⟩
   · first|rfl|(simp only[go_sem,qc,qe,qa,qd,ql,qm,reduceIte,reduceCtorEq,push_cast,if_true,qD,qt,qG,qx,qH,qO,qU,qL,qR,qK,qC,zE,cellsGTree,zO]<;>rfl)
   first|rfl|(simp only[go_sem,qc,qe,qa,qd,ql,qm,reduceIte,reduceCtorEq,push_cast,if_true,qD,qt,qG,qx,qH,qO,qU,qL,qR,qK,qC,zE,cellsGTree,zO]<;>rfl)
 rw[if_neg hc12] at h;have t14:=eq_false hc12;refine xG (fun L τ=>∃ (x15:Bool),L=[(2,.ds true (qf encI a2) (qb a2) false),(3,.op 0 0 0),(4,.int .i64 a4),(5,.op 1 0 0),(6,.op 2 0 0),(10,.op 3 0 0),(11,.int .i64 r1.1),(39,.bool x15)]∧τ=[.cells 0 [.int .i64 r1.2],.cells 0 (encGSchema a0),.cells 0 (encGField a1),.cells 0 [.int .i64 0,.int .i64 0,.str [],.ds true [] 0 true,.ds true [] 0 true]]∧xl.j16 xg a0 a1 a2 a4 r1 x15=some r) ?_ ?_
 · refine rg tok [2,3,4,5,6,10,11,17,39] fun K hK=>?_
   simp only[go_sem,qc,qa,t14];apply hK
   refine zD rfl (fun hc23=>?_) (fun hc23=>?_)
   · rw[if_pos hc23] at h;have t24:=eq_true hc23;apply zd;exact⟨_,_,⟨decide (a1.fType.fKind=4),rfl,rfl,h⟩,.s⟩
   rw[if_neg hc23] at h;have t25:=eq_false hc23
   refine rgE tok [2,3,4,5,6,10,11,39] fun K hK=>?_
   simp only[go_sem,qc,qa,t25];apply hK
   exact⟨_,_,⟨decide (a1.fType.fKind=5),rfl,rfl,h⟩,.s⟩
 rintro _ _ ⟨x15,rfl,rfl,h⟩;unfold xl.j16 at h;refine zn (b:=x15) rfl (fun hc17=>?_) (fun hc17=>?_)
 · rw[if_pos hc17] at h;obtain⟨y18,hy18,h⟩:=bind_some h;have f19:=(show Xd tab 181 (.agg [.int .i64 0,.int .i64 1,.int .i64 2,.int .i64 4,.int .i64 6,.int .i64 7]) (.int .i64 ((r1.1).tmod 6))=some (.int .i64 y18) from idx_arr (T:=tab) (t:=181) (l:=[0,1,2,4,6,7]) rfl rfl rfl rfl rfl rfl hy18 .i64);obtain⟨_u20,hu20,h⟩:=bind_some h;have gu20:=wB hu20;have f21:=str_hi (T:=tab) (t:=9) rfl rfl gu20
   refine rg tok [10] fun K hK=>?_
   simp only[go_sem,qc,qe,qa,qd,ql,f19,f21,vo];apply hK
   apply yw;cases h;simp only[Zv,yP,yZ,xJ,exists_eq_left',go_sem,qe,qd,cellsGTree];refine⟨by decide,by simp,?_,?_⟩
   · first|rfl|(simp only[go_sem,qc,qe,qa,qd,ql,qm,reduceIte,reduceCtorEq,push_cast,if_true,qD,qt,qG,qx,qH,qO,qU,qL,qR,qK,qC,zE,cellsGTree,zO]<;>rfl)
   first|rfl|(simp only[go_sem,qc,qe,qa,qd,ql,qm,reduceIte,reduceCtorEq,push_cast,if_true,qD,qt,qG,qx,qH,qO,qU,qL,qR,qK,qC,zE,cellsGTree,zO]<;>rfl)
 rw[xD hc17] at h;apply zd;apply hZ2
 refine rc [10] fun K hK=>?_
 obtain⟨r22,hr22,h⟩:=bind_some h;refine rnN 8 ?_;refine clN rfl rfl rfl (@id (ACalls qh 48 [.agg (encGSchema a0),.str a1.fType.fName,.ds true (qf encI a2) (qb a2) false,.op 0 0 0,.int .i64 (IntKind.i64.wrap (a4+1))] [.cells 0 [.int .i64 r1.2],.cells 0 (encGSchema a0),.cells 0 (encGField a1),.cells 0 [.int .i64 0,.int .i64 0,.str [],.ds true [] 0 true,.ds true [] 0 true]] (fun r' σ'=>r'=.agg (cellsGTree r22.1)∧σ'=[.cells 0 [.int .i64 r22.2],.cells 0 (encGSchema a0),.cells 0 (encGField a1),.cells 0 [.int .i64 0,.int .i64 0,.str [],.ds true [] 0 true,.ds true [] 0 true]])) ((vaE a0 a1.fType.fName a2 r1.2 (IntKind.i64.wrap (a4+1)) r22 hr22).i [0])) ?_;refine zj tok 1 ?_;simp only[go_sem,qe,qa,qd,cellsGTree];refine nkN hK ?_;apply yw;cases h;simp only[Zv,yP,yZ,xJ,exists_eq_left',go_sem,qe,qd,cellsGTree];refine⟨by decide,by simp,?_,?_⟩
 · first|rfl|(simp only[go_sem,push_cast,qG,qx,qO,qR,qK,zE]<;>rfl)
 first|rfl|(simp only[go_sem,qc,qe,qa,qd,ql,qm,reduceIte,reduceCtorEq,push_cast,if_true,qD,qt,qG,qx,qH,qO,qU,qL,qR,qK,qC,zE,cellsGTree,zO]<;>rfl)
end
section
set_option maxRecDepth 4000
set_option maxHeartbeats 1000000
open AM
mutual
def zv : Nat→GSchema→(List UInt8)→(List Int)→Int→Int→Option (GTree×Int)
 |0,_,_,_,_,_=>none
 |k+1,a0,a1,a2,a3,a4=>zv.body (zv k) (xl k) a0 a1 a2 a3 a4
def xl : Nat→GSchema→GField→(List Int)→Int→Int→Option (GTree×Int)
 |0,_,_,_,_,_=>none
 |k+1,a0,a1,a2,a3,a4=>xl.body (zv k) (xl k) a0 a1 a2 a3 a4
end
theorem zv.all (k:Nat):(∀ (a0:GSchema) (a1:List UInt8) (a2:List Int) (a3:Int) (a4:Int) (r:GTree×Int),zv k a0 a1 a2 a3 a4=some r→ACalls qh 48 [.agg (encGSchema a0),.str a1,.ds true (qf encI a2) (qb a2) false,.op 0 0 0,.int .i64 a4] [.cells 0 [.int .i64 a3]] (fun r' σ'=>r'=.agg (cellsGTree r.1)∧σ'=[.cells 0 [.int .i64 r.2]]))∧(∀ (a0:GSchema) (a1:GField) (a2:List Int) (a3:Int) (a4:Int) (r:GTree×Int),xl k a0 a1 a2 a3 a4=some r→ACalls qh 85 [.agg (encGSchema a0),.agg (encGField a1),.ds true (qf encI a2) (qb a2) false,.op 0 0 0,.int .i64 a4] [.cells 0 [.int .i64 a3]] (fun r' σ'=>r'=.agg (cellsGTree r.1)∧σ'=[.cells 0 [.int .i64 r.2]])):=by
 induction k with
 |zero=>exact⟨(fun a0 a1 a2 a3 a4 r h=>by simp only[zv] at h; cases h),(fun a0 a1 a2 a3 a4 r h=>by simp only[xl] at h; cases h)⟩
 |succ k ih=>exact⟨(fun a0 a1 a2 a3 a4 r h=>zv.step _ _ ih.1 ih.2 a0 a1 a2 a3 a4 r (by simpa only [zv] using h)),(fun a0 a1 a2 a3 a4 r h=>xl.step _ _ ih.1 ih.2 a0 a1 a2 a3 a4 r (by simpa only [xl] using h))⟩
theorem zv.ok (k:Nat)(a0:GSchema)(a1:List UInt8)(a2:List Int)(a3:Int)(a4:Int)(r:GTree×Int)(h:zv k a0 a1 a2 a3 a4=some r):ACalls qh 48 [.agg (encGSchema a0),.str a1,.ds true (qf encI a2) (qb a2) false,.op 0 0 0,.int .i64 a4] [.cells 0 [.int .i64 a3]] (fun r' σ'=>r'=.agg (cellsGTree r.1)∧σ'=[.cells 0 [.int .i64 r.2]]):=(zv.all k).1 a0 a1 a2 a3 a4 r h
def wD (a0:GSchema)(a1:List UInt8)(a2:List Int):Option GTree:=
 (zv rounds a0 a1 a2 0 1).bind fun r1=>some r1.1
theorem wD.ok (a0:GSchema)(a1:List UInt8)(a2:List Int)(r:GTree)(h:wD a0 a1 a2=some r):ACalls qh 23 [.agg (encGSchema a0),.str a1,.ds true (qf encI a2) (qb a2) false] [] (fun r' _=>r'=.agg (cellsGTree r)):=by
 refine zi (rs:=[.cell 6 30]) tok Tryz.func23 rfl Tryz.ntmps23 rfl Tryz.call23 (by simp) ?_;refine zm [(0,.agg (encGSchema a0)),(1,.str a1),(2,.ds true (qf encI a2) (qb a2) false)] ⟨rfl,rfl,rfl,trivial⟩ ?_;unfold wD at h
 refine rg tok [1,2,3,6] fun K hK=>?_
 simp only[go_sem,qc,qa,qd,reduceCtorEq,encGSchema];apply hK
 refine rgN [1,2,3,6,7] ?_
 refine rc [6] fun K hK=>?_
 obtain⟨r1,hr1,h⟩:=bind_some h;refine rnN 3 ?_;refine clN rfl rfl rfl (@id (ACalls qh 48 [.agg (encGSchema a0),.str a1,.ds true (qf encI a2) (qb a2) false,.op 2 0 0,.int .i64 1] [.cells 0 (encGSchema a0),.cells 0 [.int .i64 0,.int .i64 0,.str [],.ds true [] 0 true,.ds true [] 0 true],.cells 0 [.int .i64 0]] (fun r' σ'=>r'=.agg (cellsGTree r1.1)∧σ'=[.cells 0 (encGSchema a0),.cells 0 [.int .i64 0,.int .i64 0,.str [],.ds true [] 0 true,.ds true [] 0 true],.cells 0 [.int .i64 r1.2]])) ((zv.ok rounds a0 a1 a2 0 1 r1 hr1).i [2])) ?_;refine zj tok 1 ?_;simp only[go_sem,qe,qa,qd,cellsGTree];refine nkN hK ?_;cases h;exact rtA
theorem wD.ev (a0:GSchema)(a1:List UInt8)(a2:List Int)(r:GTree)(h:wD a0 a1 a2=some r)(σ:Store):ACalls qh 23 [.agg (encGSchema a0),.str a1,.ds true (qf encI a2) (qb a2) false] σ (fun r' σ'=>r'=.agg (cellsGTree r)∧σ'=σ):=
 (wD.ok a0 a1 a2 r h).c σ
end
section
set_option maxRecDepth 8000
open Go.RowKit AM
theorem set_range_get {n u i:Nat}(hi:i<n):((uy n).set u n)[i]?=some (if u=i then n else i):=by
 rw[List.getElem?_set]
 split
 · rename_i h; subst h; rw[if_pos (by rw[List.length_range]; exact hi)]
 rw[List.getElem?_range hi]
theorem AM.ACalls.use {P:Program}{f:FuncId}{args:List AV}{x:AV}(h:ACalls P f args [] fun r _=>r=x)(hc:canonL false args=true)(hx:x.canon false=true){σ:Store}{args':List AV}(u:Nat)(ls:Bool)(g:Nat){keep:List Nat}(hk:(uy σ.length).set u σ.length=keep)(hu:u<σ.length)(ha:args'.map (tell (σ++[.dead]) keep ls g)=args):
 ACalls P f args' σ fun r σ'=>r=x∧σ'=tellS (σ++[.dead]) keep ls g:=by
 refine⟨h.1,fun E vs hS hl=>?_⟩
 let E0:Env := { w:=E.w,st:=E.st,loc:=E.loc,n:=E.n+1 }
 have hn:σ.length=E.n:=hS.len;have hx0:Yc E.n E E0:=⟨rfl,rfl,rfl,qu _,fun _ _ h=>h,fun _ h=>⟨h,rfl⟩,Nat.le_succ _,fun _ _ v o h=>⟨v,o,h,qu _,fun _=>rfl⟩,fun _ _ _=>rfl,fun id v _ h _=>⟨id,v,h⟩,fun _ h=>.inl h⟩
 have hend:E.loc σ.length=none:=by
  have h0:=hS.obj σ.length;rw[ui (qu _)] at h0;exact h0
 have hS0:SR E0 (σ++[.dead]):=by
  refine⟨by rw[qi,qF,hn],fun id=>?_,hS.inj,hS.blk,hS.stb,hS.glb⟩
  by_cases hid:id<σ.length
  · rw[qT hid]; exact (hS.obj id).ext hx0 rfl fun _ _ _=>rfl
  have h0:=hS.obj id;rw[ui (by omega)] at h0
  by_cases h1:id=σ.length
  · subst h1; rw[ua (qu _),uM]; exact h0
  rw[ui (by rw[qi,qF]; omega)]; exact h0
 have hget:∀ i,i<E.n→keep[i]?=some (if u=i then E.n else i):=by
  intro i hi
  rw[← hk,← hn];exact set_range_get (by omega)
 have hkl:keep.length=E.n:=by rw[← hk,List.length_set,List.length_range,hn]
 have hlt:∀ id∈keep,id<(σ++[Zo.dead]).length:=by
  intro id hid
  obtain⟨i,hi,rfl⟩:=List.getElem_of_mem hid;have h1:=hget i (by omega);rw[qV hi] at h1;have h2:=Option.some.inj h1;rw[h2,qi,qF]
  split<;>omega
 have hnd:keep.Nodup:=by
  refine List.pairwise_iff_getElem.2 fun i j hi hj hij hc=>?_
  have h1:=hget i (by omega);have h2:=hget j (by omega);rw[qV hi] at h1;rw[qV hj] at h2;have h3:=Option.some.inj h1;have h4:=Option.some.inj h2;rw[h3,h4] at hc
  split at hc<;>split at hc<;>omega
 have hS1:=hS0.tell hnd hlt ls g
 have hl1:YE (E0.ren keep) args vs.toList:=by
  rw[← ha];refine⟨by simpa using hl.1,fun i hi=>?_⟩;rw[q2] at hi
  rw[XD hi]; exact VR.tell hS0 g _ ((hl.2 i hi).ext hx0)
 refine ((h.pureAt hc hx (tellS (σ++[.dead]) keep ls g)).2 _ vs hS1 hl1).mono ?_;rintro e w ⟨v,r,σ',E1,h1,h2,h3,h4,h5,h6⟩;refine⟨v,r,σ',E1,h1,h2,h3,h4,?_,h6⟩
 have hx1:Yc E.n E0 (E0.ren keep):=by
  refine⟨rfl,rfl,rfl,qu _,fun _ _ h=>h,fun b hb=>⟨.inl hb,rfl⟩,by show E.n≤keep.length; omega,fun id hid ver ob h=>?_,fun _ _ _=>rfl,fun id v b h _=>?_,fun b h=>?_⟩
  · obtain⟨i,k1,k2⟩:=Env.ren_loc h;rw[hget id hid] at k1;have:=Option.some.inj k1
    split at this
    · subst this
      rw[show E0.loc E.n=E.loc σ.length by rw[hn],hend] at k2; cases k2
    subst this;exact⟨ver,ob,k2,qu _,fun _=>rfl⟩
  · obtain⟨i,_,k2⟩:=Env.ren_loc h; exact⟨i,v,k2⟩
  rcases h with h|⟨id,v,_,h⟩
  · exact .inl h
  exact .inr (.inr ⟨id,v,h⟩)
 exact Yc.trans (Yc.trans hx0 hx1) (h5.mono (by show E.n≤keep.length; omega))
section
variable {σ τ:Store} {P:Program} {f:FuncId} {args:List AV} {x:AV}
theorem AM.ACalls.us (h:ACalls P f args [] fun r _=>r=x)(u:Nat)(keep:List Nat){args':List AV}(hk:(uy σ.length).set u σ.length=keep:=by rfl)(hu:u<σ.length:=by simp)(hc:canonL false args=true:=by simp only[push_cast])(hx:x.canon false=true:=by simp only[push_cast])
 (ha:args'.map (tell (σ++[.dead]) keep false 12)=args:=by first|(simp only[go_sem,qc,qe,qa,qd,ql,qm,reduceIte,reduceCtorEq,push_cast,qA,qz,qw,uO,uG]; done)|(simp only[← qI,← qi]; simp only[go_sem,qc,qe,qa,qd,ql,qm,reduceIte,reduceCtorEq,push_cast,qA,qz,qw,uO,uG]; done)|(simp only[← qI,← qi,qp]; simp only[go_sem,qc,qe,qa,qd,ql,qm,reduceIte,reduceCtorEq,push_cast,qA,qz,qw,uO,uG,qp]; done)|(simp only[go_sem,qc,qe,qa,qd,ql,qm,reduceIte,reduceCtorEq,push_cast,encB,encI,encS,encBo,vas,yU,qI,qM,q3,qw,qz,qi,qk,qn,qt,qp,qA,uN,uO,uG]<;>first|rfl|(and_intros<;>rfl)))
 (ht:tellS (σ++[.dead]) keep false 12=τ:=by first|(simp only[go_sem,qc,qe,qa,qd,ql,qm,reduceIte,reduceCtorEq,push_cast,qA,qz,qw,uO,uG]; done)|(simp only[← qI,← qi]; simp only[go_sem,qc,qe,qa,qd,ql,qm,reduceIte,reduceCtorEq,push_cast,qA,qz,qw,uO,uG]; done)|(simp only[← qI,← qi,qp]; simp only[go_sem,qc,qe,qa,qd,ql,qm,reduceIte,reduceCtorEq,push_cast,qA,qz,qw,uO,uG,qp]; done)|(simp only[go_sem,qc,qe,qa,qd,ql,qm,reduceIte,reduceCtorEq,push_cast,encB,encI,encS,encBo,vas,yU,qI,qM,q3,qw,qz,qi,qk,qn,qt,qp,qA,uN,uO,uG]<;>first|rfl|(and_intros<;>rfl))):ACalls P f args' σ fun r σ'=>r=x∧σ'=τ:=
 (h.use hc hx u false 12 hk hu ha).mono fun r s ⟨h1,h2⟩=>⟨h1,h2.trans ht⟩
end
end
section
set_option maxRecDepth 4000
set_option maxHeartbeats 1000000
open AM
def law12_DecodeLast.l14 (a0:GSchema)(a2:List Int)(a3:List Int)(y8:GMessage):List GField→Int→Option Bool
 |[],x12=>(wD a0 y8.fName a2).bind fun r16=>(xa r16).bind fun r17=>(wD a0 y8.fName a3).bind fun r18=>(xa r18).bind fun r19=>(if (((!(decide (r17.2=0)))||(!(decide (r19.2=0))))||(decide (4096<IntKind.i64.wrap ((qb r17.1:Int)+(IntKind.i64.wrap (2*(qb r19.1:Int)))))))=true then (xp).bind fun r24=>some r24 else (wz r19.1).bind fun r25=>(Y5 (qb r25+qb r17.1) 1).bind fun _u27=>(Y5 (qb (r25++r17.1)+qb r19.1) 1).bind fun _u30=>(yI a0 y8.fName ((r25++r17.1)++r19.1)).bind fun r35=>(wz r17.1).bind fun r36=>(Y5 (qb r36+qb r19.1) 1).bind fun _u38=>(yI a0 y8.fName (r36++r19.1)).bind fun r40=>(if ((decide (r35.2=0))&&(decide (r40.2=0)))=true then (zL rounds r35.1 r40.1).bind fun r43=>some r43 else some false).bind fun c43=>(if c43=true then (xp).bind fun r45=>some r45 else some false).bind fun c45=>some c45)
 |y14::q14,x12=>(if y14.fLabel=3 then (xp).bind fun r53=>some r53 else ((law12_DecodeLast.l14 a0 a2 a3 y8 q14) (x12+1)))
def law12_DecodeLast (a0:GSchema)(a1:Int)(a2:List Int)(a3:List Int):Option Bool:=
 (zF a0).bind fun r2=>(if (!r2)=true then some true else (yN a0).bind fun r3=>some (!(decide (r3=0)))).bind fun c3=>(if ((c3||(decide (100<(qb a2:Int))))||(decide (100<(qb a3:Int))))=true then (xp).bind fun r6=>some r6 else (y1 a1 (qb a0.fMessages:Int)).bind fun r7=>(wV a0.fMessages r7).bind fun y8=>(law12_DecodeLast.l14 a0 a2 a3 y8 y8.fFields 0))
theorem law12_DecodeLast.ok (a0:GSchema)(a1:Int)(a2:List Int)(a3:List Int)(r:Bool)(h:law12_DecodeLast a0 a1 a2 a3=some r):ACalls qh 5 [.agg (encGSchema a0),.int .i64 a1,.ds true (qf encI a2) (qb a2) false,.ds true (qf encI a3) (qb a3) false] [] (fun r' _=>r'=.bool r):=by
 refine zi (rs:=[.tmp 8]) tok Tryz.func5 rfl Tryz.ntmps5 rfl Tryz.call5 (by simp) ?_;refine zm [(0,.agg (encGSchema a0)),(1,.int .i64 a1),(2,.ds true (qf encI a2) (qb a2) false),(3,.ds true (qf encI a3) (qb a3) false)] ⟨rfl,rfl,rfl,rfl,trivial⟩ ?_;unfold law12_DecodeLast at h
 refine rg tok [1,2,3,4] fun K hK=>?_
 simp only[go_sem,qc,qe,qa,qd,ql,qm,reduceIte,reduceCtorEq,encGSchema];apply hK
 refine za fun Z1 hZ1=>?_
 refine rc [1,2,3,4,36] fun K hK=>?_
 obtain⟨r2,hr2,h⟩:=bind_some h;refine zj tok 1 ?_;simp only[go_sem,qc,qe,qa,qd,ql,qm,reduceIte,reduceCtorEq,encGSchema];refine clN rfl rfl rfl (zF.ev a0 r2 hr2 _) ?_;refine zj tok 2 ?_;simp only[go_sem,qc,qe,qa,qd,ql,qm,reduceIte,reduceCtorEq,encGSchema];obtain⟨c3,hc3,h⟩:=bind_some h;refine zh 4 (fun L τ=>L=[(1,.int .i64 a1),(2,.ds true (qf encI a2) (qb a2) false),(3,.ds true (qf encI a3) (qb a3) false),(4,.op 0 0 0),(26,.bool c3)]∧τ=[.cells 0 (encGSchema a0)]) ?_ ?_
 · refine zK (b:=(!r2)) 22 rfl (fun hg22=>?_) (fun hg22=>?_)
   · rw[if_pos hg22] at hc3;refine zj tok 4 ?_;simp only[go_sem,qc,qe,qa,qd,ql,qm,reduceIte,reduceCtorEq,vaO,encGSchema];cases hc3;refine zb ⟨rfl,_,_,⟨rfl,rfl⟩,.b hg22⟩
   rw[xD hg22] at hc3;obtain⟨r4,hr4,hc3⟩:=bind_some hc3;refine zj tok 1 ?_;simp only[go_sem,qc,qe,qa,qd,ql,qm,reduceIte,reduceCtorEq,encGSchema];refine clN rfl rfl rfl (yN.ev a0 r4 hr4 _) ?_;refine zj tok 2 ?_;simp only[go_sem,qc,qe,qa,qd,ql,qm,reduceIte,reduceCtorEq,vaO,encGSchema];cases hc3;refine zb ⟨rfl,_,_,⟨rfl,rfl⟩,.b hg22⟩
 rintro _ _ ⟨rfl,rfl⟩;refine zj tok 1 ?_;simp only[go_sem,qc,qe,qa,qd,ql,qm,reduceIte,reduceCtorEq,encGSchema];refine zh 4 (fun L τ=>L=[(1,.int .i64 a1),(2,.ds true (qf encI a2) (qb a2) false),(3,.ds true (qf encI a3) (qb a3) false),(4,.op 0 0 0),(31,.bool (c3||(decide (100<(qb a2:Int)))))]∧τ=[.cells 0 (encGSchema a0)]) ?_ ?_
 · refine zK (b:=c3) 27 rfl (fun hg27=>?_) (fun hg27=>?_)
   · refine zj tok 4 ?_;simp only[go_sem,qc,qe,qa,qd,ql,qm,reduceIte,reduceCtorEq,vaO,encGSchema];refine zb ⟨rfl,_,_,⟨rfl,rfl⟩,.b hg27⟩
   refine zj tok 4 ?_;simp only[go_sem,qc,qe,qa,qd,ql,qm,reduceIte,reduceCtorEq,vaO,encGSchema];refine zb ⟨rfl,_,_,⟨rfl,rfl⟩,.b hg27⟩
 rintro _ _ ⟨rfl,rfl⟩;refine zj tok 1 ?_;simp only[go_sem,qc,qe,qa,qd,ql,qm,reduceIte,reduceCtorEq,encGSchema];refine zh 4 (fun L τ=>L=[(1,.int .i64 a1),(2,.ds true (qf encI a2) (qb a2) false),(3,.ds true (qf encI a3) (qb a3) false),(4,.op 0 0 0),(36,.bool ((c3||(decide (100<(qb a2:Int))))||(decide (100<(qb a3:Int)))))]∧τ=[.cells 0 (encGSchema a0)]) ?_ ?_
 · refine zK (b:=(c3||(decide (100<(qb a2:Int))))) 32 rfl (fun hg32=>?_) (fun hg32=>?_)
   · refine zj tok 4 ?_;simp only[go_sem,qc,qe,qa,qd,ql,qm,reduceIte,reduceCtorEq,vaO,encGSchema];refine zb ⟨rfl,_,_,⟨rfl,rfl⟩,.b hg32⟩
   refine zj tok 4 ?_;simp only[go_sem,qc,qe,qa,qd,ql,qm,reduceIte,reduceCtorEq,vaO,encGSchema];refine zb ⟨rfl,_,_,⟨rfl,rfl⟩,.b hg32⟩
 rintro _ _ ⟨rfl,rfl⟩;refine nkN hK ?_;refine zn (b:=((c3||(decide (100<(qb a2:Int))))||(decide (100<(qb a3:Int))))) rfl (fun hc5=>?_) (fun hc5=>?_)
 · rw[if_pos hc5] at h
   refine rc [8] fun K hK=>?_
   obtain⟨r6,hr6,h⟩:=bind_some h;refine clN rfl rfl rfl (xp.ev  r6 hr6 _) ?_;refine rnN 1 ?_;refine nkN hK ?_;cases h;exact rtA
 rw[xD hc5] at h;apply zd;apply hZ1;obtain⟨r7,hr7,h⟩:=bind_some h;obtain⟨y8,hy8,h⟩:=bind_some h;have f9:=E22.idxS hy8;have f10:=E22.loadS rfl rfl hy8
 refine rd [2,3,4,9] fun K hK=>?_
 refine DW.start (T:=tab) [.any,.own 2 [],.any,.any,.at [],.at [],.eff,.any,.own 2 [],.flt,.eff] [(2,[])] ?_;refine DW.runN tok 6 ?_;simp only[go_sem,qc,qe,qa,qd,ql,qm,reduceIte,reduceCtorEq,encGMessage,f9,f10];refine DW.call rfl rfl rfl (y1.ev a1 (qb a0.fMessages:Int) r7 hr7 _) ?_;refine DW.runN tok 4 ?_;simp only[go_sem,qc,qe,qa,qd,ql,qm,reduceIte,reduceCtorEq,encGMessage,f9,f10];refine DW.fin tok (by decide +kernel) rfl ?_;simp only[zt,Yp,Xa,Yd,upd,qa,reduceIte,yV,xz];apply hK
 refine za fun Z11 hZ11=>?_
 refine rgN [2,3,4,9,10] ?_;apply ze
 refine xI 1 rfl fun hb14=>?_
 replace hb14:qb y8.fFields≤9223372036854775807:=hb14.2.1.1;refine zC (fun m L τ=>∃ (p14 q14:List GField) (x12:Int),m=qb q14∧L=[(2,.ds true (qf encI a2) (qb a2) false),(3,.ds true (qf encI a3) (qb a3) false),(4,.op 0 0 0),(9,.op 1 0 0),(10,.int .i64 x12)]∧τ=[.cells 0 (encGSchema a0),.cells 0 (encGMessage y8)]∧y8.fFields=p14++q14∧x12=(qb p14:Int)∧law12_DecodeLast.l14 a0 a2 a3 y8 q14 x12=some r) _ ⟨[],y8.fFields,0,rfl,rfl,rfl,rfl,rfl,h⟩ .s ?_;rintro m L τ ⟨p14,q14,x12,rfl,rfl,rfl,hE14,hi14,h⟩
 rcases q14 with _|⟨y14,q14⟩
 · have hz14:=yz hE14 hi14;simp only[law12_DecodeLast.l14] at h
   refine za fun Z15 hZ15=>?_
   refine rg tok [2,3,4,9,10,51] fun K hK=>?_
   simp only[go_sem,qc,qe,qa,qd,ql,qm,reduceIte,reduceCtorEq,vaO,hz14];apply hK
   refine zw rfl ?_;apply zJ;apply hZ11
   refine rc [3,4,9,11,12] fun K hK=>?_
   obtain⟨r16,hr16,h⟩:=bind_some h;refine zj tok 4 ?_;simp only[go_sem,qc,qe,qa,qd,ql,qm,reduceIte,reduceCtorEq,encGSchema,hz14];refine clN rfl rfl rfl (wD.ev a0 y8.fName a2 r16 hr16 _) ?_;obtain⟨r17,hr17,h⟩:=bind_some h;refine clN rfl rfl rfl (xa.ev r16 r17 hr17 _) ?_;refine zj tok 5 ?_;simp only[go_sem,qc,qe,qa,qd,ql,qm,reduceIte,reduceCtorEq,encGSchema,hz14];refine nkN hK ?_
   refine rc [4,9,11,12,13,14] fun K hK=>?_
   obtain⟨r18,hr18,h⟩:=bind_some h;refine zj tok 4 ?_;simp only[go_sem,qc,qe,qa,qd,ql,qm,reduceIte,reduceCtorEq,encGSchema,hz14];refine clN rfl rfl rfl (wD.ev a0 y8.fName a3 r18 hr18 _) ?_;obtain⟨r19,hr19,h⟩:=bind_some h;refine clN rfl rfl rfl (xa.ev r18 r19 hr19 _) ?_;refine zj tok 5 ?_;simp only[go_sem,qc,qe,qa,qd,ql,qm,reduceIte,reduceCtorEq,encGSchema,hz14];refine nkN hK ?_
   refine za fun Z20 hZ20=>?_
   refine rc [4,9,11,13,94] fun K hK=>?_
   refine zj tok 3 ?_;simp only[go_sem,qc,qe,qa,qd,ql,qm,reduceIte,reduceCtorEq,vaO,hz14];refine zh 3 (fun L τ=>L=[(4,.op 0 0 0),(9,.op 1 0 0),(11,.ds true (qf encB r17.1) (qb r17.1) false),(13,.ds true (qf encB r19.1) (qb r19.1) false),(85,.bool ((!(decide (r17.2=0)))||(!(decide (r19.2=0)))))]∧τ=[.cells 0 (encGSchema a0),.cells 0 (encGMessage y8)]) ?_ ?_
   · refine yx 82 rfl (fun hg82=>?_) (fun hg82=>?_)
     · have t21:=eq_false hg82;refine zj tok 3 ?_;simp only[go_sem,qc,qe,qa,qd,ql,qm,reduceIte,reduceCtorEq,vaO,hz14];refine zb ⟨rfl,_,_,⟨rfl,rfl⟩,.p t21⟩
     have t22:=eq_true hg82;refine zj tok 3 ?_;simp only[go_sem,qc,qe,qa,qd,ql,qm,reduceIte,reduceCtorEq,vaO,hz14];refine zb ⟨rfl,_,_,⟨rfl,rfl⟩,.p t22⟩
   rintro _ _ ⟨rfl,rfl⟩;refine zj tok 1 ?_;simp only[go_sem,qc,qe,qa,qd,ql,qm,reduceIte,reduceCtorEq,hz14];refine zh 8 (fun L τ=>L=[(4,.op 0 0 0),(9,.op 1 0 0),(11,.ds true (qf encB r17.1) (qb r17.1) false),(13,.ds true (qf encB r19.1) (qb r19.1) false),(94,.bool (((!(decide (r17.2=0)))||(!(decide (r19.2=0))))||(decide (4096<IntKind.i64.wrap ((qb r17.1:Int)+(IntKind.i64.wrap (2*(qb r19.1:Int))))))))]∧τ=[.cells 0 (encGSchema a0),.cells 0 (encGMessage y8)]) ?_ ?_
   · refine zK (b:=((!(decide (r17.2=0)))||(!(decide (r19.2=0))))) 86 rfl (fun hg86=>?_) (fun hg86=>?_)
     · refine zj tok 8 ?_;simp only[go_sem,qc,qe,qa,qd,ql,qm,reduceIte,reduceCtorEq,vaO,hz14];refine zb ⟨rfl,_,_,⟨rfl,rfl⟩,.b hg86⟩
     refine zj tok 8 ?_;simp only[go_sem,qc,qe,qa,qd,ql,qm,reduceIte,reduceCtorEq,vaO,hz14];refine zb ⟨rfl,_,_,⟨rfl,rfl⟩,.b hg86⟩
   rintro _ _ ⟨rfl,rfl⟩;refine nkN hK ?_;refine zn (b:=(((!(decide (r17.2=0)))||(!(decide (r19.2=0))))||(decide (4096<IntKind.i64.wrap ((qb r17.1:Int)+(IntKind.i64.wrap (2*(qb r19.1:Int)))))))) rfl (fun hc23=>?_) (fun hc23=>?_)
   · rw[if_pos hc23] at h
     refine rc [8] fun K hK=>?_
     obtain⟨r24,hr24,h⟩:=bind_some h;refine clN rfl rfl rfl (xp.ev  r24 hr24 _) ?_;refine zj tok 1 ?_;simp only[go_sem,qc,qe,qa,qd,ql,qm,reduceIte,reduceCtorEq,hz14];refine nkN hK ?_;cases h;exact rtA
   rw[xD hc23] at h;apply zd;apply hZ20;obtain⟨r25,hr25,h⟩:=bind_some h
   have f26:=fun nl tt σ=>xZ E34.len r17.1 nl tt σ
   obtain⟨_u27,hu27,h⟩:=bind_some h;have gu27:=yA hu27;have f28:=(zA E34.len r25)
   have f29:=fun nl tt σ=>xZ E34.len r19.1 nl tt σ
   obtain⟨_u30,hu30,h⟩:=bind_some h;have gu30:=yA hu30
   first|simp only[yU,qI,qM,q3,qw,qz,qi,qk,qn,qt,qp,qA,qd] at gu30|skip
   have f31:=(zA E34.len (r25++r17.1));simp only[yU,qI,qM,q3,qw,qz,qi,qk,qn,qt,qp,qA,encB,qd] at f31;have f32:=(zA E34.len r25);have f33:=(zA E34.len r17.1);have f34:=(uW (qb r25) (qb r17.1) 1).symm;obtain⟨r35,hr35,h⟩:=bind_some h
   refine rd [4,9,11,13,15,16] fun K hK=>?_
   refine DW.start (T:=tab) [.own 3 [],.any,.own 3 [],.any,.eff,.any,.eff,.any,.eff,.eff,.any,.any,.any,.flt,.eff,.any] [(3,[])] ?_;refine DW.runN tok 4 ?_;simp only[go_sem,qc,qe,qa,qd,ql,qm,reduceIte,reduceCtorEq,cellsGTree,encB,encGSchema,zO,hz14,f26,gu27,f28,f29,gu30,f31,f32,f33,f34,Ze,ud,q5,AV.one,qX,qL,gt_iff_lt,yU,qI,qM,q3,qw,qz,qi,qk,qn,qt,qp,qA];refine DW.callS rfl rfl rfl (@id (ACalls qh 18 [.ds true (qf encB r19.1) (qb r19.1) false] [.cells 0 (encGSchema a0),.cells 0 (encGMessage y8)] (fun r' σ'=>r'=.os true 1 2 0 0 (qb r25) false∧σ'=[.cells 0 (encGSchema a0),.cells 0 (encGMessage y8),.cells 0 (qf encB r25)])) ((wz.own r19.1 r25 hr25).ownAt0 (by simp only[push_cast]) (by simp only[push_cast]) _)) (ZN (by simp only[go_sem,qc,qe,qa,qd,ql,qm,reduceIte,reduceCtorEq])) ?_;refine DW.runN tok 4 ?_;simp only[go_sem,qc,qe,qa,qd,ql,qm,reduceIte,reduceCtorEq,ym,zW,yp,true_and,cellsGTree,encB,encGSchema,zO,hz14,f26,gu27,f28,f29,gu30,f31,f32,f33,f34,Ze,ud,q5,AV.one,qX,qL,gt_iff_lt,yU,qI,qM,q3,qw,qz,qi,qk,qn,qt,qp,qA];refine DW.callS rfl rfl rfl ((yI.ok a0 y8.fName ((r25++r17.1)++r19.1) r35 hr35).us (τ:=[.cells 0 (encGSchema a0),.cells 0 (encGMessage y8),.dead]) 2 [0,1,3]) (ZN (by simp only[go_sem,qc,qe,qa,qd,ql,qm,reduceIte,reduceCtorEq])) ?_;refine DW.runN tok 6 ?_;simp only[go_sem,qc,qe,qa,qd,ql,qm,reduceIte,reduceCtorEq,cellsGTree,encB,encGSchema,zO,hz14,f26,gu27,f28,f29,gu30,f31,f32,f33,f34,Ze,ud,q5,AV.one,qX,qL,gt_iff_lt,yU,qI,qM,q3,qw,qz,qi,qk,qn,qt,qp,qA];refine DW.fin tok (by decide +kernel) rfl ?_;simp only[zt,Yp,Xa,Yd,upd,qa,reduceIte,yV,xz];apply hK
   refine yc (L:=[(4,.op 0 0 0),(9,.op 1 0 0),(11,.ds true (qf encB r17.1) (qb r17.1) false),(13,.ds true (qf encB r19.1) (qb r19.1) false),(15,.op 3 0 0),(16,.int .i64 r35.2)]) (τ:=[.cells 0 (encGSchema a0),.cells 0 (encGMessage y8),.dead,.cells 0 (cellsGTree r35.1)]) .s ?_;obtain⟨r36,hr36,h⟩:=bind_some h
   have f37:=fun nl tt σ=>xZ E34.len r19.1 nl tt σ
   obtain⟨_u38,hu38,h⟩:=bind_some h;have gu38:=yA hu38;have f39:=(zA E34.len r36);obtain⟨r40,hr40,h⟩:=bind_some h
   refine rd [15,16,17,18] fun K hK=>?_
   refine DW.start (T:=tab) [.own 2 [],.any,.own 2 [],.any,.eff,.any,.eff,.eff,.any,.any,.any,.flt,.eff,.any] [(2,[])] ?_;refine DW.runN tok 4 ?_;simp only[go_sem,qc,qe,qa,qd,ql,qm,reduceIte,reduceCtorEq,cellsGTree,encB,encGSchema,zO,hz14,f37,gu38,f39,Ze,ud,q5,AV.one,qX,qL,gt_iff_lt,yU,qI,qM,q3,qw,qz,qi,qk,qn,qt,qp,qA];refine DW.callS rfl rfl rfl (@id (ACalls qh 18 [.ds true (qf encB r17.1) (qb r17.1) false] [.cells 0 (encGSchema a0),.cells 0 (encGMessage y8),.dead,.cells 0 (cellsGTree r35.1)] (fun r' σ'=>r'=.os true 1 4 0 0 (qb r36) false∧σ'=[.cells 0 (encGSchema a0),.cells 0 (encGMessage y8),.dead,.cells 0 (cellsGTree r35.1),.cells 0 (qf encB r36)])) ((wz.own r17.1 r36 hr36).ownAt0 (by simp only[push_cast]) (by simp only[push_cast]) _)) (ZN (by simp only[go_sem,qc,qe,qa,qd,ql,qm,reduceIte,reduceCtorEq])) ?_;refine DW.runN tok 2 ?_;simp only[go_sem,qc,qe,qa,qd,ql,qm,reduceIte,reduceCtorEq,ym,zW,yp,true_and,cellsGTree,encB,encGSchema,zO,hz14,f37,gu38,f39,Ze,ud,q5,AV.one,qX,qL,gt_iff_lt,yU,qI,qM,q3,qw,qz,qi,qk,qn,qt,qp,qA];refine DW.callS rfl rfl rfl ((yI.ok a0 y8.fName (r36++r19.1) r40 hr40).us (τ:=[.cells 0 (encGSchema a0),.cells 0 (encGMessage y8),.dead,.cells 0 (cellsGTree r35.1),.dead]) 4 [0,1,2,3,5]) (ZN (by simp only[go_sem,qc,qe,qa,qd,ql,qm,reduceIte,reduceCtorEq])) ?_;refine DW.runN tok 6 ?_;simp only[go_sem,qc,qe,qa,qd,ql,qm,reduceIte,reduceCtorEq,cellsGTree,encB,encGSchema,zO,hz14,f37,gu38,f39,Ze,ud,q5,AV.one,qX,qL,gt_iff_lt,yU,qI,qM,q3,qw,qz,qi,qk,qn,qt,qp,qA];refine DW.fin tok (by decide +kernel) rfl ?_;simp only[zt,Yp,Xa,Yd,upd,qa,reduceIte,yV,xz];apply hK
   refine yc (L:=[(15,.op 3 0 0),(16,.int .i64 r35.2),(17,.op 5 0 0),(18,.int .i64 r40.2)]) (τ:=[.cells 0 (encGSchema a0),.cells 0 (encGMessage y8),.dead,.cells 0 (cellsGTree r35.1),.dead,.cells 0 (cellsGTree r40.1)]) .s ?_
   refine rc [8] fun K hK=>?_
   refine zj tok 3 ?_;simp only[go_sem,qc,qe,qa,qd,ql,qm,reduceIte,reduceCtorEq,vaO,hz14];refine zh 3 (fun L τ=>L=[(15,.op 3 0 0),(17,.op 5 0 0),(125,.bool ((decide (r35.2=0))&&(decide (r40.2=0))))]∧τ=[.cells 0 (encGSchema a0),.cells 0 (encGMessage y8),.dead,.cells 0 (cellsGTree r35.1),.dead,.cells 0 (cellsGTree r40.1)]) ?_ ?_
   · refine yx 122 rfl (fun hg122=>?_) (fun hg122=>?_)
     · have t41:=eq_true hg122;refine zj tok 3 ?_;simp only[go_sem,qc,qe,qa,qd,ql,qm,reduceIte,reduceCtorEq,vaO,hz14];refine zb ⟨rfl,_,_,⟨rfl,rfl⟩,.p t41⟩
     have t42:=eq_false hg122;refine zj tok 3 ?_;simp only[go_sem,qc,qe,qa,qd,ql,qm,reduceIte,reduceCtorEq,vaO,hz14];refine zb ⟨rfl,_,_,⟨rfl,rfl⟩,.p t42⟩
   rintro _ _ ⟨rfl,rfl⟩;refine zj tok 1 ?_;simp only[go_sem,qc,qe,qa,qd,ql,qm,reduceIte,reduceCtorEq,hz14];obtain⟨c43,hc43,h⟩:=bind_some h;refine zh 4 (fun L τ=>L=[(130,.bool c43)]∧τ=[.cells 0 (encGSchema a0),.cells 0 (encGMessage y8),.dead,.cells 0 (cellsGTree r35.1),.dead,.cells 0 (cellsGTree r40.1)]) ?_ ?_
   · refine zK (b:=((decide (r35.2=0))&&(decide (r40.2=0)))) 126 rfl (fun hg126=>?_) (fun hg126=>?_)
     · rw[if_pos hg126] at hc43;obtain⟨r44,hr44,hc43⟩:=bind_some hc43;refine zj tok 2 ?_;simp only[go_sem,qc,qe,qa,qd,ql,qm,reduceIte,reduceCtorEq,cellsGTree,zO,hz14];refine clN rfl rfl rfl (zL.ev rounds r35.1 r40.1 r44 hr44 _) ?_;refine zj tok 1 ?_;simp only[go_sem,qc,qe,qa,qd,ql,qm,reduceIte,reduceCtorEq,cellsGTree,zO,hz14];cases hc43;refine zb ⟨rfl,_,_,⟨rfl,rfl⟩,.b hg126⟩
     rw[xD hg126] at hc43;refine zj tok 4 ?_;simp only[go_sem,qc,qe,qa,qd,ql,qm,reduceIte,reduceCtorEq,cellsGTree,zO,hz14];cases hc43;refine zb ⟨rfl,_,_,⟨rfl,rfl⟩,.b hg126⟩
   rintro _ _ ⟨rfl,rfl⟩;refine zj tok 1 ?_;simp only[go_sem,qc,qe,qa,qd,ql,qm,reduceIte,reduceCtorEq,cellsGTree,zO,hz14];obtain⟨c45,hc45,h⟩:=bind_some h;refine zh 2 (fun L τ=>L=[(133,.bool c45)]∧τ=[.cells 0 (encGSchema a0),.cells 0 (encGMessage y8),.dead,.cells 0 (cellsGTree r35.1),.dead,.cells 0 (cellsGTree r40.1)]) ?_ ?_
   · refine zK (b:=c43) 131 rfl (fun hg131=>?_) (fun hg131=>?_)
     · rw[if_pos hg131] at hc45;obtain⟨r46,hr46,hc45⟩:=bind_some hc45;refine clN rfl rfl rfl (xp.ev  r46 hr46 _) ?_;refine zj tok 1 ?_;simp only[go_sem,qc,qe,qa,qd,ql,qm,reduceIte,reduceCtorEq,cellsGTree,zO,hz14];cases hc45;refine zb ⟨rfl,_,_,⟨rfl,rfl⟩,.b hg131⟩
     rw[xD hg131] at hc45;refine zj tok 2 ?_;simp only[go_sem,qc,qe,qa,qd,ql,qm,reduceIte,reduceCtorEq,cellsGTree,zO,hz14];cases hc45;refine zb ⟨rfl,_,_,⟨rfl,rfl⟩,.b hg131⟩
   rintro _ _ ⟨rfl,rfl⟩;refine zj tok 1 ?_;simp only[go_sem,qc,qe,qa,qd,ql,qm,reduceIte,reduceCtorEq,cellsGTree,zO,hz14];refine nkN hK ?_;cases h;exact rtA
 obtain⟨hz14,hw14,hx14,hE'14,hi'14⟩:=yd hE14 hi14 hb14;simp only[law12_DecodeLast.l14] at h
 refine za fun Z47 hZ47=>?_
 refine rg tok [2,3,4,9,10,51] fun K hK=>?_
 simp only[go_sem,qc,qe,qa,qd,ql,qm,reduceIte,reduceCtorEq,vaO,hz14,hw14];apply hK
 refine zz rfl ?_;apply zd;apply hZ47
 refine za fun Z48 hZ48=>?_
 apply ze;have f49:=E47.idxS hx14;have f50:=E47.fldS (f:=3) rfl rfl hx14 (o:=2) (by decide)
 refine rg tok [2,3,4,9,10,60] fun K hK=>?_
 simp only[go_sem,qc,qe,qa,qd,ql,qm,reduceIte,reduceCtorEq,vaO,encGField,encGType,hz14,hw14,f49,f50];apply hK
 refine zD rfl (fun hc51=>?_) (fun hc51=>?_)
 · rw[if_pos hc51] at h;have t52:=eq_true hc51
   refine rc [8] fun K hK=>?_
   obtain⟨r53,hr53,h⟩:=bind_some h;refine clN rfl rfl rfl (xp.ev  r53 hr53 _) ?_;refine zj tok 1 ?_;simp only[go_sem,qc,qe,qa,qd,ql,qm,reduceIte,reduceCtorEq,hz14,hw14,t52];refine nkN hK ?_;cases h;exact rtA
 rw[if_neg hc51] at h;have t54:=eq_false hc51;apply zd;apply hZ48
 refine rgE tok [2,3,4,9,10] fun K hK=>?_
 simp only[go_sem,qc,qe,qa,qd,ql,qm,reduceIte,reduceCtorEq,vaO,hz14,hw14,t54];apply hK
 exact⟨_,_,_,qy q14.length,⟨p14++[y14],q14,x12+1,rfl,rfl,rfl,hE'14,hi'14,h⟩,.s⟩
end
section
set_option maxRecDepth 4000
open AM
def vb (n:Nat):List UInt8:=if h:n<128 then [uf n] else uf (n % 128+128)::vb (n / 128)
termination_by n
decreasing_by omega
theorem vb_lt {n:Nat}(h:n<128):vb n=[uf n]:=by rw[vb,dif_pos h]
theorem vb_ge {n:Nat}(h:¬ n<128):vb n=uf (n % 128+128)::vb (n / 128):=by rw[vb,dif_neg h]
theorem vb_pos (n:Nat):0<(vb n).length:=by
 by_cases h:n<128
 · rw[vb_lt h]; exact Nat.one_pos
 rw[vb_ge h,qk]; omega
theorem vb_len : ∀ (k n:Nat),n<2^(7*(k+1))→(vb n).length≤k+1
 |0,n,h=>by rw[vb_lt (by simpa using h)]; exact qu _
 |k+1,n,h=>by
  by_cases h1:n<128
  · rw[vb_lt h1,qk,qn]; omega
  rw[vb_ge h1,qk]
  have:=vb_len k (n / 128) (by
   have e:2^(7*(k+1+1))=128*2^(7*(k+1)):=by rw[show 7*(k+1+1)=7+7*(k+1) by omega,Nat.pow_add]
   rw[e] at h
   exact Nat.div_lt_of_lt_mul h)
  omega
theorem vb_len10 {n:Nat}(h:n<2^64):(vb n).length≤10:=vb_len 9 n (ue h (by decide))
theorem YW {p:Prop} [Decidable p](h:p):grd p=some ():=if_pos h
theorem xR {n b:Nat}(h:n*b≤140737488355328):Y5 n b=some ():=if_pos h
theorem u64w {n:Nat}(h:n<2^64):IntKind.u64.wrap (n:Int)=(n:Int):=by rw[IntKind.wrap_u64]; omega
theorem u64i {x:Int}(h:0≤x)(h':x<18446744073709551616):IntKind.u64.wrap x=x:=by rw[IntKind.wrap_u64]; omega
theorem u8w (n:Nat):IntKind.u8.wrap (n:Int)=((n % 256:Nat):Int):=by
 simp only[IntKind.wrap,IntKind.bits,IntKind.signed,Bool.false_and]
 simp
theorem vaB (n:Nat)(h:n<256):(uf n).toNat=n:=by
 rw[UInt8.toNat_ofNat']; omega
theorem or128 : ∀ m:Fin 256,(qB 8 ((m.val:Nat):Int) ||| qB 8 128).toNat=m.val % 128+128:=by decide
theorem and127 : ∀ m:Fin 256,(qB 8 ((m.val:Nat):Int) &&& ~~~(qB 8 128)).toNat=m.val % 128:=by decide
theorem moreByte (n:Nat):uf (qN (IntKind.u8.wrap ((uk (qB 8 (IntKind.u8.wrap (n:Int)) ||| qB 8 128):Nat):Int)))=uf (n % 128+128):=by
 have h:=or128 ⟨n % 256,Nat.mod_lt _ (by decide)⟩;simp only at h;rw[u8w n,h,u8w (n % 256 % 128+128),qW]
 congr 1
 have:=Nat.mod_mod_of_dvd n (show 128 ∣ 256 by decide)
 omega
theorem lastByte (n:Nat)(h:n<128):uf (qN (IntKind.u8.wrap (n:Int)))=uf n:=by
 rw[u8w,qW]; congr 1; omega
theorem shr7 (n:Nat):vj (n:Int) (2^(min (qN 7) 64))=((n / 128:Nat):Int):=by
 rw[show ((2:Int)^(min (qN 7) 64))=128 from by decide,Int.fdiv_eq_ediv_of_nonneg _ (by decide)]
 omega
theorem vint_Put_l : ∀ (k n:Nat) (l:List UInt8),n<2^(7*k)→l.length+k≤140737488355328→yY.l9 k l (n:Int)=some (l++vb n)∨k=0
 |0,_,_,_,_=>Or.inr rfl
 |k+1,n,l,h,hl=>by
  left
  by_cases h1:n<128
  · rw[yY.l9,if_neg (by omega),xR (by omega),qg,lastByte n h1,vb_lt h1]
  rw[yY.l9,if_pos (by omega),xR (by omega),qg,moreByte,shr7,vb_ge h1]
  have hk:n / 128<2^(7*k):=by
   have e:2^(7*(k+1))=128*2^(7*k):=by rw[show 7*(k+1)=7+7*k by omega,Nat.pow_add]
   rw[e] at h; exact Nat.div_lt_of_lt_mul h
  rcases vint_Put_l k (n / 128) (l++[uf (n % 128+128)]) hk (by rw[qi,qF]; omega) with e|e
  · rw[e,qp]; rfl
  exfalso; subst e; simp at hk; omega
theorem vint_Put_m : ∀ (k j n:Nat) (l r:List UInt8),yY.l9 k l (n:Int)=some r→yY.l9 (k+j) l (n:Int)=some r
 |0,_,_,_,_,h=>by cases h
 |k+1,j,n,l,r,h=>by
  rw[Nat.succ_add_eq_add_succ,Nat.add_succ]
  by_cases h1:(128:Int)≤(n:Int)
  · rw[yY.l9,if_pos h1] at h ⊢
    cases hr:Y5 (qb l+1) 1 with
    |none=>rw[hr] at h; cases h
    |some u=>
     rw[hr,qg,shr7] at h
     rw[qg,shr7]; exact vint_Put_m k j _ _ _ h
  rw[yY.l9,if_neg h1] at h ⊢; exact h
theorem Xz (a:List UInt8){n:Nat}(h:n<2^64)(ha:a.length≤140737488355000):yY a (n:Int)=some (a++vb n):=by
 by_cases h1:n<128
 · rw[yY,if_neg (by omega),xR (by omega),qg,lastByte n h1,vb_lt h1]
 rw[yY,if_pos (by omega),xR (by omega),qg,moreByte,shr7,vb_ge h1]
 rcases vint_Put_l 10 (n / 128) (a++[uf (n % 128+128)]) (by omega) (by rw[qi,qF]; omega) with e|e
 · have:=vint_Put_m 10 999999999999999999990 _ _ _ e;rw[show 10+999999999999999999990=rounds from rfl] at this
   rw[this,qp]; rfl
 cases e
theorem orAdd {i acc d:Nat}(h:acc<2^i):acc ||| d*2^i=acc+d*2^i:=by
 rw[Nat.or_comm,Nat.mul_comm,← Nat.two_pow_add_eq_or_of_lt h]; omega
theorem bv64 {n:Nat}(h:n<2^64):(qB 64 (n:Int)).toNat=n:=by
 rw[BitVec.ofInt_natCast,BitVec.toNat_ofNat]; exact Nat.mod_eq_of_lt h
theorem stepv {acc i:Nat}{y:UInt8}(hi:i≤9)(ha:acc<2^(7*i))(h9:i=9→y.toNat≤1):IntKind.u64.wrap ((uk (qB 64 (acc:Int) ||| qB 64 (IntKind.u64.wrap ((IntKind.u64.wrap (IntKind.u8.wrap ((uk (qB 8 (y.toNat:Int) &&& ~~~(qB 8 128)):Nat):Int)))*2^(min (qN (IntKind.i64.wrap (7*(i:Int)))) 64)))):Nat):Int)=((acc+(y.toNat % 128)*2^(7*i):Nat):Int)∧acc+(y.toNat % 128)*2^(7*i)<2^64∧(i<9→acc+(y.toNat % 128)*2^(7*i)<2^(7*(i+1))):=by
 have hy:y.toNat<256:=y.toNat_lt;have h:=and127 ⟨y.toNat,hy⟩;simp only at h
 have e:IntKind.i64.wrap (7*(i:Int))=((7*i:Nat):Int):=by rw[yr (by omega) (by omega)]; omega
 have hm:min (7*i) 64=7*i:=by omega
 have hd:y.toNat % 128<128:=Nat.mod_lt _ (by decide)
 have hp:2^(7*(i+1))=128*2^(7*i):=by rw[show 7*(i+1)=7+7*i by omega,Nat.pow_add]
 have hs:i<9→acc+(y.toNat % 128)*2^(7*i)<2^(7*(i+1)):=by
  intro _
  rw[hp];have:(y.toNat % 128)*2^(7*i)≤127*2^(7*i):=qY _ (by omega)
  omega
 have hb:acc+(y.toNat % 128)*2^(7*i)<2^64:=by
  by_cases h8:i<9
  · have:=hs h8;have h2:2^(7*(i+1))≤2^63:=Nat.pow_le_pow_right (by decide) (by omega)
    omega
  have hi9:i=9:=by omega
  have h1:=h9 hi9;subst hi9
  have:y.toNat % 128≤1:=by omega
  have h2:(y.toNat % 128)*2^(7*9)≤1*2^(7*9):=qY _ this
  omega
 refine⟨?_,hb,hs⟩;rw[h,u8w,Nat.mod_eq_of_lt (show y.toNat % 128<256 by omega),e,qW,hm]
 have hc:((((y.toNat % 128:Nat):Int))*2^(7*i))=(((y.toNat % 128)*2^(7*i):Nat):Int):=by
  rw[Int.natCast_mul,Int.natCast_pow]; rfl
 have hu:IntKind.u64.wrap ((y.toNat % 128:Nat):Int)=((y.toNat % 128:Nat):Int):=u64w (by omega);rw[hu,hc,u64w (n:=y.toNat % 128*2^(7*i)) (by omega),BitVec.toNat_or,bv64 (by omega),bv64 (by omega),orAdd ha,u64w hb]
theorem va9 (a:Nat)(hA:a≤4611686018427387904):∀ (q post:List UInt8) (v i acc:Nat),q=vb v++post→i≤9→acc<2^(7*i)→v*2^(7*i)<2^64→(0<i→v≠0)→
 xm.l12 (a:Int) q (i:Int) (acc:Int)=some (((acc+v*2^(7*i):Nat):Int),((a+i+(vb v).length:Nat):Int),0)
 |[],post,v,i,acc,h,_,_,_,_=>by
  have:=vb_pos v;have h2:=congrArg qb h
  rw[qi,qn] at h2; omega
 |y::q,post,v,i,acc,h,hi,ha,hv,h0=>by
  by_cases h1:v<128
  · rw[vb_lt h1] at h ⊢
    obtain⟨rfl,rfl⟩:y=uf v∧q=post:=by injection h with h2 h3; exact⟨h2,h3⟩
    have hy:(uf v).toNat=v:=vaB v (by omega)
    have h9:i=9→v≤1:=by
     intro e; subst e
     apply ve; intro hc
     have:2*2^(7*9)≤v*2^(7*9):=qY _ hc
     omega
    have st:=(stepv (y:=uf v) hi ha (by rw[hy]; exact h9)).1;have hw1:IntKind.i64.wrap (7*(i:Int))=7*(i:Int):=yr (by omega) (by omega);rw[xm.l12,st,hy];rw[if_neg (by simp only[qo,decide_eq_true_eq,not_and]; intro e; have:=h9 (by omega); omega),YW (by rw[yr (by omega) (by omega)]; omega),qg,if_neg (by omega),if_neg (by simp only[qo,decide_eq_true_eq,not_and]; intro e e2; exact h0 (by omega) (by omega))];rw[Nat.mod_eq_of_lt h1,yr (x:=(a:Int)+(i:Int)) (by omega) (by omega),yr (x:=(a:Int)+(i:Int)+1) (by omega) (by omega),qF];simp only[Int.natCast_add,Int.natCast_one]
  rw[vb_ge h1] at h ⊢
  obtain⟨rfl,rfl⟩:y=uf (v % 128+128)∧q=vb (v / 128)++post:=by injection h with h2 h3; exact⟨h2,h3⟩
  have hy:(uf (v % 128+128)).toNat=v % 128+128:=vaB _ (by omega)
  have hi8:i<9:=by
   apply Nat.lt_of_not_le; intro hc
   have:i=9:=by omega
   subst this;have:128*2^(7*9)≤v*2^(7*9):=qY _ (by omega)
   omega
  obtain⟨st,sb,sn⟩:=stepv (y:=uf (v % 128+128)) hi ha (by intro e; omega);rw[xm.l12,st,hy,if_neg (by simp only[qo,decide_eq_true_eq,not_and]; intro e; omega),YW (by rw[yr (by omega) (by omega)]; omega),qg,if_pos (by omega)];rw[hy] at sn
  have hm:(v % 128+128) % 128=v % 128:=by omega
  rw[hm] at sn ⊢
  have hp:2^(7*(i+1))=128*2^(7*i):=by rw[show 7*(i+1)=7+7*i by omega,Nat.pow_add]
  have hvd:v=128*(v / 128)+v % 128:=(Nat.div_add_mod v 128).symm
  have hmul:v*2^(7*i)=(v / 128)*2^(7*(i+1))+(v % 128)*2^(7*i):=by
   rw[hp]
   calc v*2^(7*i)=(128*(v / 128)+v % 128)*2^(7*i):=by rw[← hvd]
    _=_:=by rw[uW,Nat.mul_comm 128,Nat.mul_assoc]
  have ih:=va9 a hA (vb (v / 128)++post) post (v / 128) (i+1) (acc+v % 128*2^(7*i)) rfl (by omega) (sn hi8) (by rw[hmul] at hv; omega) (by intro _; omega);rw[show ((i:Int)+1)=((i+1:Nat):Int) by omega,ih,hmul,qk]
  congr 2
  · congr 1; omega
  congr 2; omega
theorem va8 (a:Nat)(hA:a≤4611686018427387904):∀ (q:List UInt8) (i acc:Nat),i+q.length≤10→acc<2^(7*i)→∃ r,xm.l12 (a:Int) q (i:Int) (acc:Int)=some r∧
 (r.2.2=0→∃ v post,q=vb v++post∧v*2^(7*i)<2^64∧(0<i→v≠0))∧0≤r.2.2
 |[],i,acc,_,_=>⟨_,rfl,(by intro h; cases h),by decide⟩
 |y::q,i,acc,hl,ha=>by
  rw[qk] at hl;rw[xm.l12]
  by_cases h9:((decide ((i:Int)=9))&&(decide (1<(y.toNat:Int))))=true
  · rw[if_pos h9]; exact⟨_,rfl,(by intro h; cases h),by decide⟩
  rw[if_neg h9]
  have h9':i=9→y.toNat≤1:=by
   intro e
   simp only[qo,decide_eq_true_eq,not_and] at h9
   have:=h9 (by omega); omega
  obtain⟨st,sb,sn⟩:=stepv (y:=y) (show i≤9 by omega) ha h9';rw[st,YW (by rw[yr (by omega) (by omega)]; omega),qg];have hy:y.toNat<256:=y.toNat_lt
  by_cases h1:(128:Int)≤(y.toNat:Int)
  · rw[if_pos h1]
    have hi8:i<9:=by
     apply Nat.lt_of_not_le; intro hc
     have:=h9' (by omega); omega
    obtain⟨r,e,hr,h0⟩:=va8 a hA q (i+1) (acc+y.toNat % 128*2^(7*i)) (by omega) (sn hi8);rw[show ((i:Int)+1)=((i+1:Nat):Int) by omega];refine⟨r,e,?_,h0⟩
    intro hz
    obtain⟨v,post,hq,hv,hn⟩:=hr hz
    have hp:2^(7*(i+1))=128*2^(7*i):=by rw[show 7*(i+1)=7+7*i by omega,Nat.pow_add]
    have hvn:=hn (by omega)
    have hw:¬ (v*128+y.toNat % 128)<128:=by omega
    refine⟨v*128+y.toNat % 128,post,?_,?_,by intro _; omega⟩
    · rw[vb_ge hw,show (v*128+y.toNat % 128) % 128+128=y.toNat by omega,show (v*128+y.toNat % 128) / 128=v by omega,UInt8.ofNat_toNat,hq]; rfl
    rw[hp] at hv
    have hmul:(v*128+y.toNat % 128)*2^(7*i)=v*(128*2^(7*i))+y.toNat % 128*2^(7*i):=by rw[uW,Nat.mul_assoc]
    rw[hmul]
    by_cases hi7:i<9
    · have hd:y.toNat % 128*2^(7*i)<128*2^(7*i):=Nat.mul_lt_mul_of_pos_right (by omega) (Nat.pow_pos (by decide))
      have h64:128*2^(7*i) ∣ 2^64:=by rw[← hp]; exact Nat.pow_dvd_pow 2 (by omega)
      obtain⟨c,hc⟩:=h64;rw[hc] at hv ⊢
      have hvc:v<c:=by
       apply Nat.lt_of_not_le; intro hle
       have:=qY (128*2^(7*i)) hle
       rw[Nat.mul_comm c] at this; omega
      have h3:(v+1)*(128*2^(7*i))≤c*(128*2^(7*i)):=qY _ hvc;rw[uW,Nat.one_mul] at h3
      rw[Nat.mul_comm (128*2^(7*i)) c]; omega
    omega
  rw[if_neg h1]
  by_cases h2:((decide ((y.toNat:Int)=0))&&(decide (0<(i:Int))))=true
  · rw[if_pos h2]; exact⟨_,rfl,(by intro h; cases h),by decide⟩
  rw[if_neg h2];refine⟨_,rfl,?_,u7 0⟩
  intro _
  refine⟨y.toNat,q,?_,?_,?_⟩
  · rw[vb_lt (by omega),UInt8.ofNat_toNat]; rfl
  · rw[Nat.mod_eq_of_lt (by omega)] at sb; omega
  intro hi e
  apply h2
  simp only[qo,decide_eq_true_eq]; omega
theorem get_head {b:List UInt8}{n:Nat}(hb:b.length≤4096)(hn:n≤b.length):xm b (n:Int)=xm.l12 (n:Int) ((b.drop n).take 10) 0 0:=by
 have e1:IntKind.i64.wrap ((qb b:Int)-(n:Int))=((b.length-n:Nat):Int):=by rw[yr (by omega) (by omega)]; omega
 rw[xm,if_neg (by simp only[qS,decide_eq_true_eq]; omega),e1]
 by_cases h:(10:Int)<((b.length-n:Nat):Int)
 · rw[if_pos h]
   have e2:IntKind.i64.wrap ((n:Int)+10)=((n+10:Nat):Int):=by rw[yr (by omega) (by omega)]; omega
   rw[e2,YW (by omega),qg,Yx,qW,qW,show n+10-n=10 by omega]
 rw[if_neg h]
 have e2:IntKind.i64.wrap ((n:Int)+((b.length-n:Nat):Int))=(b.length:Int):=by rw[yr (by omega) (by omega)]; omega
 rw[e2,YW (by omega),qg,Yx,qW,qW,uh (by rw[uI]; exact qu _),uh (by rw[uI]; omega)]
theorem get_ok {b post:List UInt8}{n v:Nat}(hb:b.length≤4096)(hn:n≤b.length)(h:b.drop n=vb v++post)(hv:v<2^64):xm b (n:Int)=some ((v:Int),((n+(vb v).length:Nat):Int),0):=by
 have:=va9 n (by omega) ((b.drop n).take 10) (post.take (10-(vb v).length)) v 0 0 (by rw[h,List.take_append,uh (vb_len10 hv)]) (by omega) (by decide) (by omega) (by omega);rw[get_head hb hn]
 simpa using this
theorem get_inv {b:List UInt8}{n:Nat}(hb:b.length≤4096)(hn:n≤b.length):∃ r,xm b (n:Int)=some r∧(r.2.2=0→∃ v post,b.drop n=vb v++post∧v<2^64∧r=((v:Int),((n+(vb v).length:Nat):Int),0))∧0≤r.2.2:=by
 obtain⟨r,e,hr,h0⟩:=va8 n (by omega) ((b.drop n).take 10) 0 0 (by rw[uH]; omega) (by decide);rw[get_head hb hn];refine⟨r,e,?_,h0⟩
 intro hz
 obtain⟨v,post,hq,hv,_⟩:=hr hz
 have hv':v<2^64:=by omega
 have hd:b.drop n=vb v++(post++(b.drop n).drop 10):=by
  rw[← qp,← hq,um]
 refine⟨v,_,hd,hv',?_⟩;have:=get_ok hb hn hd hv';rw[get_head hb hn] at this;exact Option.some.inj (e.symm.trans this)
end
end Go.Proofs.YtaddlmlpeghonaaGreatDoor
