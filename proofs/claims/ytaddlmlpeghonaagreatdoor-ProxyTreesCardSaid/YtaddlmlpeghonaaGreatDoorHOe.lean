/- Parts of the proof, cut down to what it needs. -/
import Derived.Test.YtaddlmlpeghonaaGreatDoorHSu
import Derived.Test.YtaddlmlpeghonaaGreatDoorHFA
import Derived.Test.YtaddlmlpeghonaaGreatDoorRows
import Derived.Test.YtaddlmlpeghonaaGreatDoorChecked
import Derived.Test.YtaddlmlpeghonaaGreatDoorTie
import Derived.ProofKit
import Derived.OpenShut
import Derived.ShutString
import Derived.ChangeOld
import Derived.ChangeSame
import Derived.ChangeVars
import Derived.JoinedOf
import Derived.RowKit
import Derived.LaidLaws
import Derived.LaidHandle
import Derived.Lib.LaidIn
import Derived.Lib.LaidU8T
import Derived.SevenTiedAt
set_option linter.constructorNameAsVariable false
set_option linter.unusedSimpArgs false
set_option linter.unusedVariables false
namespace Go.Proofs.YtaddlmlpeghonaaGreatDoor
open _root_.List renaming length → qc, flatMap → qe, length_append → qi, length_cons → qj, length_nil → ql, mem_cons_of_mem → qm, mem_cons_self → qn, append_assoc → qs, getD_eq_getElem?_getD → qu, map_nil → qw, nil_append → qx, append_nil → qz, mem_cons → qB, drop_zero → qC, map_append → qD, map_cons → qE, length_singleton → qG, cons_append → qH, length_eq_zero_iff → qJ, getElem?_append_left → qL, replicate → qN, flatMap_cons → qO, flatMap_append → qS, range_zero → qT, getElem?_set_ne → qW, all_cons → qY, getElem?_eq_getElem → q1, mem_append_right → q2, range_succ → q3, length_map → q7, getElem?_eq_some_iff → q9, all_nil → uc, mem_map → ud, all_eq_true → uf, mem_append → ug, take_length → ui, set_cons_zero → uk, take_of_length_le → ul, getElem?_append_right → um, flatMap_nil → un, mem_append_left → uo, mem_singleton → ut, take_append_drop → uu, set_cons_succ → uv, pairwise_cons → uw, getElem?_set_self → uz, nodup_cons → uA, getElem?_eq_none → uB, length_set → uD, filter_cons → uG, range → uI, getElem?_cons_zero → uK, getElem?_cons_succ → uL, length_take → uM, drop_eq_getElem_cons → uO, length_drop → uQ, getD_cons_zero → uX, getD_cons_succ → uY, reverse_cons → u3, set → u4, eq_nil_of_length_eq_zero → u6, drop_drop → ve
open _root_.Option renaming bind_some → qg, map_some → uF, getD_some → uR
open _root_.Nat renaming reduceEqDiff → qa, reduceLT → qb, reduceAdd → qd, reduceLeDiff → qf, lt_succ_self → qp, zero_add → qq, reduceMul → qt, le_refl → qv, reduceSub → qK, mul_le_mul_right → q5, reduceMod → ub, lt_of_lt_of_le → uj, zero_le → uq, le_trans → ux, zero_mul → uH, sub_self → uN, sub_zero → uP, succ_mul → uU, add_zero → uV, add_mul → uZ, lt_or_ge → u5, add_assoc → u7
open _root_.Bool renaming and_eq_true → qo, not_false → qy, or_eq_true → qI, or_true → qP, not_true → qQ, and_self → qR, and_true → qV, and_false → qX, or_false → qZ, false_eq_true → ue, false_ne_true → uy, true_and → uC, false_or → uJ, not_eq_true' → uS
open _root_.Int renaming toNat → qF, toNat_natCast → qU, reduceEq → uW, le_refl → u9
open _root_.BitVec renaming ofInt → qA, toNat → ur
open _root_.Array renaming length_toList → uh, getD_eq_getD_getElem? → uE, getElem?_eq_getElem → uT, getElem?_setIfInBounds_ne → u0, getElem?_modify → vg
open _root_.UInt8 renaming ofNat → ua
open Result renaming andThen_ok → qk
open Sem renaming run_bind → qr, run_pure → qM
open _root_.Go.Proofs.Tryz renaming prog → qh
section
set_option maxRecDepth 4000
open AM
def Rm {K:Type} [DecidableEq K](m:List (K×Bool))(l:List K):Prop:=∀ x,(vaX m x).getD false=true↔x∈l
theorem Rm.val {K:Type} [DecidableEq K]{m:List (K×Bool)}{l:List K}(h:Rm m l)(x:K) [inst:Decidable (x∈l)]:(vaX m x).getD false=decide (x∈l):=by
 rw[Bool.eq_iff_iff,h x,decide_eq_true_eq]
theorem getM_setM {K V:Type} [DecidableEq K](k x:K)(v:V):∀ (l:List (K×V)),vaX (va6 l k v) x=if x=k then some v else vaX l x
 |[]=>by simp only[va6,vaX]
 |(a,w)::l=>by
  rw[va6]
  split
  · rename_i h
    subst h;simp only[vaX]
    split<;>rfl
  rename_i h
  simp only[vaX,getM_setM k x v l]
  split
  · rename_i h2
    subst h2;rw[if_neg (fun hc=>h hc.symm)]
  rfl
theorem Rm_nil {K:Type} [DecidableEq K]:Rm ([]:List (K×Bool)) []:=fun x=>by simp[vaX]
theorem vbg {K:Type} [DecidableEq K]{m:List (K×Bool)}{l:List K}(h:Rm m l)(k:K):Rm (va6 m k true) (l++[k]):=fun x=>by
 rw[getM_setM]
 by_cases hx:x=k
 · rw[if_pos hx]; simp[hx]
 rw[if_neg hx,h x]; simp[hx]
theorem fresh_l (x:List UInt8):∀ (l:List (List UInt8)) (i:Int),yy.l4 x l i=if x∈l then some false else xo x
 |[],i=>by rw[yy.l4,if_neg (List.not_mem_nil)]; cases xo x<;>rfl
 |y::l,i=>by
  rw[yy.l4,fresh_l]
  by_cases h:y=x
  · rw[if_pos h,if_pos (by rw[h]; exact qn ..)]
  rw[if_neg h]
  by_cases h2:x∈l
  · rw[if_pos h2,if_pos (qm _ h2)]
  rw[if_neg h2,if_neg (fun hc=>by rcases qB.1 hc with e|e; exact h e.symm; exact h2 e)]
theorem vao {m:List (List UInt8×Bool)}{l:List (List UInt8)}{x:List UInt8}(h:Rm m l)(hx:x.length≤3000):∃ b,yy x l=some b∧yp m x=some (b,if b=true then va6 m x true else m):=by
 have hn:yK x=some (nameV x):=nameV_eq (by unfold nmOk; omega);rw[yy,fresh_l,yp,hn,qg,name_eq (by omega),hn,h.val x]
 by_cases hm:x∈l
 · refine⟨false,by rw[if_pos hm],?_⟩;rw[decide_eq_true hm,qP,if_pos rfl,if_neg uy]
 refine⟨nameV x,by rw[if_neg hm],?_⟩;rw[decide_eq_false hm,qZ]
 cases nameV x<;>rfl
theorem vaQ (t:Int):∀ (l:List Int) (i:Int),yA.l4 t l i=decide (t∈l)
 |[],i=>rfl
 |y::l,i=>by
  rw[yA.l4,vaQ]
  by_cases h:y=t
  · rw[if_pos h,decide_eq_true (by rw[h]; exact qn ..)]
  rw[if_neg h];exact decide_eq_decide.2 ⟨fun hc=>qm _ hc,fun hc=>by rcases qB.1 hc with e|e; exact absurd e.symm h; exact e⟩
theorem field_l (t:Int):∀ (l:List GField) (i:Int),(yO.l4 t l i).2=decide (t∈l.map GField.fTag)
 |[],i=>rfl
 |y::l,i=>by
  rw[yO.l4,qE]
  by_cases h:y.fTag=t
  · rw[if_pos h,decide_eq_true (by rw[h]; exact qn ..)]
  rw[if_neg h,field_l];exact decide_eq_decide.2 ⟨fun hc=>qm _ hc,fun hc=>by rcases qB.1 hc with e|e; exact absurd e.symm h; exact e⟩
theorem cut_app {α:Type}(A B:List α):Xc (A++B) 0 (A.length:Int)=A:=by
 unfold Xc;rw[qU,show qF 0=0 from rfl,qC,uP,List.take_left' rfl]
theorem enum_l (n:List UInt8):∀ (l:List GEnumeration) (i j:Int),xW.l4 n l i=xJ.l4 n l j
 |[],_,_=>rfl
 |y::l,i,j=>by rw[xW.l4,xJ.l4,enum_l n l (i+1) (j+1)]
theorem vav (n:List UInt8):∀ (l:List GMessage) (i j:Int),yd.l4 n l i=zI.l4 n l j
 |[],_,_=>rfl
 |y::l,i,j=>by rw[yd.l4,zI.l4,vav n l (i+1) (j+1)]
theorem kind_of (s:GSchema)(y:GType):xf s y=(if y.fKind=6 then (xJ s y.fName).2 else if y.fKind=7 then (zI s y.fName).2 else (decide (1≤y.fKind)&&decide (y.fName=[]))&&decide (y.fKind<6)):=by
 have e6:xW s y.fName=xJ s y.fName:=enum_l _ _ _ _;have e7:yd s y.fName=zI s y.fName:=vav _ _ _ _
 have small:1≤y.fKind→y.fKind≤5→xf.j3 s y true=(if y.fKind=6 then (xJ s y.fName).2 else if y.fKind=7 then (zI s y.fName).2 else (decide (1≤y.fKind)&&decide (y.fName=[]))&&decide (y.fKind<6)):=by
  intro h1 h2
  rw[xf.j3,if_pos rfl,if_neg (by omega),if_neg (by omega),decide_eq_true h1,decide_eq_true (show y.fKind<6 by omega),uC,qV]
 unfold xf
 by_cases k1:y.fKind=1
 · rw[if_pos k1,decide_eq_true k1]; exact small (by omega) (by omega)
 rw[if_neg k1]
 by_cases k2:y.fKind=2
 · rw[if_pos k2,decide_eq_true k2]; exact small (by omega) (by omega)
 rw[if_neg k2]
 by_cases k3:y.fKind=3
 · rw[if_pos k3,decide_eq_true k3]; exact small (by omega) (by omega)
 rw[if_neg k3]
 by_cases k4:y.fKind=4
 · rw[if_pos k4,decide_eq_true k4]; exact small (by omega) (by omega)
 rw[if_neg k4]
 by_cases k5:y.fKind=5
 · rw[decide_eq_true k5]; exact small (by omega) (by omega)
 rw[decide_eq_false k5,xf.j3,if_neg uy,bnd,bnd,e6,e7]
 split
 · rfl
 split
 · rfl
 rename_i h6 h7
 rw[Bool.eq_iff_iff];simp only[qo,decide_eq_true_eq,ue,false_iff]
 omega
theorem fieldOk_eq (s:GSchema)(f:GField):wj s f=(decide (1≤f.fLabel)&&decide (f.fLabel≤3)&&xf s f.fType):=by
 rw[kind_of];unfold wj bnd
 split
 · rfl
 split
 · rfl
 simp only[Bool.and_assoc]
theorem msg_l21_eq {s:GSchema}{m:GMessage}{r2:Bool×List (List UInt8×Bool)}(hn:∀ f∈m.fFields,f.fName.length≤3000)(hl:m.fFields.length*56≤140737488351232):∀ (B A:List GField) (i:Int) (tm:List (Int×Bool)) (nm:List (List UInt8×Bool)),m.fFields=A++B→Rm tm (m.fReserved++A.map GField.fTag)→Rm nm (A.map GField.fName)→
 zG.l21 s r2 B i tm nm=(zF.l17 s m B (A.length:Int) (A.map GField.fName)).map fun v=>(v,r2.2)
 |[],A,i,tm,nm,_,_,_=>rfl
 |f::B,A,i,tm,nm,h,ht,hnm=>by
  have hlen:m.fFields.length=A.length+(B.length+1):=by rw[h,qi,qj]
  obtain⟨b,e1,e2⟩:=vao hnm (hn f (by rw[h]; exact q2 _ (qn ..)));rw[zG.l21,zF.l17,e1,e2,qg,qg]
  cases b with
  |false=>rfl
  |true=>
   dsimp only
   rw[if_neg (show ¬ (!true)=true by decide),if_neg (show ¬ (!true)=true by decide),if_pos rfl,xK (by rw[q7]; omega),qg,Y4 ⟨u9 _,by omega,by omega⟩,qg]
   have ec:Xc m.fFields 0 (A.length:Int)=A:=by rw[h]; exact cut_app A _
   have e3:(yO (⟨[],A,([]:List Int)⟩:GMessage) f.fTag).2=decide (f.fTag∈A.map GField.fTag):=field_l _ _ _;have e4:yA m f.fTag=decide (f.fTag∈m.fReserved):=vaQ _ _ _;have e5:Ze f.fTag=(decide (1≤f.fTag)&&decide (f.fTag≤500)):=rfl;unfold bnd
   dsimp only
   rw[ec,e3,e4,e5,ht.val f.fTag]
   have e6:(if (decide (f.fTag∈A.map GField.fTag)||decide (f.fTag<1)||decide (500<f.fTag))=true then true else decide (f.fTag∈m.fReserved))=(!(decide (1≤f.fTag)&&decide (f.fTag≤500))||decide (f.fTag∈m.fReserved++A.map GField.fTag)):=by
    rw[Bool.eq_iff_iff]
    by_cases a1:f.fTag∈A.map GField.fTag
    · simp[a1]
    by_cases a2:f.fTag∈m.fReserved
    · simp[a2]
    rw[decide_eq_false a1,decide_eq_false a2,decide_eq_false (show ¬ f.fTag∈m.fReserved++A.map GField.fTag from fun hc=>by rcases ug.1 hc with e|e; exact a2 e; exact a1 e)];simp only[uJ,qZ,qI,uS,Bool.and_eq_false_iff,decide_eq_true_eq,decide_eq_false_iff_not]
    split<;>simp<;>omega
   rw[e6]
   generalize hc:(!(decide (1≤f.fTag)&&decide (f.fTag≤500))||decide (f.fTag∈m.fReserved++A.map GField.fTag))=c
   cases c with
   |true=>rfl
   |false=>
    rw[if_neg uy,if_neg uy]
    have e7:(if (decide (f.fLabel<1)||decide (3<f.fLabel))=true then true else !xf s f.fType) = !wj s f:=by
     rw[fieldOk_eq,Bool.eq_iff_iff]
     cases xf s f.fType<;>simp only[qI,decide_eq_true_eq,qy,qQ,qX,qV,uS,Bool.and_eq_false_iff,decide_eq_false_iff_not]<;>split<;>simp<;>omega
    rw[e7]
    cases wj s f with
    |false=>rfl
    |true=>
     rw[if_neg (show ¬ (!true)=true by decide),if_neg (show ¬ (!true)=true by decide)];have:=msg_l21_eq (s:=s) (r2:=r2) hn hl B (A++[f]) (i+1) (va6 tm f.fTag true) (va6 nm f.fName true) (by rw[h,qs]; rfl) (by rw[qD,← qs]; exact vbg ht f.fTag) (by rw[qD]; exact vbg hnm f.fName)
     rw[this,qi,qG,qD,show (A.length:Int)+1=((A.length+1:Nat):Int) by omega]; rfl
theorem msg_l12_eq {s:GSchema}{m:GMessage}{r2:Bool×List (List UInt8×Bool)}(hn:∀ f∈m.fFields,f.fName.length≤3000)(hl:m.fFields.length*56≤140737488351232):∀ (B A:List Int) (i:Int) (tm:List (Int×Bool)),m.fReserved=A++B→Rm tm A→
 zG.l12 s m r2 B i tm=(zF.l8 s m B (A.length:Int)).map fun v=>(v,r2.2)
 |[],A,i,tm,h,ht=>by
  rw[qz] at h;rw[zG.l12,zF.l8];exact msg_l21_eq hn hl m.fFields [] 0 tm [] rfl (by rw[h,qw,qz]; exact ht) Rm_nil
 |n::B,A,i,tm,h,ht=>by
  have hlen:m.fReserved.length=A.length+(B.length+1):=by rw[h,qi,qj]
  have ih:=msg_l12_eq (s:=s) (r2:=r2) hn hl B (A++[n]) (i+1) (va6 tm n true) (by rw[h,qs]; rfl) (vbg ht n);have e5:Ze n=(decide (1≤n)&&decide (n≤500)):=rfl
  have ec:Xc m.fReserved 0 (A.length:Int)=A:=by rw[h]; exact cut_app A _
  have e4:yA (⟨[],([]:List GField),A⟩:GMessage) n=decide (n∈A):=vaQ _ _ _;rw[zG.l12,zF.l8];unfold bnd
  dsimp only
  rw[e5,ht.val n]
  by_cases h1:n<1
  · rw[if_pos h1,decide_eq_false (show ¬ 1≤n by omega)]; rfl
  rw[if_neg h1]
  by_cases h2:500<n
  · rw[if_pos h2,decide_eq_false (show ¬ n≤500 by omega),qX]; rfl
  rw[if_neg h2,Y4 ⟨u9 _,by omega,by omega⟩,qg,ec,e4,decide_eq_true (show 1≤n by omega),decide_eq_true (show n≤500 by omega)]
  cases decide (n∈A) with
  |true=>rfl
  |false=>
   rw[zF.j43,if_neg uy]
   show zG.l12 s m r2 B (i+1) (va6 tm n true)=_
   rw[ih,qi,qG,show (A.length:Int)+1=((A.length+1:Nat):Int) by omega]
theorem msg_eq {s:GSchema}{m:GMessage}{a:List (List UInt8×Bool)}{l:List (List UInt8)}(ha:Rm a l)(hm:m.fName.length≤3000)(hn:∀ f∈m.fFields,f.fName.length≤3000)(hl:m.fFields.length*56≤140737488351232):
 (yy m.fName l=some false∧zG s a m=some (6,a))∨(yy m.fName l=some true∧zG s a m=(zF s m).map fun v=>(v,va6 a m.fName true)):=by
 obtain⟨b,e1,e2⟩:=vao ha hm;rw[zG,e2,qg]
 cases b with
 |false=>exact Or.inl ⟨e1,rfl⟩
 |true=>
  refine Or.inr ⟨e1,?_⟩
  dsimp only
  rw[if_neg (show ¬ (!true)=true by decide),if_pos rfl,zF]
  split
  · rfl
  exact msg_l12_eq hn hl m.fReserved [] 0 [] rfl Rm_nil
end
section
set_option maxRecDepth 4000
open AM
theorem enum_l38 {e:GEnumeration}{v:GNamed}{A B:List GNamed}{l15:List (List UInt8)}{rec21:Int→List (List UInt8)→Option Int}(h:e.fValues=A++v::B)(hA:A.length≤1000000):∀ (k j:Nat),A.length<k+j→j≤A.length→yb.l38 e (A.length:Int) l15 rec21 v k (j:Int)=if v.fN∈(A.drop j).map GNamed.fN then some 11 else rec21 ((A.length:Int)+1) (l15++[v.fName])
 |0,j,h1,h2=>by omega
 |k+1,j,h1,h2=>by
  rw[yb.l38]
  by_cases hj:j<A.length
  · have ei:Zv e.fValues (j:Int)=some (A[j]'hj):=by
     rw[h,Xy (show j<(A++v::B).length by rw[qi]; omega),List.getElem_append_left hj]
    rw[if_pos (by omega),ei,qg,uO hj,qE]
    by_cases hv:(A[j]'hj).fN=v.fN
    · rw[if_pos hv,if_pos (by rw[hv]; exact qn ..)]
    rw[if_neg hv,yq (by omega) (by omega),show (j:Int)+1=((j+1:Nat):Int) by omega,enum_l38 h hA k (j+1) (by omega) (by omega)]
    by_cases hm:v.fN∈(A.drop (j+1)).map GNamed.fN
    · rw[if_pos hm,if_pos (qm _ hm)]
    rw[if_neg hm,if_neg (fun hc=>by rcases qB.1 hc with e1|e1; exact hv e1.symm; exact hm e1)]
  rw[if_neg (by omega),List.drop_of_length_le (by omega),if_neg (by simp)]
theorem vcf {e:GEnumeration}{r2:Bool×List (List UInt8×Bool)}(hn:∀ v∈e.fValues,v.fName.length≤3000)(hl:e.fValues.length≤1000):∀ (B A:List GNamed) (i:Int) (nm:List (List UInt8×Bool)) (km:List (Int×Bool)),e.fValues=A++B→Rm nm (A.map GNamed.fName)→Rm km (A.map GNamed.fN)→
 yB.l23 r2 B i nm km=(yb.l21 e B (A.length:Int) (A.map GNamed.fName)).map fun v=>(v,r2.2)
 |[],A,i,nm,km,_,_,_=>rfl
 |v::B,A,i,nm,km,h,hnm,hkm=>by
  have hlen:e.fValues.length=A.length+(B.length+1):=by rw[h,qi,qj]
  have hr:=yF;obtain⟨b,e1,e2⟩:=vao hnm (hn v (by rw[h]; exact q2 _ (qn ..)));rw[yB.l23,yb.l21,e1,e2,qg,qg]
  cases b with
  |false=>rfl
  |true=>
   dsimp only
   rw[if_neg (show ¬ (!true)=true by decide),if_neg (show ¬ (!true)=true by decide),if_pos rfl,xK (by rw[q7]; omega),qg,hkm.val v.fN]
   by_cases hb:(decide (v.fN<0)||decide (2147483647<v.fN))=true
   · rw[hb,if_pos rfl,Bool.true_or,if_pos rfl]; rfl
   rw[Bool.eq_false_iff.2 hb,if_neg uy,uJ];have e38:=enum_l38 (l15:=A.map GNamed.fName) (rec21:=yb.l21 e B) h (by omega) rounds 0 (by omega) (by omega);rw[show yb.l38 e (A.length:Int) (A.map GNamed.fName) (yb.l21 e B) v rounds 0=_ from e38,qC]
   by_cases hm:v.fN∈A.map GNamed.fN
   · rw[decide_eq_true hm,if_pos rfl,if_pos hm]; rfl
   rw[decide_eq_false hm,if_neg uy,if_neg hm];have:=vcf (r2:=r2) hn hl B (A++[v]) (i+1) (va6 nm v.fName true) (va6 km v.fN true) (by rw[h,qs]; rfl) (by rw[qD]; exact vbg hnm v.fName) (by rw[qD]; exact vbg hkm v.fN)
   rw[this,qi,qG,qD,show (A.length:Int)+1=((A.length+1:Nat):Int) by omega]; rfl
theorem vcg {e:GEnumeration}{r2:Bool×List (List UInt8×Bool)}(hn:∀ v∈e.fValues,v.fName.length≤3000)(hl:e.fValues.length≤1000):∀ (B:List GNamed) (i j:Int) (z:Bool),
 yB.l12 e r2 B i z=(yb.l10 e B j z).map fun v=>(v,r2.2)
 |[],i,j,z=>by
  rw[yB.l12,yb.l10]
  cases z with
  |false=>rfl
  |true=>exact vcf hn hl e.fValues [] 0 [] [] rfl Rm_nil Rm_nil
 |v::B,i,j,z=>by rw[yB.l12,yb.l10]; exact vcg hn hl B _ _ _
theorem enum_eq {e:GEnumeration}{a:List (List UInt8×Bool)}{l:List (List UInt8)}(ha:Rm a l)(hm:e.fName.length≤3000)(hn:∀ v∈e.fValues,v.fName.length≤3000):
 (yy e.fName l=some false∧yB a e=some (6,a))∨(yy e.fName l=some true∧yB a e=(yb e).map fun v=>(v,va6 a e.fName true)):=by
 obtain⟨b,e1,e2⟩:=vao ha hm;rw[yB,e2,qg]
 cases b with
 |false=>exact Or.inl ⟨e1,rfl⟩
 |true=>
  refine Or.inr ⟨e1,?_⟩
  dsimp only
  rw[if_neg (show ¬ (!true)=true by decide),if_pos rfl,yb]
  split
  · rfl
  exact vcg hn (by omega) e.fValues 0 0 false
theorem meth_eq {s:GSchema}:∀ (B:List GMethod) (i j:Int) (nm:List (List UInt8×Bool)) (l:List (List UInt8)),(∀ x∈B,x.fName.length≤3000)→l.length+B.length≤1000000→Rm nm l→zx.l29 s B i nm=yZ.l22 s B j l
 |[],_,_,_,_,_,_,_=>rfl
 |x::B,i,j,nm,l,hn,hl,hr=>by
  rw[qj] at hl;obtain⟨b,e1,e2⟩:=vao hr (hn x (qn ..))
  have e7:∀ n,yd s n=zI s n:=fun n=>vav _ _ _ _
  rw[zx.l29,yZ.l22,e1,e7,e7,qg];unfold bnd
  dsimp only
  rw[e2,qg]
  cases b with
  |false=>rfl
  |true=>
   dsimp only
   rw[if_neg (show ¬ (!true)=true by decide),if_neg (show ¬ (!true)=true by decide),if_pos rfl,xK (by omega),qg]
   split
   · rfl
   exact meth_eq B _ _ _ _ (fun y hy=>hn y (qm _ hy)) (by rw[qi,qG]; omega) (vbg hr x.fName)
def nm3 (s:GSchema):Prop:=s.fName.length≤3000∧(∀ m∈s.fMessages,m.fName.length≤3000∧(∀ f∈m.fFields,f.fName.length≤3000)∧m.fFields.length*56≤140737488351232)∧(∀ e∈s.fEnums,e.fName.length≤3000∧∀ v∈e.fValues,v.fName.length≤3000)∧∀ x∈s.fMethods,x.fName.length≤3000
theorem parts_l17 {s:GSchema}(hs:nm3 s)(hM:s.fMethods.length≤6):∀ (B:List GEnumeration) (i j:Int) (a:List (List UInt8×Bool)) (l:List (List UInt8)),(∀ e∈B,e∈s.fEnums)→l.length+B.length≤1000000→Rm a l→zx.l22 s B i a=(yI.l17 B j l).bind fun r=>if r=0 then yZ.l22 s s.fMethods 0 [] else some r
 |[],i,j,a,l,_,_,_=>by
  rw[zx.l22,yI.l17,qg,if_pos rfl];exact meth_eq _ _ _ _ _ hs.2.2.2 (by rw[ql]; omega) Rm_nil
 |e::B,i,j,a,l,he,hl,hr=>by
  rw[qj] at hl;have hme:=hs.2.2.1 e (he e (qn ..));rw[zx.l22,yI.l17]
  rcases enum_eq hr hme.1 hme.2 with ⟨e1,e2⟩|⟨e1,e2⟩
  · rw[e1,e2]; rfl
  rw[e1,e2,qg,if_neg (show ¬ (!true)=true by decide),xK (by omega),qg]
  cases yb e with
  |none=>rfl
  |some v=>
   rw[uF,qg,qg]
   dsimp only
   by_cases h0:v=0
   · rw[if_pos h0,if_pos h0];exact parts_l17 hs hM B _ _ _ _ (fun y hy=>he y (qm _ hy)) (by rw[qi,qG]; omega) (vbg hr e.fName)
   rw[if_neg h0,if_neg h0,qg,if_neg h0]
theorem parts_l8 {s:GSchema}(hs:nm3 s)(hM:s.fMethods.length≤6)(hE:s.fEnums.length≤6):∀ (B:List GMessage) (i j:Int) (a:List (List UInt8×Bool)) (l:List (List UInt8)),(∀ e∈B,e∈s.fMessages)→l.length+B.length≤1000→Rm a l→zx.l15 s B i a=(yI.l8 s B j l).bind fun r=>if r=0 then yZ.l22 s s.fMethods 0 [] else some r
 |[],i,j,a,l,_,hl,hr=>by
  rw[zx.l15,yI.l8];exact parts_l17 hs hM _ _ _ _ _ (fun _ h=>h) (by rw[ql] at hl; omega) hr
 |m::B,i,j,a,l,he,hl,hr=>by
  rw[qj] at hl;have hme:=hs.2.1 m (he m (qn ..));rw[zx.l15,yI.l8]
  rcases msg_eq (s:=s) hr hme.1 hme.2.1 hme.2.2 with ⟨e1,e2⟩|⟨e1,e2⟩
  · rw[e1,e2]; rfl
  rw[e1,e2,qg,if_neg (show ¬ (!true)=true by decide),xK (by omega),qg]
  cases zF s m with
  |none=>rfl
  |some v=>
   rw[uF,qg,qg]
   dsimp only
   by_cases h0:v=0
   · rw[if_pos h0,if_pos h0];exact parts_l8 hs hM hE B _ _ _ _ (fun y hy=>he y (qm _ hy)) (by rw[qi,qG]; omega) (vbg hr m.fName)
   rw[if_neg h0,if_neg h0,qg,if_neg h0]
theorem check07_eq {s:GSchema}(hs:nm3 s):yZ s=zx s:=by
 rw[yZ,zx,name_eq (by have:=hs.1; omega)]
 cases yK s.fName with
 |none=>rfl
 |some b=>
  rw[qg,qg]
  cases b with
  |false=>rfl
  |true=>
   rw[if_neg (show ¬ (!true)=true by decide),if_neg (show ¬ (!true)=true by decide)]
   by_cases h0:(s.fMessages.length:Int)=0
   · rw[if_pos h0,if_pos h0]
   rw[if_neg h0,if_neg h0]
   by_cases hc:(((decide (10<(qc s.fMessages:Int)))||(decide (6<(qc s.fEnums:Int))))||(decide (6<(qc s.fMethods:Int))))=true
   · rw[if_pos hc,if_pos hc]
   rw[if_neg hc,if_neg hc];simp only[qI,decide_eq_true_eq,not_or] at hc
   rw[parts_l8 hs (by omega) (by omega) s.fMessages 0 0 [] [] (fun _ h=>h) (by rw[ql]; omega) Rm_nil]; rfl
theorem fewI_l25 {m:GMessage}{x2 x3:Int}{rec6:Int→Int→Option Bool}:∀ (l:List GField) (i:Int),zK.l25 x2 x3 rec6 m l i=some true→(∀ f∈l,f.fName.length≤200)∧rec6 (IntKind.i64.wrap (x2+(qc m.fName:Int))) (IntKind.i64.wrap (x3+1))=some true
 |[],_,h=>⟨(fun _ h=>by cases h),h⟩
 |f::l,i,h=>by
  rw[zK.l25] at h
  split at h
  · cases h
  rename_i hc
  simp only[qI,decide_eq_true_eq,not_or] at hc;obtain⟨h1,h2⟩:=fewI_l25 l _ h;refine⟨fun g hg=>?_,h2⟩
  rcases qB.1 hg with rfl|hg
  · omega
  exact h1 g hg
theorem fewI_l60 {x:Int}{rec43:Int→Option Bool}:∀ (l:List GNamed) (i:Int),zK.l60 x rec43 l i=some true→(∀ f∈l,f.fName.length≤200)∧rec43 (IntKind.i64.wrap (x+1))=some true
 |[],_,h=>⟨(fun _ h=>by cases h),h⟩
 |f::l,i,h=>by
  rw[zK.l60] at h
  split at h
  · cases h
  obtain⟨h1,h2⟩:=fewI_l60 l _ h;refine⟨fun g hg=>?_,h2⟩
  rcases qB.1 hg with rfl|hg
  · omega
  exact h1 g hg
theorem fewI_l78 {s:GSchema}{n:Int}:∀ (k j:Nat),j≤20→zK.l78 s n k (j:Int)=some true→n<3000∧s.fMessages.length≤14∧s.fEnums.length≤10∧s.fMethods.length≤10∧∀ x∈s.fMethods.drop j,x.fName.length≤200
 |0,j,_,h=>by cases h
 |k+1,j,hj,h=>by
  rw[zK.l78] at h
  split at h
  · rename_i hc
    simp only[qo,decide_eq_true_eq] at hc
    have hj2:j<s.fMethods.length:=by omega
    rw[Xy hj2,qg] at h
    split at h
    · cases h
    rename_i hb
    simp only[qI,decide_eq_true_eq,not_or] at hb;rw[yq (by omega) (by omega),show (j:Int)+1=((j+1:Nat):Int) by omega] at h;obtain⟨h1,h2,h3,h4,h5⟩:=fewI_l78 k (j+1) (by omega) h;refine⟨h1,h2,h3,h4,fun x hx=>?_⟩;rw[uO hj2] at hx
    rcases qB.1 hx with rfl|hx
    · omega
    exact h5 x hx
  rename_i hc
  simp only[qo,decide_eq_true_eq,not_and] at hc;have h:=Option.some.inj h;simp only[qo,decide_eq_true_eq] at h;refine⟨h.1.1.1,by omega,by omega,by omega,fun x hx=>?_⟩
  rw[List.drop_of_length_le (by omega)] at hx; cases hx
theorem fewI_l43 {s:GSchema}{n:Int}:∀ (k j:Nat),j≤20→zK.l43 s n k (j:Int)=some true→n<3000∧s.fMessages.length≤14∧s.fEnums.length≤10∧(∀ x∈s.fMethods,x.fName.length≤200)∧∀ x∈s.fEnums.drop j,x.fName.length≤200∧∀ v∈x.fValues,v.fName.length≤200
 |0,j,_,h=>by cases h
 |k+1,j,hj,h=>by
  rw[zK.l43] at h
  split at h
  · rename_i hc
    simp only[qo,decide_eq_true_eq] at hc
    have hj2:j<s.fEnums.length:=by omega
    rw[Xy hj2,qg] at h
    split at h
    · cases h
    rename_i hb
    simp only[qI,decide_eq_true_eq,not_or] at hb;obtain⟨hv,h⟩:=fewI_l60 _ _ h;rw[yq (by omega) (by omega),show (j:Int)+1=((j+1:Nat):Int) by omega] at h;obtain⟨h1,h2,h3,h4,h5⟩:=fewI_l43 k (j+1) (by omega) h;refine⟨h1,h2,h3,h4,fun x hx=>?_⟩;rw[uO hj2] at hx
    rcases qB.1 hx with rfl|hx
    · exact⟨by omega,hv⟩
    exact h5 x hx
  rename_i hc
  simp only[qo,decide_eq_true_eq,not_and] at hc;obtain⟨h1,h2,h3,h4,h5⟩:=fewI_l78 rounds 0 (by omega) h;rw[qC] at h5;refine⟨h1,h2,h3,h5,fun x hx=>?_⟩
  rw[List.drop_of_length_le (by omega)] at hx; cases hx
theorem fewI_l6 {s:GSchema}(hs:nmS s):∀ (k j:Nat) (n:Int),j≤20→0≤n→n+(20-j)*140737488351232≤9000000000000000→zK.l6 s k n (j:Int)=some true→n<3000∧s.fMessages.length≤14∧(∀ x∈s.fMethods,x.fName.length≤200)∧(∀ x∈s.fEnums,x.fName.length≤200∧∀ v∈x.fValues,v.fName.length≤200)∧∀ x∈s.fMessages.drop j,x.fName.length≤3000∧x.fFields.length≤20∧∀ v∈x.fFields,v.fName.length≤200
 |0,j,n,_,_,_,h=>by cases h
 |k+1,j,n,hj,h0,hn,h=>by
  rw[zK.l6] at h
  split at h
  · rename_i hc
    simp only[qo,decide_eq_true_eq] at hc
    have hj2:j<s.fMessages.length:=by omega
    have hm:=(hs.2.1 _ (List.getElem_mem hj2)).1;unfold nmOk at hm;rw[Xy hj2,qg] at h
    split at h
    · cases h
    rename_i hb
    simp only[qI,decide_eq_true_eq,not_or] at hb;obtain⟨hv,h⟩:=fewI_l25 _ _ h;rw[yq (x:=(j:Int)+1) (by omega) (by omega),show (j:Int)+1=((j+1:Nat):Int) by omega,yq (by omega) (by omega)] at h;obtain⟨h1,h2,h3,h4,h5⟩:=fewI_l6 hs k (j+1) _ (by omega) (by omega) (by omega) h;refine⟨by omega,h2,h3,h4,fun x hx=>?_⟩;rw[uO hj2] at hx
    rcases qB.1 hx with rfl|hx
    · exact⟨by omega,by omega,hv⟩
    exact h5 x hx
  rename_i hc
  simp only[qo,decide_eq_true_eq,not_and] at hc;obtain⟨h1,h2,h3,h4,h5⟩:=fewI_l43 rounds 0 (by omega) h;rw[qC] at h5;refine⟨h1,h2,h4,h5,fun x hx=>?_⟩
  rw[List.drop_of_length_le (by omega)] at hx; cases hx
theorem few_names {s:GSchema}(hs:nmS s)(h:zK s=some true):nm3 s:=by
 have h0:=hs.1;unfold nmOk at h0;obtain⟨h1,h2,h3,h4,h5⟩:=fewI_l6 hs rounds 0 (s.fName.length:Int) (by omega) (by omega) (by omega) h;rw[qC] at h5;exact⟨by omega,fun m hm=>⟨(h5 m hm).1,fun f hf=>ux ((h5 m hm).2.2 f hf) (by decide),by have:=(h5 m hm).2.1; omega⟩,fun e he=>⟨ux (h4 e he).1 (by decide),fun v hv=>ux ((h4 e he).2 v hv) (by decide)⟩,fun x hx=>ux (h3 x hx) (by decide)⟩
end
section
set_option maxRecDepth 4000
open AM
def smT : Nat→GTree→Prop
 |0,_=>False
 |d+1,t=>t.fRest.length≤40∧t.fEntries.length≤40∧∀ e∈t.fEntries,e.fTrees.length≤70∧∀ x∈e.fTrees,smT d x
def smallR (P:Prop)(r:Bool×Int):Prop:=r.1=true→(∃ n:Nat,r.2=(n:Int)∧n≤200)∧P
theorem small_l29 {self:GTree→Int→Int→Option (Bool×Int)}{deep d:Nat}{x12:Int}{rec15:Int→Int→Option (Bool×Int)}{P:Prop}(hd:deep≤13)(hs:∀ x (m:Nat),m≤200→∃ r,self x ((deep+1:Nat):Int) (m:Int)=some r∧smallR (smT d x) r)(hr:∀ i (m:Nat),m≤200→∃ r,rec15 i (m:Int)=some r∧smallR P r):
 ∀ (l:List GTree) (i:Int) (m:Nat),m≤200→∃ r,zE.l29 self (deep:Int) x12 rec15 l i (m:Int)=some r∧smallR (P∧∀ x∈l,smT d x) r
 |[],i,m,hm=>by
  obtain⟨r,e,h⟩:=hr (x12+1) m hm;exact⟨r,e,fun h1=>⟨(h h1).1,(h h1).2,fun x hx=>by cases hx⟩⟩
 |x::l,i,m,hm=>by
  obtain⟨⟨v,n⟩,e,h⟩:=hs x m hm;rw[zE.l29,yq (by omega) (by omega),show (deep:Int)+1=((deep+1:Nat):Int) by omega,e,qg]
  cases v with
  |false=>exact⟨_,rfl,fun h1=>absurd h1 uy⟩
  |true=>
   obtain⟨⟨n',e',hn'⟩,hx⟩:=h rfl
   dsimp only at e'
   dsimp only
   rw[if_neg (by decide),e'];obtain⟨r,er,h2⟩:=small_l29 hd hs hr l (i+1) n' hn';refine⟨r,er,fun h1=>⟨(h2 h1).1,(h2 h1).2.1,fun y hy=>?_⟩⟩
   rcases qB.1 hy with rfl|hy
   · exact hx
   exact (h2 h1).2.2 y hy
theorem small_l15 {self:GTree→Int→Int→Option (Bool×Int)}{deep d:Nat}(hd:deep≤13)(hs:∀ x (m:Nat),m≤200→∃ r,self x ((deep+1:Nat):Int) (m:Int)=some r∧smallR (smT d x) r):
 ∀ (l:List GEntry) (i:Int) (m:Nat),m≤200→∃ r,zE.l15 self (deep:Int) l i (m:Int)=some r∧smallR (∀ e∈l,e.fTrees.length≤70∧∀ x∈e.fTrees,smT d x) r
 |[],i,m,hm=>⟨(true,(m:Int)),rfl,fun _=>⟨⟨m,rfl,hm⟩,fun x hx=>by cases hx⟩⟩
 |e::l,i,m,hm=>by
  rw[zE.l15]
  split
  · exact⟨_,rfl,fun h1=>absurd h1 uy⟩
  rename_i hc
  obtain⟨r,er,h⟩:=small_l29 (x12:=i) (rec15:=zE.l15 self (deep:Int) l) hd hs (fun i m hm=>small_l15 hd hs l i m hm) e.fTrees 0 m hm;refine⟨r,er,fun h1=>⟨(h h1).1,fun y hy=>?_⟩⟩
  rcases qB.1 hy with rfl|hy
  · exact⟨by omega,(h h1).2.2⟩
  exact (h h1).2.1 y hy
theorem small_l8 {self:GTree→Int→Int→Option (Bool×Int)}{t:GTree}{deep n:Int}:∀ (l:List GRaw) (i:Int),(∃ v,zE.l8 self t deep n l i=some (false,v))∨zE.l8 self t deep n l i=zE.l15 self deep t.fEntries 0 (IntKind.i64.wrap (n+1))
 |[],i=>Or.inr rfl
 |r::l,i=>by
  rw[zE.l8]
  split
  · exact Or.inl ⟨_,rfl⟩
  exact small_l8 l _
theorem small_t : ∀ (k deep d:Nat) (t:GTree) (n:Nat),14<k+deep→deep≤14→d+deep=14→n≤200→∃ r,zE k t (deep:Int) (n:Int)=some r∧smallR (smT d t) r
 |0,deep,d,t,n,h,h',_,_=>by omega
 |k+1,deep,d,t,n,h,h',hdd,hn=>by
  rw[zE,zE.body,yq (by omega) (by omega)]
  split
  · exact⟨_,rfl,fun h1=>absurd h1 uy⟩
  rename_i hc
  simp only[qI,decide_eq_true_eq,not_or] at hc
  obtain⟨d',rfl⟩:∃ d',d=d'+1:=⟨d-1,by omega⟩
  rcases small_l8 (self:=zE k) (t:=t) (deep:=(deep:Int)) (n:=(n:Int)) t.fRest 0 with ⟨v,e⟩|e
  · exact⟨_,e,fun h1=>absurd h1 uy⟩
  rw[e,yq (by omega) (by omega),show (n:Int)+1=((n+1:Nat):Int) by omega];obtain⟨r,er,h2⟩:=small_l15 (deep:=deep) (d:=d') (by omega) (fun x m hm=>small_t k (deep+1) d' x m (by omega) (by omega) (by omega) hm) t.fEntries 0 (n+1) (by omega);exact⟨r,er,fun h1=>⟨(h2 h1).1,by omega,by omega,(h2 h1).2⟩⟩
theorem Small_t (t:GTree):∃ b,wU t=some b∧(b=true→smT 14 t):=by
 obtain⟨r,e,h⟩:=small_t rounds 0 14 t 0 (by have:=yF; omega) (by omega) rfl (by omega);refine⟨r.1,?_,fun h1=>(h h1).2⟩;have e':zE rounds t 0 0=some r:=e
 rw[wU,e']; rfl
def restT : Nat→GTree→Prop
 |0,t=>t.fRest.length≤40
 |d+1,t=>t.fRest.length≤40∧∀ x∈kids t,restT d x
theorem smT_rest : ∀ (d j:Nat) (t:GTree),smT d t→restT j t
 |0,_,_,h=>h.elim
 |d+1,0,t,h=>h.1
 |d+1,j+1,t,h=>⟨h.1,fun x hx=>by
  obtain⟨e,he,hxe⟩:=List.mem_flatMap.1 hx
  exact smT_rest d j x ((h.2.2 e he).2 x hxe)⟩
end
section
set_option maxRecDepth 4000
open AM
theorem bub_over {x:GEntry}{C:List GEntry}:∀ {A B:List GEntry},(∀ a∈A,x.fTag<a.fTag)→Zy x (A++C) B=Zy x C (A.reverse++B)
 |[],_,_=>rfl
 |a::A,B,h=>by
  rw[qH,Zy,if_pos (h a (qn ..)),bub_over fun b hb=>h b (qm _ hb),u3,qs]; rfl
theorem bub_stop {x:GEntry}{C B:List GEntry}(h:∀ a∈C,¬ x.fTag<a.fTag):Zy x C B=C.reverse++x::B:=by
 cases C with
 |nil=>rfl
 |cons a C=>rw[Zy,if_neg (h a (qn ..))]
theorem putL_miss {f:GField}{x:GTree}:∀ (q pre:List GEntry),(∀ e∈q,e.fTag≠f.fTag)→(pre++q).length<1000000→wE f x pre q=some (Zy ⟨f.fTag,[x]⟩ (pre++q).reverse [],true)
 |[],pre,_,h=>by
  rw[qz] at h ⊢;rw[wE,xK (by omega),qg]
 |e::q,pre,hq,h=>by
  rw[wE,if_neg (hq e (qn ..)),putL_miss q (pre++[e]) (fun a ha=>hq a (qm _ ha)) (by rw[qs]; exact h),qs]; rfl
theorem putL_hit {f:GField}{x:GTree}{b:GEntry}{B:List GEntry}(hb:b.fTag=f.fTag)(hl:b.fTrees.length<1000000):∀ (A pre:List GEntry),(∀ a∈A,a.fTag≠f.fTag)→wE f x pre (A++b::B)=some (pre++A++⟨f.fTag,(if f.fLabel=3 then b.fTrees else [])++[x]⟩::B,decide ((if f.fLabel=3 then b.fTrees.length else 0)+1≤64))
 |[],pre,_=>by
  rw[qx,wE,if_pos hb,qz]
  by_cases h3:f.fLabel=3
  · rw[if_pos h3,if_pos h3,if_pos h3,xK (by omega),qg,hb]
    congr 2
    refine decide_eq_decide.2 ?_
    rw[qi,qG]; omega
  rw[if_neg h3,if_neg h3,if_neg h3,hb]; rfl
 |a::A,pre,hA=>by
  rw[qH,wE,if_neg (hA a (qn ..)),putL_hit hb hl A (pre++[a]) (fun z hz=>hA z (qm _ hz)),qs pre]; rfl
theorem ref12_put_eq {es:List GEntry}{f:GField}{x:GTree}(hs:es.Pairwise Xv)(hn:es.length<1000000)(ht:∀ e∈es,e.fTrees.length<1000000):
 XK es f x=some (vaM f.fTag (f.fLabel=3) x es,decide (putN f.fTag (f.fLabel=3) es≤64)):=by
 obtain⟨A,B,rfl,hA,hB⟩:=splitE f.fTag hs;rw[XK,putE_app hA,putN_app hA]
 have miss:(∀ b∈B,f.fTag<b.fTag)→wE f x [] (A++B)=some (A++⟨f.fTag,[x]⟩::B,true):=by
  intro hB'
  rw[putL_miss (A++B) [] (fun e he=>?_) (by rw[qx]; exact hn),qx,List.reverse_append,bub_over (x:=⟨f.fTag,[x]⟩) (fun a ha=>by rw[ge_tag]; exact hB' a (List.mem_reverse.1 ha)),bub_stop (fun a ha=>?_),List.reverse_reverse,List.reverse_reverse,qz]
  · have:=hA a (List.mem_reverse.1 ha); simp only[ge_tag]; omega
  rcases ug.1 he with he|he
  · have:=hA e he; omega
  have:=hB' e he; omega
 cases B with
 |nil=>rw[miss (fun b hb=>by cases hb)]; rfl
 |cons b B=>
  have hb:=hB b (qn ..)
  by_cases hbt:b.fTag=f.fTag
  · rw[putL_hit hbt (ht b (q2 _ (qn ..))) A [] (fun a ha=>by have:=hA a ha; omega),vaM,if_neg (show ¬ b.fTag<f.fTag by omega),if_pos hbt,putN,if_neg (show ¬ b.fTag<f.fTag by omega),if_pos hbt]; rfl
  have hs':=(List.pairwise_append.1 hs).2.1;rw[uw] at hs'
  rw[miss (fun c hc=>by
   rcases qB.1 hc with rfl|hc
   · omega
   have:=hs'.1 c hc; unfold Xv at this; omega),vaM,if_neg (by omega),if_neg hbt,putN,if_neg (by omega),if_neg hbt]; rfl
theorem fieldR_l (t:Int):∀ (l:List GField) (i j:Int),yO.l4 t l i=zw.l4 t l j
 |[],_,_=>rfl
 |y::l,i,j=>by rw[yO.l4,zw.l4,fieldR_l t l (i+1) (j+1)]
theorem fieldR_eq (m:GMessage)(t:Int):yO m t=zw m t:=fieldR_l t _ _ _
theorem vb5 (s:GSchema)(n:List UInt8):yd s n=zI s n:=vav n _ _ _
theorem refstep {acc i:Nat}{y:UInt8}(hi:i≤9)(ha:acc<2^(7*i))(h9:i=9→y.toNat≤1):IntKind.u64.wrap ((acc:Int)+(IntKind.u64.wrap ((IntKind.u64.wrap (((y.toNat:Int)).tmod 128))*2^(min (qF (IntKind.u64.wrap (IntKind.i64.wrap (7*(i:Int))))) 64))))=((acc+(y.toNat % 128)*2^(7*i):Nat):Int):=by
 have hb:=(stepv (y:=y) hi ha h9).2.1;have hy:y.toNat<256:=y.toNat_lt
 have e:IntKind.i64.wrap (7*(i:Int))=((7*i:Nat):Int):=by rw[yq (by omega) (by omega)]; omega
 have em:((y.toNat:Nat):Int).tmod 128=((y.toNat % 128:Nat):Int):=by rw[Int.tmod_eq_emod_of_nonneg (by omega)]; omega
 have hc:((((y.toNat % 128:Nat):Int))*2^(7*i))=(((y.toNat % 128)*2^(7*i):Nat):Int):=by
  rw[Int.natCast_mul,Int.natCast_pow]; rfl
 rw[e,em,u64w (n:=7*i) (by omega),qU,Nat.min_eq_left (by omega),u64w (n:=y.toNat % 128) (by omega),hc,u64w (n:=y.toNat % 128*2^(7*i)) (by omega),← Int.natCast_add,u64w hb]
theorem vb2 {b:List UInt8}{n:Nat}(hb:b.length≤4096)(hn:n≤b.length):∀ (k i acc:Nat),i≤9→9<k+i→acc<2^(7*i)→wb.l10 b (n:Int) k (acc:Int) (i:Int)=xA.l12 (n:Int) ((b.drop (n+i)).take (10-i)) (i:Int) (acc:Int)
 |0,i,_,_,_,_=>by omega
 |k+1,i,acc,hi,hk,ha=>by
  rw[wb.l10,if_pos (by omega),yq (x:=(b.length:Int)-n) (by omega) (by omega)]
  by_cases h:n+i<b.length
  · have e:(b.drop (n+i)).take (10-i)=b[n+i]::(b.drop (n+i+1)).take (9-i):=by
     rw[uO h,show 10-i=(9-i)+1 by omega,List.take_succ_cons]
    rw[e,if_neg (by omega),yq (x:=(n:Int)+i) (by omega) (by omega),show (n:Int)+(i:Int)=((n+i:Nat):Int) by omega,Xy h,qg,xA.l12]
    generalize b[n+i]=y
    have hy:y.toNat<256:=y.toNat_lt
    by_cases h9:((decide ((i:Int)=9))&&(decide (1<(y.toNat:Int))))=true
    · rw[if_pos h9,if_pos h9]
    have h9':i=9→y.toNat≤1:=by
     intro e
     simp only[qo,decide_eq_true_eq,not_and] at h9
     have:=h9 (by omega); omega
    obtain⟨st,sb,sn⟩:=stepv (y:=y) hi ha h9'
    have e7:IntKind.i64.wrap (7*(i:Int))=((7*i:Nat):Int):=by rw[yq (by omega) (by omega)]; omega
    rw[if_neg h9,if_neg h9,st,refstep hi ha h9',Y4 (by rw[e7,u64w (by omega)]; omega),qg,Y4 (by rw[e7]; omega),qg]
    by_cases h1:128≤y.toNat
    · have hi8:i<9:=by
       apply Nat.lt_of_not_le; intro hc
       have:=h9' (by omega); omega
      rw[if_neg (by omega),if_pos (by omega),yq (x:=(i:Int)+1) (by omega) (by omega),show (i:Int)+1=((i+1:Nat):Int) by omega,vb2 hb hn k (i+1) _ (by omega) (by omega) (sn hi8),show n+(i+1)=n+i+1 by omega,show 10-(i+1)=9-i by omega]
    have hA:(y.toNat:Int)<128:=by omega
    have hB:¬ (128:Int)≤(y.toNat:Int):=by omega
    rw[if_pos hA,if_neg hB,show (n:Int)+(i:Int)=((n+i:Nat):Int) by omega,yq (x:=((n+i:Nat):Int)) (by omega) (by omega)]
  rw[if_pos (by omega),List.drop_eq_nil_of_le (by omega),List.take_nil,xA.l12]
theorem va9 {b:List UInt8}{n:Nat}(hb:b.length≤4096)(hn:n≤b.length):wb b (n:Int)=xA b (n:Int):=by
 have:=vb2 hb hn rounds 0 0 (by decide) (by have:=yF; omega) (by decide);rw[vby hb hn,wb,if_neg (by simp only[qI,decide_eq_true_eq]; omega)]
 simpa using this
theorem ref02_Zag_eq {v:Nat}(h:v<2^64):ZA (v:Int)=zu v:=by
 have d1:(v:Int).tdiv 2=((v / 2:Nat):Int):=by rw[Int.tdiv_eq_ediv_of_nonneg (by omega)]; omega
 have d2:(v:Int).tmod 2=((v % 2:Nat):Int):=by rw[Int.tmod_eq_emod_of_nonneg (by omega)]; omega
 unfold ZA zu;rw[d1,d2,u64w (by omega),yq (x:=((v / 2:Nat):Int)) (by omega) (by omega)]
 by_cases h0:v % 2=0
 · rw[if_pos (by omega),if_pos h0]
 rw[if_neg (by omega),if_neg h0,yq (x:=0-((v / 2:Nat):Int)) (by omega) (by omega),yq (by omega) (by omega)]; omega
theorem vaf {b:List UInt8}(hb:b.length≤4096):∀ (k n:Nat) (acc:List GRaw),n≤b.length→xr.l12 b k acc (n:Int)=xM.l12 b k acc (n:Int)
 |0,_,_,_=>rfl
 |k+1,n,acc,hn=>by
  rw[xr.l12,xM.l12]
  by_cases h:(n:Int)<(b.length:Int)
  · obtain⟨r1,e1,i1,_⟩:=get_inv hb hn;rw[if_pos h,if_pos h,va9 hb hn,wW,e1,qg,qg]
    by_cases z1:r1.2.2=0
    · obtain⟨v,post,hd,hv,rfl⟩:=i1 z1;have hl:=Xr hn hd
      have d1:(v:Int).tdiv 2=((v / 2:Nat):Int):=by rw[Int.tdiv_eq_ediv_of_nonneg (by omega)]; omega
      dsimp only
      rw[if_pos rfl,if_pos rfl,d1,u64w (by omega)]
      by_cases c1:v / 2<1∨500<v / 2
      · rw[if_pos (by simp only[qI,decide_eq_true_eq]; omega),if_pos (by simp only[qI,decide_eq_true_eq]; omega),qg,if_neg (by decide)]
      obtain⟨r2,e2,i2,_⟩:=get_inv hb (n:=n+(vb v).length) (by omega);rw[if_neg (by simp only[qI,decide_eq_true_eq]; omega),if_neg (by simp only[qI,decide_eq_true_eq]; omega),va9 hb (by omega),e2,qg,qg]
      by_cases z2:r2.2.2=0
      · obtain⟨w,post2,hd2,hw,rfl⟩:=i2 z2;have hl2:=Xr (by omega) hd2
        dsimp only
        rw[if_pos rfl,if_pos rfl]
        by_cases c4:IntKind.i64.wrap ((v:Int).tmod 2)=0
        · rw[if_pos c4,if_pos c4,bnd,bnd,ref02_Zag_eq hw,vbF hw,qg,if_pos rfl,xr.j34]
          congr 1
          funext _
          exact vaf hb k _ _ (by omega)
        rw[if_neg c4,if_neg c4]
        have e3:IntKind.i64.wrap ((b.length:Int)-((n+(vb v).length+(vb w).length:Nat):Int))=((post2.length:Nat):Int):=by rw[yq (by omega) (by omega)]; omega
        rw[e3,u64w (n:=post2.length) (by omega)]
        by_cases c5:(post2.length:Int)<(w:Int)
        · rw[if_pos c5,if_pos c5,qg,if_neg (by decide)]
        have e4:IntKind.i64.wrap (w:Int)=(w:Int):=yq (by omega) (by omega)
        have e5:IntKind.i64.wrap (((n+(vb v).length+(vb w).length:Nat):Int)+(w:Int))=((n+(vb v).length+(vb w).length+w:Nat):Int):=by rw[yq (by omega) (by omega)]; omega
        rw[if_neg c5,if_neg c5,e4,e5,Y4 (by omega),qg,qg,qg,if_pos rfl,xr.j34]
        congr 1
        funext _
        exact vaf hb k _ _ (by omega)
      rw[if_neg z2,if_neg z2,qg,if_neg z2]
    rw[if_neg z1,if_neg z1,qg,if_neg z1]
  rw[if_neg h,if_neg h]
theorem ref04_Get_eq (b:List UInt8):xr b=xM b:=by
 rw[xr,xM]
 by_cases h:4096<(b.length:Int)
 · rw[if_pos h,if_pos h]
 rw[if_neg h,if_neg h];exact vaf (by omega) rounds 0 [] (uq _)
theorem ref01_Valid_eq {a:List UInt8}(hl:a.length≤30000):wT a=some (vbR a):=by
 have e1:=rl_all hl rounds 0 [] (by have:=yF; omega) (by decide) (by decide) (by rw[ql]; omega);have e2:=rl_valid hl rounds 0 (by have:=yF; omega) (by decide);have e1':xX a=_:=e1;have e2':yH a=_:=e2;rw[wT,e1',vbR,e2']
 cases rl a rounds 0<;>rfl
theorem number_eq (y:GType)(n:Int):wz y n=xN y n:=by
 unfold wz xN
 by_cases k1:y.fKind=1
 · rw[if_pos k1,if_pos k1]
 rw[if_neg k1,if_neg k1]
 by_cases k2:y.fKind=2
 · rw[if_pos k2,if_neg (by omega),if_neg (by omega),decide_eq_true k2]
 rw[if_neg k2,decide_eq_false k2]
theorem value12_eq {selfM:GSchema→GMessage→List UInt8→Int→Option (GTree×Int)}{selfV:GSchema→GField→GRaw→Int→Option (GTree×Int)}{s:GSchema}{f:GField}{r:GRaw}{deep:Int}{msg:GMessage→List UInt8→GTree×Int}(hk:1≤f.fType.fKind∧f.fType.fKind≤7)(hw:r.fWire=0∨r.fWire=1)(hb:r.fB.length≤4096)(hd:deep<1000)(hd':0≤deep)
 (h10:10≤deep→msg (vaT s f.fType.fName) r.fB=(zTree,10)) (hs:deep<10→selfM s (vaT s f.fType.fName) r.fB (deep+1)=some (msg (vaT s f.fType.fName) r.fB)):
 xL.body selfM selfV s f r deep=some (oneD msg s f.fType r):=by
 have hv:=ref01_Valid_eq (a:=r.fB) (by omega);have ed:IntKind.i64.wrap (deep+1)=deep+1:=yq (by omega) (by omega)
 have hk':f.fType.fKind=1∨f.fType.fKind=2∨f.fType.fKind=3∨f.fType.fKind=4∨f.fType.fKind=5∨f.fType.fKind=6∨f.fType.fKind=7:=by omega
 have hM:f.fType.fKind=7→(if 10≤deep then some (zTree,10) else (selfM s (vaT s f.fType.fName) r.fB (deep+1)).bind fun r29=>some (r29.1,r29.2))=some (msg (vaT s f.fType.fName) r.fB):=by
  intro _
  by_cases h:10≤deep
  · rw[if_pos h,h10 h]
  rw[if_neg h,hs (by omega)]; rfl
 unfold xL.body oneD wg wg.j3;unfold bnd;simp only[vb5,number_eq,Y4 (show r.fB.length≤9223372036854775807 by omega),hv,ed,qg];have b1:(true==false)=false:=rfl;have b2:(false==true)=false:=rfl
 rcases hk' with k|k|k|k|k|k|k<;>rcases hw with w|w <;>
  simp only[k,w,b1,b2,reduceIte,reduceCtorEq,uW,decide_true,decide_false,or_true,true_or,or_false,false_or,or_self,ue,qQ,qy,beq_self_eq_true,qg] <;>
  first
   |done
   |rfl
   |exact hM k
   |(cases hn:xN f.fType r.fN<;>first|rfl|(exfalso; rw[xN,if_neg (by omega),if_neg (by omega),if_neg (by omega),k] at hn; exact absurd hn (by decide)))
   |(cases vbR r.fB<;>rfl)
theorem vbQ {m:GMessage}{t:GTree}:∀ (q:List GEntry) (x:Int) (acc:List GEntry),(∀ e∈q,e.fTrees≠[])→acc.length+q.length<100000→ya.l8 m t q x acc=some ⟨3,0,[],acc++zdel m q,t.fRest⟩
 |[],x,acc,_,_=>by rw[ya.l8,zdel,List.filter_nil,qz]
 |e::q,x,acc,h,hl=>by
  rw[qj] at hl;have he:=h e (qn ..)
  have h':∀ e∈q,e.fTrees≠[]:=fun a ha=>h a (qm _ ha)
  have e1:(if (zw m e.fTag).1.fLabel=1 then (Zv e.fTrees 0).bind fun y19=>bnd (Zs y19) fun r22=>some (!r22) else some true)=some (!isZ m e):=by
   unfold isZ
   split
   · rename_i hl
     cases ht:e.fTrees with
     |nil=>exact absurd ht he
     |cons a l=>
      rw[idx_t (u9 0) (show (a::l)[qF 0]?=some a from rfl),qg,bnd,hl]; rfl
   rename_i hl
   rw[decide_eq_false hl,Bool.false_and]; rfl
  rw[ya.l8,bnd,fieldR_eq,e1,qg,zdel,uG]
  cases isZ m e with
  |true=>
   rw[if_neg (by decide),ya.j13,vbQ q _ _ h' (by omega)]; rfl
  |false=>
   rw[if_pos (by decide),xK (by omega),qg,ya.j13,vbQ q _ _ h' (by rw[qi,qG]; omega),qs]; rfl
theorem settled_eq {m:GMessage}{es:List GEntry}{rest:List GRaw}(h:∀ e∈es,e.fTrees≠[])(hl:es.length<100000):ya m ⟨3,0,[],es,rest⟩=some ⟨3,0,[],zdel m es,rest⟩:=by
 have:=vbQ (m:=m) (t:=⟨3,0,[],es,rest⟩) es 0 [] h (by rw[ql]; omega);rw[qx] at this;exact this
theorem fldR_eq {selfV:GSchema→GField→GRaw→Int→Option (GTree×Int)}{s:GSchema}{m:GMessage}{deep:Int}{one:GType→GRaw→GTree×Int}:
 ∀ {l:List GRaw} {es:List GEntry} {rest:List GRaw},(∀ r∈l,(zw m r.fTag).2=true→selfV s (zw m r.fTag).1 r deep=some (one (zw m r.fTag).1.fType r))→es.Pairwise Xv→(∀ e∈es,e.fTrees≠[]∧e.fTrees.length≤64)→es.length+l.length<100000→rest.length+l.length<100000→
 zL.l selfV s m deep l es rest=some (fldD m one l es rest)
 |[],es,rest,_,_,he,hn,hn'=>by
  rw[zL.l,XL (by simp only[ql] at hn'; omega),qg,settled_eq (fun e h=>(he e h).1) (by simp only[ql] at hn; omega),qg,fldD]
 |r::l,es,rest,ho,hs,he,hn,hn'=>by
  rw[qj] at hn hn'
  have ho':∀ r∈l,(zw m r.fTag).2=true→selfV s (zw m r.fTag).1 r deep=some (one (zw m r.fTag).1.fType r):=fun x hx=>ho x (qm _ hx)
  rw[zL.l,bnd,fldD,fieldR_eq]
  by_cases hf:(zw m r.fTag).2=true
  · obtain⟨hft,_⟩:=YP hf;rw[if_pos hf,if_pos hf,ho r (qn ..) hf,qg]
    by_cases h0:(one (zw m r.fTag).1.fType r).2=0
    · rw[if_pos h0,if_pos h0,ref12_put_eq hs (by omega) (fun e h=>by have:=(he e h).2; omega),qg,hft]
      by_cases hp:putN r.fTag ((zw m r.fTag).1.fLabel=3) es≤64
      · rw[if_pos hp,if_pos (decide_eq_true hp)];refine fldR_eq (es:=vaM r.fTag ((zw m r.fTag).1.fLabel=3) (one (zw m r.fTag).1.fType r).1 es) ho' (vag hs) ?_ (by have:=putE_len (t:=r.fTag) (rep:=(zw m r.fTag).1.fLabel=3) (x:=(one (zw m r.fTag).1.fType r).1) (es:=es); omega) (by omega)
        intro e h
        rcases putE_all h with h|⟨h1,h2,h3⟩
        · exact he e h
        exact⟨h3,by omega⟩
      rw[if_neg hp,if_neg (by simpa using hp)]; rfl
    rw[if_neg h0,if_neg h0]; rfl
  rw[if_neg hf,if_neg hf,xK (by omega),qg];exact fldR_eq ho' hs he (by omega) (by rw[qi,qG]; omega)
theorem Xx {s:GSchema}(hk:kindsS s):∀ (d k:Nat) (m:GMessage) (b:List UInt8) (deep:Int),kindsM m→d+1≤10→deep=10-d→2*d+3≤k→zL k s m b deep=some (decM s (d+1) m b)
 |d,0,m,b,deep,_,_,_,h=>by omega
 |d,k+1,m,b,deep,hm,h10,hd,hkk=>by
  rw[zL,zL.body,ref04_Get_eq,getD_eq,qg,decM]
  by_cases h0:(getD b).2=0
  · rw[if_pos h0,if_pos h0];obtain⟨hb,hl,hok⟩:=getD_ok h0
    have hlen:(getD b).1.length<100000:=by
     have:=XZ (getD b).1
     rw[← hb] at this; omega
    refine fldR_eq ?_ List.Pairwise.nil (fun _ h=>by cases h) (by rw[ql]; omega) (by rw[ql]; omega)
    intro r hr hf
    obtain⟨k',rfl⟩:∃ k',k=k'+1:=⟨k-1,by omega⟩
    rw[xL];have hc:=(ZJ (hok r hr).1).2.2
    have hbl:r.fB.length≤4096:=by
     rcases hc with ⟨_,hc⟩|⟨_,_,hc⟩
     · rw[hc]; decide
     exact hc
    refine value12_eq (hm _ (YP hf).2) (by rcases hc with hc|hc; exact Or.inl hc.1; exact Or.inr hc.1) hbl (by omega) (by omega) (fun h=>?_) (fun h=>?_)
    · obtain rfl:d=0:=by omega
      rfl
    obtain⟨d',rfl⟩:∃ d',d=d'+1:=⟨d-1,by omega⟩
    exact Xx hk d' k' _ _ _ (kinds_msg hk _) (by omega) (by omega) (by omega)
  rw[if_neg h0,if_neg h0]; rfl
theorem vbY {s:GSchema}(hs:nmS s)(hn:nm3 s)(n b:List UInt8):wy s n b=xw s n b:=by
 rw[wy,check07_eq hn,xw,vck hs,qg,qg]
 by_cases hc:chkV s=0
 · have hck:zx s=some 0:=by rw[vck hs,hc]
   have hk:=kindsS_of hck;have hm:=kinds_msg hk n;unfold vaT at hm;rw[if_pos hc,if_pos hc,bnd,bnd,vb5];rw[Xx hk 9 rounds _ b 1 hm (by decide) rfl (by have:=yF; omega),ZY s 10 rounds _ b 1 (qv _) rfl (by have:=yF; omega)]
 rw[if_neg hc,if_neg hc]
end
section
set_option maxRecDepth 4000
open AM
def dsT : Nat→GTree→Prop
 |0,t=>ownS t∧kids t=[]
 |d+1,t=>ownS t∧∀ x∈kids t,dsT d x
theorem dsT_sz : ∀ (d:Nat) (t:GTree),dsT d t→szT d t
 |0,_,h=>h.1
 |d+1,_,h=>⟨h.1,fun x hx=>dsT_sz d x (h.2 x hx)⟩
theorem leaf_ds {k n:Int}{a:List UInt8}(hn:In64 n):∀ d,dsT d ⟨k,n,a,[],[]⟩
 |0=>⟨⟨hn,uq _,fun r hr=>by cases hr⟩,rfl⟩
 |d+1=>⟨⟨hn,uq _,fun r hr=>by cases hr⟩,fun x hx=>by cases hx⟩
theorem Xe (d:Nat):dsT d zTree:=leaf_ds in0 d
theorem one_ds {msg:GMessage→List UInt8→GTree×Int}{s:GSchema}{y:GType}{r:GRaw}{d:Nat}(hm:∀ m b,dsT d (msg m b).1)(hr:In64 r.fN):dsT d (oneD msg s y r).1:=by
 unfold oneD
 repeat' split
 all_goals first|exact Xe d|exact leaf_ds hr d|exact leaf_ds in0 d|exact hm _ _
theorem putE_ds {P:GTree→Prop}{t:Int}{rep:Prop} [Decidable rep]{x:GTree}(hx:P x):∀ {es:List GEntry},(∀ e∈es,∀ z∈e.fTrees,P z)→∀ e∈vaM t rep x es,∀ z∈e.fTrees,P z
 |[],_,e,he,z,hz=>by
  rw[vaM,ut] at he; subst he
  rw[Yr,ut] at hz; subst hz; exact hx
 |a::es,h,e,he,z,hz=>by
  have h':∀ e∈es,∀ z∈e.fTrees,P z:=fun b hb=>h b (qm _ hb)
  rw[vaM] at he
  split at he
  · rcases qB.1 he with rfl|he
    · exact h _ (qn ..) z hz
    exact putE_ds hx h' e he z hz
  split at he
  · rcases qB.1 he with rfl|he
    · rw[Yr] at hz
      rcases ug.1 hz with hz|hz
      · split at hz
        · exact h a (qn ..) z hz
        cases hz
      rw[ut] at hz; subst hz; exact hx
    exact h' e he z hz
  rcases qB.1 he with rfl|he
  · rw[Yr,ut] at hz; subst hz; exact hx
  exact h e he z hz
theorem fld_ds {m:GMessage}{one:GType→GRaw→GTree×Int}{d:Nat}:∀ (l:List GRaw) (es:List GEntry) (rest:List GRaw),(∀ r∈l,In64 r.fN∧∀ y,dsT d (one y r).1)→(∀ e∈es,∀ z∈e.fTrees,dsT d z)→(∀ r∈rest,In64 r.fN)→rest.length+l.length≤900000→dsT (d+1) (fldD m one l es rest).1
 |[],es,rest,_,he,hr,hn=>by
  rw[fldD];refine⟨⟨in0,?_,fun r h=>hr r (srt_mem.1 h)⟩,fun x hx=>?_⟩
  · show (srt rest).length≤900000
    rw[srt_len]; simpa using hn
  obtain⟨e,hm,hxe⟩:=List.mem_flatMap.1 hx;exact he e (List.mem_filter.1 hm).1 x hxe
 |r::l,es,rest,hl,he,hr,hn=>by
  rw[qj] at hn
  have hl':=fun x hx=>hl x (qm _ hx)
  have h0:=hl r (qn ..);rw[fldD]
  split
  · split
    · split
      · exact fld_ds l _ rest hl' (putE_ds (h0.2 _) he) hr (by omega)
      exact Xe _
    exact Xe _
  exact fld_ds l es _ hl' he (fun x hx=>by
   rcases ug.1 hx with h|h
   · exact hr x h
   rw[ut] at h; subst h; exact h0.1) (by rw[qi,qG]; omega)
theorem decM_ds {s:GSchema}:∀ (d:Nat) (m:GMessage) (b:List UInt8),dsT d (decM s d m b).1
 |0,m,b=>by rw[decM]; exact Xe 0
 |d+1,m,b=>by
  rw[decM]
  by_cases h0:(getD b).2=0
  · obtain⟨hb,hl,hok⟩:=getD_ok h0
    have hlen:(getD b).1.length<100000:=by
     have:=XZ (getD b).1
     rw[← hb] at this; omega
    rw[if_pos h0];exact fld_ds _ [] [] (fun r hr=>⟨(hok r hr).2,fun y=>one_ds (fun m b=>decM_ds d m b) (hok r hr).2⟩) (fun e he=>by cases he) (fun r hr=>by cases hr) (by rw[ql]; omega)
  rw[if_neg h0]; exact Xe _
theorem dec_ds {s:GSchema}{n b:List UInt8}(hs:nmS s):∃ r,xw s n b=some r∧dsT 10 r.1:=by
 by_cases hc:chkV s=0
 · have hck:zx s=some 0:=by rw[vck hs,hc]
   by_cases hm:(zI s n).2=true
   · exact⟨_,decode_eq hck hm,decM_ds 10 _ _⟩
   refine⟨(zTree,14),?_,Xe 10⟩
   rw[xw,hck,qg,if_pos rfl,bnd,if_pos (by simpa using hm)]; rfl
 refine⟨(zTree,1),?_,Xe 10⟩
 rw[xw,vck hs,qg,if_neg hc]; rfl
theorem enc_r {t:GTree}(hz:szT 10 t):∃ r,wd t=some r∧xV t=some r∧r.1.length≤4096:=by
 refine⟨_,Encode_eq hz,vbZ hz,?_⟩
 split
 · cases h:vaD 10 t with
   |none=>exact uq _
   |some b=>exact vci h
 exact uq _
end
section
set_option maxRecDepth 4000
open AM
theorem awakeA : xR=some true:=by decide +kernel
theorem method_l (n:List UInt8):∀ (l:List GMethod) (i j:Int),xq.l4 n l i=xi.l4 n l j
 |[],_,_=>rfl
 |y::l,i,j=>by rw[xq.l4,xi.l4,method_l n l (i+1) (j+1)]
def zPack : GPacket:=⟨0,0,0,0,0,[],0,[]⟩
theorem passR {s:GSchema}{p:GPacket}(hs:nmS s)(hn:nm3 s)(hb:p.fBody.length≤5000):∃ r,yL s p=some r∧xB s p=some r∧r.1.fBody.length≤5000∧(r.2=false→r.1=zPack):=by
 have hM:xq s p.fMethod=xi s p.fMethod:=method_l _ _ _ _;rw[yL,xB,check07_eq hn,vck hs,qg,qg]
 by_cases hc:chkV s=0
 · rw[if_pos hc,if_pos hc,bnd,bnd,hM]
   generalize xi s p.fMethod=r6
   have j8:∀ n,((!r6.2)||((!(decide (p.fKind=3)))&&((!(decide (p.fKind=4)))||(!(decide (p.fErr=0))))))=false→∃ r,yL.j8 s p n=some r∧xB.j8 s p r6 n=some r∧r.1.fBody.length≤5000∧(r.2=false→r.1=zPack):=by
    intro n hq
    obtain⟨r,hr,hd⟩:=dec_ds (n:=n) (b:=p.fBody) hs;obtain⟨r2,h1,h2,hl⟩:=enc_r (dsT_sz 10 _ hd);rw[yL.j8,xB.j8,hq,if_neg uy,Y4 (by omega),qg,qg,vbY hs hn,hr,qg,qg]
    by_cases h0:r.2=0
    · rw[if_pos h0,if_pos h0,h1,h2,qg]
      by_cases h3:r2.2=0
      · rw[if_pos h3]; exact⟨_,rfl,rfl,by dsimp only; omega,fun h=>by cases h⟩
      rw[if_neg h3]; exact⟨_,rfl,rfl,uq _,fun _=>rfl⟩
    rw[if_neg h0,if_neg h0]; exact⟨_,rfl,rfl,uq _,fun _=>rfl⟩
   have skip:∀ n,((!r6.2)||((!(decide (p.fKind=3)))&&((!(decide (p.fKind=4)))||(!(decide (p.fErr=0))))))=true→xB.j8 s p r6 n=some (p,true):=by
    intro n hq
    rw[xB.j8,hq,if_pos rfl]
   have both:∀ x,((!r6.2)||((!(decide (p.fKind=3)))&&((!(decide (p.fKind=4)))||(!(decide (p.fErr=0))))))=x→∃ r,yL.j23 s p r6 x=some r∧(if p.fKind=4 then xB.j8 s p r6 r6.1.fOut else xB.j8 s p r6 r6.1.fIn)=some r∧r.1.fBody.length≤5000∧(r.2=false→r.1=zPack):=by
    intro x hx
    cases x with
    |true=>exact⟨(p,true),by rw[yL.j23,if_pos rfl],by split<;>exact skip _ hx,hb,fun h=>by cases h⟩
    |false=>
     rw[yL.j23,if_neg uy]
     split<;>exact j8 _ hx
   cases hr:r6.2 with
   |true=>
    rw[if_neg (by decide)];exact both _ (by rw[hr,qQ,uJ])
   |false=>
    rw[if_pos (by decide)];exact both _ (by rw[hr,qy,Bool.true_or])
 rw[if_neg hc,if_neg hc]; exact⟨_,rfl,rfl,uq _,fun _=>rfl⟩
end
section
set_option maxRecDepth 4000
open AM
theorem chainR : ∀ (l:List GSchema) (i j:Int) (p:GPacket),(∀ s∈l,nmS s∧nm3 s)→p.fBody.length≤5000→∃ r,y0.l10 l i p true=some r∧law25_ProxyTrees.l24 r l j p=some true
 |[],i,j,p,_,_=>by
  refine⟨(p,true),rfl,?_⟩
  rw[law25_ProxyTrees.l24,if_pos (by simp),awakeA]; rfl
 |s::l,i,j,p,hs,hb=>by
  have hs':=hs s (qn ..);obtain⟨r,h1,h2,hl,hz⟩:=passR (p:=p) hs'.1 hs'.2 hb;obtain⟨q,v⟩:=r;rw[y0.l10,h1,qg]
  cases v with
  |true=>
   obtain⟨r',e1,e2⟩:=chainR l (i+1) (j+1) q (fun x hx=>hs x (qm _ hx)) hl
   dsimp only
   rw[if_neg (by decide)];refine⟨r',e1,?_⟩;rw[law25_ProxyTrees.l24,h2,qg]
   dsimp only
   rw[if_neg (by decide)];exact e2
  |false=>
   have hz':q=zPack:=hz rfl
   dsimp only
   rw[if_pos (by decide)];refine⟨(q,false),rfl,?_⟩;subst hz';rw[law25_ProxyTrees.l24,h2,qg]
   dsimp only
   rw[if_pos (by decide),if_pos (by decide),awakeA]; rfl
theorem schemas_l : ∀ (l:List GSchema) (i:Int) (acc:List GSchema),(∀ s∈l,szS s)→acc.length+l.length≤5→yE.l8 l i acc=some (acc++l)
 |[],i,acc,_,_=>by rw[yE.l8,qz]
 |s::l,i,acc,hs,hl=>by
  rw[qj] at hl
  rw[yE.l8,schema_eq (hs s (qn ..)),qg,xK (by omega),qg,schemas_l l _ _ (fun x hx=>hs x (qm _ hx)) (by rw[qi,qG]; omega),qs]; rfl
theorem ptrees_l11 {a:List GSchema}{m:List UInt8}{b:Bool}{t:GTree}(hs:∀ s∈a,szS s)(ha:a.length≤5)(hz:szT 10 t):∀ (q:List GSchema) (A:List GSchema) (x:Int),a=A++q→(∀ s∈A,nm3 s)→law25_ProxyTrees.l11 a m b t q x=some true
 |[],A,x,e,hA=>by
  obtain⟨r,_,h2,hl⟩:=enc_r hz;rw[qz] at e
  have hn:∀ s∈a,nmS s∧nm3 s:=fun s h=>⟨(hs s h).1,hA s (by rw[← e]; exact h)⟩
  have j16:∀ k:Int,law25_ProxyTrees.j16 a ⟨k,0,0,0,0,m,0,r.1⟩=some true:=by
   intro k
   obtain⟨r',e1,e2⟩:=chainR a 0 0 ⟨k,0,0,0,0,m,0,r.1⟩ hn (by dsimp only; omega);have h8:=schemas_l a 0 [] hs (by rw[ql]; omega);rw[qx] at h8;rw[law25_ProxyTrees.j16,yE,h8,qg,y0,e1,qg];exact e2
  rw[law25_ProxyTrees.l11,h2,qg]
  cases b with
  |true=>rw[if_pos rfl]; exact j16 4
  |false=>rw[if_neg (by decide)]; exact j16 3
 |s::q,A,x,e,hA=>by
  have hm:s∈a:=by rw[e]; exact q2 _ (qn ..)
  obtain⟨few,hf⟩:=few_t s;rw[law25_ProxyTrees.l11,hf,qg]
  cases few with
  |false=>rw[if_pos (by rfl),awakeA]; rfl
  |true=>
   rw[if_neg (by decide)]
   refine ptrees_l11 hs ha hz q (A++[s]) _ (by rw[e,qs]; rfl) fun y hy=>?_
   rcases ug.1 hy with h|h
   · exact hA y h
   rw[ut] at h; subst h; exact few_names (hs _ hm).1 hf
theorem ptrees_true {a:List GSchema}{m:List UInt8}{b:Bool}{t:GTree}(hs:∀ s∈a,szS s)(hz:(∀ d,restT d t)→szT 10 t):law25_ProxyTrees a m b t=some true:=by
 rw[law25_ProxyTrees]
 by_cases ha:5<(a.length:Int)
 · rw[if_pos ha,qg,if_pos rfl,awakeA]; rfl
 obtain⟨v,e,h⟩:=Small_t t;rw[if_neg ha,e,qg,qg]
 cases v with
 |false=>rw[if_pos (by rfl),awakeA]; rfl
 |true=>
  rw[if_neg (by decide)];exact ptrees_l11 hs (by omega) (hz fun d=>smT_rest 14 d t (h rfl)) a [] 0 rfl (fun s hs=>by cases hs)
end
section
open Go.ChangeShapes Go.WideShapes Go.ChangeAt Go.RowKit Go.Shelf Go.Lib AM
theorem own : ownKnob Tryz.prog.godebug=none:=by kernel_rfl
theorem laidOut : laidOutB qh=true:=by kernel_rfl
def listed : List (String×DataW Unit):=[("unicode/utf8.acceptRanges",Rows.laid_unicode_utf8_acceptRanges),("unicode/utf8.first",Rows.laid_unicode_utf8_first)]
noncomputable def laidWorld (os:Os):World:=
 let w0:=World.holding qh os ⟨#[],#[],[]⟩
 let put (h:Array Obj) (g:Nat) (cs:Array Value):Array Obj:=h.modify g fun
  |.cells _ t frozen=>.cells cs t frozen
  |o=>o
 let h1:=put w0.heap (utf8Ren.g 3) (Lib.firstTab.map fun z=>Value.int .u8 z).toArray
 let h2:=put h1 (utf8Ren.g 4) ((uI 16).flatMap fun i=>[Value.int .u8 (Lib.accLo i),Value.int .u8 (Lib.accHi i)]).toArray
 { w0 with heap:=h2 }
theorem laid_met (os:Os)(args:Array Value):laidMet qh listed ((laidWorld os).forCall (fun _ _=>0) ⟨#[],args,[]⟩).memory:=
 (LaidIn.of_run (l:=listed) [0,1] 8 (by kernel_rfl) (by kernel_rfl) (by kernel_rfl) (by kernel_rfl)).met
theorem laid_metH (os:Os)(args:Array Value):laidMetH qh listed ((laidWorld os).forCall (fun _ _=>0) ⟨#[],args,[]⟩).memory:=laid_met os args
theorem firstD : Rows.laid_unicode_utf8_first=Lib.firstData:=by kernel_rfl
theorem acceptD : (Rows.laid_unicode_utf8_acceptRanges:DataW Unit)=Lib.acceptData:=by kernel_rfl
theorem u8types : U8Types qh utf8Ren:=⟨van.t5,van.t119,van.t138,van.t139⟩
theorem glb_of_laid {W:World}(hL:laidMetH qh listed W):Glb W fun b=>b<W.heap.size:=by
 have h':laidMet qh listed W:=hL;have r1:=Lib.laidMet.reads h' (.tail _ (.head _));have r2:=Lib.laidMet.reads h' (.head _);rw[firstD] at r1;rw[acceptD] at r2;have ht:Lib.Utf8Tabs (utf8Ren.g 3) (utf8Ren.g 4) W:=utf8Tabs_of_readsT u8types ⟨by kernel_rfl,by kernel_rfl,by kernel_rfl,by kernel_rfl,by kernel_rfl,by kernel_rfl,by kernel_rfl⟩ r1 r2;obtain⟨t1,t2⟩:=ht
 have lt:∀ {g o:Nat} {v:Value},W.cell? ⟨g,o,none⟩=some v→g<W.heap.size:=by
  intro g o v h
  refine Nat.lt_of_not_le fun hle=>?_
  unfold World.cell? at h;rw[Array.getElem?_eq_none hle] at h;cases h
 refine⟨fun g vs hm=>?_,fun g vs hm i v hv=>?_⟩
 · rcases qB.1 hm with e|hm
   · cases e; exact lt (t1 0 (by decide))
   rcases qB.1 hm with e|hm
   · cases e; exact lt (t2 0 (by decide)).1
   cases hm
 rcases qB.1 hm with e|hm
 · cases e
   have hi:i<256:=by
    have:=(q9.1 hv).1; simpa using this
   rw[List.getElem?_map,List.getElem?_range hi] at hv;cases hv;exact t1 i hi
 rcases qB.1 hm with e|hm
 · cases e
   have hi:i<32:=by
    have:=(q9.1 hv).1; simpa using this
   rw[List.getElem?_map,List.getElem?_range hi] at hv;cases hv;have h1:=t2 (i / 2) (by omega)
   have:i % 2=0∨i % 2=1:=by omega
   rcases this with h|h
   · have e:2*(i / 2)=i:=by omega
     rw[e] at h1
     simp only[h,if_true]; exact h1.1
   have e:2*(i / 2)+1=i:=by omega
   rw[e] at h1
   simp only[h]; exact h1.2
 cases hm
end
section
namespace AM
open Go.RowKit Go.ChangeShapes Go.WideShapes Go.Deep
section
variable {H:Type} {enc:TypeId×Value→H} {P:Program} {w:World} {base:Nat} {spare:Nat→Bool} {held:Bool}
def OpensS (enc:TypeId×Value→H)(P:Program)(w:World)(base:Nat)(spare:Nat→Bool)(held:Bool)(N:Nat)(t:TypeId)(A:List AV→Prop):Prop:=
 ∀ n cs y,DataW.trod enc P w base spare held n t cs=some y→SizeOf.sizeOf y.1<N→(∀ x∈y.1.weights P t,x≤reachBytes)→∃ avs,avs.length=cs.length∧A avs∧∀ i,i<avs.length→VR (Env.start w) (gc avs i) (cs.getD i undef)
variable {N:Nat}
theorem OpensS.mono {t:TypeId}{A B:List AV→Prop}(h:OpensS enc P w base spare held N t A)(k:∀ l,A l→B l):OpensS enc P w base spare held N t B:=fun n cs y hy hN hs=>by
 obtain⟨avs,h1,h2,h3⟩:=h n cs y hy hN hs;exact⟨avs,h1,k _ h2,h3⟩
theorem OpensS.less {t:TypeId}{A:List AV→Prop}(h:OpensS enc P w base spare held (N+1) t A):OpensS enc P w base spare held N t A:=fun n cs y hy hN hs=>h n cs y hy (by omega) hs
theorem Opens.sized {t:TypeId}{A:List AV→Prop}(h:Opens enc P w base spare held t A):OpensS enc P w base spare held N t A:=fun n cs y hy _ _=>h n cs y hy
theorem opensS_string {t:TypeId}(ht:P.underlying t=some .string):OpensS enc P w base spare held N t fun l=>∃ s,l=[.str s]∧s.length≤reachBytes:=by
 intro n cs y hy _ hs
 obtain⟨m,rfl,hy,hl⟩:=DataW.trod_string ht hy;refine⟨[.str m.data.toList],rfl,⟨_,rfl,?_⟩,fun i hi=>by simp at hi; subst hi; exact .str _ _ rfl⟩;have:=hs m.data.toList.length (by subst hy; simp[DataW.weights])
 simpa using this
def tiles (P:Program):List Field→Nat→Nat→Bool
 |[],o,e=>o==e
 |f::l,o,e=>f.offset==o&&tiles P l (o+P.cellsOf f.type) e
theorem tile {cs:List Value}{A:Nat→List AV→Prop}:∀ (l:List Field) (o k e:Nat),tiles P l o e=true→
 (∀ j f,l[j]?=some f→∃ avs:List AV,avs.length=P.cellsOf f.type∧A (k+j) avs∧∀ i,i<avs.length→VR (Env.start w) (gc avs i) (cs.getD (f.offset+i) undef))→
 ∃ parts:List (List AV),parts.length=l.length∧(∀ j,j<l.length→A (k+j) (parts.getD j []))∧o+parts.flatten.length=e∧∀ i,i<parts.flatten.length→VR (Env.start w) (gc parts.flatten i) (cs.getD (o+i) undef)
 |[],o,k,e,h,_=>⟨[],rfl,(fun j hj=>by simp at hj),by simpa [tiles] using h,(fun i hi=>by simp at hi)⟩
 |f::l,o,k,e,h,hA=>by
  simp only[tiles,qo,beq_iff_eq] at h;obtain⟨avs,a1,a2,a3⟩:=hA 0 f rfl
  obtain⟨parts,p1,p2,p3,p4⟩:=tile l (o+P.cellsOf f.type) (k+1) e h.2 fun j g hg=>by
   obtain⟨x,x1,x2,x3⟩:=hA (j+1) g (by simpa using hg);exact⟨x,x1,by rw[show k+1+j=k+(j+1) by omega]; exact x2,x3⟩
  refine⟨avs::parts,by simp[p1],?_,by rw[List.flatten_cons,qi]; omega,?_⟩
  · intro j hj
    cases j with
    |zero=>simpa using a2
    |succ j=>
     have:=p2 j (by simpa using hj);rw[show k+1+j=k+(j+1) by omega] at this
     simpa using this
  intro i hi
  rw[List.flatten_cons] at hi ⊢
  by_cases hlt:i<avs.length
  · have:=a3 i hlt;rw[h.1] at this;rw[gc,qu,qL hlt]
    simpa [gc,qu] using this
  rw[qi] at hi;have:=p4 (i-avs.length) (by omega);rw[show o+P.cellsOf f.type+(i-avs.length)=o+i by omega] at this;rw[gc,qu,um (by omega)]
  simpa [gc,qu] using this
theorem mem_weightsEach {x:Nat}:∀ {ts:List TypeId} {ds:List (DataW H)} (j:Nat) (t:TypeId) (d:DataW H),ts[j]?=some t→ds[j]?=some d→x∈d.weights P t→x∈DataW.weightsEach P ts ds
 |[],_,j,t,d,h,_,_=>by simp at h
 |_::_,[],j,t,d,_,h,_=>by simp at h
 |t'::ts,d'::ds,j,t,d,ht,hd,hx=>by
  rw[DataW.weightsEach,ug]
  cases j with
  |zero=>
   simp at ht hd; subst ht hd; exact Or.inl hx
  |succ j=>exact Or.inr (mem_weightsEach j t d (by simpa using ht) (by simpa using hd) hx)
theorem X8 {x:Nat}{e:TypeId}:∀ {ds:List (DataW H)} {d:DataW H},d∈ds→x∈d.weights P e→x∈DataW.weightsAll P e ds
 |[],_,h,_=>by cases h
 |d'::ds,d,h,hx=>by
  rw[DataW.weightsAll,ug]
  rcases qB.1 h with rfl|h
  · exact Or.inl hx
  exact Or.inr (X8 h hx)
theorem wk {t:TypeId}{fs:Array Field}(ht:P.underlying t=some (.struct fs))(hC:tiles P fs.toList 0 (P.cellsOf t)=true){A:Nat→List AV→Prop}
 (hA:∀ j f,fs[j]?=some f→OpensS enc P w base spare held N f.type (A j)):OpensS enc P w base spare held (N+1) t fun l=>∃ parts:List (List AV),l=parts.flatten∧parts.length=fs.size∧∀ j,j<fs.size→A j (parts.getD j []):=by
 intro n cs y hy hN hs
 obtain⟨ys,n',_,he,hlen,hyl,hf⟩:=DataW.trod_struct ht hy
 have hends:∀ (l:List Field) (o e:Nat),tiles P l o e=true→o≤e∧∀ (j:Nat) (f:Field),l[j]?=some f→f.offset+P.cellsOf f.type≤e:=by
  intro l
  induction l with
  |nil=>intro o e h; simp[tiles] at h; exact⟨by omega,fun j f h=>by simp at h⟩
  |cons f l ih=>
   intro o e h
   simp only[tiles,qo,beq_iff_eq] at h;obtain⟨h1,h2⟩:=ih _ _ h.2;refine⟨by omega,fun j g hg=>?_⟩
   cases j with
   |zero=>simp at hg; subst hg; omega
   |succ j=>exact h2 j g (by simpa using hg)
 obtain⟨parts,p1,p2,p3,p4⟩:=tile (w:=w) (cs:=cs) (A:=A) fs.toList 0 0 (P.cellsOf t) hC fun j f hj=>by
  have hfj:fs[j]?=some f:=by simpa using hj
  have hlt:j<fs.size:=(Array.getElem?_eq_some_iff.1 hfj).1;have h1:=hf j f hfj;rw[q1 (by omega)] at h1;have hend:=(hends _ _ _ hC).2 j f hj;have hm:ys[j]'(by omega)∈ys:=List.getElem_mem _
  have hsz:SizeOf.sizeOf (ys[j]'(by omega)).1<N:=by
   have h2:(ys[j]'(by omega)).1∈ys.map (·.1):=List.mem_map_of_mem hm;have h3:=List.sizeOf_lt_of_mem h2;rw[he] at hN;simp only[DataW.agg.sizeOf_spec] at hN
   omega
  obtain⟨avs,e1,e2,e3⟩:=hA j f hfj _ _ _ h1 hsz fun x hx=>hs x (by
   rw[he,DataW.weights,ht]
   exact mem_weightsEach j f.type _ (by simp[hj]) (by rw[List.getElem?_map,q1 (by omega)]; rfl) hx)
  have hl1:avs.length=P.cellsOf f.type:=by rw[e1,uM,uQ]; omega
  refine⟨avs,hl1,by rw[qq]; exact e2,fun i hi=>?_⟩;have h4:=e3 i hi
  have h5:((cs.drop f.offset).take (P.cellsOf f.type)).getD i undef=cs.getD (f.offset+i) undef:=by
   simp only[qu];rw[List.getElem?_take_of_lt (by omega),List.getElem?_drop]
  rw[h5] at h4; exact h4
 refine⟨parts.flatten,by omega,⟨parts,rfl,by simpa using p1,fun j hj=>?_⟩,fun i hi=>?_⟩
 · have:=p2 j (by simpa using hj)
   rwa [qq] at this
 have:=p4 i hi
 rwa [qq] at this
theorem wA {t e:TypeId}(ht:P.underlying t=some (.slice e))(hpos:0<P.cellsOf e){A:List AV→Prop}(hA:OpensS enc P w base spare held N e A):
 OpensS enc P w base spare held (N+1) t fun l=>∃ es,l=[.ds true (List.flatten es) (qc es) false]∧(∀ x∈es,A x∧x.length=P.cellsOf e)∧es.length*P.bytesOf e≤reachBytes∧es.length≤maxLen:=by
 intro n cs y hy hN hs
 rcases open_slice ht hy with ⟨rfl,_⟩|⟨a,len,cap,m,n',D,Pl,rfl,_,hl,hm,hmm,hye,hi⟩
 · refine⟨[.ds true [] 0 false],rfl,⟨[],by simp,by simp,by simp,by simp⟩,fun i hi=>?_⟩
   simp at hi; subst hi; exact .dsn _
 have hlm:len≤m:=by rw[hmm]; split<;>omega
 have hlen:len*P.bytesOf e≤reachBytes:=by
  have:=hs ((((uI len).map D).length+((uI (m-len)).map fun j=>D (len+j)).length)*P.bytesOf e) (by rw[hye]; simp only[DataW.weights,ht]; exact qn ..);rw[q7,List.length_range] at this;exact ux (q5 _ (Nat.le_add_right _ _)) this
 have each:∀ i,i<len→∃ avs:List AV,avs.length=P.cellsOf e∧A avs∧∀ j,j<avs.length→∃ v,w.cell? ((a.add (i*P.cellsOf e)).add j)=some v∧VR (Env.start w) (gc avs j) v:=by
  intro i hil
  obtain⟨cs',h1,h2⟩:=hi i (by omega);obtain⟨_,hcl,hat⟩:=World.cells?_some h1;have hmem:D i∈(uI len).map D:=List.mem_map_of_mem (List.mem_range.2 hil)
  have hsz:SizeOf.sizeOf (D i)<N:=by
   have h3:=List.sizeOf_lt_of_mem hmem;rw[hye] at hN;simp only[DataW.slice.sizeOf_spec] at hN
   omega
  obtain⟨avs,e1,e2,e3⟩:=hA _ _ _ h2 hsz fun x hx=>hs x (by
   rw[hye]; simp only[DataW.weights,ht]
   exact qm _ (uo _ (X8 hmem hx)))
  refine⟨avs,by omega,e2,fun j hj=>⟨cs'.getD j undef,?_,e3 j hj⟩⟩
  rw[hat j (by omega),qu,q1 (by omega)]; rfl
 obtain⟨g,hg⟩:=Classical.axiomOfChoice (r:=fun (i:Fin len) (avs:List AV)=>avs.length=P.cellsOf e∧A avs∧∀ j,j<avs.length→∃ v,w.cell? ((a.add (i.1*P.cellsOf e)).add j)=some v∧VR (Env.start w) (gc avs j) v) (fun i=>each i.1 i.2)
 have hes:∀ x∈List.ofFn g,A x∧x.length=P.cellsOf e:=by
  intro x hx
  obtain⟨i,rfl⟩:=List.mem_ofFn.1 hx;exact⟨(hg i).2.1,(hg i).1⟩
 refine⟨[.ds true (List.ofFn g).flatten (List.ofFn g).length false],rfl,⟨_,rfl,hes,by simpa using hlen,by simp; omega⟩,fun i hi=>?_⟩
 simp at hi; subst hi
 have hfl:=length_flat (es:=List.ofFn g) (sz:=P.cellsOf e) fun x hx=>(hes x hx).2
 have hsp:(List.ofFn g).flatten.length≠0→a.spot=none:=by
  intro h0
  rw[hfl] at h0
  have hl0:0<len:=by
   rcases Nat.eq_zero_or_pos len with h|h
   · subst h; simp at h0
   exact h
  obtain⟨v,h1,_⟩:=(hg ⟨0,hl0⟩).2.2 0 (by rw[(hg ⟨0,hl0⟩).1]; exact hpos);have:=World.cell?_spot h1
  simpa [Addr.add] using this
 have hcell:∀ k,k<(List.ofFn g).flatten.length→∃ v,w.cell? ⟨a.block,a.off+k,none⟩=some v∧VR (Env.start w) (gc (List.ofFn g).flatten k) v:=by
  intro k hk
  have hs:=hsp (by omega);rw[hfl] at hk;simp only[List.length_ofFn] at hk;have hd:k / P.cellsOf e<len:=Nat.div_lt_of_lt_mul (by rw[Nat.mul_comm]; exact hk);have hmd:k % P.cellsOf e<P.cellsOf e:=Nat.mod_lt _ hpos
  have hsplit:k / P.cellsOf e*P.cellsOf e+k % P.cellsOf e=k:=by rw[Nat.mul_comm]; exact Nat.div_add_mod _ _
  obtain⟨v,h1,h2⟩:=(hg ⟨_,hd⟩).2.2 (k % P.cellsOf e) (by rw[(hg ⟨_,hd⟩).1]; exact hmd);refine⟨v,?_,?_⟩
  · rw[add_spot hs,add_spot rfl] at h1;simp only at h1
    rw[u7,hsplit] at h1; exact h1
  have:=gc_flat (es:=List.ofFn g) (fun x hx=>(hes x hx).2) (k / P.cellsOf e) (k % P.cellsOf e) hmd (by simpa using hd);rw[hsplit] at this
  rw[this]; simpa using h2
 obtain⟨vs,hvs⟩:∃ vs:Nat→Value,∀ k,k<(List.ofFn g).flatten.length→w.cell? ⟨a.block,a.off+k,none⟩=some (vs k)∧VR (Env.start w) (gc (List.ofFn g).flatten k) (vs k):=by
  refine⟨fun k=>(w.cell? ⟨a.block,a.off+k,none⟩).getD undef,fun k hk=>?_⟩;obtain⟨v,h1,h2⟩:=hcell k hk
  simp only[h1,uR]; exact⟨trivial,h2⟩
 show VR (Env.start w) (.ds true _ _ false) (.slice (some a) len cap)
 rw[List.length_ofFn];refine .ds _ _ _ _ a cap vs ?_ ?_ (fun k hk=>(hvs k hk).2) hl (fun h=>by cases h) ?_
 · by_cases h0:(List.ofFn g).flatten.length=0
   · exact .inl (qJ.1 h0)
   exact .inr (hsp h0)
 · by_cases h0:(List.ofFn g).flatten.length=0
   · exact .inl h0
   refine .inr ⟨?_,fun k hk=>(hvs k hk).1⟩;obtain⟨_,h,_⟩:=hcell 0 (by omega);exact cell_lt (a:=⟨a.block,a.off+0,none⟩) h
 unfold maxLen at *; omega
theorem OpensS.arg {t:TypeId}{A:List AV→Prop}(h:∀ N,OpensS enc P w base spare held N t A){v:Value}{d:DataW H}{p:List MemPlace}(hv:DataW.Trod enc P w base spare held t v d p)(hw:∀ x∈d.weights P t,x≤reachBytes)(h1:v.cells.toList=[v]):∃ a,A [a]∧VR (Env.start w) a v:=by
 obtain⟨n,hn⟩:=hv;obtain⟨avs,e1,e2,e3⟩:=h _ _ _ _ hn (qp _) hw;rw[h1] at e1 e3
 match avs,e1 with
 |[a],_=>exact⟨a,e2,by simpa [gc] using e3 0 (by simp)⟩
theorem OpensS.agg {t:TypeId}{A:List AV→Prop}(h:∀ N,OpensS enc P w base spare held N t A){vs:Array Value}{d:DataW H}{p:List MemPlace}(hv:DataW.Trod enc P w base spare held t (.agg vs) d p)(hw:∀ x∈d.weights P t,x≤reachBytes):∃ l,A l∧VR (Env.start w) (.agg l) (.agg vs):=by
 obtain⟨n,hn⟩:=hv;obtain⟨avs,e1,e2,e3⟩:=h _ _ _ _ hn (qp _) hw;refine⟨avs,e2,.agg _ _ (by simpa [Value.cells] using e1.symm) fun i hi=>?_⟩;have:=e3 i hi
 simpa [Value.cells,qu,uE] using this
end
end AM
open AM
theorem YO {α:Type}{e:α→List AV}{p:α→Prop}{es:List (List AV)}(h:∀ x∈es,∃ y:α,x=e y∧p y):∃ zs:List α,es.flatten=zs.flatMap e∧zs.length=es.length∧∀ z∈zs,p z:=by
 induction es with
 |nil=>exact⟨[],rfl,rfl,fun z hz=>by cases hz⟩
 |cons x es ih=>
  obtain⟨zs,h1,h2,h3⟩:=ih fun y hy=>h y (by simp[hy])
  obtain⟨y,rfl,hp⟩:=h x (by simp);refine⟨y::zs,by simp[h1],by simp[h2],fun z hz=>?_⟩
  rcases qB.1 hz with rfl|hz
  · exact hp
  exact h3 z hz
def vbl (n:Int):Prop := -9223372036854775808≤n∧n<9223372036854775808
theorem wf64 {n:Int}(h:(Lit.int .i64 n).wf=true):vbl n:=by
 simp only[Lit.wf,IntKind.min,IntKind.max,IntKind.signed,IntKind.bits,qo,decide_eq_true_eq,if_true] at h
 unfold vbl; omega
section
variable {H:Type} {enc:TypeId×Value→H} {w:World} {base:Nat} {spare:Nat→Bool} {held:Bool} {N:Nat}
theorem w5 : OpensS enc qh w base spare held N 3 fun x=>∃ n,x=[.int .i64 n]∧vbl n:=
 ((opens_int Tryz.underlying3).mono fun x ⟨n,h1,h2⟩=>⟨n,h1,wf64 h2⟩).sized
theorem opens_str : OpensS enc qh w base spare held N 9 fun x=>∃ s,x=[.str s]∧s.length≤140737488351232:=opensS_string Tryz.underlying9
theorem opens_ints (N:Nat):OpensS enc qh w base spare held N 45 fun x=>∃ zs:List Int,x=[AV.ds true (zs.flatMap encI) zs.length false]∧zs.length*8≤140737488351232∧∀ z∈zs,vbl z:=by
 refine ((wA (N:=N) Tryz.underlying45 (by decide +kernel) w5).mono ?_).less;rintro x ⟨es,rfl,h1,h2,_⟩
 obtain⟨l,e1,e2,e3⟩:=YO (e:=encI) (p:=vbl) fun y hy=>(h1 y hy).1
 rw[show Tryz.prog.bytesOf 3=8 by kernel_rfl] at h2;exact⟨l,by rw[e1,e2],by rw[e2]; exact h2,e3⟩
end
end
section
open AM
section
variable {H:Type} {enc:TypeId×Value→H} {w:World} {base:Nat} {spare:Nat→Bool} {held:Bool}
def okRaw (y:GRaw):Prop:=vbl y.fTag∧vbl y.fWire∧vbl y.fN∧y.fB.length≤140737488351232
theorem opens_raw (N:Nat):OpensS enc qh w base spare held N 62 fun x=>∃ y:GRaw,x=encGRaw y∧okRaw y:=by
 refine ((wk (N:=N) (A:=fun j x=>if j<3 then ∃ n,x=[.int .i64 n]∧vbl n else ∃ s,x=[.str s]∧s.length≤140737488351232) Tryz.underlying62 (by decide +kernel) ?_).mono ?_).less
 · intro j f hf
   match j with
   |0=>cases hf; exact w5
   |1=>cases hf; exact w5
   |2=>cases hf; exact w5
   |3=>cases hf; exact opens_str
   |j+4=>simp at hf
 rintro x ⟨parts,rfl,hl,hx⟩;obtain⟨a,e0,w0⟩:=hx 0 (by decide);obtain⟨b,e1,w1⟩:=hx 1 (by decide);obtain⟨c,e2,w2⟩:=hx 2 (by decide);obtain⟨d,e3,w3⟩:=hx 3 (by decide);refine⟨⟨a,b,c,d⟩,?_,w0,w1,w2,w3⟩
 match parts,hl with
 |[p,q,r,s],_=>
  simp only[uX,uY] at e0 e1 e2 e3
  subst e0 e1 e2 e3; rfl
theorem opens_raws (N:Nat):OpensS enc qh w base spare held N 28 fun x=>∃ zs:List GRaw,x=[AV.ds true (zs.flatMap encGRaw) zs.length false]∧zs.length*40≤140737488351232∧∀ y∈zs,okRaw y:=by
 refine ((wA (N:=N) Tryz.underlying28 (by decide +kernel) (opens_raw N)).mono ?_).less;rintro x ⟨es,rfl,h1,h2,_⟩
 obtain⟨l,e1,e2,e3⟩:=YO fun y hy=>(h1 y hy).1
 rw[show Tryz.prog.bytesOf 62=40 by kernel_rfl] at h2;exact⟨l,by rw[e1,e2],by rw[e2]; exact h2,e3⟩
end
end
section
open AM
def okType (y:GType):Prop:=vbl y.fKind∧y.fName.length≤140737488351232
def okField (y:GField):Prop:=y.fName.length≤140737488351232∧vbl y.fTag∧vbl y.fLabel∧okType y.fType
def vau (y:GMessage):Prop:=y.fName.length≤140737488351232∧(y.fFields.length*56≤140737488351232∧∀ v∈y.fFields,okField v)∧(y.fReserved.length*8≤140737488351232∧∀ v∈y.fReserved,vbl v)
def okNamed (y:GNamed):Prop:=y.fName.length≤140737488351232∧vbl y.fN
def Yq (y:GEnumeration):Prop:=y.fName.length≤140737488351232∧(y.fValues.length*24≤140737488351232∧∀ v∈y.fValues,okNamed v)
def vbs (y:GMethod):Prop:=y.fName.length≤140737488351232∧y.fIn.length≤140737488351232∧y.fOut.length≤140737488351232
def okSchema (y:GSchema):Prop:=y.fName.length≤140737488351232∧(y.fMessages.length*64≤140737488351232∧∀ v∈y.fMessages,vau v)∧(y.fEnums.length*40≤140737488351232∧∀ v∈y.fEnums,Yq v)∧(y.fMethods.length*48≤140737488351232∧∀ v∈y.fMethods,vbs v)
section
variable {H:Type} {enc:TypeId×Value→H} {w:World} {base:Nat} {spare:Nat→Bool} {held:Bool}
theorem opens_Type (N:Nat):OpensS enc qh w base spare held N 55 fun x=>∃ y:GType,x=encGType y∧okType y:=by
 refine ((wk (N:=N) (A:=fun j x=>if j=0 then ∃ z:Int,x=[.int .i64 z]∧vbl z else if j=1 then ∃ z:List UInt8,x=[.str z]∧z.length≤140737488351232 else False) Tryz.underlying55 (by decide +kernel) ?_).mono ?_).less
 · intro j f hf
   match j with
   |0=>cases hf; exact w5
   |1=>cases hf; exact opens_str
   |j+2=>simp at hf
 rintro x ⟨parts,rfl,hl,hx⟩;obtain⟨a0,e0,w0⟩:=hx 0 (by decide);obtain⟨a1,e1,w1⟩:=hx 1 (by decide);refine⟨⟨a0,a1⟩,?_,w0,w1⟩
 match parts,hl with
 |[p0,p1],_=>
  simp only[uX,uY] at e0 e1
  subst e0 e1; rfl
theorem opens_Field (N:Nat):OpensS enc qh w base spare held N 57 fun x=>∃ y:GField,x=encGField y∧okField y:=by
 refine ((wk (N:=N) (A:=fun j x=>if j=0 then ∃ z:List UInt8,x=[.str z]∧z.length≤140737488351232 else if j=1 then ∃ z:Int,x=[.int .i64 z]∧vbl z else if j=2 then ∃ z:Int,x=[.int .i64 z]∧vbl z else if j=3 then ∃ z:GType,x=encGType z∧okType z else False) Tryz.underlying57 (by decide +kernel) ?_).mono ?_).less
 · intro j f hf
   match j with
   |0=>cases hf; exact opens_str
   |1=>cases hf; exact w5
   |2=>cases hf; exact w5
   |3=>cases hf; exact opens_Type N
   |j+4=>simp at hf
 rintro x ⟨parts,rfl,hl,hx⟩;obtain⟨a0,e0,w0⟩:=hx 0 (by decide);obtain⟨a1,e1,w1⟩:=hx 1 (by decide);obtain⟨a2,e2,w2⟩:=hx 2 (by decide);obtain⟨a3,e3,w3⟩:=hx 3 (by decide);refine⟨⟨a0,a1,a2,a3⟩,?_,w0,w1,w2,w3⟩
 match parts,hl with
 |[p0,p1,p2,p3],_=>
  simp only[uX,uY] at e0 e1 e2 e3
  subst e0 e1 e2 e3; rfl
theorem opens_Fields (N:Nat):OpensS enc qh w base spare held N 47 fun x=>∃ zs:List GField,x=[AV.ds true (zs.flatMap encGField) zs.length false]∧zs.length*56≤140737488351232∧∀ y∈zs,okField y:=by
 refine ((wA (N:=N) Tryz.underlying47 (by decide +kernel) (opens_Field N)).mono ?_).less;rintro x ⟨es,rfl,h1,h2,_⟩
 obtain⟨l,e1,e2,e3⟩:=YO fun y hy=>(h1 y hy).1
 rw[show Tryz.prog.bytesOf 57=56 by kernel_rfl] at h2;exact⟨l,by rw[e1,e2],by rw[e2]; exact h2,e3⟩
theorem opens_Message (N:Nat):OpensS enc qh w base spare held N 49 fun x=>∃ y:GMessage,x=encGMessage y∧vau y:=by
 refine ((wk (N:=N) (A:=fun j x=>if j=0 then ∃ z:List UInt8,x=[.str z]∧z.length≤140737488351232 else if j=1 then ∃ z:List GField,x=[AV.ds true (qe encGField z) (qc z) false]∧(z.length*56≤140737488351232∧∀ v∈z,okField v) else if j=2 then ∃ z:List Int,x=[AV.ds true (qe encI z) (qc z) false]∧(z.length*8≤140737488351232∧∀ v∈z,vbl v) else False) Tryz.underlying49 (by decide +kernel) ?_).mono ?_).less
 · intro j f hf
   match j with
   |0=>cases hf; exact opens_str
   |1=>cases hf; exact opens_Fields N
   |2=>cases hf; exact opens_ints N
   |j+3=>simp at hf
 rintro x ⟨parts,rfl,hl,hx⟩;obtain⟨a0,e0,w0⟩:=hx 0 (by decide);obtain⟨a1,e1,w1⟩:=hx 1 (by decide);obtain⟨a2,e2,w2⟩:=hx 2 (by decide);refine⟨⟨a0,a1,a2⟩,?_,w0,w1,w2⟩
 match parts,hl with
 |[p0,p1,p2],_=>
  simp only[uX,uY] at e0 e1 e2
  subst e0 e1 e2; rfl
theorem opens_Messages (N:Nat):OpensS enc qh w base spare held N 22 fun x=>∃ zs:List GMessage,x=[AV.ds true (zs.flatMap encGMessage) zs.length false]∧zs.length*64≤140737488351232∧∀ y∈zs,vau y:=by
 refine ((wA (N:=N) Tryz.underlying22 (by decide +kernel) (opens_Message N)).mono ?_).less;rintro x ⟨es,rfl,h1,h2,_⟩
 obtain⟨l,e1,e2,e3⟩:=YO fun y hy=>(h1 y hy).1
 rw[show Tryz.prog.bytesOf 49=64 by kernel_rfl] at h2;exact⟨l,by rw[e1,e2],by rw[e2]; exact h2,e3⟩
theorem opens_Named (N:Nat):OpensS enc qh w base spare held N 86 fun x=>∃ y:GNamed,x=encGNamed y∧okNamed y:=by
 refine ((wk (N:=N) (A:=fun j x=>if j=0 then ∃ z:List UInt8,x=[.str z]∧z.length≤140737488351232 else if j=1 then ∃ z:Int,x=[.int .i64 z]∧vbl z else False) Tryz.underlying86 (by decide +kernel) ?_).mono ?_).less
 · intro j f hf
   match j with
   |0=>cases hf; exact opens_str
   |1=>cases hf; exact w5
   |j+2=>simp at hf
 rintro x ⟨parts,rfl,hl,hx⟩;obtain⟨a0,e0,w0⟩:=hx 0 (by decide);obtain⟨a1,e1,w1⟩:=hx 1 (by decide);refine⟨⟨a0,a1⟩,?_,w0,w1⟩
 match parts,hl with
 |[p0,p1],_=>
  simp only[uX,uY] at e0 e1
  subst e0 e1; rfl
theorem opens_Nameds (N:Nat):OpensS enc qh w base spare held N 82 fun x=>∃ zs:List GNamed,x=[AV.ds true (zs.flatMap encGNamed) zs.length false]∧zs.length*24≤140737488351232∧∀ y∈zs,okNamed y:=by
 refine ((wA (N:=N) Tryz.underlying82 (by decide +kernel) (opens_Named N)).mono ?_).less;rintro x ⟨es,rfl,h1,h2,_⟩
 obtain⟨l,e1,e2,e3⟩:=YO fun y hy=>(h1 y hy).1
 rw[show Tryz.prog.bytesOf 86=24 by kernel_rfl] at h2;exact⟨l,by rw[e1,e2],by rw[e2]; exact h2,e3⟩
theorem vaS (N:Nat):OpensS enc qh w base spare held N 84 fun x=>∃ y:GEnumeration,x=encGEnumeration y∧Yq y:=by
 refine ((wk (N:=N) (A:=fun j x=>if j=0 then ∃ z:List UInt8,x=[.str z]∧z.length≤140737488351232 else if j=1 then ∃ z:List GNamed,x=[AV.ds true (qe encGNamed z) (qc z) false]∧(z.length*24≤140737488351232∧∀ v∈z,okNamed v) else False) Tryz.underlying84 (by decide +kernel) ?_).mono ?_).less
 · intro j f hf
   match j with
   |0=>cases hf; exact opens_str
   |1=>cases hf; exact opens_Nameds N
   |j+2=>simp at hf
 rintro x ⟨parts,rfl,hl,hx⟩;obtain⟨a0,e0,w0⟩:=hx 0 (by decide);obtain⟨a1,e1,w1⟩:=hx 1 (by decide);refine⟨⟨a0,a1⟩,?_,w0,w1⟩
 match parts,hl with
 |[p0,p1],_=>
  simp only[uX,uY] at e0 e1
  subst e0 e1; rfl
theorem vat (N:Nat):OpensS enc qh w base spare held N 23 fun x=>∃ zs:List GEnumeration,x=[AV.ds true (zs.flatMap encGEnumeration) zs.length false]∧zs.length*40≤140737488351232∧∀ y∈zs,Yq y:=by
 refine ((wA (N:=N) Tryz.underlying23 (by decide +kernel) (vaS N)).mono ?_).less;rintro x ⟨es,rfl,h1,h2,_⟩
 obtain⟨l,e1,e2,e3⟩:=YO fun y hy=>(h1 y hy).1
 rw[show Tryz.prog.bytesOf 84=40 by kernel_rfl] at h2;exact⟨l,by rw[e1,e2],by rw[e2]; exact h2,e3⟩
theorem opens_Method (N:Nat):OpensS enc qh w base spare held N 75 fun x=>∃ y:GMethod,x=encGMethod y∧vbs y:=by
 refine ((wk (N:=N) (A:=fun j x=>if j=0 then ∃ z:List UInt8,x=[.str z]∧z.length≤140737488351232 else if j=1 then ∃ z:List UInt8,x=[.str z]∧z.length≤140737488351232 else if j=2 then ∃ z:List UInt8,x=[.str z]∧z.length≤140737488351232 else False) Tryz.underlying75 (by decide +kernel) ?_).mono ?_).less
 · intro j f hf
   match j with
   |0=>cases hf; exact opens_str
   |1=>cases hf; exact opens_str
   |2=>cases hf; exact opens_str
   |j+3=>simp at hf
 rintro x ⟨parts,rfl,hl,hx⟩;obtain⟨a0,e0,w0⟩:=hx 0 (by decide);obtain⟨a1,e1,w1⟩:=hx 1 (by decide);obtain⟨a2,e2,w2⟩:=hx 2 (by decide);refine⟨⟨a0,a1,a2⟩,?_,w0,w1,w2⟩
 match parts,hl with
 |[p0,p1,p2],_=>
  simp only[uX,uY] at e0 e1 e2
  subst e0 e1 e2; rfl
theorem opens_Methods (N:Nat):OpensS enc qh w base spare held N 24 fun x=>∃ zs:List GMethod,x=[AV.ds true (zs.flatMap encGMethod) zs.length false]∧zs.length*48≤140737488351232∧∀ y∈zs,vbs y:=by
 refine ((wA (N:=N) Tryz.underlying24 (by decide +kernel) (opens_Method N)).mono ?_).less;rintro x ⟨es,rfl,h1,h2,_⟩
 obtain⟨l,e1,e2,e3⟩:=YO fun y hy=>(h1 y hy).1
 rw[show Tryz.prog.bytesOf 75=48 by kernel_rfl] at h2;exact⟨l,by rw[e1,e2],by rw[e2]; exact h2,e3⟩
theorem opens_Schema (N:Nat):OpensS enc qh w base spare held N 26 fun x=>∃ y:GSchema,x=encGSchema y∧okSchema y:=by
 refine ((wk (N:=N) (A:=fun j x=>if j=0 then ∃ z:List UInt8,x=[.str z]∧z.length≤140737488351232 else if j=1 then ∃ z:List GMessage,x=[AV.ds true (qe encGMessage z) (qc z) false]∧(z.length*64≤140737488351232∧∀ v∈z,vau v) else if j=2 then ∃ z:List GEnumeration,x=[AV.ds true (qe encGEnumeration z) (qc z) false]∧(z.length*40≤140737488351232∧∀ v∈z,Yq v) else if j=3 then ∃ z:List GMethod,x=[AV.ds true (qe encGMethod z) (qc z) false]∧(z.length*48≤140737488351232∧∀ v∈z,vbs v) else False) Tryz.underlying26 (by decide +kernel) ?_).mono ?_).less
 · intro j f hf
   match j with
   |0=>cases hf; exact opens_str
   |1=>cases hf; exact opens_Messages N
   |2=>cases hf; exact vat N
   |3=>cases hf; exact opens_Methods N
   |j+4=>simp at hf
 rintro x ⟨parts,rfl,hl,hx⟩;obtain⟨a0,e0,w0⟩:=hx 0 (by decide);obtain⟨a1,e1,w1⟩:=hx 1 (by decide);obtain⟨a2,e2,w2⟩:=hx 2 (by decide);obtain⟨a3,e3,w3⟩:=hx 3 (by decide);refine⟨⟨a0,a1,a2,a3⟩,?_,w0,w1,w2,w3⟩
 match parts,hl with
 |[p0,p1,p2,p3],_=>
  simp only[uX,uY] at e0 e1 e2 e3
  subst e0 e1 e2 e3; rfl
theorem opens_Schemas (N:Nat):OpensS enc qh w base spare held N 70 fun x=>∃ zs:List GSchema,x=[AV.ds true (zs.flatMap encGSchema) zs.length false]∧zs.length*88≤140737488351232∧∀ y∈zs,okSchema y:=by
 refine ((wA (N:=N) Tryz.underlying70 (by decide +kernel) (opens_Schema N)).mono ?_).less;rintro x ⟨es,rfl,h1,h2,_⟩
 obtain⟨l,e1,e2,e3⟩:=YO fun y hy=>(h1 y hy).1
 rw[show Tryz.prog.bytesOf 26=88 by kernel_rfl] at h2;exact⟨l,by rw[e1,e2],by rw[e2]; exact h2,e3⟩
end
end
section
open AM
section
variable {H:Type} {enc:TypeId×Value→H} {w:World} {base:Nat} {spare:Nat→Bool} {held:Bool}
end
theorem szS_of {s:GSchema}(h:okSchema s):szS s:=
 ⟨⟨h.1,fun m hm=>⟨(h.2.1.2 m hm).1,fun f hf=>((h.2.1.2 m hm).2.1.2 f hf).1⟩,fun e he=>⟨(h.2.2.1.2 e he).1,fun v hv=>((h.2.2.1.2 e he).2.2 v hv).1⟩,fun x hx=>(h.2.2.2.2 x hx).1⟩,
  h.2.1.1,h.2.2.1.1,h.2.2.2.1,fun m hm=>⟨(h.2.1.2 m hm).2.1.1,(h.2.1.2 m hm).2.2.1⟩,fun e he=>(h.2.2.1.2 e he).2.1⟩
end
section
open AM
def okOwn (y:GTree):Prop:=vbl y.fKind∧vbl y.fN∧y.fS.length≤140737488351232∧(y.fEntries.length*32≤140737488351232∧∀ e∈y.fEntries,vbl e.fTag∧e.fTrees.length*80≤140737488351232)∧(y.fRest.length*40≤140737488351232∧∀ r∈y.fRest,okRaw r)
def okDeep : Nat→GTree→Prop
 |0,t=>okOwn t
 |d+1,t=>okOwn t∧∀ x∈kids t,okDeep d x
def okTree (t:GTree):Prop:=∀ d,okDeep d t
def okEntry (e:GEntry):Prop:=vbl e.fTag∧e.fTrees.length*80≤140737488351232∧∀ x∈e.fTrees,okTree x
section
variable {H:Type} {enc:TypeId×Value→H} {w:World} {base:Nat} {spare:Nat→Bool} {held:Bool}
theorem opens_Entry {N:Nat}(ih:OpensS enc qh w base spare held N 30 fun x=>∃ y:GTree,x=encGTree y∧okTree y):OpensS enc qh w base spare held N 92 fun x=>∃ y:GEntry,x=encGEntry y∧okEntry y:=by
 have ts:OpensS enc qh w base spare held N 90 fun x=>∃ zs:List GTree,x=[AV.ds true (zs.flatMap encGTree) zs.length false]∧zs.length*80≤140737488351232∧∀ y∈zs,okTree y:=by
  refine ((wA (N:=N) Tryz.underlying90 (by decide +kernel) ih).mono ?_).less;rintro x ⟨es,rfl,h1,h2,_⟩
  obtain⟨l,e1,e2,e3⟩:=YO fun y hy=>(h1 y hy).1
  rw[show Tryz.prog.bytesOf 30=80 by kernel_rfl] at h2;exact⟨l,by rw[e1,e2],by rw[e2]; exact h2,e3⟩
 refine ((wk (N:=N) (A:=fun j x=>if j=0 then ∃ z:Int,x=[.int .i64 z]∧vbl z else ∃ zs:List GTree,x=[AV.ds true (zs.flatMap encGTree) zs.length false]∧zs.length*80≤140737488351232∧∀ y∈zs,okTree y) Tryz.underlying92 (by decide +kernel) ?_).mono ?_).less
 · intro j f hf
   match j with
   |0=>cases hf; exact w5
   |1=>cases hf; exact ts
   |j+2=>simp at hf
 rintro x ⟨parts,rfl,hl,hx⟩;obtain⟨a0,e0,w0⟩:=hx 0 (by decide);obtain⟨a1,e1,w1⟩:=hx 1 (by decide);refine⟨⟨a0,a1⟩,?_,w0,w1⟩
 match parts,hl with
 |[p0,p1],_=>
  simp only[uX,uY] at e0 e1
  subst e0 e1; rw[zS]; rfl
theorem opens_Tree : ∀ N:Nat,OpensS enc qh w base spare held N 30 fun x=>∃ y:GTree,x=encGTree y∧okTree y
 |0=>fun n cs y hy hN hs=>absurd hN (Nat.not_lt_zero _)
 |N+1=>by
  have es:OpensS enc qh w base spare held N 27 fun x=>∃ zs:List GEntry,x=[AV.ds true (zs.flatMap encGEntry) zs.length false]∧zs.length*32≤140737488351232∧∀ y∈zs,okEntry y:=by
   refine ((wA (N:=N) Tryz.underlying27 (by decide +kernel) (opens_Entry (opens_Tree N))).mono ?_).less;rintro x ⟨es,rfl,h1,h2,_⟩
   obtain⟨l,e1,e2,e3⟩:=YO fun y hy=>(h1 y hy).1
   rw[show Tryz.prog.bytesOf 92=32 by kernel_rfl] at h2;exact⟨l,by rw[e1,e2],by rw[e2]; exact h2,e3⟩
  refine ((wk (N:=N) (A:=fun j x=>if j<2 then ∃ z:Int,x=[.int .i64 z]∧vbl z else if j=2 then ∃ z:List UInt8,x=[.str z]∧z.length≤140737488351232 else if j=3 then ∃ zs:List GEntry,x=[AV.ds true (zs.flatMap encGEntry) zs.length false]∧zs.length*32≤140737488351232∧∀ y∈zs,okEntry y else ∃ zs:List GRaw,x=[AV.ds true (zs.flatMap encGRaw) zs.length false]∧zs.length*40≤140737488351232∧∀ y∈zs,okRaw y) Tryz.underlying30 (by decide +kernel) ?_).mono ?_)
  · intro j f hf
    match j with
    |0=>cases hf; exact w5
    |1=>cases hf; exact w5
    |2=>cases hf; exact opens_str
    |3=>cases hf; exact es
    |4=>cases hf; exact opens_raws N
    |j+5=>simp at hf
  rintro x ⟨parts,rfl,hl,hx⟩;obtain⟨a0,e0,w0⟩:=hx 0 (by decide);obtain⟨a1,e1,w1⟩:=hx 1 (by decide);obtain⟨a2,e2,w2⟩:=hx 2 (by decide);obtain⟨a3,e3,w3,w3'⟩:=hx 3 (by decide);obtain⟨a4,e4,w4⟩:=hx 4 (by decide);have own:okOwn (⟨a0,a1,a2,a3,a4⟩:GTree):=⟨w0,w1,w2,⟨w3,fun e he=>⟨(w3' e he).1,(w3' e he).2.1⟩⟩,w4⟩;refine⟨⟨a0,a1,a2,a3,a4⟩,?_,fun d=>?_⟩
  · match parts,hl with
    |[p0,p1,p2,p3,p4],_=>
     simp only[uX,uY] at e0 e1 e2 e3 e4
     subst e0 e1 e2 e3 e4; rw[yU]; rfl
  cases d with
  |zero=>exact own
  |succ d=>
   refine⟨own,fun x hx=>?_⟩;obtain⟨e,he,hxe⟩:=List.mem_flatMap.1 hx;exact (w3' e he).2.2 x hxe d
theorem opens_Tree' (N:Nat):OpensS enc qh w base spare held N 30 fun x=>∃ y:GTree,x=cellsGTree y∧okTree y:=(opens_Tree N).mono fun x ⟨y,h1,h2⟩=>⟨y,by rw[h1,yU],h2⟩
end
theorem szT_of : ∀ (d:Nat) (t:GTree),okDeep d t→(∀ e,restT e t)→szT d t
 |0,t,h,hr=>⟨h.2.1,ux (hr 0) (by decide),fun r hm=>(h.2.2.2.2.2 r hm).2.2.1⟩
 |d+1,t,h,hr=>⟨⟨h.1.2.1,ux (hr 1).1 (by decide),fun r hm=>(h.1.2.2.2.2.2 r hm).2.2.1⟩,fun x hx=>szT_of d x (h.2 x hx) fun e=>(hr (e+1)).2 x hx⟩
end
end Go.Proofs.YtaddlmlpeghonaaGreatDoor
