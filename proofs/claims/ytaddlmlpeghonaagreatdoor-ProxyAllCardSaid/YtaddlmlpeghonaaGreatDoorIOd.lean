/- Parts of the proof, cut down to what it needs. -/
import Derived.Test.YtaddlmlpeghonaaGreatDoorISs
import Derived.Test.YtaddlmlpeghonaaGreatDoorIFA
import Derived.Test.YtaddlmlpeghonaaGreatDoorRows
import Derived.Test.YtaddlmlpeghonaaGreatDoorChecked
import Derived.Test.YtaddlmlpeghonaaGreatDoorTie
import Derived.ProofKit
import Derived.OpenShut
import Derived.ShutString
import Derived.ChangeOld
import Derived.ChangeSame
import Derived.ChangeVars
import Derived.JoinedOf
import Derived.RowKit
import Derived.LaidLaws
import Derived.LaidHandle
import Derived.Lib.LaidIn
import Derived.Lib.LaidU8T
import Derived.SevenTiedAt
set_option linter.constructorNameAsVariable false
set_option linter.unusedSimpArgs false
set_option linter.unusedVariables false
namespace Go.Proofs.YtaddlmlpeghonaaGreatDoor
open _root_.List renaming length → qc, flatMap → qe, length_append → qi, length_cons → qj, length_nil → ql, mem_cons_of_mem → qm, mem_cons_self → qo, append_assoc → qq, getD_eq_getElem?_getD → qt, nil_append → qw, map_nil → qx, append_nil → qz, mem_cons → qA, length_singleton → qC, cons_append → qD, length_eq_zero_iff → qF, getElem?_append_left → qH, drop_zero → qI, map_cons → qJ, map_append → qK, replicate → qM, flatMap_cons → qN, flatMap_append → qQ, range_zero → qS, getElem?_set_ne → qT, all_cons → qV, getElem?_eq_getElem → qW, range_succ → qZ, mem_append_right → q1, length_map → q2, getElem?_eq_some_iff → q3, mem_map → ua, all_nil → ub, all_eq_true → ue, mem_append → uh, take_length → ui, set_cons_zero → uk, take_of_length_le → ul, getElem?_append_right → um, flatMap_nil → un, mem_append_left → uo, take_append_drop → ut, set_cons_succ → uu, pairwise_cons → uv, mem_singleton → uw, getElem?_set_self → ux, nodup_cons → uy, getElem?_eq_none → uz, length_set → uC, filter_cons → uF, range → uH, getElem?_cons_zero → uJ, getElem?_cons_succ → uK, length_take → uL, drop_eq_getElem_cons → uO, length_drop → uQ, reverse_cons → uZ, set → u0, eq_nil_of_length_eq_zero → u4, drop_drop → u7
open _root_.Option renaming bind_some → qg, map_some → uE, getD_some → uR
open _root_.Nat renaming reduceEqDiff → qa, reduceLT → qb, reduceAdd → qd, reduceLeDiff → qf, lt_succ_self → qr, zero_add → qs, le_refl → qu, reduceMul → qv, reduceSub → qO, mul_le_mul_right → qY, reduceMod → q9, lt_of_lt_of_le → uj, zero_le → uq, le_trans → uA, zero_mul → uG, sub_self → uN, sub_zero → uP, succ_mul → uU, add_zero → uV, add_mul → uX, lt_or_ge → u3, add_assoc → u5
open _root_.Bool renaming and_eq_true → qn, not_false → qE, or_eq_true → qG, and_self → qP, or_true → qU, not_true → qX, and_true → q7, false_eq_true → uc, or_false → ud, and_false → uf, true_and → uB, false_or → uI, false_ne_true → uM, not_eq_true' → uS
open _root_.Int renaming toNat → qB, toNat_natCast → qR, reduceEq → uW, le_refl → u6
open _root_.BitVec renaming ofInt → qy, toNat → ur
open _root_.Array renaming length_toList → ug, getD_eq_getD_getElem? → uD, getElem?_eq_getElem → uT, getElem?_setIfInBounds_ne → uY, getElem?_modify → u9
open _root_.UInt8 renaming ofNat → q5
open Result renaming andThen_ok → qk
open Sem renaming run_bind → qp, run_pure → qL
open _root_.Go.Proofs.Tryz renaming prog → qh
section
set_option maxRecDepth 4000
open AM
theorem bub_over {x:GEntry}{C:List GEntry}:∀ {A B:List GEntry},(∀ a∈A,x.fTag<a.fTag)→Zw x (A++C) B=Zw x C (A.reverse++B)
 |[],_,_=>rfl
 |a::A,B,h=>by
  rw[qD,Zw,if_pos (h a (qo ..)),bub_over fun b hb=>h b (qm _ hb),uZ,qq]; rfl
theorem bub_stop {x:GEntry}{C B:List GEntry}(h:∀ a∈C,¬ x.fTag<a.fTag):Zw x C B=C.reverse++x::B:=by
 cases C with
 |nil=>rfl
 |cons a C=>rw[Zw,if_neg (h a (qo ..))]
theorem putL_miss {f:GField}{x:GTree}:∀ (q pre:List GEntry),(∀ e∈q,e.fTag≠f.fTag)→(pre++q).length<1000000→wy f x pre q=some (Zw ⟨f.fTag,[x]⟩ (pre++q).reverse [],true)
 |[],pre,_,h=>by
  rw[qz] at h ⊢;rw[wy,xK (by omega),qg]
 |e::q,pre,hq,h=>by
  rw[wy,if_neg (hq e (qo ..)),putL_miss q (pre++[e]) (fun a ha=>hq a (qm _ ha)) (by rw[qq]; exact h),qq]; rfl
theorem putL_hit {f:GField}{x:GTree}{b:GEntry}{B:List GEntry}(hb:b.fTag=f.fTag)(hl:b.fTrees.length<1000000):∀ (A pre:List GEntry),(∀ a∈A,a.fTag≠f.fTag)→wy f x pre (A++b::B)=some (pre++A++⟨f.fTag,(if f.fLabel=3 then b.fTrees else [])++[x]⟩::B,decide ((if f.fLabel=3 then b.fTrees.length else 0)+1≤64))
 |[],pre,_=>by
  rw[qw,wy,if_pos hb,qz]
  by_cases h3:f.fLabel=3
  · rw[if_pos h3,if_pos h3,if_pos h3,xK (by omega),qg,hb]
    congr 2
    refine decide_eq_decide.2 ?_
    rw[qi,qC]; omega
  rw[if_neg h3,if_neg h3,if_neg h3,hb]; rfl
 |a::A,pre,hA=>by
  rw[qD,wy,if_neg (hA a (qo ..)),putL_hit hb hl A (pre++[a]) (fun z hz=>hA z (qm _ hz)),qq pre]; rfl
theorem ref12_put_eq {es:List GEntry}{f:GField}{x:GTree}(hs:es.Pairwise Xr)(hn:es.length<1000000)(ht:∀ e∈es,e.fTrees.length<1000000):
 XH es f x=some (vaJ f.fTag (f.fLabel=3) x es,decide (putN f.fTag (f.fLabel=3) es≤64)):=by
 obtain⟨A,B,rfl,hA,hB⟩:=splitE f.fTag hs;rw[XH,putE_app hA,putN_app hA]
 have miss:(∀ b∈B,f.fTag<b.fTag)→wy f x [] (A++B)=some (A++⟨f.fTag,[x]⟩::B,true):=by
  intro hB'
  rw[putL_miss (A++B) [] (fun e he=>?_) (by rw[qw]; exact hn),qw,List.reverse_append,bub_over (x:=⟨f.fTag,[x]⟩) (fun a ha=>by rw[ge_tag]; exact hB' a (List.mem_reverse.1 ha)),bub_stop (fun a ha=>?_),List.reverse_reverse,List.reverse_reverse,qz]
  · have:=hA a (List.mem_reverse.1 ha); simp only[ge_tag]; omega
  rcases uh.1 he with he|he
  · have:=hA e he; omega
  have:=hB' e he; omega
 cases B with
 |nil=>rw[miss (fun b hb=>by cases hb)]; rfl
 |cons b B=>
  have hb:=hB b (qo ..)
  by_cases hbt:b.fTag=f.fTag
  · rw[putL_hit hbt (ht b (q1 _ (qo ..))) A [] (fun a ha=>by have:=hA a ha; omega),vaJ,if_neg (show ¬ b.fTag<f.fTag by omega),if_pos hbt,putN,if_neg (show ¬ b.fTag<f.fTag by omega),if_pos hbt]; rfl
  have hs':=(List.pairwise_append.1 hs).2.1;rw[uv] at hs'
  rw[miss (fun c hc=>by
   rcases qA.1 hc with rfl|hc
   · omega
   have:=hs'.1 c hc; unfold Xr at this; omega),vaJ,if_neg (by omega),if_neg hbt,putN,if_neg (by omega),if_neg hbt]; rfl
theorem fieldR_l (t:Int):∀ (l:List GField) (i j:Int),yL.l4 t l i=zw.l4 t l j
 |[],_,_=>rfl
 |y::l,i,j=>by rw[yL.l4,zw.l4,fieldR_l t l (i+1) (j+1)]
theorem fieldR_eq (m:GMessage)(t:Int):yL m t=zw m t:=fieldR_l t _ _ _
theorem vb3 (s:GSchema)(n:List UInt8):yb s n=zG s n:=vas n _ _ _
theorem refstep {acc i:Nat}{y:UInt8}(hi:i≤9)(ha:acc<2^(7*i))(h9:i=9→y.toNat≤1):IntKind.u64.wrap ((acc:Int)+(IntKind.u64.wrap ((IntKind.u64.wrap (((y.toNat:Int)).tmod 128))*2^(min (qB (IntKind.u64.wrap (IntKind.i64.wrap (7*(i:Int))))) 64))))=((acc+(y.toNat % 128)*2^(7*i):Nat):Int):=by
 have hb:=(stepv (y:=y) hi ha h9).2.1;have hy:y.toNat<256:=y.toNat_lt
 have e:IntKind.i64.wrap (7*(i:Int))=((7*i:Nat):Int):=by rw[yu (by omega) (by omega)]; omega
 have em:((y.toNat:Nat):Int).tmod 128=((y.toNat % 128:Nat):Int):=by rw[Int.tmod_eq_emod_of_nonneg (by omega)]; omega
 have hc:((((y.toNat % 128:Nat):Int))*2^(7*i))=(((y.toNat % 128)*2^(7*i):Nat):Int):=by
  rw[Int.natCast_mul,Int.natCast_pow]; rfl
 rw[e,em,u64w (n:=7*i) (by omega),qR,Nat.min_eq_left (by omega),u64w (n:=y.toNat % 128) (by omega),hc,u64w (n:=y.toNat % 128*2^(7*i)) (by omega),← Int.natCast_add,u64w hb]
theorem vb0 {b:List UInt8}{n:Nat}(hb:b.length≤4096)(hn:n≤b.length):∀ (k i acc:Nat),i≤9→9<k+i→acc<2^(7*i)→xU.l10 b (n:Int) k (acc:Int) (i:Int)=xw.l12 (n:Int) ((b.drop (n+i)).take (10-i)) (i:Int) (acc:Int)
 |0,i,_,_,_,_=>by omega
 |k+1,i,acc,hi,hk,ha=>by
  rw[xU.l10,if_pos (by omega),yu (x:=(b.length:Int)-n) (by omega) (by omega)]
  by_cases h:n+i<b.length
  · have e:(b.drop (n+i)).take (10-i)=b[n+i]::(b.drop (n+i+1)).take (9-i):=by
     rw[uO h,show 10-i=(9-i)+1 by omega,List.take_succ_cons]
    rw[e,if_neg (by omega),yu (x:=(n:Int)+i) (by omega) (by omega),show (n:Int)+(i:Int)=((n+i:Nat):Int) by omega,Xv h,qg,xw.l12]
    generalize b[n+i]=y
    have hy:y.toNat<256:=y.toNat_lt
    by_cases h9:((decide ((i:Int)=9))&&(decide (1<(y.toNat:Int))))=true
    · rw[if_pos h9,if_pos h9]
    have h9':i=9→y.toNat≤1:=by
     intro e
     simp only[qn,decide_eq_true_eq,not_and] at h9
     have:=h9 (by omega); omega
    obtain⟨st,sb,sn⟩:=stepv (y:=y) hi ha h9'
    have e7:IntKind.i64.wrap (7*(i:Int))=((7*i:Nat):Int):=by rw[yu (by omega) (by omega)]; omega
    rw[if_neg h9,if_neg h9,st,refstep hi ha h9',Y2 (by rw[e7,u64w (by omega)]; omega),qg,Y2 (by rw[e7]; omega),qg]
    by_cases h1:128≤y.toNat
    · have hi8:i<9:=by
       apply Nat.lt_of_not_le; intro hc
       have:=h9' (by omega); omega
      rw[if_neg (by omega),if_pos (by omega),yu (x:=(i:Int)+1) (by omega) (by omega),show (i:Int)+1=((i+1:Nat):Int) by omega,vb0 hb hn k (i+1) _ (by omega) (by omega) (sn hi8),show n+(i+1)=n+i+1 by omega,show 10-(i+1)=9-i by omega]
    have hA:(y.toNat:Int)<128:=by omega
    have hB:¬ (128:Int)≤(y.toNat:Int):=by omega
    rw[if_pos hA,if_neg hB,show (n:Int)+(i:Int)=((n+i:Nat):Int) by omega,yu (x:=((n+i:Nat):Int)) (by omega) (by omega)]
  rw[if_pos (by omega),List.drop_eq_nil_of_le (by omega),List.take_nil,xw.l12]
theorem va8 {b:List UInt8}{n:Nat}(hb:b.length≤4096)(hn:n≤b.length):xU b (n:Int)=xw b (n:Int):=by
 have:=vb0 hb hn rounds 0 0 (by decide) (by have:=yF; omega) (by decide);rw[vbw hb hn,xU,if_neg (by simp only[qG,decide_eq_true_eq]; omega)]
 simpa using this
theorem ref02_Zag_eq {v:Nat}(h:v<2^64):Zy (v:Int)=zu v:=by
 have d1:(v:Int).tdiv 2=((v / 2:Nat):Int):=by rw[Int.tdiv_eq_ediv_of_nonneg (by omega)]; omega
 have d2:(v:Int).tmod 2=((v % 2:Nat):Int):=by rw[Int.tmod_eq_emod_of_nonneg (by omega)]; omega
 unfold Zy zu;rw[d1,d2,u64w (by omega),yu (x:=((v / 2:Nat):Int)) (by omega) (by omega)]
 by_cases h0:v % 2=0
 · rw[if_pos (by omega),if_pos h0]
 rw[if_neg (by omega),if_neg h0,yu (x:=0-((v / 2:Nat):Int)) (by omega) (by omega),yu (by omega) (by omega)]; omega
theorem vac {b:List UInt8}(hb:b.length≤4096):∀ (k n:Nat) (acc:List GRaw),n≤b.length→xm.l12 b k acc (n:Int)=xG.l12 b k acc (n:Int)
 |0,_,_,_=>rfl
 |k+1,n,acc,hn=>by
  rw[xm.l12,xG.l12]
  by_cases h:(n:Int)<(b.length:Int)
  · obtain⟨r1,e1,i1,_⟩:=get_inv hb hn;rw[if_pos h,if_pos h,va8 hb hn,wP,e1,qg,qg]
    by_cases z1:r1.2.2=0
    · obtain⟨v,post,hd,hv,rfl⟩:=i1 z1;have hl:=Xo hn hd
      have d1:(v:Int).tdiv 2=((v / 2:Nat):Int):=by rw[Int.tdiv_eq_ediv_of_nonneg (by omega)]; omega
      dsimp only
      rw[if_pos rfl,if_pos rfl,d1,u64w (by omega)]
      by_cases c1:v / 2<1∨500<v / 2
      · rw[if_pos (by simp only[qG,decide_eq_true_eq]; omega),if_pos (by simp only[qG,decide_eq_true_eq]; omega),qg,if_neg (by decide)]
      obtain⟨r2,e2,i2,_⟩:=get_inv hb (n:=n+(vb v).length) (by omega);rw[if_neg (by simp only[qG,decide_eq_true_eq]; omega),if_neg (by simp only[qG,decide_eq_true_eq]; omega),va8 hb (by omega),e2,qg,qg]
      by_cases z2:r2.2.2=0
      · obtain⟨w,post2,hd2,hw,rfl⟩:=i2 z2;have hl2:=Xo (by omega) hd2
        dsimp only
        rw[if_pos rfl,if_pos rfl]
        by_cases c4:IntKind.i64.wrap ((v:Int).tmod 2)=0
        · rw[if_pos c4,if_pos c4,bnd,bnd,ref02_Zag_eq hw,vbD hw,qg,if_pos rfl,xm.j34]
          congr 1
          funext _
          exact vac hb k _ _ (by omega)
        rw[if_neg c4,if_neg c4]
        have e3:IntKind.i64.wrap ((b.length:Int)-((n+(vb v).length+(vb w).length:Nat):Int))=((post2.length:Nat):Int):=by rw[yu (by omega) (by omega)]; omega
        rw[e3,u64w (n:=post2.length) (by omega)]
        by_cases c5:(post2.length:Int)<(w:Int)
        · rw[if_pos c5,if_pos c5,qg,if_neg (by decide)]
        have e4:IntKind.i64.wrap (w:Int)=(w:Int):=yu (by omega) (by omega)
        have e5:IntKind.i64.wrap (((n+(vb v).length+(vb w).length:Nat):Int)+(w:Int))=((n+(vb v).length+(vb w).length+w:Nat):Int):=by rw[yu (by omega) (by omega)]; omega
        rw[if_neg c5,if_neg c5,e4,e5,Y2 (by omega),qg,qg,qg,if_pos rfl,xm.j34]
        congr 1
        funext _
        exact vac hb k _ _ (by omega)
      rw[if_neg z2,if_neg z2,qg,if_neg z2]
    rw[if_neg z1,if_neg z1,qg,if_neg z1]
  rw[if_neg h,if_neg h]
theorem ref04_Get_eq (b:List UInt8):xm b=xG b:=by
 rw[xm,xG]
 by_cases h:4096<(b.length:Int)
 · rw[if_pos h,if_pos h]
 rw[if_neg h,if_neg h];exact vac (by omega) rounds 0 [] (uq _)
theorem ref01_Valid_eq {a:List UInt8}(hl:a.length≤30000):wN a=some (vbP a):=by
 have e1:=rl_all hl rounds 0 [] (by have:=yF; omega) (by decide) (by decide) (by rw[ql]; omega);have e2:=rl_valid hl rounds 0 (by have:=yF; omega) (by decide);have e1':xQ a=_:=e1;have e2':yC a=_:=e2;rw[wN,e1',vbP,e2']
 cases rl a rounds 0<;>rfl
theorem number_eq (y:GType)(n:Int):wt y n=xH y n:=by
 unfold wt xH
 by_cases k1:y.fKind=1
 · rw[if_pos k1,if_pos k1]
 rw[if_neg k1,if_neg k1]
 by_cases k2:y.fKind=2
 · rw[if_pos k2,if_neg (by omega),if_neg (by omega),decide_eq_true k2]
 rw[if_neg k2,decide_eq_false k2]
theorem value12_eq {selfM:GSchema→GMessage→List UInt8→Int→Option (GTree×Int)}{selfV:GSchema→GField→GRaw→Int→Option (GTree×Int)}{s:GSchema}{f:GField}{r:GRaw}{deep:Int}{msg:GMessage→List UInt8→GTree×Int}(hk:1≤f.fType.fKind∧f.fType.fKind≤7)(hw:r.fWire=0∨r.fWire=1)(hb:r.fB.length≤4096)(hd:deep<1000)(hd':0≤deep)
 (h10:10≤deep→msg (vaQ s f.fType.fName) r.fB=(zTree,10)) (hs:deep<10→selfM s (vaQ s f.fType.fName) r.fB (deep+1)=some (msg (vaQ s f.fType.fName) r.fB)):
 xF.body selfM selfV s f r deep=some (oneD msg s f.fType r):=by
 have hv:=ref01_Valid_eq (a:=r.fB) (by omega);have ed:IntKind.i64.wrap (deep+1)=deep+1:=yu (by omega) (by omega)
 have hk':f.fType.fKind=1∨f.fType.fKind=2∨f.fType.fKind=3∨f.fType.fKind=4∨f.fType.fKind=5∨f.fType.fKind=6∨f.fType.fKind=7:=by omega
 have hM:f.fType.fKind=7→(if 10≤deep then some (zTree,10) else (selfM s (vaQ s f.fType.fName) r.fB (deep+1)).bind fun r29=>some (r29.1,r29.2))=some (msg (vaQ s f.fType.fName) r.fB):=by
  intro _
  by_cases h:10≤deep
  · rw[if_pos h,h10 h]
  rw[if_neg h,hs (by omega)]; rfl
 unfold xF.body oneD xY xY.j3;unfold bnd;simp only[vb3,number_eq,Y2 (show r.fB.length≤9223372036854775807 by omega),hv,ed,qg];have b1:(true==false)=false:=rfl;have b2:(false==true)=false:=rfl
 rcases hk' with k|k|k|k|k|k|k<;>rcases hw with w|w <;>
  simp only[k,w,b1,b2,reduceIte,reduceCtorEq,uW,decide_true,decide_false,or_true,true_or,or_false,false_or,or_self,uc,qX,qE,beq_self_eq_true,qg] <;>
  first
   |done
   |rfl
   |exact hM k
   |(cases hn:xH f.fType r.fN<;>first|rfl|(exfalso; rw[xH,if_neg (by omega),if_neg (by omega),if_neg (by omega),k] at hn; exact absurd hn (by decide)))
   |(cases vbP r.fB<;>rfl)
theorem vbO {m:GMessage}{t:GTree}:∀ (q:List GEntry) (x:Int) (acc:List GEntry),(∀ e∈q,e.fTrees≠[])→acc.length+q.length<100000→z8.l8 m t q x acc=some ⟨3,0,[],acc++zdel m q,t.fRest⟩
 |[],x,acc,_,_=>by rw[z8.l8,zdel,List.filter_nil,qz]
 |e::q,x,acc,h,hl=>by
  rw[qj] at hl;have he:=h e (qo ..)
  have h':∀ e∈q,e.fTrees≠[]:=fun a ha=>h a (qm _ ha)
  have e1:(if (zw m e.fTag).1.fLabel=1 then (Zt e.fTrees 0).bind fun y19=>bnd (Zq y19) fun r22=>some (!r22) else some true)=some (!isZ m e):=by
   unfold isZ
   split
   · rename_i hl
     cases ht:e.fTrees with
     |nil=>exact absurd ht he
     |cons a l=>
      rw[idx_t (u6 0) (show (a::l)[qB 0]?=some a from rfl),qg,bnd,hl]; rfl
   rename_i hl
   rw[decide_eq_false hl,Bool.false_and]; rfl
  rw[z8.l8,bnd,fieldR_eq,e1,qg,zdel,uF]
  cases isZ m e with
  |true=>
   rw[if_neg (by decide),z8.j13,vbO q _ _ h' (by omega)]; rfl
  |false=>
   rw[if_pos (by decide),xK (by omega),qg,z8.j13,vbO q _ _ h' (by rw[qi,qC]; omega),qq]; rfl
theorem settled_eq {m:GMessage}{es:List GEntry}{rest:List GRaw}(h:∀ e∈es,e.fTrees≠[])(hl:es.length<100000):z8 m ⟨3,0,[],es,rest⟩=some ⟨3,0,[],zdel m es,rest⟩:=by
 have:=vbO (m:=m) (t:=⟨3,0,[],es,rest⟩) es 0 [] h (by rw[ql]; omega);rw[qw] at this;exact this
theorem fldR_eq {selfV:GSchema→GField→GRaw→Int→Option (GTree×Int)}{s:GSchema}{m:GMessage}{deep:Int}{one:GType→GRaw→GTree×Int}:
 ∀ {l:List GRaw} {es:List GEntry} {rest:List GRaw},(∀ r∈l,(zw m r.fTag).2=true→selfV s (zw m r.fTag).1 r deep=some (one (zw m r.fTag).1.fType r))→es.Pairwise Xr→(∀ e∈es,e.fTrees≠[]∧e.fTrees.length≤64)→es.length+l.length<100000→rest.length+l.length<100000→
 zJ.l selfV s m deep l es rest=some (fldD m one l es rest)
 |[],es,rest,_,_,he,hn,hn'=>by
  rw[zJ.l,XI (by simp only[ql] at hn'; omega),qg,settled_eq (fun e h=>(he e h).1) (by simp only[ql] at hn; omega),qg,fldD]
 |r::l,es,rest,ho,hs,he,hn,hn'=>by
  rw[qj] at hn hn'
  have ho':∀ r∈l,(zw m r.fTag).2=true→selfV s (zw m r.fTag).1 r deep=some (one (zw m r.fTag).1.fType r):=fun x hx=>ho x (qm _ hx)
  rw[zJ.l,bnd,fldD,fieldR_eq]
  by_cases hf:(zw m r.fTag).2=true
  · obtain⟨hft,_⟩:=YN hf;rw[if_pos hf,if_pos hf,ho r (qo ..) hf,qg]
    by_cases h0:(one (zw m r.fTag).1.fType r).2=0
    · rw[if_pos h0,if_pos h0,ref12_put_eq hs (by omega) (fun e h=>by have:=(he e h).2; omega),qg,hft]
      by_cases hp:putN r.fTag ((zw m r.fTag).1.fLabel=3) es≤64
      · rw[if_pos hp,if_pos (decide_eq_true hp)];refine fldR_eq (es:=vaJ r.fTag ((zw m r.fTag).1.fLabel=3) (one (zw m r.fTag).1.fType r).1 es) ho' (vad hs) ?_ (by have:=putE_len (t:=r.fTag) (rep:=(zw m r.fTag).1.fLabel=3) (x:=(one (zw m r.fTag).1.fType r).1) (es:=es); omega) (by omega)
        intro e h
        rcases putE_all h with h|⟨h1,h2,h3⟩
        · exact he e h
        exact⟨h3,by omega⟩
      rw[if_neg hp,if_neg (by simpa using hp)]; rfl
    rw[if_neg h0,if_neg h0]; rfl
  rw[if_neg hf,if_neg hf,xK (by omega),qg];exact fldR_eq ho' hs he (by omega) (by rw[qi,qC]; omega)
theorem Xu {s:GSchema}(hk:kindsS s):∀ (d k:Nat) (m:GMessage) (b:List UInt8) (deep:Int),kindsM m→d+1≤10→deep=10-d→2*d+3≤k→zJ k s m b deep=some (decM s (d+1) m b)
 |d,0,m,b,deep,_,_,_,h=>by omega
 |d,k+1,m,b,deep,hm,h10,hd,hkk=>by
  rw[zJ,zJ.body,ref04_Get_eq,getD_eq,qg,decM]
  by_cases h0:(getD b).2=0
  · rw[if_pos h0,if_pos h0];obtain⟨hb,hl,hok⟩:=getD_ok h0
    have hlen:(getD b).1.length<100000:=by
     have:=XV (getD b).1
     rw[← hb] at this; omega
    refine fldR_eq ?_ List.Pairwise.nil (fun _ h=>by cases h) (by rw[ql]; omega) (by rw[ql]; omega)
    intro r hr hf
    obtain⟨k',rfl⟩:∃ k',k=k'+1:=⟨k-1,by omega⟩
    rw[xF];have hc:=(ZH (hok r hr).1).2.2
    have hbl:r.fB.length≤4096:=by
     rcases hc with ⟨_,hc⟩|⟨_,_,hc⟩
     · rw[hc]; decide
     exact hc
    refine value12_eq (hm _ (YN hf).2) (by rcases hc with hc|hc; exact Or.inl hc.1; exact Or.inr hc.1) hbl (by omega) (by omega) (fun h=>?_) (fun h=>?_)
    · obtain rfl:d=0:=by omega
      rfl
    obtain⟨d',rfl⟩:∃ d',d=d'+1:=⟨d-1,by omega⟩
    exact Xu hk d' k' _ _ _ (kinds_msg hk _) (by omega) (by omega) (by omega)
  rw[if_neg h0,if_neg h0]; rfl
theorem vbW {s:GSchema}(hs:nmS s)(hn:nm3 s)(n b:List UInt8):wr s n b=xp s n b:=by
 rw[wr,check07_eq hn,xp,vci hs,qg,qg]
 by_cases hc:chkV s=0
 · have hck:zx s=some 0:=by rw[vci hs,hc]
   have hk:=kindsS_of hck;have hm:=kinds_msg hk n;unfold vaQ at hm;rw[if_pos hc,if_pos hc,bnd,bnd,vb3];rw[Xu hk 9 rounds _ b 1 hm (by decide) rfl (by have:=yF; omega),ZW s 10 rounds _ b 1 (qu _) rfl (by have:=yF; omega)]
 rw[if_neg hc,if_neg hc]
end
section
set_option maxRecDepth 4000
open AM
def dsT : Nat→GTree→Prop
 |0,t=>ownS t∧kids t=[]
 |d+1,t=>ownS t∧∀ x∈kids t,dsT d x
theorem dsT_sz : ∀ (d:Nat) (t:GTree),dsT d t→szT d t
 |0,_,h=>h.1
 |d+1,_,h=>⟨h.1,fun x hx=>dsT_sz d x (h.2 x hx)⟩
theorem leaf_ds {k n:Int}{a:List UInt8}(hn:In64 n):∀ d,dsT d ⟨k,n,a,[],[]⟩
 |0=>⟨⟨hn,uq _,fun r hr=>by cases hr⟩,rfl⟩
 |d+1=>⟨⟨hn,uq _,fun r hr=>by cases hr⟩,fun x hx=>by cases hx⟩
theorem Xb (d:Nat):dsT d zTree:=leaf_ds in0 d
theorem one_ds {msg:GMessage→List UInt8→GTree×Int}{s:GSchema}{y:GType}{r:GRaw}{d:Nat}(hm:∀ m b,dsT d (msg m b).1)(hr:In64 r.fN):dsT d (oneD msg s y r).1:=by
 unfold oneD
 repeat' split
 all_goals first|exact Xb d|exact leaf_ds hr d|exact leaf_ds in0 d|exact hm _ _
theorem putE_ds {P:GTree→Prop}{t:Int}{rep:Prop} [Decidable rep]{x:GTree}(hx:P x):∀ {es:List GEntry},(∀ e∈es,∀ z∈e.fTrees,P z)→∀ e∈vaJ t rep x es,∀ z∈e.fTrees,P z
 |[],_,e,he,z,hz=>by
  rw[vaJ,uw] at he; subst he
  rw[Yq,uw] at hz; subst hz; exact hx
 |a::es,h,e,he,z,hz=>by
  have h':∀ e∈es,∀ z∈e.fTrees,P z:=fun b hb=>h b (qm _ hb)
  rw[vaJ] at he
  split at he
  · rcases qA.1 he with rfl|he
    · exact h _ (qo ..) z hz
    exact putE_ds hx h' e he z hz
  split at he
  · rcases qA.1 he with rfl|he
    · rw[Yq] at hz
      rcases uh.1 hz with hz|hz
      · split at hz
        · exact h a (qo ..) z hz
        cases hz
      rw[uw] at hz; subst hz; exact hx
    exact h' e he z hz
  rcases qA.1 he with rfl|he
  · rw[Yq,uw] at hz; subst hz; exact hx
  exact h e he z hz
theorem fld_ds {m:GMessage}{one:GType→GRaw→GTree×Int}{d:Nat}:∀ (l:List GRaw) (es:List GEntry) (rest:List GRaw),(∀ r∈l,In64 r.fN∧∀ y,dsT d (one y r).1)→(∀ e∈es,∀ z∈e.fTrees,dsT d z)→(∀ r∈rest,In64 r.fN)→rest.length+l.length≤900000→dsT (d+1) (fldD m one l es rest).1
 |[],es,rest,_,he,hr,hn=>by
  rw[fldD];refine⟨⟨in0,?_,fun r h=>hr r (srt_mem.1 h)⟩,fun x hx=>?_⟩
  · show (srt rest).length≤900000
    rw[srt_len]; simpa using hn
  obtain⟨e,hm,hxe⟩:=List.mem_flatMap.1 hx;exact he e (List.mem_filter.1 hm).1 x hxe
 |r::l,es,rest,hl,he,hr,hn=>by
  rw[qj] at hn
  have hl':=fun x hx=>hl x (qm _ hx)
  have h0:=hl r (qo ..);rw[fldD]
  split
  · split
    · split
      · exact fld_ds l _ rest hl' (putE_ds (h0.2 _) he) hr (by omega)
      exact Xb _
    exact Xb _
  exact fld_ds l es _ hl' he (fun x hx=>by
   rcases uh.1 hx with h|h
   · exact hr x h
   rw[uw] at h; subst h; exact h0.1) (by rw[qi,qC]; omega)
theorem decM_ds {s:GSchema}:∀ (d:Nat) (m:GMessage) (b:List UInt8),dsT d (decM s d m b).1
 |0,m,b=>by rw[decM]; exact Xb 0
 |d+1,m,b=>by
  rw[decM]
  by_cases h0:(getD b).2=0
  · obtain⟨hb,hl,hok⟩:=getD_ok h0
    have hlen:(getD b).1.length<100000:=by
     have:=XV (getD b).1
     rw[← hb] at this; omega
    rw[if_pos h0];exact fld_ds _ [] [] (fun r hr=>⟨(hok r hr).2,fun y=>one_ds (fun m b=>decM_ds d m b) (hok r hr).2⟩) (fun e he=>by cases he) (fun r hr=>by cases hr) (by rw[ql]; omega)
  rw[if_neg h0]; exact Xb _
theorem dec_ds {s:GSchema}{n b:List UInt8}(hs:nmS s):∃ r,xp s n b=some r∧dsT 10 r.1:=by
 by_cases hc:chkV s=0
 · have hck:zx s=some 0:=by rw[vci hs,hc]
   by_cases hm:(zG s n).2=true
   · exact⟨_,decode_eq hck hm,decM_ds 10 _ _⟩
   refine⟨(zTree,14),?_,Xb 10⟩
   rw[xp,hck,qg,if_pos rfl,bnd,if_pos (by simpa using hm)]; rfl
 refine⟨(zTree,1),?_,Xb 10⟩
 rw[xp,vci hs,qg,if_neg hc]; rfl
theorem enc_r {t:GTree}(hz:szT 10 t):∃ r,xV t=some r∧wg t=some r∧r.1.length≤4096:=by
 refine⟨_,Encode_eq hz,vbX hz,?_⟩
 split
 · cases h:vaA 10 t with
   |none=>exact uq _
   |some b=>exact vcg h
 exact uq _
end
section
set_option maxRecDepth 4000
open AM
theorem awakeA : wu=some true:=by decide +kernel
theorem method_l (n:List UInt8):∀ (l:List GMethod) (i j:Int),xl.l4 n l i=xa.l4 n l j
 |[],_,_=>rfl
 |y::l,i,j=>by rw[xl.l4,xa.l4,method_l n l (i+1) (j+1)]
def zPack : GPacket:=⟨0,0,0,0,0,[],0,[]⟩
theorem passR {s:GSchema}{p:GPacket}(hs:nmS s)(hn:nm3 s)(hb:p.fBody.length≤5000):∃ r,yG s p=some r∧xx s p=some r∧r.1.fBody.length≤5000∧(r.2=false→r.1=zPack):=by
 have hM:xl s p.fMethod=xa s p.fMethod:=method_l _ _ _ _;rw[yG,xx,check07_eq hn,vci hs,qg,qg]
 by_cases hc:chkV s=0
 · rw[if_pos hc,if_pos hc,bnd,bnd,hM]
   generalize xa s p.fMethod=r6
   have j8:∀ n,((!r6.2)||((!(decide (p.fKind=3)))&&((!(decide (p.fKind=4)))||(!(decide (p.fErr=0))))))=false→∃ r,yG.j8 s p n=some r∧xx.j8 s p r6 n=some r∧r.1.fBody.length≤5000∧(r.2=false→r.1=zPack):=by
    intro n hq
    obtain⟨r,hr,hd⟩:=dec_ds (n:=n) (b:=p.fBody) hs;obtain⟨r2,h1,h2,hl⟩:=enc_r (dsT_sz 10 _ hd);rw[yG.j8,xx.j8,hq,if_neg uM,Y2 (by omega),qg,qg,vbW hs hn,hr,qg,qg]
    by_cases h0:r.2=0
    · rw[if_pos h0,if_pos h0,h1,h2,qg]
      by_cases h3:r2.2=0
      · rw[if_pos h3]; exact⟨_,rfl,rfl,by dsimp only; omega,fun h=>by cases h⟩
      rw[if_neg h3]; exact⟨_,rfl,rfl,uq _,fun _=>rfl⟩
    rw[if_neg h0,if_neg h0]; exact⟨_,rfl,rfl,uq _,fun _=>rfl⟩
   have skip:∀ n,((!r6.2)||((!(decide (p.fKind=3)))&&((!(decide (p.fKind=4)))||(!(decide (p.fErr=0))))))=true→xx.j8 s p r6 n=some (p,true):=by
    intro n hq
    rw[xx.j8,hq,if_pos rfl]
   have both:∀ x,((!r6.2)||((!(decide (p.fKind=3)))&&((!(decide (p.fKind=4)))||(!(decide (p.fErr=0))))))=x→∃ r,yG.j23 s p r6 x=some r∧(if p.fKind=4 then xx.j8 s p r6 r6.1.fOut else xx.j8 s p r6 r6.1.fIn)=some r∧r.1.fBody.length≤5000∧(r.2=false→r.1=zPack):=by
    intro x hx
    cases x with
    |true=>exact⟨(p,true),by rw[yG.j23,if_pos rfl],by split<;>exact skip _ hx,hb,fun h=>by cases h⟩
    |false=>
     rw[yG.j23,if_neg uM]
     split<;>exact j8 _ hx
   cases hr:r6.2 with
   |true=>
    rw[if_neg (by decide)];exact both _ (by rw[hr,qX,uI])
   |false=>
    rw[if_pos (by decide)];exact both _ (by rw[hr,qE,Bool.true_or])
 rw[if_neg hc,if_neg hc]; exact⟨_,rfl,rfl,uq _,fun _=>rfl⟩
theorem all_true {s:GSchema}{p:GPacket}(hs:szS s):law25_ProxyAll s p=some true:=by
 obtain⟨few,hf⟩:=few_t s;rw[law25_ProxyAll,hf,qg]
 cases few with
 |false=>rw[if_pos (by rfl),awakeA]; rfl
 |true=>
  by_cases hb:5000<(p.fBody.length:Int)
  · rw[if_pos (by rw[decide_eq_true hb]; rfl),awakeA]; rfl
  obtain⟨r,h1,h2,_,_⟩:=passR (p:=p) hs.1 (few_names hs.1 hf) (by omega)
  rw[if_neg (by rw[decide_eq_false hb]; decide),schema_eq hs,qg,h1,qg,h2,qg,if_pos (by simp),awakeA]; rfl
end
section
open Go.ChangeShapes Go.WideShapes Go.ChangeAt Go.RowKit Go.Shelf Go.Lib AM
theorem own : ownKnob Tryz.prog.godebug=none:=by kernel_rfl
theorem laidOut : laidOutB qh=true:=by kernel_rfl
def listed : List (String×DataW Unit):=[("unicode/utf8.acceptRanges",Rows.laid_unicode_utf8_acceptRanges),("unicode/utf8.first",Rows.laid_unicode_utf8_first)]
noncomputable def laidWorld (os:Os):World:=
 let w0:=World.holding qh os ⟨#[],#[],[]⟩
 let put (h:Array Obj) (g:Nat) (cs:Array Value):Array Obj:=h.modify g fun
  |.cells _ t frozen=>.cells cs t frozen
  |o=>o
 let h1:=put w0.heap (utf8Ren.g 3) (Lib.firstTab.map fun z=>Value.int .u8 z).toArray
 let h2:=put h1 (utf8Ren.g 4) ((uH 16).flatMap fun i=>[Value.int .u8 (Lib.accLo i),Value.int .u8 (Lib.accHi i)]).toArray
 { w0 with heap:=h2 }
theorem laid_met (os:Os)(args:Array Value):laidMet qh listed ((laidWorld os).forCall (fun _ _=>0) ⟨#[],args,[]⟩).memory:=
 (LaidIn.of_run (l:=listed) [0,1] 8 (by kernel_rfl) (by kernel_rfl) (by kernel_rfl) (by kernel_rfl)).met
theorem laid_metH (os:Os)(args:Array Value):laidMetH qh listed ((laidWorld os).forCall (fun _ _=>0) ⟨#[],args,[]⟩).memory:=laid_met os args
theorem firstD : Rows.laid_unicode_utf8_first=Lib.firstData:=by kernel_rfl
theorem acceptD : (Rows.laid_unicode_utf8_acceptRanges:DataW Unit)=Lib.acceptData:=by kernel_rfl
theorem u8types : U8Types qh utf8Ren:=⟨vaj.t5,vaj.t119,vaj.t138,vaj.t139⟩
theorem glb_of_laid {W:World}(hL:laidMetH qh listed W):Glb W fun b=>b<W.heap.size:=by
 have h':laidMet qh listed W:=hL;have r1:=Lib.laidMet.reads h' (.tail _ (.head _));have r2:=Lib.laidMet.reads h' (.head _);rw[firstD] at r1;rw[acceptD] at r2;have ht:Lib.Utf8Tabs (utf8Ren.g 3) (utf8Ren.g 4) W:=utf8Tabs_of_readsT u8types ⟨by kernel_rfl,by kernel_rfl,by kernel_rfl,by kernel_rfl,by kernel_rfl,by kernel_rfl,by kernel_rfl⟩ r1 r2;obtain⟨t1,t2⟩:=ht
 have lt:∀ {g o:Nat} {v:Value},W.cell? ⟨g,o,none⟩=some v→g<W.heap.size:=by
  intro g o v h
  refine Nat.lt_of_not_le fun hle=>?_
  unfold World.cell? at h;rw[Array.getElem?_eq_none hle] at h;cases h
 refine⟨fun g vs hm=>?_,fun g vs hm i v hv=>?_⟩
 · rcases qA.1 hm with e|hm
   · cases e; exact lt (t1 0 (by decide))
   rcases qA.1 hm with e|hm
   · cases e; exact lt (t2 0 (by decide)).1
   cases hm
 rcases qA.1 hm with e|hm
 · cases e
   have hi:i<256:=by
    have:=(q3.1 hv).1; simpa using this
   rw[List.getElem?_map,List.getElem?_range hi] at hv;cases hv;exact t1 i hi
 rcases qA.1 hm with e|hm
 · cases e
   have hi:i<32:=by
    have:=(q3.1 hv).1; simpa using this
   rw[List.getElem?_map,List.getElem?_range hi] at hv;cases hv;have h1:=t2 (i / 2) (by omega)
   have:i % 2=0∨i % 2=1:=by omega
   rcases this with h|h
   · have e:2*(i / 2)=i:=by omega
     rw[e] at h1
     simp only[h,if_true]; exact h1.1
   have e:2*(i / 2)+1=i:=by omega
   rw[e] at h1
   simp only[h]; exact h1.2
 cases hm
end
section
namespace AM
open Go.RowKit Go.ChangeShapes Go.WideShapes Go.Deep
section
variable {H:Type} {enc:TypeId×Value→H} {P:Program} {w:World} {base:Nat} {spare:Nat→Bool} {held:Bool}
def OpensS (enc:TypeId×Value→H)(P:Program)(w:World)(base:Nat)(spare:Nat→Bool)(held:Bool)(N:Nat)(t:TypeId)(A:List AV→Prop):Prop:=
 ∀ n cs y,DataW.trod enc P w base spare held n t cs=some y→SizeOf.sizeOf y.1<N→(∀ x∈y.1.weights P t,x≤reachBytes)→∃ avs,avs.length=cs.length∧A avs∧∀ i,i<avs.length→VR (Env.start w) (gc avs i) (cs.getD i undef)
variable {N:Nat}
theorem OpensS.mono {t:TypeId}{A B:List AV→Prop}(h:OpensS enc P w base spare held N t A)(k:∀ l,A l→B l):OpensS enc P w base spare held N t B:=fun n cs y hy hN hs=>by
 obtain⟨avs,h1,h2,h3⟩:=h n cs y hy hN hs;exact⟨avs,h1,k _ h2,h3⟩
theorem OpensS.less {t:TypeId}{A:List AV→Prop}(h:OpensS enc P w base spare held (N+1) t A):OpensS enc P w base spare held N t A:=fun n cs y hy hN hs=>h n cs y hy (by omega) hs
theorem Opens.sized {t:TypeId}{A:List AV→Prop}(h:Opens enc P w base spare held t A):OpensS enc P w base spare held N t A:=fun n cs y hy _ _=>h n cs y hy
theorem opensS_string {t:TypeId}(ht:P.underlying t=some .string):OpensS enc P w base spare held N t fun l=>∃ s,l=[.str s]∧s.length≤reachBytes:=by
 intro n cs y hy _ hs
 obtain⟨m,rfl,hy,hl⟩:=DataW.trod_string ht hy;refine⟨[.str m.data.toList],rfl,⟨_,rfl,?_⟩,fun i hi=>by simp at hi; subst hi; exact .str _ _ rfl⟩;have:=hs m.data.toList.length (by subst hy; simp[DataW.weights])
 simpa using this
def tiles (P:Program):List Field→Nat→Nat→Bool
 |[],o,e=>o==e
 |f::l,o,e=>f.offset==o&&tiles P l (o+P.cellsOf f.type) e
theorem tile {cs:List Value}{A:Nat→List AV→Prop}:∀ (l:List Field) (o k e:Nat),tiles P l o e=true→
 (∀ j f,l[j]?=some f→∃ avs:List AV,avs.length=P.cellsOf f.type∧A (k+j) avs∧∀ i,i<avs.length→VR (Env.start w) (gc avs i) (cs.getD (f.offset+i) undef))→
 ∃ parts:List (List AV),parts.length=l.length∧(∀ j,j<l.length→A (k+j) (parts.getD j []))∧o+parts.flatten.length=e∧∀ i,i<parts.flatten.length→VR (Env.start w) (gc parts.flatten i) (cs.getD (o+i) undef)
 |[],o,k,e,h,_=>⟨[],rfl,(fun j hj=>by simp at hj),by simpa [tiles] using h,(fun i hi=>by simp at hi)⟩
 |f::l,o,k,e,h,hA=>by
  simp only[tiles,qn,beq_iff_eq] at h;obtain⟨avs,a1,a2,a3⟩:=hA 0 f rfl
  obtain⟨parts,p1,p2,p3,p4⟩:=tile l (o+P.cellsOf f.type) (k+1) e h.2 fun j g hg=>by
   obtain⟨x,x1,x2,x3⟩:=hA (j+1) g (by simpa using hg);exact⟨x,x1,by rw[show k+1+j=k+(j+1) by omega]; exact x2,x3⟩
  refine⟨avs::parts,by simp[p1],?_,by rw[List.flatten_cons,qi]; omega,?_⟩
  · intro j hj
    cases j with
    |zero=>simpa using a2
    |succ j=>
     have:=p2 j (by simpa using hj);rw[show k+1+j=k+(j+1) by omega] at this
     simpa using this
  intro i hi
  rw[List.flatten_cons] at hi ⊢
  by_cases hlt:i<avs.length
  · have:=a3 i hlt;rw[h.1] at this;rw[gc,qt,qH hlt]
    simpa [gc,qt] using this
  rw[qi] at hi;have:=p4 (i-avs.length) (by omega);rw[show o+P.cellsOf f.type+(i-avs.length)=o+i by omega] at this;rw[gc,qt,um (by omega)]
  simpa [gc,qt] using this
theorem mem_weightsEach {x:Nat}:∀ {ts:List TypeId} {ds:List (DataW H)} (j:Nat) (t:TypeId) (d:DataW H),ts[j]?=some t→ds[j]?=some d→x∈d.weights P t→x∈DataW.weightsEach P ts ds
 |[],_,j,t,d,h,_,_=>by simp at h
 |_::_,[],j,t,d,_,h,_=>by simp at h
 |t'::ts,d'::ds,j,t,d,ht,hd,hx=>by
  rw[DataW.weightsEach,uh]
  cases j with
  |zero=>
   simp at ht hd; subst ht hd; exact Or.inl hx
  |succ j=>exact Or.inr (mem_weightsEach j t d (by simpa using ht) (by simpa using hd) hx)
theorem X5 {x:Nat}{e:TypeId}:∀ {ds:List (DataW H)} {d:DataW H},d∈ds→x∈d.weights P e→x∈DataW.weightsAll P e ds
 |[],_,h,_=>by cases h
 |d'::ds,d,h,hx=>by
  rw[DataW.weightsAll,uh]
  rcases qA.1 h with rfl|h
  · exact Or.inl hx
  exact Or.inr (X5 h hx)
theorem wD {t:TypeId}{fs:Array Field}(ht:P.underlying t=some (.struct fs))(hC:tiles P fs.toList 0 (P.cellsOf t)=true){A:Nat→List AV→Prop}
 (hA:∀ j f,fs[j]?=some f→OpensS enc P w base spare held N f.type (A j)):OpensS enc P w base spare held (N+1) t fun l=>∃ parts:List (List AV),l=parts.flatten∧parts.length=fs.size∧∀ j,j<fs.size→A j (parts.getD j []):=by
 intro n cs y hy hN hs
 obtain⟨ys,n',_,he,hlen,hyl,hf⟩:=DataW.trod_struct ht hy
 have hends:∀ (l:List Field) (o e:Nat),tiles P l o e=true→o≤e∧∀ (j:Nat) (f:Field),l[j]?=some f→f.offset+P.cellsOf f.type≤e:=by
  intro l
  induction l with
  |nil=>intro o e h; simp[tiles] at h; exact⟨by omega,fun j f h=>by simp at h⟩
  |cons f l ih=>
   intro o e h
   simp only[tiles,qn,beq_iff_eq] at h;obtain⟨h1,h2⟩:=ih _ _ h.2;refine⟨by omega,fun j g hg=>?_⟩
   cases j with
   |zero=>simp at hg; subst hg; omega
   |succ j=>exact h2 j g (by simpa using hg)
 obtain⟨parts,p1,p2,p3,p4⟩:=tile (w:=w) (cs:=cs) (A:=A) fs.toList 0 0 (P.cellsOf t) hC fun j f hj=>by
  have hfj:fs[j]?=some f:=by simpa using hj
  have hlt:j<fs.size:=(Array.getElem?_eq_some_iff.1 hfj).1;have h1:=hf j f hfj;rw[qW (by omega)] at h1;have hend:=(hends _ _ _ hC).2 j f hj;have hm:ys[j]'(by omega)∈ys:=List.getElem_mem _
  have hsz:SizeOf.sizeOf (ys[j]'(by omega)).1<N:=by
   have h2:(ys[j]'(by omega)).1∈ys.map (·.1):=List.mem_map_of_mem hm;have h3:=List.sizeOf_lt_of_mem h2;rw[he] at hN;simp only[DataW.agg.sizeOf_spec] at hN
   omega
  obtain⟨avs,e1,e2,e3⟩:=hA j f hfj _ _ _ h1 hsz fun x hx=>hs x (by
   rw[he,DataW.weights,ht]
   exact mem_weightsEach j f.type _ (by simp[hj]) (by rw[List.getElem?_map,qW (by omega)]; rfl) hx)
  have hl1:avs.length=P.cellsOf f.type:=by rw[e1,uL,uQ]; omega
  refine⟨avs,hl1,by rw[qs]; exact e2,fun i hi=>?_⟩;have h4:=e3 i hi
  have h5:((cs.drop f.offset).take (P.cellsOf f.type)).getD i undef=cs.getD (f.offset+i) undef:=by
   simp only[qt];rw[List.getElem?_take_of_lt (by omega),List.getElem?_drop]
  rw[h5] at h4; exact h4
 refine⟨parts.flatten,by omega,⟨parts,rfl,by simpa using p1,fun j hj=>?_⟩,fun i hi=>?_⟩
 · have:=p2 j (by simpa using hj)
   rwa [qs] at this
 have:=p4 i hi
 rwa [qs] at this
theorem ZJ {t e:TypeId}(ht:P.underlying t=some (.slice e))(hpos:0<P.cellsOf e){A:List AV→Prop}(hA:OpensS enc P w base spare held N e A):
 OpensS enc P w base spare held (N+1) t fun l=>∃ es,l=[.ds true (List.flatten es) (qc es) false]∧(∀ x∈es,A x∧x.length=P.cellsOf e)∧es.length*P.bytesOf e≤reachBytes∧es.length≤maxLen:=by
 intro n cs y hy hN hs
 rcases open_slice ht hy with ⟨rfl,_⟩|⟨a,len,cap,m,n',D,Pl,rfl,_,hl,hm,hmm,hye,hi⟩
 · refine⟨[.ds true [] 0 false],rfl,⟨[],by simp,by simp,by simp,by simp⟩,fun i hi=>?_⟩
   simp at hi; subst hi; exact .dsn _
 have hlm:len≤m:=by rw[hmm]; split<;>omega
 have hlen:len*P.bytesOf e≤reachBytes:=by
  have:=hs ((((uH len).map D).length+((uH (m-len)).map fun j=>D (len+j)).length)*P.bytesOf e) (by rw[hye]; simp only[DataW.weights,ht]; exact qo ..);rw[q2,List.length_range] at this;exact uA (qY _ (Nat.le_add_right _ _)) this
 have each:∀ i,i<len→∃ avs:List AV,avs.length=P.cellsOf e∧A avs∧∀ j,j<avs.length→∃ v,w.cell? ((a.add (i*P.cellsOf e)).add j)=some v∧VR (Env.start w) (gc avs j) v:=by
  intro i hil
  obtain⟨cs',h1,h2⟩:=hi i (by omega);obtain⟨_,hcl,hat⟩:=World.cells?_some h1;have hmem:D i∈(uH len).map D:=List.mem_map_of_mem (List.mem_range.2 hil)
  have hsz:SizeOf.sizeOf (D i)<N:=by
   have h3:=List.sizeOf_lt_of_mem hmem;rw[hye] at hN;simp only[DataW.slice.sizeOf_spec] at hN
   omega
  obtain⟨avs,e1,e2,e3⟩:=hA _ _ _ h2 hsz fun x hx=>hs x (by
   rw[hye]; simp only[DataW.weights,ht]
   exact qm _ (uo _ (X5 hmem hx)))
  refine⟨avs,by omega,e2,fun j hj=>⟨cs'.getD j undef,?_,e3 j hj⟩⟩
  rw[hat j (by omega),qt,qW (by omega)]; rfl
 obtain⟨g,hg⟩:=Classical.axiomOfChoice (r:=fun (i:Fin len) (avs:List AV)=>avs.length=P.cellsOf e∧A avs∧∀ j,j<avs.length→∃ v,w.cell? ((a.add (i.1*P.cellsOf e)).add j)=some v∧VR (Env.start w) (gc avs j) v) (fun i=>each i.1 i.2)
 have hes:∀ x∈List.ofFn g,A x∧x.length=P.cellsOf e:=by
  intro x hx
  obtain⟨i,rfl⟩:=List.mem_ofFn.1 hx;exact⟨(hg i).2.1,(hg i).1⟩
 refine⟨[.ds true (List.ofFn g).flatten (List.ofFn g).length false],rfl,⟨_,rfl,hes,by simpa using hlen,by simp; omega⟩,fun i hi=>?_⟩
 simp at hi; subst hi
 have hfl:=length_flat (es:=List.ofFn g) (sz:=P.cellsOf e) fun x hx=>(hes x hx).2
 have hsp:(List.ofFn g).flatten.length≠0→a.spot=none:=by
  intro h0
  rw[hfl] at h0
  have hl0:0<len:=by
   rcases Nat.eq_zero_or_pos len with h|h
   · subst h; simp at h0
   exact h
  obtain⟨v,h1,_⟩:=(hg ⟨0,hl0⟩).2.2 0 (by rw[(hg ⟨0,hl0⟩).1]; exact hpos);have:=World.cell?_spot h1
  simpa [Addr.add] using this
 have hcell:∀ k,k<(List.ofFn g).flatten.length→∃ v,w.cell? ⟨a.block,a.off+k,none⟩=some v∧VR (Env.start w) (gc (List.ofFn g).flatten k) v:=by
  intro k hk
  have hs:=hsp (by omega);rw[hfl] at hk;simp only[List.length_ofFn] at hk;have hd:k / P.cellsOf e<len:=Nat.div_lt_of_lt_mul (by rw[Nat.mul_comm]; exact hk);have hmd:k % P.cellsOf e<P.cellsOf e:=Nat.mod_lt _ hpos
  have hsplit:k / P.cellsOf e*P.cellsOf e+k % P.cellsOf e=k:=by rw[Nat.mul_comm]; exact Nat.div_add_mod _ _
  obtain⟨v,h1,h2⟩:=(hg ⟨_,hd⟩).2.2 (k % P.cellsOf e) (by rw[(hg ⟨_,hd⟩).1]; exact hmd);refine⟨v,?_,?_⟩
  · rw[add_spot hs,add_spot rfl] at h1;simp only at h1
    rw[u5,hsplit] at h1; exact h1
  have:=gc_flat (es:=List.ofFn g) (fun x hx=>(hes x hx).2) (k / P.cellsOf e) (k % P.cellsOf e) hmd (by simpa using hd);rw[hsplit] at this
  rw[this]; simpa using h2
 obtain⟨vs,hvs⟩:∃ vs:Nat→Value,∀ k,k<(List.ofFn g).flatten.length→w.cell? ⟨a.block,a.off+k,none⟩=some (vs k)∧VR (Env.start w) (gc (List.ofFn g).flatten k) (vs k):=by
  refine⟨fun k=>(w.cell? ⟨a.block,a.off+k,none⟩).getD undef,fun k hk=>?_⟩;obtain⟨v,h1,h2⟩:=hcell k hk
  simp only[h1,uR]; exact⟨trivial,h2⟩
 show VR (Env.start w) (.ds true _ _ false) (.slice (some a) len cap)
 rw[List.length_ofFn];refine .ds _ _ _ _ a cap vs ?_ ?_ (fun k hk=>(hvs k hk).2) hl (fun h=>by cases h) ?_
 · by_cases h0:(List.ofFn g).flatten.length=0
   · exact .inl (qF.1 h0)
   exact .inr (hsp h0)
 · by_cases h0:(List.ofFn g).flatten.length=0
   · exact .inl h0
   refine .inr ⟨?_,fun k hk=>(hvs k hk).1⟩;obtain⟨_,h,_⟩:=hcell 0 (by omega);exact cell_lt (a:=⟨a.block,a.off+0,none⟩) h
 unfold maxLen at *; omega
theorem OpensS.agg {t:TypeId}{A:List AV→Prop}(h:∀ N,OpensS enc P w base spare held N t A){vs:Array Value}{d:DataW H}{p:List MemPlace}(hv:DataW.Trod enc P w base spare held t (.agg vs) d p)(hw:∀ x∈d.weights P t,x≤reachBytes):∃ l,A l∧VR (Env.start w) (.agg l) (.agg vs):=by
 obtain⟨n,hn⟩:=hv;obtain⟨avs,e1,e2,e3⟩:=h _ _ _ _ hn (qr _) hw;refine⟨avs,e2,.agg _ _ (by simpa [Value.cells] using e1.symm) fun i hi=>?_⟩;have:=e3 i hi
 simpa [Value.cells,qt,uD] using this
end
end AM
open AM
theorem vaX {α:Type}{e:α→List AV}{p:α→Prop}{es:List (List AV)}(h:∀ x∈es,∃ y:α,x=e y∧p y):∃ zs:List α,es.flatten=zs.flatMap e∧zs.length=es.length∧∀ z∈zs,p z:=by
 induction es with
 |nil=>exact⟨[],rfl,rfl,fun z hz=>by cases hz⟩
 |cons x es ih=>
  obtain⟨zs,h1,h2,h3⟩:=ih fun y hy=>h y (by simp[hy])
  obtain⟨y,rfl,hp⟩:=h x (by simp);refine⟨y::zs,by simp[h1],by simp[h2],fun z hz=>?_⟩
  rcases qA.1 hz with rfl|hz
  · exact hp
  exact h3 z hz
def vaS (n:Int):Prop := -9223372036854775808≤n∧n<9223372036854775808
theorem wf64 {n:Int}(h:(Lit.int .i64 n).wf=true):vaS n:=by
 simp only[Lit.wf,IntKind.min,IntKind.max,IntKind.signed,IntKind.bits,qn,decide_eq_true_eq,if_true] at h
 unfold vaS; omega
section
variable {H:Type} {enc:TypeId×Value→H} {w:World} {base:Nat} {spare:Nat→Bool} {held:Bool} {N:Nat}
theorem wT : OpensS enc qh w base spare held N 3 fun x=>∃ n,x=[.int .i64 n]∧vaS n:=
 ((opens_int Tryz.underlying3).mono fun x ⟨n,h1,h2⟩=>⟨n,h1,wf64 h2⟩).sized
theorem Zk : OpensS enc qh w base spare held N 9 fun x=>∃ s,x=[.str s]∧s.length≤140737488351232:=opensS_string Tryz.underlying9
theorem opens_ints (N:Nat):OpensS enc qh w base spare held N 45 fun x=>∃ zs:List Int,x=[AV.ds true (zs.flatMap encI) zs.length false]∧zs.length*8≤140737488351232∧∀ z∈zs,vaS z:=by
 refine ((ZJ (N:=N) Tryz.underlying45 (by decide +kernel) wT).mono ?_).less;rintro x ⟨es,rfl,h1,h2,_⟩
 obtain⟨l,e1,e2,e3⟩:=vaX (e:=encI) (p:=vaS) fun y hy=>(h1 y hy).1
 rw[show Tryz.prog.bytesOf 3=8 by kernel_rfl] at h2;exact⟨l,by rw[e1,e2],by rw[e2]; exact h2,e3⟩
end
end
section
open AM
section
variable {H:Type} {enc:TypeId×Value→H} {w:World} {base:Nat} {spare:Nat→Bool} {held:Bool}
end
end
section
open AM
def okType (y:GType):Prop:=vaS y.fKind∧y.fName.length≤140737488351232
def okField (y:GField):Prop:=y.fName.length≤140737488351232∧vaS y.fTag∧vaS y.fLabel∧okType y.fType
def var (y:GMessage):Prop:=y.fName.length≤140737488351232∧(y.fFields.length*56≤140737488351232∧∀ v∈y.fFields,okField v)∧(y.fReserved.length*8≤140737488351232∧∀ v∈y.fReserved,vaS v)
def okNamed (y:GNamed):Prop:=y.fName.length≤140737488351232∧vaS y.fN
def Yp (y:GEnumeration):Prop:=y.fName.length≤140737488351232∧(y.fValues.length*24≤140737488351232∧∀ v∈y.fValues,okNamed v)
def vbq (y:GMethod):Prop:=y.fName.length≤140737488351232∧y.fIn.length≤140737488351232∧y.fOut.length≤140737488351232
def okSchema (y:GSchema):Prop:=y.fName.length≤140737488351232∧(y.fMessages.length*64≤140737488351232∧∀ v∈y.fMessages,var v)∧(y.fEnums.length*40≤140737488351232∧∀ v∈y.fEnums,Yp v)∧(y.fMethods.length*48≤140737488351232∧∀ v∈y.fMethods,vbq v)
def okPacket (y:GPacket):Prop:=vaS y.fKind∧vaS y.fFrom∧vaS y.fTo∧vaS y.fID∧vaS y.fVersion∧y.fMethod.length≤140737488351232∧vaS y.fErr∧y.fBody.length≤140737488351232
section
variable {H:Type} {enc:TypeId×Value→H} {w:World} {base:Nat} {spare:Nat→Bool} {held:Bool}
theorem opens_Type (N:Nat):OpensS enc qh w base spare held N 55 fun x=>∃ y:GType,x=encGType y∧okType y:=by
 refine ((wD (N:=N) (A:=fun j x=>if j=0 then ∃ z:Int,x=[.int .i64 z]∧vaS z else if j=1 then ∃ z:List UInt8,x=[.str z]∧z.length≤140737488351232 else False) Tryz.underlying55 (by decide +kernel) ?_).mono ?_).less
 · intro j f hf
   match j with
   |0=>cases hf; exact wT
   |1=>cases hf; exact Zk
   |j+2=>simp at hf
 rintro x ⟨parts,rfl,hl,hx⟩;obtain⟨a0,e0,w0⟩:=hx 0 (by decide);obtain⟨a1,e1,w1⟩:=hx 1 (by decide);refine⟨⟨a0,a1⟩,?_,w0,w1⟩
 match parts,hl with
 |[p0,p1],_=>
  simp only[List.getD_cons_zero,List.getD_cons_succ] at e0 e1
  subst e0 e1; rfl
theorem opens_Field (N:Nat):OpensS enc qh w base spare held N 57 fun x=>∃ y:GField,x=encGField y∧okField y:=by
 refine ((wD (N:=N) (A:=fun j x=>if j=0 then ∃ z:List UInt8,x=[.str z]∧z.length≤140737488351232 else if j=1 then ∃ z:Int,x=[.int .i64 z]∧vaS z else if j=2 then ∃ z:Int,x=[.int .i64 z]∧vaS z else if j=3 then ∃ z:GType,x=encGType z∧okType z else False) Tryz.underlying57 (by decide +kernel) ?_).mono ?_).less
 · intro j f hf
   match j with
   |0=>cases hf; exact Zk
   |1=>cases hf; exact wT
   |2=>cases hf; exact wT
   |3=>cases hf; exact opens_Type N
   |j+4=>simp at hf
 rintro x ⟨parts,rfl,hl,hx⟩;obtain⟨a0,e0,w0⟩:=hx 0 (by decide);obtain⟨a1,e1,w1⟩:=hx 1 (by decide);obtain⟨a2,e2,w2⟩:=hx 2 (by decide);obtain⟨a3,e3,w3⟩:=hx 3 (by decide);refine⟨⟨a0,a1,a2,a3⟩,?_,w0,w1,w2,w3⟩
 match parts,hl with
 |[p0,p1,p2,p3],_=>
  simp only[List.getD_cons_zero,List.getD_cons_succ] at e0 e1 e2 e3
  subst e0 e1 e2 e3; rfl
theorem opens_Fields (N:Nat):OpensS enc qh w base spare held N 47 fun x=>∃ zs:List GField,x=[AV.ds true (zs.flatMap encGField) zs.length false]∧zs.length*56≤140737488351232∧∀ y∈zs,okField y:=by
 refine ((ZJ (N:=N) Tryz.underlying47 (by decide +kernel) (opens_Field N)).mono ?_).less;rintro x ⟨es,rfl,h1,h2,_⟩
 obtain⟨l,e1,e2,e3⟩:=vaX fun y hy=>(h1 y hy).1
 rw[show Tryz.prog.bytesOf 57=56 by kernel_rfl] at h2;exact⟨l,by rw[e1,e2],by rw[e2]; exact h2,e3⟩
theorem opens_Message (N:Nat):OpensS enc qh w base spare held N 49 fun x=>∃ y:GMessage,x=encGMessage y∧var y:=by
 refine ((wD (N:=N) (A:=fun j x=>if j=0 then ∃ z:List UInt8,x=[.str z]∧z.length≤140737488351232 else if j=1 then ∃ z:List GField,x=[AV.ds true (qe encGField z) (qc z) false]∧(z.length*56≤140737488351232∧∀ v∈z,okField v) else if j=2 then ∃ z:List Int,x=[AV.ds true (qe encI z) (qc z) false]∧(z.length*8≤140737488351232∧∀ v∈z,vaS v) else False) Tryz.underlying49 (by decide +kernel) ?_).mono ?_).less
 · intro j f hf
   match j with
   |0=>cases hf; exact Zk
   |1=>cases hf; exact opens_Fields N
   |2=>cases hf; exact opens_ints N
   |j+3=>simp at hf
 rintro x ⟨parts,rfl,hl,hx⟩;obtain⟨a0,e0,w0⟩:=hx 0 (by decide);obtain⟨a1,e1,w1⟩:=hx 1 (by decide);obtain⟨a2,e2,w2⟩:=hx 2 (by decide);refine⟨⟨a0,a1,a2⟩,?_,w0,w1,w2⟩
 match parts,hl with
 |[p0,p1,p2],_=>
  simp only[List.getD_cons_zero,List.getD_cons_succ] at e0 e1 e2
  subst e0 e1 e2; rfl
theorem opens_Messages (N:Nat):OpensS enc qh w base spare held N 22 fun x=>∃ zs:List GMessage,x=[AV.ds true (zs.flatMap encGMessage) zs.length false]∧zs.length*64≤140737488351232∧∀ y∈zs,var y:=by
 refine ((ZJ (N:=N) Tryz.underlying22 (by decide +kernel) (opens_Message N)).mono ?_).less;rintro x ⟨es,rfl,h1,h2,_⟩
 obtain⟨l,e1,e2,e3⟩:=vaX fun y hy=>(h1 y hy).1
 rw[show Tryz.prog.bytesOf 49=64 by kernel_rfl] at h2;exact⟨l,by rw[e1,e2],by rw[e2]; exact h2,e3⟩
theorem opens_Named (N:Nat):OpensS enc qh w base spare held N 86 fun x=>∃ y:GNamed,x=encGNamed y∧okNamed y:=by
 refine ((wD (N:=N) (A:=fun j x=>if j=0 then ∃ z:List UInt8,x=[.str z]∧z.length≤140737488351232 else if j=1 then ∃ z:Int,x=[.int .i64 z]∧vaS z else False) Tryz.underlying86 (by decide +kernel) ?_).mono ?_).less
 · intro j f hf
   match j with
   |0=>cases hf; exact Zk
   |1=>cases hf; exact wT
   |j+2=>simp at hf
 rintro x ⟨parts,rfl,hl,hx⟩;obtain⟨a0,e0,w0⟩:=hx 0 (by decide);obtain⟨a1,e1,w1⟩:=hx 1 (by decide);refine⟨⟨a0,a1⟩,?_,w0,w1⟩
 match parts,hl with
 |[p0,p1],_=>
  simp only[List.getD_cons_zero,List.getD_cons_succ] at e0 e1
  subst e0 e1; rfl
theorem opens_Nameds (N:Nat):OpensS enc qh w base spare held N 82 fun x=>∃ zs:List GNamed,x=[AV.ds true (zs.flatMap encGNamed) zs.length false]∧zs.length*24≤140737488351232∧∀ y∈zs,okNamed y:=by
 refine ((ZJ (N:=N) Tryz.underlying82 (by decide +kernel) (opens_Named N)).mono ?_).less;rintro x ⟨es,rfl,h1,h2,_⟩
 obtain⟨l,e1,e2,e3⟩:=vaX fun y hy=>(h1 y hy).1
 rw[show Tryz.prog.bytesOf 86=24 by kernel_rfl] at h2;exact⟨l,by rw[e1,e2],by rw[e2]; exact h2,e3⟩
theorem vaP (N:Nat):OpensS enc qh w base spare held N 84 fun x=>∃ y:GEnumeration,x=encGEnumeration y∧Yp y:=by
 refine ((wD (N:=N) (A:=fun j x=>if j=0 then ∃ z:List UInt8,x=[.str z]∧z.length≤140737488351232 else if j=1 then ∃ z:List GNamed,x=[AV.ds true (qe encGNamed z) (qc z) false]∧(z.length*24≤140737488351232∧∀ v∈z,okNamed v) else False) Tryz.underlying84 (by decide +kernel) ?_).mono ?_).less
 · intro j f hf
   match j with
   |0=>cases hf; exact Zk
   |1=>cases hf; exact opens_Nameds N
   |j+2=>simp at hf
 rintro x ⟨parts,rfl,hl,hx⟩;obtain⟨a0,e0,w0⟩:=hx 0 (by decide);obtain⟨a1,e1,w1⟩:=hx 1 (by decide);refine⟨⟨a0,a1⟩,?_,w0,w1⟩
 match parts,hl with
 |[p0,p1],_=>
  simp only[List.getD_cons_zero,List.getD_cons_succ] at e0 e1
  subst e0 e1; rfl
theorem vaq (N:Nat):OpensS enc qh w base spare held N 23 fun x=>∃ zs:List GEnumeration,x=[AV.ds true (zs.flatMap encGEnumeration) zs.length false]∧zs.length*40≤140737488351232∧∀ y∈zs,Yp y:=by
 refine ((ZJ (N:=N) Tryz.underlying23 (by decide +kernel) (vaP N)).mono ?_).less;rintro x ⟨es,rfl,h1,h2,_⟩
 obtain⟨l,e1,e2,e3⟩:=vaX fun y hy=>(h1 y hy).1
 rw[show Tryz.prog.bytesOf 84=40 by kernel_rfl] at h2;exact⟨l,by rw[e1,e2],by rw[e2]; exact h2,e3⟩
theorem opens_Method (N:Nat):OpensS enc qh w base spare held N 75 fun x=>∃ y:GMethod,x=encGMethod y∧vbq y:=by
 refine ((wD (N:=N) (A:=fun j x=>if j=0 then ∃ z:List UInt8,x=[.str z]∧z.length≤140737488351232 else if j=1 then ∃ z:List UInt8,x=[.str z]∧z.length≤140737488351232 else if j=2 then ∃ z:List UInt8,x=[.str z]∧z.length≤140737488351232 else False) Tryz.underlying75 (by decide +kernel) ?_).mono ?_).less
 · intro j f hf
   match j with
   |0=>cases hf; exact Zk
   |1=>cases hf; exact Zk
   |2=>cases hf; exact Zk
   |j+3=>simp at hf
 rintro x ⟨parts,rfl,hl,hx⟩;obtain⟨a0,e0,w0⟩:=hx 0 (by decide);obtain⟨a1,e1,w1⟩:=hx 1 (by decide);obtain⟨a2,e2,w2⟩:=hx 2 (by decide);refine⟨⟨a0,a1,a2⟩,?_,w0,w1,w2⟩
 match parts,hl with
 |[p0,p1,p2],_=>
  simp only[List.getD_cons_zero,List.getD_cons_succ] at e0 e1 e2
  subst e0 e1 e2; rfl
theorem opens_Methods (N:Nat):OpensS enc qh w base spare held N 24 fun x=>∃ zs:List GMethod,x=[AV.ds true (zs.flatMap encGMethod) zs.length false]∧zs.length*48≤140737488351232∧∀ y∈zs,vbq y:=by
 refine ((ZJ (N:=N) Tryz.underlying24 (by decide +kernel) (opens_Method N)).mono ?_).less;rintro x ⟨es,rfl,h1,h2,_⟩
 obtain⟨l,e1,e2,e3⟩:=vaX fun y hy=>(h1 y hy).1
 rw[show Tryz.prog.bytesOf 75=48 by kernel_rfl] at h2;exact⟨l,by rw[e1,e2],by rw[e2]; exact h2,e3⟩
theorem opens_Schema (N:Nat):OpensS enc qh w base spare held N 26 fun x=>∃ y:GSchema,x=encGSchema y∧okSchema y:=by
 refine ((wD (N:=N) (A:=fun j x=>if j=0 then ∃ z:List UInt8,x=[.str z]∧z.length≤140737488351232 else if j=1 then ∃ z:List GMessage,x=[AV.ds true (qe encGMessage z) (qc z) false]∧(z.length*64≤140737488351232∧∀ v∈z,var v) else if j=2 then ∃ z:List GEnumeration,x=[AV.ds true (qe encGEnumeration z) (qc z) false]∧(z.length*40≤140737488351232∧∀ v∈z,Yp v) else if j=3 then ∃ z:List GMethod,x=[AV.ds true (qe encGMethod z) (qc z) false]∧(z.length*48≤140737488351232∧∀ v∈z,vbq v) else False) Tryz.underlying26 (by decide +kernel) ?_).mono ?_).less
 · intro j f hf
   match j with
   |0=>cases hf; exact Zk
   |1=>cases hf; exact opens_Messages N
   |2=>cases hf; exact vaq N
   |3=>cases hf; exact opens_Methods N
   |j+4=>simp at hf
 rintro x ⟨parts,rfl,hl,hx⟩;obtain⟨a0,e0,w0⟩:=hx 0 (by decide);obtain⟨a1,e1,w1⟩:=hx 1 (by decide);obtain⟨a2,e2,w2⟩:=hx 2 (by decide);obtain⟨a3,e3,w3⟩:=hx 3 (by decide);refine⟨⟨a0,a1,a2,a3⟩,?_,w0,w1,w2,w3⟩
 match parts,hl with
 |[p0,p1,p2,p3],_=>
  simp only[List.getD_cons_zero,List.getD_cons_succ] at e0 e1 e2 e3
  subst e0 e1 e2 e3; rfl
theorem opens_Packet (N:Nat):OpensS enc qh w base spare held N 66 fun x=>∃ y:GPacket,x=encGPacket y∧okPacket y:=by
 refine ((wD (N:=N) (A:=fun j x=>if j=0 then ∃ z:Int,x=[.int .i64 z]∧vaS z else if j=1 then ∃ z:Int,x=[.int .i64 z]∧vaS z else if j=2 then ∃ z:Int,x=[.int .i64 z]∧vaS z else if j=3 then ∃ z:Int,x=[.int .i64 z]∧vaS z else if j=4 then ∃ z:Int,x=[.int .i64 z]∧vaS z else if j=5 then ∃ z:List UInt8,x=[.str z]∧z.length≤140737488351232 else if j=6 then ∃ z:Int,x=[.int .i64 z]∧vaS z else if j=7 then ∃ z:List UInt8,x=[.str z]∧z.length≤140737488351232 else False) Tryz.underlying66 (by decide +kernel) ?_).mono ?_).less
 · intro j f hf
   match j with
   |0=>cases hf; exact wT
   |1=>cases hf; exact wT
   |2=>cases hf; exact wT
   |3=>cases hf; exact wT
   |4=>cases hf; exact wT
   |5=>cases hf; exact Zk
   |6=>cases hf; exact wT
   |7=>cases hf; exact Zk
   |j+8=>simp at hf
 rintro x ⟨parts,rfl,hl,hx⟩;obtain⟨a0,e0,w0⟩:=hx 0 (by decide);obtain⟨a1,e1,w1⟩:=hx 1 (by decide);obtain⟨a2,e2,w2⟩:=hx 2 (by decide);obtain⟨a3,e3,w3⟩:=hx 3 (by decide);obtain⟨a4,e4,w4⟩:=hx 4 (by decide);obtain⟨a5,e5,w5⟩:=hx 5 (by decide);obtain⟨a6,e6,w6⟩:=hx 6 (by decide);obtain⟨a7,e7,w7⟩:=hx 7 (by decide);refine⟨⟨a0,a1,a2,a3,a4,a5,a6,a7⟩,?_,w0,w1,w2,w3,w4,w5,w6,w7⟩
 match parts,hl with
 |[p0,p1,p2,p3,p4,p5,p6,p7],_=>
  simp only[List.getD_cons_zero,List.getD_cons_succ] at e0 e1 e2 e3 e4 e5 e6 e7
  subst e0 e1 e2 e3 e4 e5 e6 e7; rfl
end
end
section
open AM
section
variable {H:Type} {enc:TypeId×Value→H} {w:World} {base:Nat} {spare:Nat→Bool} {held:Bool}
end
theorem szS_of {s:GSchema}(h:okSchema s):szS s:=
 ⟨⟨h.1,fun m hm=>⟨(h.2.1.2 m hm).1,fun f hf=>((h.2.1.2 m hm).2.1.2 f hf).1⟩,fun e he=>⟨(h.2.2.1.2 e he).1,fun v hv=>((h.2.2.1.2 e he).2.2 v hv).1⟩,fun x hx=>(h.2.2.2.2 x hx).1⟩,
  h.2.1.1,h.2.2.1.1,h.2.2.2.1,fun m hm=>⟨(h.2.1.2 m hm).2.1.1,(h.2.1.2 m hm).2.2.1⟩,fun e he=>(h.2.2.1.2 e he).2.1⟩
end
end Go.Proofs.YtaddlmlpeghonaaGreatDoor
