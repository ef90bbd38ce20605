/- Parts of the proof, cut down to what it needs. -/
import Derived.Test.YtaahlckibpiphaaGreatDoorXSbZ
import Derived.KernelRfl
import Derived.Test.YtaahlckibpiphaaGreatDoorXCv
import Derived.Test.YtaahlckibpiphaaGreatDoorRows
import Derived.Test.YtaahlckibpiphaaGreatDoorChecked
import Derived.Test.YtaahlckibpiphaaGreatDoorTie
import Derived.ProofKit
import Derived.OpenShut
import Derived.ShutString
import Derived.ChangeOld
import Derived.ChangeSame
import Derived.ChangeVars
import Derived.JoinedOf
import Derived.RowKit
import Derived.LaidLaws
import Derived.LaidHandle
import Derived.Lib.LaidIn
import Derived.Lib.LaidU8T
import Derived.SevenTiedAt
set_option linter.constructorNameAsVariable false
set_option linter.unusedSimpArgs false
set_option linter.unusedVariables false
namespace Go.Proofs.YtaahlckibpiphaaGreatDoor
open _root_.List renaming length → qa, flatMap → qb, length_append → qj, length_cons → qp, drop_zero → qq, map_nil → qr, map_append → qs, map_cons → qu, append_assoc → qA, length_nil → qB, getD_eq_getElem?_getD → qC, append_nil → qD, flatMap_cons → qE, nil_append → qG, flatMap_append → qH, cons_append → qI, mem_cons_of_mem → qL, flatMap_nil → qO, mem_cons_self → qP, getElem?_eq_some_iff → qQ, length_eq_zero_iff → qS, replicate → qV, range_zero → qW, getElem?_eq_getElem → qX, getElem?_append_left → qY, all_cons → qZ, mem_cons → q9, all_nil → ua, length_singleton → ub, getElem?_set_ne → ue, range_succ → ug, take_length → uk, length_map → ul, eq_nil_of_length_eq_zero → um, all_eq_true → un, getElem?_append_right → uo, take_of_length_le → uu, getElem?_set_self → uv, getElem?_eq_none → uw, take_append_drop → uA, mem_singleton → uD, pairwise_cons → uE, mem_map → uH, mem_append → uI, range → uJ, set_cons_zero → uK, getElem?_cons_zero → uL, length_take → uR, mem_append_left → uT, length_drop → uU, set_cons_succ → uV, mem_append_right → uW, nodup_cons → vg, drop_drop → vo, getElem?_map → vp
open _root_.Option renaming bind_some → qk, getD_some → uO
open _root_.Nat renaming reduceEqDiff → qc, reduceLeDiff → qd, reduceAdd → qe, reduceMul → qf, reduceSub → qg, reduceLT → qh, zero_add → qn, le_refl → qx, add_zero → qF, lt_succ_self → qK, zero_le → qU, mul_le_mul_right → ud, lt_of_lt_of_le → ui, reduceMod → uj, add_assoc → ux, zero_mul → uy, le_trans → uB, sub_self → uQ, sub_zero → uZ, add_mul → u6, le_of_not_lt → u7
open _root_.Bool renaming not_false → qm, and_true → qo, or_true → qt, not_true → qv, and_false → qw, or_false → qz, and_eq_true → qJ, and_self → qN, false_eq_true → uf, true_and → uh, or_eq_true → ut, true_or → uC, false_or → uF, false_and → u0, not_eq_true' → u9
open _root_.Int renaming toNat → qT, toNat_natCast → uc
open _root_.BitVec renaming ofInt → qM, toNat → uz
open _root_.Array renaming getD_eq_getD_getElem? → uG, getElem?_setIfInBounds_ne → uS, replicate → u5
open _root_.UInt8 renaming ofNat → ur
open Result renaming andThen_ok → ql
open Sem renaming run_bind → qy, run_pure → qR
open _root_.Go.Proofs.Tryz renaming prog → qi
section
set_option maxRecDepth 4000
open AM
def insR (r:yC):List yC→List yC
 |[]=>[r]
 |x::l=>if r.fTag<x.fTag then r::x::l else x::insR r l
def srtA : List yC→List yC→List yC
 |[],S=>S
 |r::q,S=>srtA q (insR r S)
def srt (l:List yC):List yC:=srtA l []
def vbT (a b:yC):Prop:=a.fTag≤b.fTag
theorem insR_app {r:yC}:∀ {A B:List yC},(∀ a∈A,a.fTag≤r.fTag)→(∀ b∈B,r.fTag<b.fTag)→insR r (A++B)=A++r::B
 |[],[],_,_=>rfl
 |[],b::B,_,hB=>by
  rw[qG,insR,if_pos (hB b (qP ..))]; rfl
 |a::A,B,hA,hB=>by
  rw[qI,insR,if_neg (by have:=hA a (qP ..); omega),insR_app (fun x hx=>hA x (qL _ hx)) hB]; rfl
theorem insR_mem {r x:yC}:∀ {l:List yC},x∈insR r l↔x=r∨x∈l
 |[]=>by simp[insR]
 |y::l=>by
  rw[insR]; split
  · simp
  rw[q9,insR_mem,q9]
  constructor
  · rintro (h|h|h)
    · exact Or.inr (Or.inl h)
    · exact Or.inl h
    exact Or.inr (Or.inr h)
  rintro (h|h|h)
  · exact Or.inr (Or.inl h)
  · exact Or.inl h
  exact Or.inr (Or.inr h)
theorem vc2 (r:yC):∀ l:List yC,(insR r l).length=l.length+1
 |[]=>rfl
 |x::l=>by
  rw[insR]; split
  · rfl
  rw[qp,vc2 r l,qp]
theorem vbM {r:yC}:∀ {l:List yC},l.Pairwise vbT→(insR r l).Pairwise vbT
 |[],_=>by simp[insR]
 |x::l,h=>by
  rw[uE] at h
  rw[insR]; split
  · rename_i hlt
    rw[uE,uE];refine⟨?_,h⟩
    intro y hy
    rcases q9.1 hy with rfl|hy
    · unfold vbT; omega
    have:=h.1 y hy; unfold vbT at *; omega
  rename_i hge
  rw[uE];refine⟨?_,vbM h.2⟩
  intro y hy
  rcases insR_mem.1 hy with rfl|hy
  · unfold vbT; omega
  exact h.1 y hy
theorem vde : ∀ {l S:List yC},S.Pairwise vbT→(srtA l S).Pairwise vbT
 |[],_,h=>h
 |r::l,S,h=>by rw[srtA]; exact vde (l:=l) (vbM h)
theorem srt_sorted (l:List yC):(srt l).Pairwise vbT:=vde List.Pairwise.nil
theorem srtA_len : ∀ (l S:List yC),(srtA l S).length=S.length+l.length
 |[],_=>rfl
 |r::l,S=>by rw[srtA,srtA_len,vc2,qp]; omega
theorem srt_len (l:List yC):(srt l).length=l.length:=by rw[srt,srtA_len,qB,qn]
theorem srtA_mem {x:yC}:∀ {l S:List yC},x∈srtA l S↔x∈S∨x∈l
 |[],S=>by simp[srtA]
 |r::l,S=>by
  rw[srtA,srtA_mem,insR_mem,q9]
  constructor
  · rintro ((h|h)|h)
    · exact Or.inr (Or.inl h)
    · exact Or.inl h
    exact Or.inr (Or.inr h)
  rintro (h|h|h)
  · exact Or.inl (Or.inr h)
  · exact Or.inl (Or.inl h)
  exact Or.inr h
theorem srt_mem {x:yC}{l:List yC}:x∈srt l↔x∈l:=by rw[srt,srtA_mem]; simp
theorem vbe {α:Type}{A B:List α}{x:α}{i:Int}(h:i=A.length):YI (A++x::B) i=some x:=by
 subst h
 rw[YI,if_pos (by omega),uc,uo (qx _),uQ]; rfl
theorem idx_t {α:Type}{l:List α}{i:Int}{x:α}(h0:0≤i)(h:l[i.toNat]?=some x):YI l i=some x:=by rw[YI,if_pos h0,h]
theorem sorted_l17 {r z:yC}{S P:List yC}(rec8:Int→List yC→Option (List yC)):∀ (k:Nat) (A B:List yC),S=A++B→(∀ b∈B,r.fTag<b.fTag)→A.Pairwise vbT→A.length<k→S.length<1000000→
 yz.l17 (S.length:Int) (S++z::P) rec8 r k (A.length:Int)=rec8 ((S.length:Int)+1) (insR r S++P)
 |0,_,_,_,_,_,h,_=>by omega
 |k+1,A,B,hS,hB,hA,hk,hn=>by
  have stop:(∀ a∈A,a.fTag≤r.fTag)→yz.j20 (S.length:Int) (S++z::P) rec8 r (A.length:Int) (yz.l17 (S.length:Int) (S++z::P) rec8 r k) false=rec8 ((S.length:Int)+1) (insR r S++P):=by
   intro hle
   have hl:S.length=A.length+B.length:=by rw[hS,qj]
   have e1:IntKind.i64.wrap ((A.length:Int)+1)=((A.length+1:Nat):Int):=by rw[Za (by omega) (by omega)]; omega
   rw[yz.j20,if_neg (by decide),e1,vcX (by rw[qj,qp]; omega),qk,vcX (by rw[qj,qp]; omega),qk]
   have e2:qT ((S.length:Int)+1)=S.length+1:=by omega
   rw[uc,uc,uc,e2,show min (S.length-A.length) (S.length+1-(A.length+1))=B.length by omega]
   have hc:∃ w:yC,A.length<(S++z::P).length∧vbu (S++z::P) (A.length+1) A.length B.length=A++w::(B++P):=by
    cases hB':B with
    |nil=>
     subst hB';rw[qD] at hS;refine⟨z,by rw[hS,qj,qp]; omega,?_⟩;rw[vbu,hS,qB,List.take_zero,qG,qF,List.drop_append,List.drop_eq_nil_of_le (by omega),List.take_append,uu (by omega)];rw[show A.length+1-A.length=1 by omega]
     simp
    |cons b B'=>
     refine⟨b,by rw[hS,hB',qj,qj,qp]; omega,?_⟩;rw[hS,hB',vbu]
     have t1:((A++b::B')++z::P).take (A.length+1)=A++[b]:=by
      rw[qA,List.take_append,uu (by omega),show A.length+1-A.length=1 by omega]; rfl
     have t2:(((A++b::B')++z::P).drop A.length).take (b::B').length=b::B':=by
      rw[qA,List.drop_left' rfl,List.take_left' rfl]
     have t3:((A++b::B')++z::P).drop (A.length+1+(b::B').length)=P:=by
      rw[show (A++b::B')++z::P=((A++b::B')++[z])++P by rw[qA (A++b::B')]; rfl];rw[List.drop_left']
      simp only[qj,qp,qB]; omega
     rw[t1,t2,t3];simp only[qA,qI,qG]
   obtain⟨w,hlt,hc⟩:=hc
   rw[hc,vbe rfl,qk,setI,uc,List.set_append_right _ _ (qx _),uQ,uK,hS,insR_app hle hB,qA]; rfl
  rcases List.eq_nil_or_concat A with rfl|⟨A',a,rfl⟩
  · rw[yz.l17,if_neg (by simp)];exact stop (fun a ha=>by cases ha)
  rw[List.concat_eq_append] at *
  have hlA:(A'++[a]).length=A'.length+1:=by rw[qj,ub]
  have hlS:S.length=(A'++[a]).length+B.length:=by rw[hS,qj]
  have e1:IntKind.i64.wrap (((A'++[a]).length:Int)-1)=(A'.length:Int):=by
   rw[Za (by omega) (by omega)]; omega
  rw[yz.l17,if_pos (by omega),e1]
  have ei:YI (S++z::P) (A'.length:Int)=some a:=by
   rw[hS,qA,qA]; exact vbe rfl
  rw[ei,qk]
  by_cases hgt:r.fTag<a.fTag
  · rw[decide_eq_true hgt,yz.j20,if_pos rfl,e1];refine sorted_l17 rec8 k A' (a::B) (by rw[hS,qA]; rfl) ?_ (List.pairwise_append.1 hA).1 (by omega) hn
    intro b hb
    rcases q9.1 hb with rfl|hb
    · exact hgt
    exact hB b hb
  rw[decide_eq_false hgt];refine stop ?_
  intro x hx
  rcases uI.1 hx with hx|hx
  · have:=(List.pairwise_append.1 hA).2.2 x hx a (uD.2 rfl)
    unfold vbT at this; omega
  rw[uD] at hx; subst hx; omega
theorem sorted_l8 : ∀ (q S P:List yC),P.length=q.length→S.Pairwise vbT→S.length+q.length<1000000→yz.l8 q (S.length:Int) (S++P)=some (srtA q S)
 |[],S,P,hP,_,_=>by
  have:P=[]:=qS.1 (by simpa using hP);subst this;rw[yz.l8,srtA,qD]
 |r::q,S,[],hP,_,_=>by cases hP
 |r::q,S,z::P,hP,hS,hn=>by
  rw[qp] at hn;rw[yz.l8,sorted_l17 (S:=S) (yz.l8 q) xz S [] (qD S).symm (fun b hb=>by cases hb) hS (ui (show S.length<1000000 by omega) (by decide)) (by omega)]
  have e:(S.length:Int)+1=((insR r S).length:Int):=by rw[vc2]; omega
  rw[e,sorted_l8 q (insR r S) P (by simpa using hP) (vbM hS) (by rw[vc2]; omega),srtA]
theorem sorted_eq {l:List yC}(h:l.length<1000000):yz l=some (srt l):=by
 rw[yz,vcX (by omega),qk,uc];exact sorted_l8 l [] _ List.length_replicate List.Pairwise.nil (by rw[qB]; omega)
theorem decU_pos (s:List UInt8)(p:Nat):1≤(vdA s p).2:=by
 unfold vdA Utf8.decode
 dsimp only
 repeat' split
 all_goals first|exact qx 1|exact (by decide:1≤2)|exact (by decide:1≤3)|exact (by decide:1≤4)
theorem runesNext_t (a:List UInt8)(n:Nat)(h:a.length≤9223372036854775807):∃ r,Xc a (n:Int)=some r:=by
 unfold Xc
 split
 · exact⟨_,rfl⟩
 rename_i h1
 simp only[ut,decide_eq_true_eq,not_or] at h1;rw[vcX (by omega),qk,bnd]
 split<;>exact⟨_,rfl⟩
theorem vcG (a:List UInt8)(h:a.length≤9223372036854775807):∀ (k p:Nat),0<k→a.length<p+k→∃ v,wh.l4 a k p=some v
 |0,p,h0,hk=>by omega
 |k+1,p,_,hk=>by
  have hd:=decU_pos a p;rw[wh.l4]
  split
  · have ih:=vcG a h k (p+(vdA a p).2) (by omega) (by omega)
    split
    · obtain⟨r,e⟩:=runesNext_t a p h;rw[e,qk]
      split
      · exact⟨_,rfl⟩
      exact ih
    exact ih
  exact⟨_,rfl⟩
theorem Yk : 9223372036854775808≤xz:=by decide
def vdh (b:List UInt8):Bool:=(wh b).getD false
theorem runesV_eq {a:List UInt8}(h:a.length≤9223372036854775807):wh a=some (vdh a):=by
 obtain⟨v,e⟩:=vcG a h xz 0 (by have:=Yk; omega) (by have:=Yk; omega);unfold vdh
 rw[show wh a=some v from e]; rfl
theorem vcK (t:Int)(l:List zp):(zv.mk t l).fTag=t:=rfl
theorem ZQ (t:Int)(l:List zp):(zv.mk t l).fTrees=l:=rfl
def vaS (a b:zv):Prop:=a.fTag<b.fTag
def vcv (t:Int)(rep:Prop) [Decidable rep](x:zp):List zv→List zv
 |[]=>[⟨t,[x]⟩]
 |e::l=>if e.fTag<t then e::vcv t rep x l else if e.fTag=t then ⟨t,(if rep then e.fTrees else [])++[x]⟩::l else ⟨t,[x]⟩::e::l
def putN (t:Int)(rep:Prop) [Decidable rep]:List zv→Nat
 |[]=>1
 |e::l=>if e.fTag<t then putN t rep l else if e.fTag=t then (if rep then e.fTrees.length else 0)+1 else 1
theorem putE_app {t:Int}{rep:Prop} [Decidable rep]{x:zp}{B:List zv}:∀ {A:List zv},(∀ a∈A,a.fTag<t)→vcv t rep x (A++B)=A++vcv t rep x B
 |[],_=>rfl
 |a::A,h=>by
  rw[qI,vcv,if_pos (h a (qP ..)),putE_app fun b hb=>h b (qL _ hb)]; rfl
theorem putN_app {t:Int}{rep:Prop} [Decidable rep]{B:List zv}:∀ {A:List zv},(∀ a∈A,a.fTag<t)→putN t rep (A++B)=putN t rep B
 |[],_=>rfl
 |a::A,h=>by
  rw[qI,putN,if_pos (h a (qP ..)),putN_app fun b hb=>h b (qL _ hb)]
theorem splitE (t:Int):∀ {es:List zv},es.Pairwise vaS→∃ A B,es=A++B∧(∀ a∈A,a.fTag<t)∧(∀ b∈B,t≤b.fTag)
 |[],_=>⟨[],[],rfl,(fun _ h=>by cases h),(fun _ h=>by cases h)⟩
 |e::es,h=>by
  rw[uE] at h
  by_cases he:e.fTag<t
  · obtain⟨A,B,rfl,hA,hB⟩:=splitE t h.2;refine⟨e::A,B,rfl,?_,hB⟩
    intro a ha
    rcases q9.1 ha with rfl|ha
    · exact he
    exact hA a ha
  refine⟨[],e::es,rfl,(fun _ h=>by cases h),?_⟩
  intro b hb
  rcases q9.1 hb with rfl|hb
  · omega
  have:=h.1 b hb; unfold vaS at this; omega
theorem put1_eq {e:zv}{t:Int}(h1:1≤e.fTag∧e.fTag≤500)(h2:1≤t∧t≤500):ZI e t=e.fTag-t:=by
 unfold ZI; exact Za (by omega) (by omega)
theorem half {x y:Nat}(h:x+y<9223372036854775808):IntKind.i64.wrap (Int.fdiv (IntKind.u64.wrap (IntKind.i64.wrap ((x:Int)+(y:Int)))) (2^(min (qT 1) 64)))=(((x+y) / 2:Nat):Int):=by
 rw[Za (x:=(x:Int)+y) (by omega) (by omega),u64i (by omega) (by omega),show min (qT 1) 64=1 from rfl,Int.fdiv_eq_ediv_of_nonneg _ (by decide),Za (by omega) (by omega)]
 omega
def vap (t:Int):List zv→Bool
 |[]=>false
 |b::_=>decide (b.fTag=t)
theorem bs_l {t:Int}{A B:List zv}(ht:1≤t∧t≤500)(hA:∀ a∈A,a.fTag<t)(hB:∀ b∈B,t≤b.fTag)(hr:∀ e∈A++B,1≤e.fTag∧e.fTag≤500)(hn:(A++B).length<4611686018427387904):
 ∀ (k x y:Nat),x≤A.length→A.length≤y→y≤(A++B).length→y<x+k→zM.l6 (A++B) t k (x:Int) (y:Int)=some ((A.length:Int),vap t B)
 |0,x,y,_,_,_,hk=>by omega
 |k+1,x,y,hx,hy,hl,hk=>by
  rw[zM.l6]
  by_cases hlt:x<y
  · rw[if_pos (by omega),half (by omega)]
    have hm:(x+y) / 2<(A++B).length:=by omega
    rw[idx_t (by omega) (show (A++B)[qT (((x+y) / 2:Nat):Int)]?=some ((A++B)[(x+y) / 2]'hm) by rw[uc]; exact qX hm),qk,bnd,put1_eq (hr _ (List.getElem_mem hm)) ht]
    by_cases hc:(x+y) / 2<A.length
    · have e:(A++B)[(x+y) / 2]'hm=A[(x+y) / 2]'hc:=List.getElem_append_left hc;have:=hA _ (List.getElem_mem hc);rw[e,if_pos (by omega),Za (by omega) (by omega),show (((x+y) / 2:Nat):Int)+1=(((x+y) / 2+1:Nat):Int) by omega];exact bs_l ht hA hB hr hn k _ y (by omega) hy hl (by omega)
    have hlB:(x+y) / 2-A.length<B.length:=by rw[qj] at hm; omega
    have e:(A++B)[(x+y) / 2]'hm=B[(x+y) / 2-A.length]'hlB:=List.getElem_append_right (by omega);have:=hB _ (List.getElem_mem hlB);rw[e,if_neg (by omega)];exact bs_l ht hA hB hr hn k x _ hx (by omega) (by omega) (by omega)
  have e:x=A.length:=by omega
  subst e;rw[if_neg (by omega)]
  cases B with
  |nil=>rw[qD,if_neg (by omega)]; rfl
  |cons b B=>
   rw[if_pos (by rw[qj,qp]; omega),vbe rfl,qk,bnd,put1_eq (hr b (uW _ (qP ..))) ht,qk,vap]
   congr 2
   exact decide_eq_decide.2 (by omega)
theorem decode_put_eq {es:List zv}{f:ZB}{x:zp}(hs:es.Pairwise vaS)(hr:∀ e∈es,1≤e.fTag∧e.fTag≤500)(hf:1≤f.fTag∧f.fTag≤500)(hn:es.length<1000000)(ht:∀ e∈es,e.fTrees.length<1000000):
 vav es f x=some (vcv f.fTag (f.fLabel=3) x es,decide (putN f.fTag (f.fLabel=3) es≤64)):=by
 obtain⟨A,B,rfl,hA,hB⟩:=splitE f.fTag hs;have hln:(A++B).length=A.length+B.length:=qj;have bs:zM (A++B) f.fTag=some ((A.length:Int),vap f.fTag B):=bs_l hf hA hB hr (by omega) xz 0 (A++B).length (qU _) (by omega) (qx _) (by have:=Yk; omega);rw[vav,bs,qk,putE_app hA,putN_app hA]
 have ins:∀ (B:List zv),(A++B).length<1000000→vap f.fTag B=false→(∀ b∈B,f.fTag≤b.fTag)→((if ((A.length:Int),vap f.fTag B).2=true then some (A++B) else (grd (0≤((A.length:Int),vap f.fTag B).1∧((A.length:Int),vap f.fTag B).1≤((A++B).length:Int))).bind fun _=>(vaV ((A++B).length+1) 32).bind fun _=>some ((A++B).take ((A.length:Int),vap f.fTag B).1.toNat++⟨f.fTag,[]⟩::(A++B).drop ((A.length:Int),vap f.fTag B).1.toNat)).bind fun es1=>
  (YI es1 ((A.length:Int),vap f.fTag B).1).bind fun e=>
  (vaV ((if f.fLabel=3 then e.fTrees.length else 0)+1) 80).bind fun _=>
  some (es1.set ((A.length:Int),vap f.fTag B).1.toNat ⟨e.fTag,(if f.fLabel=3 then e.fTrees else [])++[x]⟩,decide ((((if f.fLabel=3 then e.fTrees else [])++[x]).length:Int)≤64)))=some (A++⟨f.fTag,[x]⟩::B,true):=by
  intro B hln hh _
  have hl2:(A++B).length=A.length+B.length:=qj;rw[hh];simp only[uc];rw[if_neg (by decide),vcX (by omega),qk,ZU (by omega),qk,qk,List.take_left' rfl,List.drop_left' rfl,vbe rfl,qk,ZU (by rw[ZQ]; split<;>decide),qk,List.set_append_right _ _ (qx _),uQ,uK]
  simp only[vcK,ZQ,ite_self,qG,ub]; rfl
 cases B with
 |nil=>
  rw[ins [] hn rfl (fun _ h=>by cases h)]; rfl
 |cons b B=>
  have hb:=hB b (qP ..)
  by_cases hbt:b.fTag=f.fTag
  · have hh:vap f.fTag (b::B)=true:=decide_eq_true hbt;have htb:=ht b (uW _ (qP ..));rw[hh];simp only[uc];rw[if_pos trivial,qk,vbe rfl,qk,ZU (by split<;>omega),qk,List.set_append_right _ _ (qx _),uQ,uK,vcv,if_neg (show ¬ b.fTag<f.fTag by omega),if_pos hbt,putN,if_neg (show ¬ b.fTag<f.fTag by omega),if_pos hbt,hbt]
    congr 2
    refine decide_eq_decide.2 ?_;rw[qj,ub]
    by_cases h3:f.fLabel=3
    · rw[if_pos h3,if_pos h3]; omega
    rw[if_neg h3,if_neg h3,qB]; omega
  have hh:vap f.fTag (b::B)=false:=decide_eq_false hbt
  rw[ins (b::B) hn hh hB,vcv,if_neg (by omega),if_neg hbt,putN,if_neg (by omega),if_neg hbt]; rfl
theorem putE_mem {t:Int}{rep:Prop} [Decidable rep]{x:zp}{e:zv}:∀ {es:List zv},e∈vcv t rep x es→e∈es∨e.fTag=t
 |[],h=>by rw[vcv,uD] at h; subst h; exact Or.inr rfl
 |a::es,h=>by
  rw[vcv] at h; split at h
  · rcases q9.1 h with rfl|h
    · exact Or.inl (qP ..)
    rcases putE_mem h with h|h
    · exact Or.inl (qL _ h)
    exact Or.inr h
  split at h
  · rcases q9.1 h with rfl|h
    · exact Or.inr rfl
    exact Or.inl (qL _ h)
  rcases q9.1 h with rfl|h
  · exact Or.inr rfl
  exact Or.inl h
theorem vbH {t:Int}{rep:Prop} [Decidable rep]{x:zp}:∀ {es:List zv},es.Pairwise vaS→(vcv t rep x es).Pairwise vaS
 |[],_=>by simp[vcv]
 |a::es,h=>by
  rw[uE] at h
  rw[vcv]; split
  · rename_i hlt
    rw[uE];refine⟨?_,vbH h.2⟩
    intro b hb
    rcases putE_mem hb with hb|hb
    · exact h.1 b hb
    unfold vaS; omega
  split
  · rename_i hge heq
    rw[uE];refine⟨?_,h.2⟩
    intro b hb
    have:=h.1 b hb; unfold vaS at *; simp only[vcK]; omega
  rename_i hge hne
  rw[uE,uE];refine⟨?_,h⟩
  intro b hb
  rcases q9.1 hb with rfl|hb
  · unfold vaS; simp only[vcK]; omega
  have:=h.1 b hb; unfold vaS at *; simp only[vcK]; omega
theorem putE_len {t:Int}{rep:Prop} [Decidable rep]{x:zp}:∀ {es:List zv},(vcv t rep x es).length≤es.length+1
 |[]=>by rw[vcv]; exact qx _
 |a::es=>by
  rw[vcv]; split
  · rw[qp,qp]; have:=putE_len (t:=t) (rep:=rep) (x:=x) (es:=es); omega
  split<;>simp only[qp]<;>omega
theorem putE_all {t:Int}{rep:Prop} [Decidable rep]{x:zp}{e:zv}:∀ {es:List zv},e∈vcv t rep x es→e∈es∨(e.fTag=t∧e.fTrees.length=putN t rep es∧e.fTrees≠[])
 |[],h=>by rw[vcv,uD] at h; subst h; exact Or.inr ⟨rfl,rfl,by rw[ZQ]; simp⟩
 |a::es,h=>by
  rw[vcv] at h; rw[putN]; split at h
  · rename_i hlt
    rw[if_pos hlt]
    rcases q9.1 h with rfl|h
    · exact Or.inl (qP ..)
    rcases putE_all h with h|h
    · exact Or.inl (qL _ h)
    exact Or.inr h
  rename_i hlt
  rw[if_neg hlt]
  split at h
  · rename_i heq
    rw[if_pos heq]
    rcases q9.1 h with rfl|h
    · refine Or.inr ⟨rfl,?_,by rw[ZQ]; simp⟩
      simp only[ZQ,qj,ub]; split<;>rfl
    exact Or.inl (qL _ h)
  rename_i hne
  rw[if_neg hne]
  rcases q9.1 h with rfl|h
  · exact Or.inr ⟨rfl,rfl,by rw[ZQ]; simp⟩
  exact Or.inl h
def vai : zp:=⟨0,0,[],[],[]⟩
def isZ (m:z8)(e:zv):Bool:=decide ((zW m e.fTag).1.fLabel=1)&&YD (e.fTrees.headD vai)
def zdel (m:z8)(es:List zv):List zv:=es.filter fun e => !isZ m e
theorem vch {m:z8}:∀ {es:List zv},(∀ e∈es,e.fTrees≠[])→ZY m es=some (zdel m es)
 |[],_=>rfl
 |e::es,h=>by
  have he:=h e (qP ..);rw[ZY,wS,bnd]
  have e1:(if (zW m e.fTag).1.fLabel=1 then (YI e.fTrees 0).bind fun y2=>bnd (YD y2) fun r5=>some r5 else some false)=some (isZ m e):=by
   unfold isZ
   split
   · rename_i hl
     cases ht:e.fTrees with
     |nil=>exact absurd ht he
     |cons a l=>
      rw[idx_t (Int.le_refl 0) (show (a::l)[qT 0]?=some a from rfl),qk,bnd,hl]; rfl
   rename_i hl
   rw[decide_eq_false hl,u0]
  rw[e1,qk,qk,vch fun a ha=>h a (qL _ ha),qk]
  unfold zdel; rw[List.filter_cons]
  cases isZ m e<;>rfl
def fldD (m:z8)(one:YH→yC→zp×Int):List yC→List zv→List yC→zp×Int
 |[],es,rest=>(⟨3,0,[],zdel m es,srt rest⟩,0)
 |r::q,es,rest=>
  if (zW m r.fTag).2=true then
   (if (one (zW m r.fTag).1.fType r).2=0 then
    (if putN r.fTag ((zW m r.fTag).1.fLabel=3) es≤64 then fldD m one q (vcv r.fTag ((zW m r.fTag).1.fLabel=3) (one (zW m r.fTag).1.fType r).1 es) rest else (vai,4))
   else (vai,(one (zW m r.fTag).1.fType r).2))
  else fldD m one q es (rest++[r])
theorem checkField_tag {m:z8}{t:Int}(h:(zW m t).2=true):(zW m t).1.fTag=t∧(zW m t).1∈m.fFields:=by
 have key:∀ (l:List ZB) (i:Int),(zW.l4 t l i).2=true→(zW.l4 t l i).1.fTag=t∧(zW.l4 t l i).1∈l:=by
  intro l
  induction l with
  |nil=>intro i h; cases h
  |cons f l ih=>
   intro i h
   rw[zW.l4] at h ⊢
   split at h
   · rename_i hf
     rw[if_pos hf]; exact⟨hf,qP ..⟩
   rename_i hf
   rw[if_neg hf];obtain⟨h1,h2⟩:=ih _ h;exact⟨h1,qL _ h2⟩
 exact key m.fFields 0 h
theorem fldD_eq {self:zB→YH→yC→Int→Option (zp×Int)}{s:zB}{m:z8}{deep:Int}{one:YH→yC→zp×Int}:
 ∀ {l:List yC} {es:List zv} {rest:List yC},(∀ r∈l,1≤r.fTag∧r.fTag≤500)→(∀ r∈l,∀ y,self s y r deep=some (one y r))→es.Pairwise vaS→(∀ e∈es,(1≤e.fTag∧e.fTag≤500)∧e.fTrees≠[]∧e.fTrees.length≤64)→es.length+l.length<100000→rest.length+l.length<100000→
 ya.l self s m deep l es rest=some (fldD m one l es rest)
 |[],es,rest,_,_,_,he,hn,hn'=>by
  rw[ya.l,ZU (by simp only[qB] at hn; omega),qk,vch fun e h=>(he e h).2.1,qk,sorted_eq (by simp only[qB] at hn'; omega),qk,fldD]
 |r::l,es,rest,ht,ho,hs,he,hn,hn'=>by
  rw[qp] at hn hn';have hr:=ht r (qP ..)
  have ht':∀ r∈l,1≤r.fTag∧r.fTag≤500:=fun x hx=>ht x (qL _ hx)
  have ho':∀ r∈l,∀ y,self s y r deep=some (one y r):=fun x hx=>ho x (qL _ hx)
  rw[ya.l,bnd,fldD]
  by_cases hf:(zW m r.fTag).2=true
  · obtain⟨hft,_⟩:=checkField_tag hf;rw[if_pos hf,if_pos hf,ho r (qP ..),qk]
    by_cases h0:(one (zW m r.fTag).1.fType r).2=0
    · rw[if_pos h0,if_pos h0,decode_put_eq hs (fun e h=>(he e h).1) (by rw[hft]; exact hr) (by omega) (fun e h=>by have:=(he e h).2.2; omega),qk,hft]
      by_cases hp:putN r.fTag ((zW m r.fTag).1.fLabel=3) es≤64
      · rw[if_pos hp,if_pos (decide_eq_true hp)];refine fldD_eq (es:=vcv r.fTag ((zW m r.fTag).1.fLabel=3) (one (zW m r.fTag).1.fType r).1 es) ht' ho' (vbH hs) ?_ (by have:=putE_len (t:=r.fTag) (rep:=(zW m r.fTag).1.fLabel=3) (x:=(one (zW m r.fTag).1.fType r).1) (es:=es); omega) (by omega)
        intro e h
        rcases putE_all h with h|⟨h1,h2,h3⟩
        · exact he e h
        exact⟨by rw[h1]; exact hr,h3,by omega⟩
      rw[if_neg hp,if_neg (by simpa using hp)]; rfl
    rw[if_neg h0,if_neg h0]; rfl
  rw[if_neg hf,if_neg hf,ZU (by omega),qk];exact fldD_eq ht' ho' hs he (by omega) (by rw[qj,ub]; omega)
def vbJ (s:zB)(n:List UInt8):z8:=(yw s n).1
def oneD (msg:z8→List UInt8→zp×Int)(s:zB)(y:YH)(r:yC):zp×Int:=
 if (if y.fKind=4∨y.fKind=5∨y.fKind=7 then r.fWire=1 else r.fWire=0) then
  (if y.fKind=3∨y.fKind=6 then (if wR y r.fN=true then (⟨1,r.fN,[],[],[]⟩,0) else (vai,11))
  else if y.fKind=4 then (if vdh r.fB=true then (⟨2,0,r.fB,[],[]⟩,0) else (vai,9))
  else if y.fKind=7 then msg (vbJ s y.fName) r.fB
  else (if r.fWire=1 then ⟨2,0,r.fB,[],[]⟩ else ⟨1,r.fN,[],[],[]⟩,0))
 else (vai,8)
theorem oneD_eq {self:zB→z8→List UInt8→Int→Option (zp×Int)}{self2:zB→YH→yC→Int→Option (zp×Int)}{s:zB}{y:YH}{r:yC}{deep:Int}{msg:z8→List UInt8→zp×Int}(hw:r.fWire=0∨r.fWire=1)(hb:r.fB.length≤4096)(hd:deep<1000)(hd':0≤deep)(hs:self s (vbJ s y.fName) r.fB (deep+1)=some (msg (vbJ s y.fName) r.fB)):
 yy.body self self2 s y r deep=some (oneD msg s y r):=by
 have hv:=runesV_eq (a:=r.fB) (by omega);have ed:IntKind.i64.wrap (deep+1)=deep+1:=Za (by omega) (by omega)
 have hm:∀ z:zp×Int,some (z.1,z.2)=some z:=fun z=>rfl
 unfold yy.body yy.j2 yy.j26 yy.j3 yy.j6 yy.j4 oneD bnd;unfold vbJ at hs ⊢;simp only[vcX (show r.fB.length≤9223372036854775807 by omega),hv,ed,qk,hs]
 rcases hw with hw|hw<;>simp only[hw,reduceIte,reduceCtorEq,Int.reduceEq] <;>
  by_cases k4:y.fKind=4<;>by_cases k5:y.fKind=5<;>by_cases k7:y.fKind=7<;>by_cases k3:y.fKind=3<;>by_cases k6:y.fKind=6 <;>
  first
   |(exfalso; omega)
   |(simp only[k4,k5,k7,k3,k6,reduceIte,reduceCtorEq,Int.reduceEq,decide_true,decide_false,or_true,true_or,or_false,false_or,or_self,uf]<;>first|rfl|(cases wR y r.fN<;>rfl)|(cases vdh r.fB<;>rfl))
def getD (b:List UInt8):List yC×Int:=(Zk b).getD ([],99)
theorem getD_eq (b:List UInt8):Zk b=some (getD b):=by
 obtain⟨r,e,_⟩:=vcF b
 unfold getD; rw[e]; rfl
theorem getD_ok {b:List UInt8}(h:(getD b).2=0):b=ZV (getD b).1∧b.length≤4096∧∀ x∈(getD b).1,vaJ x:=by
 obtain⟨r,e,i,_⟩:=vcF b;rw[getD_eq] at e;obtain rfl:=Option.some.inj e;exact i h
theorem vct : ∀ l:List yC,2*l.length≤(ZV l).length
 |[]=>qU _
 |r::l=>by
  rw[Zo,qj,qp]
  have:=vct l; have:=rawB_pos r; omega
def vcZ (s:zB):Nat→z8→List UInt8→zp×Int
 |0,_,_=>(vai,10)
 |d+1,m,b=>if (getD b).2=0 then fldD m (oneD (vcZ s d) s) (getD b).1 [] [] else (vai,(getD b).2)
theorem vaw (s:zB):∀ (d k:Nat) (m:z8) (b:List UInt8) (deep:Int),d≤10→deep=11-d→2*d+1≤k→ya k s m b deep=some (vcZ s d m b)
 |d,0,m,b,deep,_,_,h=>by omega
 |0,k+1,m,b,deep,_,h,_=>by
  rw[ya,ya.body,if_pos (by omega)]; rfl
 |d+1,k+1,m,b,deep,h10,hd,hk=>by
  rw[ya,ya.body,if_neg (by omega),getD_eq,qk,vcZ]
  by_cases h0:(getD b).2=0
  · rw[if_pos h0,if_pos h0];obtain⟨hb,hl,hok⟩:=getD_ok h0
    have hlen:(getD b).1.length<100000:=by
     have:=vct (getD b).1
     rw[← hb] at this; omega
    refine fldD_eq ?_ ?_ List.Pairwise.nil (fun _ h=>by cases h) (by rw[qB]; omega) (by rw[qB]; omega)
    · intro r hr
      have:=Xj (hok r hr).1;exact⟨this.1,this.2.1⟩
    intro r hr y
    obtain⟨k',rfl⟩:∃ k',k=k'+1:=⟨k-1,by omega⟩
    rw[yy];have hc:=(Xj (hok r hr).1).2.2
    have hbl:r.fB.length≤4096:=by
     rcases hc with ⟨_,hc⟩|⟨_,_,hc⟩
     · rw[hc]; decide
     exact hc
    refine oneD_eq (by rcases hc with hc|hc; exact Or.inl hc.1; exact Or.inr hc.1) hbl (by omega) (by omega) ?_;exact vaw s d k' _ _ _ (by omega) (by omega) (by omega)
  rw[if_neg h0,if_neg h0]; rfl
theorem decode_eq {s:zB}{name b:List UInt8}(hc:yN s=some 0)(hm:(yw s name).2=true):Zm s name b=some (vcZ s 10 (vbJ s name) b):=by
 rw[Zm,hc,qk,if_pos rfl,bnd,hm,if_neg (by decide),vaw s 10 xz _ b 1 (qx _) rfl (by have:=Yk; omega),qk]; rfl
def maxD (f:zp→Nat):List zp→Nat→Nat
 |[],d=>d
 |x::l,d=>maxD f l (max d (f x))
theorem maxD_ge {f:zp→Nat}:∀ (l:List zp) (d:Nat),d≤maxD f l d
 |[],d=>qx _
 |x::l,d=>uB (Nat.le_max_left _ _) (maxD_ge l _)
theorem maxD_mem {f:zp→Nat}{x:zp}:∀ {l:List zp} {d:Nat},x∈l→f x≤maxD f l d
 |y::l,d,h=>by
  rw[maxD]
  rcases q9.1 h with rfl|h
  · exact uB (Nat.le_max_right _ _) (maxD_ge l _)
  exact maxD_mem h
theorem maxD_le {f:zp→Nat}{n:Nat}:∀ {l:List zp} {d:Nat},d≤n→(∀ x∈l,f x≤n)→maxD f l d≤n
 |[],d,h,_=>h
 |x::l,d,h,hl=>maxD_le (l:=l) (Nat.max_le.2 ⟨h,hl x (qP ..)⟩) fun y hy=>hl y (qL _ hy)
theorem maxD_app (f:zp→Nat):∀ (l m:List zp) (d:Nat),maxD f (l++m) d=maxD f m (maxD f l d)
 |[],_,_=>rfl
 |x::l,m,d=>maxD_app f l m _
def kids (t:zp):List zp:=t.fEntries.flatMap zv.fTrees
def vdz : Nat→zp→Nat
 |0,_=>0
 |m+1,t=>if t.fKind=3 then maxD (vdz m) (kids t) 0+1 else 0
theorem depT_le : ∀ (m:Nat) (t:zp),vdz m t≤m
 |0,_=>qx _
 |m+1,t=>by
  rw[vdz]; split
  · exact Nat.succ_le_succ (maxD_le (qU _) fun x _=>depT_le m x)
  exact qU _
theorem deep_l20 {self:zp→Int→Option Int}{m:Nat}(hm:m<1000)(hs:∀ x,self x (m:Int)=some ((vdz m x:Nat):Int)){x7:Int}{rec10:Int→Int→Option Int}:∀ (l:List zp) (i:Int) (d:Nat),
 yR.l20 self ((m+1:Nat):Int) x7 rec10 l i (d:Int)=rec10 (x7+1) ((maxD (vdz m) l d:Nat):Int)
 |[],i,d=>rfl
 |x::l,i,d=>by
  rw[yR.l20,show IntKind.i64.wrap (((m+1:Nat):Int)-1)=(m:Int) by rw[Za (by omega) (by omega)]; omega,hs,qk,maxD]
  have e:(if (d:Int)<((vdz m x:Nat):Int) then ((vdz m x:Nat):Int) else (d:Int))=((max d (vdz m x):Nat):Int):=by split<;>omega
  rw[e]; exact deep_l20 hm hs l _ _
theorem deep_l10 {self:zp→Int→Option Int}{m:Nat}(hm:m<1000)(hs:∀ x,self x (m:Int)=some ((vdz m x:Nat):Int)):∀ (l:List zv) (i:Int) (d:Nat),d≤1000→
 yR.l10 self ((m+1:Nat):Int) l i (d:Int)=some ((maxD (vdz m) (l.flatMap zv.fTrees) d+1:Nat):Int)
 |[],i,d,hd=>by
  rw[yR.l10,Za (by omega) (by omega),qO,maxD]; rfl
 |e::l,i,d,hd=>by
  rw[yR.l10,deep_l20 hm hs,deep_l10 hm hs l _ _ (maxD_le hd fun x _=>uB (depT_le m x) (by omega)),qE,maxD_app]
theorem deep_eq : ∀ (m k:Nat) (t:zp),m<1000→m<k→yR k t (m:Int)=some ((vdz m t:Nat):Int)
 |m,0,t,_,h=>by omega
 |0,k+1,t,_,_=>by
  rw[yR,yR.body,if_pos (by simp)]; rfl
 |m+1,k+1,t,hm,hk=>by
  rw[yR,yR.body,vdz]
  by_cases h3:t.fKind=3
  · rw[if_neg (by simp only[h3,decide_true,qv,uF,decide_eq_true_eq]; omega),if_pos h3];exact deep_l10 (by omega) (fun x=>deep_eq m k x (by omega) (by omega)) t.fEntries 0 0 (by omega)
  rw[if_pos (by simp[h3]),if_neg h3]; rfl
theorem Depth_eq (t:zp):YN t=some ((vdz 101 t:Nat):Int):=by
 rw[YN,show (101:Int)=((101:Nat):Int) from rfl,deep_eq 101 xz t (by omega) (by have:=Yk; omega)]; rfl
def risB : List yC→Bool
 |a::b::l=>decide (a.fTag≤b.fTag)&&risB (b::l)
 |_=>true
theorem risB_iff : ∀ {l:List yC},risB l=true↔l.Pairwise vbT
 |[]=>by simp[risB]
 |[a]=>by simp[risB]
 |a::b::l=>by
  rw[risB,qJ,decide_eq_true_eq,risB_iff,uE (a:=a)]
  constructor
  · rintro ⟨h1,h2⟩;refine⟨?_,h2⟩
    intro c hc
    rcases q9.1 hc with rfl|hc
    · exact h1
    have:=(uE.1 h2).1 c hc; unfold vbT at *; omega
  rintro ⟨h1,h2⟩;exact⟨h1 b (qP ..),h2⟩
theorem rising_l {L:List yC}(hL:L.length<4611686018427387904):∀ (k:Nat) (A:List yC) (a:yC) (B:List yC),L=A++a::B→B.length<k→wM.l4 L k ((A.length+1:Nat):Int)=some (risB (a::B))
 |0,_,_,_,_,h=>by omega
 |k+1,A,a,[],h,_=>by
  rw[wM.l4,if_neg (by rw[h,qj,ub]; omega)]; rfl
 |k+1,A,a,b::B,h,hk=>by
  have hl:L.length=A.length+(B.length+2):=by rw[h,qj,qp,qp]
  have e1:YI L ((A.length+1:Nat):Int)=some b:=by
   rw[h,show A++a::b::B=(A++[a])++b::B by rw[qA]; rfl];exact vbe (by rw[qj,ub])
  have e2:IntKind.i64.wrap (((A.length+1:Nat):Int)-1)=(A.length:Int):=by rw[Za (by omega) (by omega)]; omega
  have e3:YI L (A.length:Int)=some a:=by rw[h]; exact vbe rfl
  have e4:IntKind.i64.wrap (((A.length+1:Nat):Int)+1)=(((A++[a]).length+1:Nat):Int):=by rw[Za (by omega) (by omega),qj,ub]; omega
  rw[wM.l4,if_pos (by omega),e1,qk,e2,e3,qk,risB]
  by_cases hlt:b.fTag<a.fTag
  · rw[if_pos hlt,decide_eq_false (by omega)]; rfl
  rw[if_neg hlt,e4,rising_l hL k (A++[a]) b B (by rw[h,qA]; rfl) (by simpa using hk),decide_eq_true (by omega),uh]
theorem rising_eq {l:List yC}(h:l.length<4611686018427387904):wM l=some (risB l):=by
 cases l with
 |nil=>rfl
 |cons a l=>exact rising_l h xz [] a l rfl (by have:=Yk; rw[qp] at h; omega)
def restB (t:zp):Bool:=t.fRest.all (fun r=>xY r && !(t.fEntries.any fun e=>decide (e.fTag=r.fTag)))&&risB t.fRest
theorem rest_l16 {x2:Int}{rec4:Int→Option Bool}{y:yC}:∀ (l:List zv) (i:Int),xP.l16 x2 rec4 y l i=if (l.any fun e=>decide (e.fTag=y.fTag))=true then some false else rec4 (x2+1)
 |[],i=>by rw[xP.l16]; rfl
 |e::l,i=>by
  rw[xP.l16,List.any_cons]
  by_cases h:e.fTag=y.fTag
  · rw[if_pos h,decide_eq_true h,uC,if_pos rfl]
  rw[if_neg h,decide_eq_false h,uF,rest_l16]
theorem rest_l4 {t:zp}(hr:t.fRest.length<4611686018427387904):∀ (l:List yC) (i:Int),xP.l4 t l i=some (l.all (fun r=>xY r && !(t.fEntries.any fun e=>decide (e.fTag=r.fTag)))&&risB t.fRest)
 |[],i=>by rw[xP.l4,rising_eq hr]; rfl
 |r::l,i=>by
  rw[xP.l4,bnd,qZ]
  cases hc:xY r with
  |false=>rfl
  |true=>
   rw[if_neg (by decide),rest_l16]
   cases ha:t.fEntries.any fun e=>decide (e.fTag=r.fTag) with
   |true=>rfl
   |false=>rw[if_neg (by decide),rest_l4 hr l]; rfl
theorem rest_eq {t:zp}(hr:t.fRest.length<4611686018427387904):xP t=some (restB t):=rest_l4 hr _ _
def entB (f:zp→Bool):Int→List zv→Bool
 |_,[]=>true
 |last,e::l=>decide (last<e.fTag∧e.fTag≤500∧1≤e.fTrees.length∧e.fTrees.length≤64)&&(e.fTrees.all fun x=>decide (x.fKind=(e.fTrees.headD vai).fKind)&&f x)&&entB f e.fTag l
def leafB (t:zp):Bool:=
 if t.fKind=1 then decide (t.fS=[])&&decide ((qa t.fEntries:Int)=0)&&decide ((qa t.fRest:Int)=0)
 else if t.fKind=2 then decide (t.fN=0)&&decide ((qa t.fEntries:Int)=0)&&decide ((qa t.fRest:Int)=0)
 else false
def Yt : Nat→zp→Bool
 |0,t=>leafB t
 |d+1,t=>if t.fKind=3 then decide (t.fN=0)&&decide (t.fS=[])&&entB (Yt d) 0 t.fEntries&&restB t else leafB t
def ownS (t:zp):Prop:=vbU t.fN∧t.fRest.length≤900000∧∀ r∈t.fRest,vbU r.fN
def szT : Nat→zp→Prop
 |0,t=>ownS t
 |d+1,t=>ownS t∧∀ x∈kids t,szT d x
theorem vdy {self:zp→Option Bool}{f:zp→Bool}{x3:Int}{rec6:Int→Int→Option Bool}{y:zv}(hy:1≤y.fTrees.length):∀ (l:List zp) (i:Int),(∀ x∈l,self x=some (f x))→
 z7.l18 self x3 rec6 y l i=if (l.all fun x=>decide (x.fKind=(y.fTrees.headD vai).fKind)&&f x)=true then rec6 (x3+1) y.fTag else some false
 |[],i,_=>by rw[z7.l18]; rfl
 |x::l,i,h=>by
  have e1:YI y.fTrees 0=some (y.fTrees.headD vai):=by
   cases ht:y.fTrees with
   |nil=>rw[ht] at hy; exact absurd hy (by decide)
   |cons a l=>rfl
  rw[z7.l18,e1,qk,qZ]
  by_cases hk:x.fKind=(y.fTrees.headD vai).fKind
  · rw[if_pos hk,h x (qP ..),qk,decide_eq_true hk,uh]
    cases f x with
    |false=>rfl
    |true=>
     rw[z7.j25,if_neg (by decide),vdy hy l _ fun z hz=>h z (qL _ hz),uh]
  rw[if_neg hk,decide_eq_false hk]; rfl
theorem entries_l6 {self:zp→Option Bool}{f:zp→Bool}:∀ (l:List zv) (i last:Int),(∀ e∈l,∀ x∈e.fTrees,self x=some (f x))→z7.l6 self l i last=some (entB f last l)
 |[],i,last,_=>rfl
 |e::l,i,last,h=>by
  rw[z7.l6,entB]
  by_cases hc:last<e.fTag∧e.fTag≤500∧1≤e.fTrees.length∧e.fTrees.length≤64
  · rw[if_neg (by simp only[ut,decide_eq_true_eq]; omega),vdy hc.2.2.1 e.fTrees 0 (h e (qP ..)),decide_eq_true hc,uh]
    cases ha:e.fTrees.all fun x=>decide (x.fKind=(e.fTrees.headD vai).fKind)&&f x with
    |false=>rfl
    |true=>rw[if_pos rfl,entries_l6 l _ _ fun y hy=>h y (qL _ hy),uh]
  rw[if_pos (by simp only[ut,decide_eq_true_eq]; omega),decide_eq_false hc]; rfl
theorem vbq {t:zp}{e:zv}{x:zp}(he:e∈t.fEntries)(hx:x∈e.fTrees):x∈kids t:=List.mem_flatMap.2 ⟨e,he,hx⟩
theorem right_eq : ∀ (d m k:Nat) (t:zp),d<m→vdz m t≤d→2*d<k→szT d t→we k t=some (Yt d t)
 |d,m,0,t,_,_,h,_=>by omega
 |0,m+1,k+1,t,_,hd,_,hz=>by
  have h3:¬ t.fKind=3:=by
   intro h; rw[vdz,if_pos h] at hd; omega
  rw[we,we.body,Yt,leafB,if_neg h3]
  split<;>first|rfl|(split<;>rfl)
 |d+1,m+1,k+1,t,hm,hd,hk,hz=>by
  rw[we,we.body,Yt]
  by_cases h3:t.fKind=3
  · have hd':maxD (vdz m) (kids t) 0≤d:=by rw[vdz,if_pos h3] at hd; omega
    obtain⟨k',rfl⟩:∃ k',k=k'+1:=⟨k-1,by omega⟩
    have he:z7 (k'+1) t=some (entB (Yt d) 0 t.fEntries):=by
     rw[z7,z7.body]
     exact entries_l6 t.fEntries 0 0 fun e he x hx=>right_eq d m k' x (by omega) (uB (maxD_mem (vbq he hx)) hd') (by omega) (hz.2 x (vbq he hx))
    rw[if_neg (by omega),if_neg (by omega),if_pos h3,if_pos h3,he,rest_eq (by have:=hz.1.2.1; omega)]
    cases decide (t.fN=0)&&decide (t.fS=[]) with
    |false=>rfl
    |true=>cases entB (Yt d) 0 t.fEntries<;>rfl
  rw[if_neg h3,if_neg h3,leafB]
  split<;>first|rfl|(split<;>rfl)
def vaa (t:zp):Bool:=decide (vdz 101 t≤10)&&Yt 10 t
theorem check_eq {t:zp}(hz:szT 10 t):Yb t=some (vaa t):=by
 rw[Yb,Depth_eq,qk,vaa]
 by_cases h:vdz 101 t≤10
 · rw[if_pos (by omega),right_eq 10 101 xz t (by omega) h (by have:=Yk; omega) hz,decide_eq_true h,uh]; rfl
 rw[if_neg (by omega),decide_eq_false h]; rfl
theorem in0 : vbU 0:=⟨by decide,by decide⟩
def rawT (enc:zp→Option (List UInt8))(tag:Int)(x:zp):Option yC:=
 if x.fKind=1 then some ⟨tag,0,x.fN,[]⟩
 else if x.fKind=2 then (if 4096<x.fS.length then none else some ⟨tag,1,0,x.fS⟩)
 else (enc x).bind fun b=>some ⟨tag,1,0,b⟩
def rawL (enc:zp→Option (List UInt8))(tag:Int):List zp→Option (List yC)
 |[]=>some []
 |x::l=>(rawT enc tag x).bind fun r=>(rawL enc tag l).bind fun m=>some (r::m)
def vcu (enc:zp→Option (List UInt8)):List zv→Option (List yC)
 |[]=>some []
 |e::l=>(rawL enc e.fTag e.fTrees).bind fun a=>(vcu enc l).bind fun m=>some (a++m)
def putB (l:List yC):Option (List UInt8):=if 4096<(ZV l).length then none else some (ZV l)
def vbB : Nat→zp→Option (List UInt8)
 |0,_=>none
 |d+1,t=>(vcu (vbB d) t.fEntries).bind fun L=>putB (srt (t.fRest++L))
def vaF : Nat→zp→zo
 |0,t=>if t.fKind=1 then .num t.fN else if t.fKind=2 then .str t.fS else .node [] t.fRest
 |d+1,t=>if t.fKind=1 then .num t.fN else if t.fKind=2 then .str t.fS else .node (t.fEntries.map fun e=>⟨e.fTag,e.fTrees.map (vaF d)⟩) t.fRest
theorem made_l62 {self:zp→Option zo}{f:zp→zo}{t:zp}{r12:List yC}{y:zv}:∀ (l:List zp) (i:Int) (acc:List zo),(∀ x∈l,self x=some (f x))→acc.length+l.length≤64→
 yr.l62 self t r12 y l i acc=yr.l20 self t r12 xz [⟨y.fTag,acc++l.map f⟩] 1
 |[],i,acc,_,_=>by
  rw[yr.l62,qr,qD,Za (by decide) (by decide)]; rfl
 |x::l,i,acc,h,hl=>by
  rw[qp] at hl
  rw[yr.l62,h x (qP ..),qk,ZU (by omega),qk,made_l62 l _ _ (fun z hz=>h z (qL _ hz)) (by rw[qj,ub]; omega),qA]; rfl
theorem made_l35 {self:zp→Option zo}{f:zp→zo}{l14:List yF}{x16:Int}{rec20:List yF→Int→Option zo}{y:zv}(hl14:l14.length≤1000):∀ (l:List zp) (i:Int) (acc:List zo),(∀ x∈l,self x=some (f x))→acc.length+l.length≤64→
 yr.l35 self l14 x16 rec20 y l i acc=rec20 (l14++[⟨y.fTag,acc++l.map f⟩]) (IntKind.i64.wrap (x16+1))
 |[],i,acc,_,_=>by
  rw[yr.l35,qr,qD,ZU (by omega),qk]
 |x::l,i,acc,h,hl=>by
  rw[qp] at hl
  rw[yr.l35,h x (qP ..),qk,ZU (by omega),qk,made_l35 hl14 l _ _ (fun z hz=>h z (qL _ hz)) (by rw[qj,ub]; omega),qA]; rfl
def entV (f:zp→zo)(e:zv):yF:=⟨e.fTag,e.fTrees.map f⟩
theorem made_l20 {self:zp→Option zo}{f:zp→zo}{t:zp}{r12:List yC}(hn:t.fEntries.length≤1000)(hs:∀ e∈t.fEntries,e.fTrees.length≤64∧∀ x∈e.fTrees,self x=some (f x)):∀ (k:Nat) (A B:List zv),t.fEntries=A++B→B.length<k→
 yr.l20 self t r12 k (A.map (entV f)) (A.length:Int)=some (.node (t.fEntries.map (entV f)) r12)
 |0,A,B,_,h=>by omega
 |k+1,A,[],h,_=>by
  rw[qD] at h;rw[yr.l20,if_neg (by rw[h]; omega),h]
 |k+1,A,e::B,h,hk=>by
  rw[qp] at hk
  have hl:t.fEntries.length=A.length+(B.length+1):=by rw[h,qj,qp]
  have he:=hs e (by rw[h]; exact uW _ (qP ..))
  have ei:YI t.fEntries (A.length:Int)=some e:=by rw[h]; exact vbe rfl
  rw[yr.l20,if_pos (by omega),ei,qk,made_l35 (f:=f) (by rw[ul]; omega) e.fTrees 0 [] he.2 (by rw[qB]; omega),Za (by omega) (by omega)];have:=made_l20 (self:=self) (f:=f) (r12:=r12) hn hs k (A++[e]) B (by rw[h,qA]; rfl) (by omega);rw[qs,qj,ub] at this;rw[show (A.length:Int)+1=((A.length+1:Nat):Int) by omega];exact this
theorem vaP {f:zp→Bool}:∀ {l:List zv} {last:Int},entB f last l=true→∀ e∈l,last<e.fTag∧e.fTag≤500∧1≤e.fTrees.length∧e.fTrees.length≤64∧(∀ x∈e.fTrees,x.fKind=(e.fTrees.headD vai).fKind∧f x=true)
 |[],_,_,e,he=>by cases he
 |a::l,last,h,e,he=>by
  rw[entB,qJ,qJ,decide_eq_true_eq] at h
  rcases q9.1 he with rfl|he
  · refine⟨h.1.1.1,h.1.1.2.1,h.1.1.2.2.1,h.1.1.2.2.2,fun x hx=>?_⟩;have:=un.1 h.1.2 x hx;rw[qJ,decide_eq_true_eq] at this;exact this
  obtain⟨h1,h2⟩:=vaP h.2 e he;exact⟨by omega,h2⟩
theorem vaO {f:zp→Bool}:∀ {l:List zv} {last:Int},entB f last l=true→l.Pairwise vaS
 |[],_,_=>List.Pairwise.nil
 |a::l,last,h=>by
  rw[entB,qJ,qJ] at h;rw[uE];exact⟨fun e he=>(vaP h.2 e he).1,vaO h.2⟩
theorem sorted_len {n:Nat}:∀ {l:List zv} {lo:Int},l.Pairwise vaS→(∀ e∈l,lo<e.fTag∧e.fTag≤lo+n)→l.length≤n
 |[],_,_,_=>qU _
 |a::l,lo,h,hl=>by
  rw[uE] at h;have ha:=hl a (qP ..)
  cases n with
  |zero=>omega
  |succ n=>
   rw[qp];refine Nat.succ_le_succ (sorted_len (n:=n) (lo:=lo+1) h.2 fun e he=>?_);have h1:=h.1 e he;have h2:=hl e (qL _ he)
   unfold vaS at h1; omega
theorem vc6 {d:Nat}{t:zp}(h:Yt (d+1) t=true)(h3:t.fKind=3):t.fEntries.length≤500∧entB (Yt d) 0 t.fEntries=true∧restB t=true∧t.fN=0∧t.fS=[]:=by
 rw[Yt,if_pos h3] at h;simp only[qJ,decide_eq_true_eq] at h;refine⟨?_,h.1.2,h.2,h.1.1.1,h.1.1.2⟩
 exact sorted_len (n:=500) (lo:=0) (vaO h.1.2) fun e he=>by
  have:=vaP h.1.2 e he; omega
theorem vb6 {t:zp}(h:leafB t=true):t.fKind=1∨t.fKind=2:=by
 unfold leafB at h
 split at h
 · exact Or.inl ‹_›
 split at h
 · exact Or.inr ‹_›
 cases h
theorem vcr {d:Nat}{t:zp}(h:Yt d t=true):t.fKind=1∨t.fKind=2∨t.fKind=3:=by
 cases d with
 |zero=>rcases vb6 h with h|h; exact Or.inl h; exact Or.inr (Or.inl h)
 |succ d=>
  rw[Yt] at h
  split at h
  · exact Or.inr (Or.inr ‹_›)
  rcases vb6 h with h|h; exact Or.inl h; exact Or.inr (Or.inl h)
theorem made_eq : ∀ (d k:Nat) (t:zp),d<k→Yt d t=true→szT d t→yr k t=some (vaF d t)
 |d,0,t,h,_,_=>by omega
 |0,k+1,t,_,hr,_=>by
  rw[yr,yr.body,vaF]
  rcases vb6 hr with h|h
  · rw[if_pos h,if_pos h]; rfl
  rw[if_neg (by omega),if_pos h,if_neg (by omega),if_pos h]; rfl
 |d+1,k+1,t,hk,hr,hz=>by
  rw[yr,yr.body,vaF]
  by_cases h1:t.fKind=1
  · rw[if_pos h1,if_pos h1]; rfl
  by_cases h2:t.fKind=2
  · rw[if_neg h1,if_pos h2,if_neg h1,if_pos h2]; rfl
  have h3:t.fKind=3:=by rcases vcr hr with h|h|h<;>omega
  obtain⟨hl,he,_,_,_⟩:=vc6 hr h3
  have hs:∀ e∈t.fEntries,e.fTrees.length≤64∧∀ x∈e.fTrees,yr k x=some (vaF d x):=fun e hm=>by
   have:=vaP he e hm;exact⟨this.2.2.2.1,fun x hx=>made_eq d k x (by omega) (this.2.2.2.2 x hx).2 (hz.2 x (vbq hm hx))⟩
  rw[if_neg h1,if_neg h2,if_neg h1,if_neg h2,xQ,ZU (by have:=hz.1.2.1; omega),qk,qk]
  cases hE:t.fEntries with
  |nil=>rfl
  |cons a E=>
   rw[if_pos (by rw[qp]; omega)];have ha:=hs a (by rw[hE]; exact qP ..);rw[idx_t (Int.le_refl 0) (show (a::E)[qT 0]?=some a from rfl),qk,made_l62 (f:=vaF d) a.fTrees 0 [] ha.2 (by rw[qB]; omega)];have:=made_l20 (self:=yr k) (f:=vaF d) (r12:=t.fRest) (by omega) hs xz [a] E (by rw[hE]; rfl) (by have:=Yk; rw[hE,qp] at hl; omega);rw[hE] at this;exact this
theorem of_eq {t:zp}(hz:szT 10 t):Xm t=some (if vaa t=true then (vaF 10 t,true) else (.nil,false)):=by
 rw[Xm,check_eq hz,qk]
 by_cases h:vaa t=true
 · rw[h]
   have hr:Yt 10 t=true:=by unfold vaa at h; rw[qJ] at h; exact h.2
   rw[if_neg (by decide),made_eq 10 xz t (by have:=Yk; omega) hr hz]; rfl
 rw[if_pos (by simpa using h),if_neg h]
theorem tags_l8 : ∀ (l:List yF) (i:Int) (acc:List Int),acc.length+l.length≤1000→xn.l8 l i acc=some (acc++l.map yF.ftag)
 |[],i,acc,_=>by rw[xn.l8,qr,qD]
 |e::l,i,acc,h=>by
  rw[qp] at h
  rw[xn.l8,ZU (by omega),qk,tags_l8 l _ _ (by rw[qj,ub]; omega),qA]; rfl
theorem get_l4 {f:zp→zo}{e:zv}{B:List zv}(he:e.fTrees.length≤64):∀ (A:List zv) (i:Int),(∀ a∈A,a.fTag≠e.fTag)→yP.l4 e.fTag ((A++e::B).map (entV f)) i=some (e.fTrees.map f)
 |[],i,_=>by
  rw[qG,qu,yP.l4,if_pos (show (entV f e).ftag=e.fTag from rfl),show (entV f e).fl=e.fTrees.map f from rfl,wp,ZU (by rw[ul]; omega)]; rfl
 |a::A,i,h=>by
  rw[qI,qu,yP.l4,if_neg (show ¬ (entV f a).ftag=e.fTag from h a (qP ..))]
  exact get_l4 he A _ fun b hb=>h b (qL _ hb)
theorem rawL_len {enc:zp→Option (List UInt8)}{tag:Int}:∀ {l:List zp} {m:List yC},rawL enc tag l=some m→m.length=l.length
 |[],m,h=>by cases h; rfl
 |x::l,m,h=>by
  obtain⟨r,_,h⟩:=bind_some h;obtain⟨m',h1,h⟩:=bind_some h;cases h;rw[qp,qp,rawL_len h1]
def vds (o:Option (List yC))(k:List yC→Option (List yC×Int)):Option (List yC×Int):=
 match o with
 |some m=>k m
 |none=>some ([],4)
theorem raws_l24 {selfR:Int→zo→Option (yC×Int)}{f:zp→zo}{enc:zp→Option (List UInt8)}{x6:Int}{rec10:Int→List yC→Option (List yC×Int)}{tag:Int}:∀ (l:List zp) (i:Int) (acc:List yC),(∀ x∈l,selfR tag (f x)=some (match rawT enc tag x with|some r=>(r,0)|none=>(⟨0,0,0,[]⟩,4)))→acc.length+l.length<3518437208882→
 yA.l24 selfR x6 rec10 tag (l.map f) i acc=vds (rawL enc tag l) fun m=>rec10 (x6+1) (acc++m)
 |[],i,acc,_,_=>by rw[qr,yA.l24,rawL,vds,qD]
 |x::l,i,acc,h,hl=>by
  rw[qp] at hl;rw[qu,yA.l24,h x (qP ..),qk,rawL]
  cases hx:rawT enc tag x with
  |none=>rfl
  |some r=>
   dsimp only
   rw[if_pos rfl,ZU (by omega),qk,raws_l24 l _ _ (fun z hz=>h z (qL _ hz)) (by rw[qj,ub]; omega),qk]
   cases rawL enc tag l with
   |none=>rfl
   |some m=>simp only[vds,qk,qA,qI,qG]
theorem raws_l10 {selfR:Int→zo→Option (yC×Int)}{f:zp→zo}{enc:zp→Option (List UInt8)}{E:List zv}{rest:List yC}(hs:E.Pairwise vaS)(ht:∀ e∈E,e.fTrees.length≤64∧∀ x∈e.fTrees,selfR e.fTag (f x)=some (match rawT enc e.fTag x with|some r=>(r,0)|none=>(⟨0,0,0,[]⟩,4)))(hn:E.length≤500):
 ∀ (B A:List zv) (i:Int) (acc:List yC),E=A++B→acc.length≤900000+64*A.length→yA.l10 selfR ⟨E.map (entV f),rest⟩ (B.map zv.fTag) i acc=vds (vcu enc B) fun m=>some (srt (acc++m),0)
 |[],A,i,acc,h,ha=>by
  have hl:E.length=A.length:=by rw[h,qD]
  rw[qr,yA.l10,sorted_eq (by omega),vcu,vds,qD]; rfl
 |e::B,A,i,acc,h,ha=>by
  have hl:E.length=A.length+(B.length+1):=by rw[h,qj,qp]
  have he:=ht e (by rw[h]; exact uW _ (qP ..))
  have hA:∀ a∈A,a.fTag≠e.fTag:=fun a hm=>by
   rw[h] at hs;have:=(List.pairwise_append.1 hs).2.2 a hm e (qP ..)
   unfold vaS at this; omega
  have hg:yP ⟨E.map (entV f),rest⟩ e.fTag=some (e.fTrees.map f):=by
   rw[yP,h]; exact get_l4 he.1 A 0 hA
  rw[qu,yA.l10,hg,qk,raws_l24 (enc:=enc) e.fTrees 0 acc he.2 (by omega),vcu]
  cases hL:rawL enc e.fTag e.fTrees with
  |none=>rfl
  |some m=>
   have hm:=rawL_len hL;rw[vds,raws_l10 hs ht hn B (A++[e]) _ _ (by rw[h,qA]; rfl) (by rw[qj,qj,ub]; omega),qk]
   cases vcu enc B with
   |none=>rfl
   |some m'=>simp only[vds,qk,qA]
theorem putB_some {l:List yC}{b:List UInt8}(h:putB l=some b):b=ZV l∧b.length≤4096:=by
 unfold putB at h
 split at h
 · cases h
 cases h; exact⟨rfl,by omega⟩
theorem encT_le {d:Nat}{t:zp}{b:List UInt8}(h:vbB d t=some b):b.length≤4096:=by
 cases d with
 |zero=>cases h
 |succ d=>
  rw[vbB] at h;obtain⟨L,_,h⟩:=bind_some h;exact (putB_some h).2
theorem rawT_ok {d:Nat}{tag:Int}{x:zp}{r:yC}(h1:1≤tag)(h2:tag≤500)(hx:vbU x.fN)(h:rawT (vbB d) tag x=some r):vaJ r∧r.fTag=tag:=by
 unfold rawT at h
 split at h
 · cases h; exact⟨⟨check_num h1 h2,hx⟩,rfl⟩
 split at h
 · split at h
   · cases h
   cases h; exact⟨⟨vcA h1 h2 (by omega),in0⟩,rfl⟩
 obtain⟨b,hb,h⟩:=bind_some h
 cases h; exact⟨⟨vcA h1 h2 (encT_le hb),in0⟩,rfl⟩
theorem rawL_ok {d:Nat}{tag:Int}(h1:1≤tag)(h2:tag≤500):∀ {l:List zp} {m:List yC},(∀ x∈l,vbU x.fN)→rawL (vbB d) tag l=some m→∀ r∈m,vaJ r∧r.fTag=tag
 |[],m,_,h,r,hr=>by cases h; cases hr
 |x::l,m,hx,h,r,hr=>by
  obtain⟨a,ha,h⟩:=bind_some h;obtain⟨m',hm,h⟩:=bind_some h;cases h
  rcases q9.1 hr with rfl|hr
  · exact rawT_ok h1 h2 (hx x (qP ..)) ha
  exact rawL_ok h1 h2 (fun z hz=>hx z (qL _ hz)) hm r hr
theorem rawE_ok {d:Nat}:∀ {l:List zv} {m:List yC},(∀ e∈l,1≤e.fTag∧e.fTag≤500∧∀ x∈e.fTrees,vbU x.fN)→vcu (vbB d) l=some m→∀ r∈m,vaJ r∧∃ e∈l,r.fTag=e.fTag
 |[],m,_,h,r,hr=>by cases h; cases hr
 |e::l,m,hx,h,r,hr=>by
  obtain⟨a,ha,h⟩:=bind_some h;obtain⟨m',hm,h⟩:=bind_some h;cases h;have he:=hx e (qP ..)
  rcases uI.1 hr with hr|hr
  · have:=rawL_ok he.1 he.2.1 he.2.2 ha r hr;exact⟨this.1,e,qP ..,this.2⟩
  obtain⟨h1,e',h2,h3⟩:=rawE_ok (fun z hz=>hx z (qL _ hz)) hm r hr;exact⟨h1,e',qL _ h2,h3⟩
theorem szT_own {d:Nat}{t:zp}(h:szT d t):ownS t:=by
 cases d with
 |zero=>exact h
 |succ d=>exact h.1
theorem restB_mem {t:zp}(h:restB t=true):(∀ r∈t.fRest,xY r=true∧∀ e∈t.fEntries,e.fTag≠r.fTag)∧t.fRest.Pairwise vbT:=by
 unfold restB at h;rw[qJ] at h;refine⟨fun r hr=>?_,risB_iff.1 h.2⟩;have:=un.1 h.1 r hr;rw[qJ,u9] at this;refine⟨this.1,fun e he hc=>?_⟩;have h2:=List.any_eq_false.1 this.2 e he;exact h2 (decide_eq_true hc)
theorem raws_ok {d:Nat}{t:zp}{L:List yC}(hr:Yt (d+1) t=true)(h3:t.fKind=3)(hz:szT (d+1) t)(hL:vcu (vbB d) t.fEntries=some L):∀ r∈srt (t.fRest++L),vaJ r:=by
 obtain⟨_,he,hb,_,_⟩:=vc6 hr h3
 intro r hm
 rw[srt_mem] at hm
 rcases uI.1 hm with hm|hm
 · exact⟨((restB_mem hb).1 r hm).1,hz.1.2.2 r hm⟩
 exact (rawE_ok (fun e hm=>by
  have:=vaP he e hm
  exact⟨by omega,this.2.1,fun x hx=>(szT_own (hz.2 x (vbq hm hx))).1⟩) hL r hm).1
def orBad (o:Option (List UInt8)):List UInt8×Int:=
 match o with
 |some b=>(b,0)
 |none=>([],4)
theorem vdq {l:List yC}(h:∀ r∈l,vaJ r):xm l=some (orBad (putB l)):=by
 rw[putAll_eq fun r hr=>(h r hr).2,if_pos (un.2 fun r hr=>(h r hr).1),putB]
 split
 · rfl
 rfl
theorem tags_eq {f:zp→zo}{E:List zv}{rest:List yC}(h:E.length≤500):xn ⟨E.map (entV f),rest⟩=some (E.map zv.fTag):=by
 rw[xn];have:=tags_l8 (E.map (entV f)) 0 [] (by rw[qB,ul]; omega)
 rw[this,qG,List.map_map]; rfl
theorem raws_eq {selfB:zZ→Option (List UInt8×Int)}{selfR:Int→zo→Option (yC×Int)}{selfS:zZ→Option (List yC×Int)}{f:zp→zo}{enc:zp→Option (List UInt8)}{E:List zv}{rest:List yC}(hs:E.Pairwise vaS)(ht:∀ e∈E,e.fTrees.length≤64∧∀ x∈e.fTrees,selfR e.fTag (f x)=some (match rawT enc e.fTag x with|some r=>(r,0)|none=>(⟨0,0,0,[]⟩,4)))(hn:E.length≤500)(hr:rest.length≤900000):
 yA.body selfB selfR selfS ⟨E.map (entV f),rest⟩=vds (vcu enc E) fun m=>some (srt (rest++m),0):=by
 rw[yA.body,tags_eq hn,wt,xQ,ZU (by dsimp only; omega),qk,qk,qk,qk];exact raws_l10 hs ht hn E [] 0 rest rfl (by rw[qB]; omega)
theorem bytes_eq : ∀ (d k:Nat) (t:zp) (es:List yF) (rs:List yC),3*d≤k→Yt d t=true→t.fKind=3→szT d t→vaF d t=.node es rs→wm k ⟨es,rs⟩=some (orBad (vbB d t))
 |0,k,t,es,rs,_,hr,h3,_,_=>by
  rcases vb6 hr with h|h<;>omega
 |d+1,k,t,es,rs,hk,hr,h3,hz,hv=>by
  obtain⟨k',rfl⟩:∃ k',k=k'+3:=⟨k-3,by omega⟩
  obtain⟨hl,he,hb,_,_⟩:=vc6 hr h3;rw[vaF,if_neg (by omega),if_neg (by omega)] at hv;cases hv
  have hs:∀ e∈t.fEntries,e.fTrees.length≤64∧∀ x∈e.fTrees,xH (k'+1) e.fTag (vaF d x)=some (match rawT (vbB d) e.fTag x with|some r=>(r,0)|none=>(⟨0,0,0,[]⟩,4)):=by
   intro e hm
   have h1:=vaP he e hm;refine⟨h1.2.2.2.1,fun x hx=>?_⟩;have hrx:=(h1.2.2.2.2 x hx).2;have hzx:=hz.2 x (vbq hm hx);rw[xH,xH.body,rawT]
   rcases vcr hrx with h|h|h
   · have hv:vaF d x=.num x.fN:=by cases d<;>rw[vaF,if_pos h]
     rw[hv,if_pos h]; rfl
   · have hv:vaF d x=.str x.fS:=by cases d<;>rw[vaF,if_neg (by omega),if_pos h]
     rw[hv,if_neg (by omega),if_pos h,show Yg (.str x.fS)=some (.str x.fS) from rfl,qk]
     dsimp only
     rw[xH.j3]
     by_cases hc:4096<x.fS.length
     · rw[if_pos hc,if_pos (by dsimp only; omega)]
     rw[if_neg hc,if_neg (by dsimp only; omega)]
   have h1':¬ x.fKind=1:=by omega
   have h2':¬ x.fKind=2:=by omega
   obtain⟨es,rs,hv⟩:∃ es rs,vaF d x=.node es rs:=by cases d<;>exact⟨_,_,by rw[vaF,if_neg h1',if_neg h2']⟩
   rw[hv,if_neg h1',if_neg h2',show Yg (.node es rs)=some (.node es rs) from rfl,qk]
   dsimp only
   rw[bytes_eq d k' x es rs (by omega) hrx h hzx hv,qk]
   cases hx':vbB d x with
   |none=>rfl
   |some b=>
    have hbl:=encT_le hx'
    rw[orBad]; dsimp only
    rw[if_pos rfl,xH.j3,if_neg (by dsimp only; omega),qk]
  have hR:yA (k'+2) ⟨t.fEntries.map fun e=>⟨e.fTag,e.fTrees.map (vaF d)⟩,t.fRest⟩=vds (vcu (vbB d) t.fEntries) fun m=>some (srt (t.fRest++m),0):=by
   rw[yA];exact raws_eq (f:=vaF d) (vaO he) hs hl hz.1.2.1
  rw[wm,wm.body,hR,vbB]
  cases hL:vcu (vbB d) t.fEntries with
  |none=>rfl
  |some L=>
   rw[vds,qk]; dsimp only
   rw[if_pos rfl,vdq (raws_ok hr h3 hz hL),qk,qk]
theorem rawE_eq {d k:Nat}{t:zp}(hk:3*d+2≤k)(hr:Yt (d+1) t=true)(h3:t.fKind=3)(hz:szT (d+1) t):yA k ⟨t.fEntries.map (entV (vaF d)),t.fRest⟩=vds (vcu (vbB d) t.fEntries) fun m=>some (srt (t.fRest++m),0):=by
 obtain⟨k',rfl⟩:∃ k',k=k'+2:=⟨k-2,by omega⟩
 obtain⟨hl,he,hb,_,_⟩:=vc6 hr h3;rw[yA];refine raws_eq (f:=vaF d) (vaO he) ?_ hl hz.1.2.1
 intro e hm
 have h1:=vaP he e hm;refine⟨h1.2.2.2.1,fun x hx=>?_⟩;have hrx:=(h1.2.2.2.2 x hx).2;have hzx:=hz.2 x (vbq hm hx);rw[xH,xH.body,rawT]
 rcases vcr hrx with h|h|h
 · have hv:vaF d x=.num x.fN:=by cases d<;>rw[vaF,if_pos h]
   rw[hv,if_pos h]; rfl
 · have hv:vaF d x=.str x.fS:=by cases d<;>rw[vaF,if_neg (by omega),if_pos h]
   rw[hv,if_neg (by omega),if_pos h,show Yg (.str x.fS)=some (.str x.fS) from rfl,qk]
   dsimp only
   rw[xH.j3]
   by_cases hc:4096<x.fS.length
   · rw[if_pos hc,if_pos (by dsimp only; omega)]
   rw[if_neg hc,if_neg (by dsimp only; omega)]
 have h1':¬ x.fKind=1:=by omega
 have h2':¬ x.fKind=2:=by omega
 obtain⟨es,rs,hv⟩:∃ es rs,vaF d x=.node es rs:=by cases d<;>exact⟨_,_,by rw[vaF,if_neg h1',if_neg h2']⟩
 rw[hv,if_neg h1',if_neg h2',show Yg (.node es rs)=some (.node es rs) from rfl,qk]
 dsimp only
 rw[bytes_eq d k' x es rs (by omega) hrx h hzx hv,qk]
 cases hx':vbB d x with
 |none=>rfl
 |some b=>
  have hbl:=encT_le hx'
  rw[orBad]; dsimp only
  rw[if_pos rfl,xH.j3,if_neg (by dsimp only; omega),qk]
theorem vdC {t:zp}(h:vaa t=true):Yt 10 t=true∧vdz 101 t≤10:=by
 unfold vaa at h;rw[qJ,decide_eq_true_eq] at h;exact⟨h.2,h.1⟩
theorem Raws_eq {t:zp}(hz:szT 10 t):YP t=some (if vaa t=true∧t.fKind=3 then (match vcu (vbB 9) t.fEntries with|some L=>(srt (t.fRest++L),(0:Int))|none=>([],4)) else ([],1)):=by
 rw[YP,of_eq hz,qk]
 by_cases hc:vaa t=true
 · rw[if_pos hc]
   by_cases h3:t.fKind=3
   · rw[if_neg (by rw[decide_eq_true h3]; exact Bool.false_ne_true),if_pos ⟨hc,h3⟩]
     have hv:vaF 10 t=.node (t.fEntries.map (entV (vaF 9))) t.fRest:=by rw[vaF,if_neg (by omega),if_neg (by omega)]; rfl
     rw[hv,show xL (.node (t.fEntries.map (entV (vaF 9))) t.fRest)=some ⟨t.fEntries.map (entV (vaF 9)),t.fRest⟩ from rfl,qk,rawE_eq (d:=9) (by have:=Yk; omega) (vdC hc).1 h3 hz]
     cases vcu (vbB 9) t.fEntries<;>rfl
   rw[if_pos (by rw[decide_eq_false h3]; rfl),if_neg (fun h=>h3 h.2)]
 rw[if_neg hc,if_pos (by rfl),if_neg (fun h=>hc h.1)]
theorem Encode_eq {t:zp}(hz:szT 10 t):ZH t=some (if vaa t=true∧t.fKind=3 then orBad (vbB 10 t) else ([],1)):=by
 rw[ZH,Raws_eq hz,qk]
 by_cases hc:vaa t=true∧t.fKind=3
 · rw[if_pos hc,if_pos hc,vbB]
   cases hL:vcu (vbB 9) t.fEntries with
   |none=>rfl
   |some L=>
    dsimp only
    rw[if_pos rfl,vdq (raws_ok (vdC hc.1).1 hc.2 hz hL),qk,qk]
 rw[if_neg hc,if_neg hc]; rfl


inductive Shuf : List yC→List yC→Prop
 |refl (l:List yC):Shuf l l
 |cons (a:yC) {l m:List yC}:Shuf l m→Shuf (a::l) (a::m)
 |swap {a b:yC} (h:a.fTag≠b.fTag) (l:List yC):Shuf (a::b::l) (b::a::l)
 |trans {l m n:List yC}:Shuf l m→Shuf m n→Shuf l n
theorem Shuf.app {l m:List yC}(h:Shuf l m)(k:List yC):Shuf (l++k) (m++k):=by
 induction h with
 |refl l=>exact .refl _
 |cons a _ ih=>exact .cons a ih
 |swap h l=>exact .swap h _
 |trans _ _ h1 h2=>exact .trans h1 h2
def okV (f:z8→zp→Prop)(s:zB)(y:YH)(x:zp):Prop:=
 if y.fKind=7 then x.fKind=3∧f (vbJ s y.fName) x
 else if y.fKind=4∨y.fKind=5 then x=⟨2,0,x.fS,[],[]⟩∧x.fS.length≤4096∧(y.fKind=4→vdh x.fS=true)
 else x=⟨1,x.fN,[],[],[]⟩∧vbU x.fN∧(y.fKind=3∨y.fKind=6→wR y x.fN=true)
def okN (f:z8→zp→Prop)(s:zB)(m:z8)(e:zv):Prop:=
 (1≤e.fTag∧e.fTag≤500)∧(zW m e.fTag).2=true∧(1≤e.fTrees.length∧e.fTrees.length≤64)∧((zW m e.fTag).1.fLabel≠3→e.fTrees.length=1)∧∀ x∈e.fTrees,okV f s (zW m e.fTag).1.fType x
def okT (s:zB):Nat→z8→zp→Prop
 |0,_,_=>False
 |d+1,m,t=>t.fKind=3∧t.fN=0∧t.fS=[]∧t.fEntries.Pairwise vaS∧(∀ e∈t.fEntries,okN (okT s d) s m e∧isZ m e=false)∧t.fRest.Pairwise vbT∧t.fRest.length≤4096∧∀ r∈t.fRest,vaJ r∧(zW m r.fTag).2≠true
def kindT (y:YH):Int:=if y.fKind=7 then 3 else if y.fKind=4∨y.fKind=5 then 2 else 1
theorem gt_kind (k n:Int)(s:List UInt8)(e:List zv)(r:List yC):(zp.mk k n s e r).fKind=k:=rfl
theorem gt_s (k n:Int)(s:List UInt8)(e:List zv)(r:List yC):(zp.mk k n s e r).fS=s:=rfl
theorem gt_es (k n:Int)(s:List UInt8)(e:List zv)(r:List yC):(zp.mk k n s e r).fEntries=e:=rfl
theorem gt_rest (k n:Int)(s:List UInt8)(e:List zv)(r:List yC):(zp.mk k n s e r).fRest=r:=rfl
theorem okV_kind {f:z8→zp→Prop}{s:zB}{y:YH}{x:zp}(h:okV f s y x):x.fKind=kindT y:=by
 unfold okV at h; unfold kindT
 by_cases h7:y.fKind=7
 · rw[if_pos h7] at h ⊢; exact h.1
 rw[if_neg h7] at h ⊢
 by_cases h4:y.fKind=4∨y.fKind=5
 · rw[if_pos h4] at h ⊢; rw[h.1]; rfl
 rw[if_neg h4] at h ⊢; rw[h.1]; rfl
theorem okV_leaf {f:z8→zp→Prop}{s:zB}{y:YH}{x:zp}(h:okV f s y x)(h7:y.fKind≠7):x.fEntries=[]∧x.fRest=[]∧vbU x.fN∧leafB x=true∧x.fKind≠3:=by
 unfold okV at h;rw[if_neg h7] at h
 split at h
 · rw[h.1];exact⟨rfl,rfl,in0,rfl,by rw[gt_kind]; decide⟩
 refine⟨by rw[h.1]; rfl,by rw[h.1]; rfl,h.2.1,?_,by rw[h.1,gt_kind]; decide⟩
 rw[h.1]; rfl
theorem kids_nil {x:zp}(h:x.fEntries=[]):kids x=[]:=by unfold kids; rw[h]; rfl
theorem szT_leaf {x:zp}(h1:x.fEntries=[])(h2:x.fRest=[])(h3:vbU x.fN):∀ d,szT d x
 |0=>⟨h3,by rw[h2]; exact qU _,by rw[h2]; intro r hr; cases hr⟩
 |d+1=>⟨⟨h3,by rw[h2]; exact qU _,by rw[h2]; intro r hr; cases hr⟩,by rw[kids_nil h1]; intro x hx; cases hx⟩
theorem okT_sz {s:zB}:∀ (d n:Nat) (m:z8) (t:zp),d≤n→okT s d m t→szT n t
 |0,_,_,_,_,h=>h.elim
 |d+1,0,_,_,h,_=>absurd h (by omega)
 |d+1,n+1,m,t,hn,h=>by
  obtain⟨_,h0,_,_,he,_,hl,hr⟩:=h;refine⟨⟨by rw[h0]; exact in0,by omega,fun r hm=>(hr r hm).1.2⟩,fun x hx=>?_⟩;obtain⟨e,hm,hxe⟩:=List.mem_flatMap.1 hx;have hv:=(he e hm).1.2.2.2.2 x hxe
  by_cases h7:(zW m e.fTag).1.fType.fKind=7
  · unfold okV at hv; rw[if_pos h7] at hv
    exact okT_sz d n _ x (by omega) hv.2
  obtain⟨a,b,c,_,_⟩:=okV_leaf hv h7;exact szT_leaf a b c n
theorem leafB_right {x:zp}(h:leafB x=true)(h3:x.fKind≠3):∀ d,Yt d x=true
 |0=>h
 |d+1=>by rw[Yt,if_neg h3]; exact h
theorem okT_ents {d:Nat}{s:zB}{m:z8}{f:zp→Bool}(hf:∀ y x,okV (okT s d) s y x→f x=true):∀ {l:List zv} {last:Int},l.Pairwise vaS→(∀ e∈l,last<e.fTag)→(∀ e∈l,okN (okT s d) s m e)→entB f last l=true
 |[],_,_,_,_=>rfl
 |e::l,last,hs,hlt,he=>by
  rw[uE] at hs;obtain⟨⟨h1,h2⟩,h3,h4,h5,h6⟩:=he e (qP ..);rw[entB,okT_ents hf hs.2 (fun a ha=>hs.1 a ha) fun a ha=>he a (qL _ ha),qo,qJ,decide_eq_true_eq];refine⟨⟨hlt e (qP ..),h2,h4.1,h4.2⟩,un.2 fun x hx=>?_⟩;rw[qJ,decide_eq_true_eq];refine⟨?_,hf _ x (h6 x hx)⟩;rw[okV_kind (h6 x hx)]
  cases ht:e.fTrees with
  |nil=>rw[ht] at hx; cases hx
  |cons a l=>rw[List.headD_cons]; exact (okV_kind (h6 a (by rw[ht]; exact qP ..))).symm
theorem okT_right {s:zB}:∀ (d n:Nat) (m:z8) (t:zp),d≤n→okT s d m t→Yt n t=true
 |0,_,_,_,_,h=>h.elim
 |d+1,0,_,_,h,_=>absurd h (by omega)
 |d+1,n+1,m,t,hn,h=>by
  obtain⟨h3,h0,hS,hs,he,hrs,_,hr⟩:=h;rw[Yt,if_pos h3]
  have e1:entB (Yt n) 0 t.fEntries=true:=by
   refine okT_ents (m:=m) (d:=d) (s:=s) ?_ hs (fun e hm=>by have:=(he e hm).1.1; omega) fun e hm=>(he e hm).1
   intro y x hv
   by_cases h7:y.fKind=7
   · unfold okV at hv; rw[if_pos h7] at hv
     exact okT_right d n _ x (by omega) hv.2
   obtain⟨_,_,_,d1,e1⟩:=okV_leaf hv h7;exact leafB_right d1 e1 n
  have e2:restB t=true:=by
   unfold restB;rw[qJ];refine⟨un.2 fun r hm=>?_,risB_iff.2 hrs⟩;obtain⟨⟨a,_⟩,b⟩:=hr r hm;rw[a,uh,u9,List.any_eq_false]
   intro e hme hc
   rw[decide_eq_true_eq] at hc;exact b (by rw[← hc]; exact (he e hme).1.2.1)
  rw[e1,e2,decide_eq_true h0,decide_eq_true hS]; rfl
theorem okT_dep {s:zB}:∀ (d n:Nat) (m:z8) (t:zp),okT s d m t→vdz n t≤d
 |0,_,_,_,h=>h.elim
 |d+1,0,_,_,_=>qU _
 |d+1,n+1,m,t,h=>by
  rw[vdz]
  split
  · refine Nat.succ_le_succ (maxD_le (qU _) fun x hx=>?_);obtain⟨e,hm,hxe⟩:=List.mem_flatMap.1 hx;have hv:=(h.2.2.2.2.1 e hm).1.2.2.2.2 x hxe
    by_cases h7:(zW m e.fTag).1.fType.fKind=7
    · unfold okV at hv; rw[if_pos h7] at hv
      exact okT_dep d n _ x hv.2
    obtain⟨_,_,_,_,e1⟩:=okV_leaf hv h7
    cases n with
    |zero=>exact qU _
    |succ n=>rw[vdz,if_neg e1]; exact qU _
  exact qU _
theorem okT_check {s:zB}{d:Nat}{m:z8}{t:zp}(hd:d≤10)(h:okT s d m t):vaa t=true:=by
 have:=okT_dep d 101 m t h;rw[vaa,decide_eq_true (by omega),uh];exact okT_right d 10 m t hd h
theorem gr_wire (a b c:Int)(d:List UInt8):(yC.mk a b c d).fWire=b:=rfl
theorem gr_b (a b c:Int)(d:List UInt8):(yC.mk a b c d).fB=d:=rfl
theorem oneD_wire {msg:z8→List UInt8→zp×Int}{s:zB}{y:YH}{r:yC}(h:(y.fKind=4∨y.fKind=5∨y.fKind=7)∧r.fWire=1∨¬ (y.fKind=4∨y.fKind=5∨y.fKind=7)∧r.fWire=0):
 oneD msg s y r=(if y.fKind=3∨y.fKind=6 then (if wR y r.fN=true then (⟨1,r.fN,[],[],[]⟩,0) else (vai,11))
 else if y.fKind=4 then (if vdh r.fB=true then (⟨2,0,r.fB,[],[]⟩,0) else (vai,9))
 else if y.fKind=7 then msg (vbJ s y.fName) r.fB
 else (if r.fWire=1 then ⟨2,0,r.fB,[],[]⟩ else ⟨1,r.fN,[],[],[]⟩,0)):=by
 unfold oneD;refine if_pos ?_
 rcases h with ⟨h,h'⟩|⟨h,h'⟩
 · rw[if_pos h]; exact h'
 rw[if_neg h]; exact h'
theorem insR_bytes (r:yC):∀ l:List yC,(ZV (insR r l)).length=(vby r).length+(ZV l).length
 |[]=>by rw[insR,Zo,qj]
 |x::l=>by
  rw[insR]; split
  · rw[Zo,qj]
  rw[Zo,qj,insR_bytes r l,Zo,qj]; omega
theorem srtA_bytes : ∀ l S:List yC,(ZV (srtA l S)).length=(ZV S).length+(ZV l).length
 |[],S=>rfl
 |r::l,S=>by rw[srtA,srtA_bytes,insR_bytes,Zo,qj]; omega
theorem srt_bytes (l:List yC):(ZV (srt l)).length=(ZV l).length:=by rw[srt,srtA_bytes]; exact qn _
theorem vb_mono {a b:Nat}(h:a≤b):(vb a).length≤(vb b).length:=by
 induction b using Nat.strongRecOn generalizing a with
 |ind b ih=>
  by_cases ha:a<128
  · rw[vb_lt ha]; exact vb_pos b
  rw[vb_ge ha,vb_ge (n:=b) (by omega),qp,qp];exact Nat.succ_le_succ (ih (b / 128) (by omega) (Nat.div_le_div_right h))
theorem rawL_app {enc:zp→Option (List UInt8)}{tag:Int}{x:zp}{q:yC}(hq:rawT enc tag x=some q):∀ {l:List zp} {L:List yC},rawL enc tag l=some L→rawL enc tag (l++[x])=some (L++[q])
 |[],L,h=>by
  cases h
  rw[qG,rawL,hq]; rfl
 |y::l,L,h=>by
  obtain⟨r,hr,h⟩:=bind_some h;obtain⟨L',hL,h⟩:=bind_some h;cases h
  rw[qI,rawL,hr,qk,rawL_app hq hL]; rfl
theorem rawE_put {enc:zp→Option (List UInt8)}{t:Int}{rep:Prop} [Decidable rep]{x:zp}{q:yC}(hq:rawT enc t x=some q):∀ {es:List zv} {L:List yC},vcu enc es=some L→∃ L',vcu enc (vcv t rep x es)=some L'∧(ZV L').length≤(ZV L).length+(vby q).length
 |[],L,h=>by
  cases h;refine⟨[q],?_,?_⟩
  · rw[vcv,vcu,vcK,ZQ,rawL,hq]; rfl
  rw[Zo,qj]; omega
 |e::es,L,h=>by
  obtain⟨a,ha,h⟩:=bind_some h;obtain⟨m,hm,h⟩:=bind_some h;cases h;rw[vcv]
  split
  · obtain⟨L',h1,h2⟩:=rawE_put (rep:=rep) hq hm;refine⟨a++L',?_,?_⟩
    · rw[vcu,ha,qk,h1]; rfl
    rw[YY,YY,qj,qj]; omega
  split
  · rename_i heq
    rw[heq] at ha
    by_cases hr:rep
    · refine⟨(a++[q])++m,?_,?_⟩
      · rw[vcu,vcK,ZQ,if_pos hr,rawL_app hq ha,qk,hm]; rfl
      simp only[YY,Zo,qj]; show _+(_+0)+_≤_; omega
    refine⟨[q]++m,?_,?_⟩
    · rw[vcu,vcK,ZQ,if_neg hr,qG,rawL,hq,qk]
      rw[rawL,qk,qk,hm]; rfl
    simp only[YY,Zo,qj]; show _+0+_≤_; omega
  refine⟨q::(a++m),?_,?_⟩
  · rw[vcu,vcK,ZQ,rawL,hq,qk,rawL,qk,qk,vcu,ha,qk,hm]; rfl
  rw[Zo,qj]; omega
theorem vdp {enc:zp→Option (List UInt8)}{p:zv→Bool}:∀ {es:List zv} {L:List yC},vcu enc es=some L→∃ L',vcu enc (es.filter p)=some L'∧(ZV L').length≤(ZV L).length
 |[],L,h=>⟨L,h,qx _⟩
 |e::es,L,h=>by
  obtain⟨a,ha,h⟩:=bind_some h;obtain⟨m,hm,h⟩:=bind_some h;cases h;obtain⟨L',h1,h2⟩:=vdp (p:=p) hm;rw[List.filter_cons]
  split
  · refine⟨a++L',?_,?_⟩
    · rw[vcu,ha,qk,h1]; rfl
    rw[YY,YY,qj,qj]; omega
  exact⟨L',h1,by rw[YY,qj]; omega⟩
theorem putE_ok {P:Int→zp→Prop}{t:Int}{rep:Prop} [Decidable rep]{x:zp}{e:zv}(hx:P t x):∀ {es:List zv},(∀ a∈es,∀ z∈a.fTrees,P a.fTag z)→e∈vcv t rep x es→e∈es∨(e.fTag=t∧(¬ rep→e.fTrees.length=1)∧1≤e.fTrees.length∧e.fTrees.length=putN t rep es∧∀ z∈e.fTrees,P t z)
 |[],_,h=>by
  rw[vcv,uD] at h; subst h
  refine Or.inr ⟨rfl,fun _=>rfl,qx _,rfl,fun z hz=>?_⟩
  rw[ZQ,uD] at hz; rw[hz]; exact hx
 |a::es,hP,h=>by
  rw[vcv] at h; rw[putN]
  split at h
  · rename_i hlt
    rw[if_pos hlt]
    rcases q9.1 h with rfl|h
    · exact Or.inl (qP ..)
    rcases putE_ok (P:=P) hx (fun b hb=>hP b (qL _ hb)) h with h|h
    · exact Or.inl (qL _ h)
    exact Or.inr h
  rename_i hlt
  rw[if_neg hlt]
  split at h
  · rename_i heq
    rw[if_pos heq]
    rcases q9.1 h with rfl|h
    · refine Or.inr ⟨rfl,fun hr=>?_,?_,?_,fun z hz=>?_⟩
      · rw[ZQ,if_neg hr]; rfl
      · rw[ZQ,qj,ub]; omega
      · rw[ZQ,qj,ub]; split<;>rfl
      rw[ZQ] at hz
      rcases uI.1 hz with hz|hz
      · split at hz
        · rw[← heq]; exact hP a (qP ..) z hz
        cases hz
      rw[uD] at hz; rw[hz]; exact hx
    exact Or.inl (qL _ h)
  rename_i hne
  rw[if_neg hne]
  rcases q9.1 h with rfl|h
  · refine Or.inr ⟨rfl,fun _=>rfl,qx _,rfl,fun z hz=>?_⟩
    rw[ZQ,uD] at hz; rw[hz]; exact hx
  exact Or.inl h
theorem oneD_ok {s:zB}{d:Nat}{y:YH}{r:yC}(ih:∀ m b,(vcZ s d m b).2=0→okT s d m (vcZ s d m b).1∧∃ c,vbB d (vcZ s d m b).1=some c∧c.length≤b.length)(hr:vaJ r)(h0:(oneD (vcZ s d) s y r).2=0):
 okV (okT s d) s y (oneD (vcZ s d) s y r).1∧∃ q,rawT (vbB d) r.fTag (oneD (vcZ s d) s y r).1=some q∧(vby q).length≤(vby r).length:=by
 obtain⟨hc1,hc2,hc⟩:=Xj hr.1
 by_cases hw:(y.fKind=4∨y.fKind=5∨y.fKind=7)∧r.fWire=1∨¬ (y.fKind=4∨y.fKind=5∨y.fKind=7)∧r.fWire=0
 · rw[oneD_wire hw] at h0 ⊢
   have hnum:r.fWire=0→∀ x:zp,x=⟨1,r.fN,[],[],[]⟩→∃ q,rawT (vbB d) r.fTag x=some q∧(vby q).length≤(vby r).length:=by
    intro h x hx
    obtain⟨h1,h2⟩:r.fWire=0∧r.fB=[]:=by
     rcases hc with hc|hc
     · exact hc
     omega
    refine⟨⟨r.fTag,0,r.fN,[]⟩,?_,?_⟩
    · rw[hx,rawT,gt_kind,if_pos rfl]; rfl
    have:(⟨r.fTag,0,r.fN,[]⟩:yC)=r:=by cases r; simp only at h1 h2 ⊢; rw[h1,h2]
    rw[this]; exact qx _
   have htext:r.fWire=1→r.fN=0∧r.fB.length≤4096:=by
    intro h
    rcases hc with hc|hc
    · omega
    exact hc.2
   have hstr:r.fWire=1→∀ x:zp,x=⟨2,0,r.fB,[],[]⟩→∃ q,rawT (vbB d) r.fTag x=some q∧(vby q).length≤(vby r).length:=by
    intro h x hx
    obtain⟨h1,h2⟩:=htext h;refine⟨⟨r.fTag,1,0,r.fB⟩,?_,?_⟩
    · rw[hx,rawT,gt_kind,if_neg (by decide),if_pos rfl,gt_s,if_neg (by omega)]
    have:(⟨r.fTag,1,0,r.fB⟩:yC)=r:=by cases r; simp only at h h1 ⊢; rw[h,h1]
    rw[this]; exact qx _
   unfold okV
   by_cases h3:y.fKind=3∨y.fKind=6
   · rw[if_pos h3] at h0 ⊢
     have w0:r.fWire=0:=by rcases hw with hw|hw; omega; exact hw.2
     rw[if_neg (by omega),if_neg (by omega)]
     by_cases hn:wR y r.fN=true
     · rw[if_pos hn] at h0 ⊢;exact⟨⟨rfl,hr.2,fun _=>hn⟩,hnum w0 _ rfl⟩
     rw[if_neg hn] at h0; exact absurd h0 (by decide)
   rw[if_neg h3] at h0 ⊢
   by_cases h4:y.fKind=4
   · have w1:r.fWire=1:=by rcases hw with hw|hw; exact hw.2; omega
     rw[if_pos h4] at h0 ⊢;rw[if_neg (by omega),if_pos (Or.inl h4)]
     by_cases hn:vdh r.fB=true
     · rw[if_pos hn] at h0 ⊢;exact⟨⟨rfl,(htext w1).2,fun _=>hn⟩,hstr w1 _ rfl⟩
     rw[if_neg hn] at h0; exact absurd h0 (show ¬ ((vai,(9:Int)).2=0) by decide)
   rw[if_neg h4] at h0 ⊢
   by_cases h7:y.fKind=7
   · have w1:r.fWire=1:=by rcases hw with hw|hw; exact hw.2; omega
     rw[if_pos h7] at h0 ⊢;rw[if_pos h7];obtain⟨hok,c,hc',hl⟩:=ih _ _ h0
     have hk3:(vcZ s d (vbJ s y.fName) r.fB).1.fKind=3:=by
      cases d with
      |zero=>exact hok.elim
      |succ d=>exact hok.1
     refine⟨⟨hk3,hok⟩,⟨r.fTag,1,0,c⟩,?_,?_⟩
     · rw[rawT,if_neg (by omega),if_neg (by omega),hc']; rfl
     have hv:=vb_mono hl
     have hkey:vcW (⟨r.fTag,1,0,c⟩:yC)=vcW r:=by unfold vcW; rw[w1]
     unfold vby;rw[hkey,gr_wire,if_neg (by decide),w1,if_neg (by decide),gr_b]
     simp only[qj]; omega
   rw[if_neg h7] at h0 ⊢;rw[if_neg h7]
   by_cases h5:y.fKind=5
   · have w1:r.fWire=1:=by rcases hw with hw|hw; exact hw.2; omega
     rw[if_pos w1,if_pos (Or.inr h5)];exact⟨⟨rfl,(htext w1).2,fun h=>absurd h h4⟩,hstr w1 _ rfl⟩
   have w0:r.fWire=0:=by rcases hw with hw|hw; omega; exact hw.2
   rw[if_neg (show ¬ r.fWire=1 by omega),if_neg (by omega)];exact⟨⟨rfl,hr.2,fun h=>absurd h h3⟩,hnum w0 _ rfl⟩
 exfalso
 unfold oneD at h0;rw[if_neg ?_] at h0
 · exact absurd h0 (show ¬ ((vai,(8:Int)).2=0) by decide)
 intro hc
 by_cases h:y.fKind=4∨y.fKind=5∨y.fKind=7
 · rw[if_pos h] at hc; exact hw (Or.inl ⟨h,hc⟩)
 rw[if_neg h] at hc; exact hw (Or.inr ⟨h,hc⟩)
def okJ (s:zB)(d:Nat)(m:z8)(n:Nat)(es:List zv)(rest:List yC):Prop:=
 es.Pairwise vaS∧(∀ e∈es,okN (okT s d) s m e)∧(∀ r∈rest,vaJ r∧(zW m r.fTag).2≠true)∧∃ L,vcu (vbB d) es=some L∧(ZV L).length+(ZV rest).length≤n
theorem fldD_ok {s:zB}{d:Nat}{m:z8}(ih:∀ m b,(vcZ s d m b).2=0→okT s d m (vcZ s d m b).1∧∃ c,vbB d (vcZ s d m b).1=some c∧c.length≤b.length):∀ {l:List yC} {es:List zv} {rest:List yC} {n:Nat},(∀ r∈l,vaJ r)→okJ s d m n es rest→(fldD m (oneD (vcZ s d) s) l es rest).2=0→
 ∃ es' rest',okJ s d m (n+(ZV l).length) es' rest'∧fldD m (oneD (vcZ s d) s) l es rest=(⟨3,0,[],zdel m es',srt rest'⟩,0)
 |[],es,rest,n,_,hJ,_=>⟨es,rest,hJ,rfl⟩
 |r::l,es,rest,n,hr,hJ,h0=>by
  have hrr:=hr r (qP ..)
  have hl:∀ x∈l,vaJ x:=fun x hx=>hr x (qL _ hx)
  have hc:=Xj hrr.1;obtain⟨j1,j2,j3,L,j4,j5⟩:=hJ
  have en:n+(ZV (r::l)).length=(n+(vby r).length)+(ZV l).length:=by rw[Zo,qj]; omega
  rw[fldD] at h0 ⊢;rw[en]
  by_cases hk:(zW m r.fTag).2=true
  · rw[if_pos hk] at h0 ⊢
    by_cases ho:(oneD (vcZ s d) s (zW m r.fTag).1.fType r).2=0
    · rw[if_pos ho] at h0 ⊢
      by_cases hp:putN r.fTag ((zW m r.fTag).1.fLabel=3) es≤64
      · rw[if_pos hp] at h0 ⊢;obtain⟨hv,q,hq,hqb⟩:=oneD_ok ih hrr ho;obtain⟨L',hL',hLb⟩:=rawE_put (rep:=(zW m r.fTag).1.fLabel=3) hq j4;refine fldD_ok ih hl ⟨vbH j1,fun e he=>?_,j3,L',hL',by omega⟩ h0
        rcases putE_ok (P:=fun t z=>okV (okT s d) s (zW m t).1.fType z) hv (fun a ha=>(j2 a ha).2.2.2.2) he with h|⟨a1,a2,a3,a4,a5⟩
        · exact j2 e h
        exact⟨by rw[a1]; exact⟨hc.1,hc.2.1⟩,by rw[a1]; exact hk,⟨a3,by omega⟩,by rw[a1]; exact a2,by rw[a1]; exact a5⟩
      rw[if_neg hp] at h0; exact absurd h0 (show ¬ ((vai,(4:Int)).2=0) by decide)
    rw[if_neg ho] at h0; exact absurd h0 ho
  rw[if_neg hk] at h0 ⊢;refine fldD_ok ih hl ⟨j1,j2,fun x hx=>?_,L,j4,?_⟩ h0
  · rcases uI.1 hx with hx|hx
    · exact j3 x hx
    rw[uD] at hx; rw[hx]; exact⟨hrr,hk⟩
  rw[YY,Zo,qj,qj]; show _+(_+(_+0))≤_; omega
theorem decM_ok {s:zB}:∀ (d:Nat) (m:z8) (b:List UInt8),(vcZ s d m b).2=0→okT s d m (vcZ s d m b).1∧∃ c,vbB d (vcZ s d m b).1=some c∧c.length≤b.length
 |0,_,_,h=>absurd h (show ¬ ((vai,(10:Int)).2=0) by decide)
 |d+1,m,b,h=>by
  rw[vcZ] at h ⊢
  by_cases hg:(getD b).2=0
  · rw[if_pos hg] at h ⊢;obtain⟨g1,g2,g3⟩:=getD_ok hg;obtain⟨es,rest,⟨j1,j2,j3,L,j4,j5⟩,e⟩:=fldD_ok (decM_ok d) (n:=0) (es:=[]) (rest:=[]) g3 ⟨List.Pairwise.nil,(fun _ h=>by cases h),(fun _ h=>by cases h),[],rfl,qx _⟩ h;rw[← g1] at j5;rw[e];obtain⟨L',f1,f2⟩:=vdp (p:=fun e => !isZ m e) j4
    have hrl:rest.length≤4096:=by have:=vct rest; omega
    have hlen:(ZV (srt (srt rest++L'))).length≤b.length:=by
     rw[srt_bytes,YY,qj,srt_bytes]; omega
    refine⟨⟨rfl,rfl,rfl,?_,fun x hx=>?_,srt_sorted _,?_,fun r hr=>?_⟩,ZV (srt (srt rest++L')),?_,hlen⟩
    · rw[gt_es]; exact List.Pairwise.filter _ j1
    · rw[gt_es,zdel,List.mem_filter,u9] at hx;exact⟨j2 x hx.1,hx.2⟩
    · rw[gt_rest,srt_len]; exact hrl
    · rw[gt_rest,srt_mem] at hr; exact j3 r hr
    rw[vbB,gt_es,gt_rest,zdel,f1,qk,putB,if_neg (by omega)]
  rw[if_neg hg] at h; exact absurd h hg
def s1 : zB:=Zs 1
def s2 : zB:=Zs 2
def vaY : List UInt8:=[109]
def oneT (v:Int):zp:=YV v
def oneB (v:Int):zp:=⟨3,0,[],[⟨1,[⟨1,v,[],[],[]⟩]⟩],[]⟩
theorem vbI {v:Int}(h:v≠0):oneT v=oneB v:=if_neg h
theorem check2 : yN s2=some 0:=by decide +kernel
theorem msg2 : yw s2 vaY=(⟨vaY,[⟨[120],1,1,⟨2,[]⟩⟩],[]⟩,true):=by decide +kernel
theorem meth2 : wn s2 [99]=(⟨[99],vaY,vaY⟩,true):=by decide +kernel
theorem field1 (k:Int):zW ⟨vaY,[⟨[120],1,1,⟨k,[]⟩⟩],[]⟩ 1=(⟨[120],1,1,⟨k,[]⟩⟩,true):=rfl
theorem progK : wi ⟨[[⟨1,1,0⟩]]⟩=true:=by decide +kernel
theorem oneB_sz {v:Int}(h:vbU v):szT 10 (oneB v):=by
 refine⟨⟨by show vbU 0; unfold vbU; omega,by show (0:Nat)≤900000; omega,fun r hm=>by cases hm⟩,fun x hx=>?_⟩
 have hx':x=⟨1,v,[],[],[]⟩:=by simpa [kids,oneB,zp.fEntries,zv.fTrees] using hx
 subst hx';exact⟨⟨h,by show (0:Nat)≤900000; omega,fun r hm=>by cases hm⟩,fun x hx=>by cases hx⟩
theorem zero_sz : szT 10 (⟨3,0,[],[],[]⟩:zp):=
 ⟨⟨by show vbU 0; unfold vbU; omega,by show (0:Nat)≤900000; omega,fun r hm=>by cases hm⟩,fun x hx=>by cases hx⟩
theorem oneT_sz {v:Int}(h:vbU v):szT 10 (oneT v):=by
 by_cases h0:v=0
 · subst h0; exact zero_sz
 rw[vbI h0]; exact oneB_sz h
theorem oneT_check (v:Int):vaa (oneT v)=true:=by
 by_cases h0:v=0
 · subst h0; decide +kernel
 rw[vbI h0]; rfl
theorem oneT_kind (v:Int):(oneT v).fKind=3:=by
 by_cases h0:v=0
 · subst h0; rfl
 rw[vbI h0]; rfl
theorem oneT_enc {v:Int}(h:vbU v):∃ c,vbB 10 (oneT v)=some c:=by
 by_cases h0:v=0
 · subst h0; exact⟨[],by decide +kernel⟩
 rw[vbI h0];have e:vbB 10 (oneB v)=putB [⟨1,0,v,[]⟩]:=rfl;rw[e,putB];have k1:(vb (vcW ⟨1,0,v,[]⟩)).length≤10:=vbW (by show ((2*1+0:Int).toNat)<2^64; decide);have k2:(vb (zg v)).length≤10:=vbW (zg_lt h)
 have hl:(ZV [⟨1,0,v,[]⟩]).length≤20:=by
  show (vby ⟨1,0,v,[]⟩++[]).length≤20
  rw[qD]
  show (vb (vcW ⟨1,0,v,[]⟩)++vb (zg v)).length≤20
  rw[qj]; omega
 rw[if_neg (by omega)];exact⟨_,rfl⟩
theorem oneT_Encode {v:Int}(h:vbU v){c:List UInt8}(hc:vbB 10 (oneT v)=some c):ZH (oneT v)=some (c,0):=by
 rw[Encode_eq (oneT_sz h),if_pos ⟨oneT_check v,oneT_kind v⟩,hc]; rfl
def KK : Nat:=999999999999999999999
theorem vc1 : xz=KK+1:=rfl
def KJ : Nat:=999999999999999999998
theorem KK_s : KK=KJ+1:=rfl
theorem num_tree (v:Int):zR xz (.num v)=some ⟨1,v,[],[],[]⟩:=by
 rw[vc1,zR,zR.body]; rfl
def keepF (op v:Int):Int:=if op=2 then Zl v else v
theorem step_one {op v:Int}(hop:op=1∨op=2)(r:zP):zL KK r ⟨op,1,0⟩ [.num v]=some ([⟨1,keepF op v,[],[],[]⟩],r):=by
 rw[KK_s,zL,zL.body,if_neg (by show ¬ op=4; omega),zL.j2,zL.l12,num_tree,qk,bnd];have hk:Zh (.num v)=.num v:=rfl;rw[hk]
 dsimp only
 have hl:∀ (m:zP) (T:zp),zL.j22 0 ([]:List zp) (zL.l12 (zG KJ) ⟨op,1,0⟩ []) m T=some ([T],m):=fun m T=>by
  rw[zL.j22,ZU (by simp),qk,zL.l12]; rfl
 rcases hop with rfl|rfl
 · rw[if_neg (by decide),if_neg (by decide)]
   show zL.j36 _ _ _ _ _ _ _ _ (decide ((1:Int)=4))=_
   unfold zL.j36;rw[if_neg (by decide)];exact hl _ _
 rw[if_pos rfl,bnd];exact hl _ _
theorem part_one {op v:Int}(hop:op=1∨op=2):∃ r,zG xz ⟨⟨[[⟨op,1,0⟩]]⟩,0⟩ 0 ⟨[⟨1,[.num v]⟩],[]⟩=some (oneB (keepF op v),r):=by
 rw[vc1,zG,zG.body];have hi:YI (zP.fp ⟨⟨[[⟨op,1,0⟩]]⟩,0⟩).fParts 0=some [⟨op,1,0⟩]:=rfl;rw[hi,qk,zG.l13]
 have hg:yP ⟨[⟨1,[.num v]⟩],[]⟩ 1=some [.num v]:=by
  rw[yP,yP.l4,if_pos (show (yF.mk 1 [zo.num v]).ftag=1 from rfl)]
  show ((wp [.num v]).bind fun r12=>some r12)=_
  rw[wp,ZU (by simp)]; rfl
 dsimp only [zZ.fentries]
 rw[hg,qk,if_neg (by simp),step_one hop,qk,if_pos (by simp),ZU (by simp),qk,zG.j19,zG.l13];exact⟨_,rfl⟩
def treeB (t:zp):Bool:=match t with
 |⟨k,n,s,es,rs⟩=>decide (k=3)&&decide (n=0)&&decide (s=[])&&es.isEmpty&&rs.isEmpty
theorem treeB_eq {t:zp}(h:treeB t=true):t=oneT 0:=by
 obtain⟨k,n,s,es,rs⟩:=t;simp only[treeB,qJ,decide_eq_true_eq,List.isEmpty_iff] at h;obtain⟨⟨⟨⟨rfl,rfl⟩,rfl⟩,rfl⟩,rfl⟩:=h
 rfl
theorem run_z {P:xW}(h:(wP P (oneT 0)).any (fun r=>treeB r.1&&decide (r.2=0))=true):wP P (oneT 0)=some (oneT 0,0):=by
 cases hr:wP P (oneT 0) with
 |none=>rw[hr] at h; cases h
 |some r=>
  rw[hr] at h;simp only[Option.any_some,qJ,decide_eq_true_eq] at h;obtain⟨a,b⟩:=r;obtain⟨h1,h2⟩:=h;have e1:a=oneT 0:=treeB_eq h1;have e2:b=0:=h2;rw[e1,e2]
theorem keepF_ne {op v:Int}(h0:v≠0):keepF op v≠0:=by
 unfold keepF Zl
 split
 · split<;>split<;>omega
 exact h0
theorem run_one {op v:Int}(hop:op=1∨op=2)(h:vbU v)(hp:wi ⟨[[⟨op,1,0⟩]]⟩=true):wP ⟨[[⟨op,1,0⟩]]⟩ (oneT v)=some (oneT (keepF op v),0):=by
 by_cases h0:v=0
 · subst h0
   have hk:keepF op 0=0:=by rcases hop with rfl|rfl<;>decide
   rw[hk]
   rcases hop with rfl|rfl
   · exact run_z (by decide +kernel)
   exact run_z (by decide +kernel)
 have hv:Xm (oneB v)=some (.node [⟨1,[.num v]⟩] [],true):=by
  have:=of_eq (oneB_sz h);have hc:=oneT_check v;rw[vbI h0] at hc
  rw[this,if_pos hc]; rfl
 obtain⟨r,hr⟩:=part_one (v:=v) hop;rw[vbI h0,vbI (keepF_ne h0),wP,Yx,bnd,hp,if_neg (show ¬ (!true || !decide ((oneB v).fKind=3))=true from fun h=>Bool.noConfusion h),hv,qk,if_neg (show ¬ (!(zo.node [⟨1,[.num v]⟩] [],true).2)=true from fun h=>Bool.noConfusion h)]
 show (Option.bind (Option.bind (some (⟨[⟨1,[.num v]⟩],[]⟩:zZ)) _) _)=_
 rw[qk,hr,qk,qk]
theorem make22 : xD s2 s2 vaY vaY=some (⟨[[⟨1,1,0⟩]]⟩,0):=by decide +kernel
theorem awake24 : ZM=some true:=by decide +kernel
def mthC : wT:=⟨[99],vaY,vaY⟩
section
variable {K V:Type} [DecidableEq K]
def wfB (m:YJ K V):Prop:=m.l.length=m.bs.length∧m.bs.Nodup∧∀ b∈m.bs,b<m.ck
theorem idxK_none : ∀ {l:List (K×V)} {k:K} (v:V),idxK l k=none→vcn l k v=l++[(k,v)]
 |[],_,_,_=>rfl
 |(a,w)::l,k,v,h=>by
  rw[idxK] at h
  by_cases e:k=a
  · rw[if_pos e] at h; cases h
  rw[if_neg e] at h
  rw[vcn,if_neg e,idxK_none v (by simpa using h)]; rfl
theorem idxK_some : ∀ {l:List (K×V)} {k:K} {i:Nat} (v:V),idxK l k=some i→∃ w,l[i]?=some (k,w)∧l.set i (k,v)=vcn l k v
 |[],_,_,_,h=>by cases h
 |(a,w)::l,k,i,v,h=>by
  rw[idxK] at h
  by_cases e:k=a
  · rw[if_pos e] at h; cases h
    subst e;exact⟨w,rfl,by rw[vcn,if_pos rfl]; rfl⟩
  rw[if_neg e] at h
  cases hq:idxK l k with
  |none=>rw[hq] at h; cases h
  |some j=>
   rw[hq] at h; cases h
   obtain⟨w',h1,h2⟩:=idxK_some v hq;refine⟨w',by simpa using h1,?_⟩
   rw[vcn,if_neg e,← h2]; rfl
theorem find_at : ∀ {l:List Nat} {i x:Nat},l.Nodup→l[i]?=some x→l.findIdx? (fun b:Nat=>((b:Int)==(x:Int)))=some i
 |[],_,_,_,h=>by simp at h
 |a::l,0,x,_,h=>by
  simp only[uL,Option.some.injEq] at h;subst h
  simp[List.findIdx?_cons]
 |a::l,i+1,x,hn,h=>by
  obtain⟨h1,h2⟩:=vg.1 hn
  have hx:l[i]?=some x:=by simpa using h
  have hne:a≠x:=fun e=>h1 (e▸List.mem_of_getElem? hx)
  have hb:((a:Int)==(x:Int))=false:=beq_eq_false_iff_ne.2 fun e=>hne (by omega)
  rw[List.findIdx?_cons,hb,find_at h2 hx]; rfl
theorem sto_set {m:YJ K V}(h:wfB m)(z:V)(k:K)(v:V):∃ m',YJ.sto (YJ.ent z m k) (YJ.stamp m k) v=some m'∧m'.l=vcn m.l k v∧wfB m':=by
 obtain⟨h1,h2,h3⟩:=h;unfold YJ.ent YJ.stamp
 cases hi:idxK m.l k with
 |some i=>
  obtain⟨w,e1,e2⟩:=idxK_some v hi;have hlt:i<m.l.length:=(qQ.1 e1).1
  have hb:m.bs[i]?=some (m.bs.getD i 0):=by rw[qC,qX (by omega)]; rfl
  refine⟨⟨m.l.set i (k,v),m.bs,m.ck⟩,?_,e2,by simpa using h1,h2,h3⟩;simp only[YJ.sto]
  rw[find_at h2 hb,qk,e1]; rfl
 |none=>
  have hnd:(m.bs++[m.ck]).Nodup:=by
   refine List.nodup_append.2 ⟨h2,by simp,fun a ha b hb=>?_⟩;have:=h3 a ha;simp only[uD] at hb
   omega
  have hlast:(m.bs++[m.ck])[m.bs.length]?=some m.ck:=by simp
  refine⟨⟨(m.l++[(k,z)]).set m.bs.length (k,v),m.bs++[m.ck],m.ck+1⟩,?_,?_,?_⟩
  · simp only[YJ.sto];rw[find_at hnd hlast,qk]
    have:(m.l++[(k,z)])[m.bs.length]?=some (k,z):=by rw[← h1]; simp
    rw[this]; rfl
  · show (m.l++[(k,z)]).set m.bs.length (k,v)=_
    rw[idxK_none v hi,← h1]; simp
  refine⟨by simp[h1],hnd,fun b hb=>?_⟩
  rcases uI.1 hb with hb|hb
  · exact Nat.lt_succ_of_lt (h3 b hb)
  have:b=m.ck:=by simpa using hb
  show b<m.ck+1
  omega
theorem del_wf {m:YJ K V}(h:wfB m)(k:K):wfB (YJ.del m k):=by
 obtain⟨h1,h2,h3⟩:=h;unfold YJ.del
 split
 · refine⟨?_,h2.sublist (List.eraseIdx_sublist ..),fun b hb=>h3 b (List.mem_of_mem_eraseIdx hb)⟩
   show (m.l.eraseIdx _).length=(m.bs.eraseIdx _).length
   rw[List.length_eraseIdx,List.length_eraseIdx,h1]
 exact⟨h1,h2,h3⟩
theorem getM_set : ∀ {l:List (K×V)} {k:K} {v:V},XE (vcn l k v) k=some v
 |[],k,v=>by rw[vcn,XE,if_pos rfl]
 |(a,w)::l,k,v=>by
  rw[vcn]
  by_cases e:k=a
  · rw[if_pos e,XE,if_pos rfl]
  rw[if_neg e,XE,if_neg e,getM_set]
theorem vdu : ∀ {l:List (K×V)} {k k':K} {v:V},k'≠k→XE (vcn l k v) k'=XE l k'
 |[],k,k',v,h=>by
  show (if k'=k then some v else XE [] k')=_
  rw[if_neg h]
 |(a,w)::l,k,k',v,h=>by
  rw[vcn]
  by_cases e:k=a
  · subst e;rw[if_pos rfl,XE,XE,if_neg h,if_neg h]
  rw[if_neg e,XE,XE,vdu h]
end
structure Inv (c:xX)(e:List yc)(n:Nat):Prop where
 ord:c.forder.length≤n
 eff:e.length≤n
 rw:wfB c.freplies
 lw:wfB c.flast
 old:∀ x∈e,∃ v,XE c.flast.l x.fFrom=some v∧x.fID≤v
 two:e.Pairwise fun x y=>¬ (x.fFrom=y.fFrom∧x.fID=y.fID)
theorem Inv.mono {c:xX}{e:List yc}{n m:Nat}(h:Inv c e n)(hm:n≤m):Inv c e m:=
 { h with ord:=uB h.ord hm,eff:=uB h.eff hm }
theorem look_new {c:xX}{f i:Int}(h:(xw c f i).2=1){v:Int}(hv:XE c.flast.l f=some v):v<i:=by
 unfold xw at h
 split at h
 · exact absurd h (show ¬ ((2:Int)=1) by decide)
 split at h
 · exact absurd h (show ¬ ((3:Int)=1) by decide)
 rename_i h2
 rw[hv] at h2;simp only[Option.isSome_some,uh,uO,decide_eq_true_eq] at h2
 omega
theorem add_ok {c:xX}{f i:Int}{r:y3}(h:(xw c f i).2=1)(ho:c.forder.length≤1000)(hr:wfB c.freplies)(hl:wfB c.flast):
 ∃ c',yU c f i r=some (0,c')∧c'.forder.length≤c.forder.length+1∧wfB c'.freplies∧wfB c'.flast∧c'.flast.l=vcn c.flast.l f i:=by
 obtain⟨w9,e1,_,g1⟩:=sto_set hr ⟨0,0,0,0,0,[],0,[]⟩ (⟨f,i⟩:yK) r;obtain⟨w12,e2,l2,g2⟩:=sto_set hl 0 f i
 obtain⟨y,hy⟩:∃ y,YI (c.forder++[(⟨f,i⟩:yK)]) 0=some y:=by
  cases c.forder with
  |nil=>exact⟨_,rfl⟩
  |cons a l=>exact⟨a,rfl⟩
 have j22:∀ b,∃ c',yU.j22 c f i w9 w12 y b=some (0,c')∧c'.forder.length≤c.forder.length+1∧wfB c'.freplies∧wfB c'.flast∧c'.flast.l=vcn c.flast.l f i:=by
  intro b
  rw[yU.j22]
  cases b with
  |true=>
   rw[if_pos rfl,show grd ((0:Int)≤1∧(1:Int)≤(qa (c.forder++[(⟨f,i⟩:yK)]):Int))=some () from if_pos ⟨by decide,by rw[qj,ub]; omega⟩,qk,yU.j17];exact⟨_,rfl,by simp,del_wf g1 y,g2,l2⟩
  |false=>
   rw[if_neg Bool.false_ne_true,yU.j17];exact⟨_,rfl,by simp,g1,g2,l2⟩
 rw[yU,bnd,if_pos h,ZU (by omega),qk,e1,qk,e2,qk,hy,qk]
 split
 · exact j22 _
 exact j22 _
theorem part_rest (v:Int)(rs:List yC):∃ x,zG xz ⟨⟨[[⟨1,1,0⟩]]⟩,0⟩ 0 ⟨[⟨1,[.num v]⟩],rs⟩=some x:=by
 rw[vc1,zG,zG.body];have hi:YI (zP.fp ⟨⟨[[⟨1,1,0⟩]]⟩,0⟩).fParts 0=some [⟨1,1,0⟩]:=rfl;rw[hi,qk,zG.l13]
 have hg:yP ⟨[⟨1,[.num v]⟩],rs⟩ 1=some [.num v]:=by
  rw[yP,yP.l4,if_pos (show (yF.mk 1 [zo.num v]).ftag=1 from rfl)]
  show ((wp [.num v]).bind fun r12=>some r12)=_
  rw[wp,ZU (by simp)]; rfl
 dsimp only [zZ.fentries]
 rw[hg,qk,if_neg (by simp),step_one (.inl rfl),qk,if_pos (by simp),ZU (by simp),qk,zG.j19,zG.l13];exact⟨_,rfl⟩
theorem part_none (rs:List yC):∃ x,zG xz ⟨⟨[[⟨1,1,0⟩]]⟩,0⟩ 0 ⟨[],rs⟩=some x:=by
 rw[vc1,zG,zG.body];have hi:YI (zP.fp ⟨⟨[[⟨1,1,0⟩]]⟩,0⟩).fParts 0=some [⟨1,1,0⟩]:=rfl;rw[hi,qk,zG.l13];have hg:yP ⟨[],rs⟩ 1=some []:=rfl
 dsimp only [zZ.fentries]
 rw[hg,qk,if_pos (show (qa ([]:List zo):Int)=0 from rfl),zG.j19,zG.l13];exact⟨_,rfl⟩
theorem run_any {t:zp}(h:okT s2 10 (vbJ s2 vaY) t):∃ x,wP ⟨[[⟨1,1,0⟩]]⟩ t=some x:=by
 have hm:vbJ s2 vaY=⟨vaY,[⟨[120],1,1,⟨2,[]⟩⟩],[]⟩:=by rw[vbJ,msg2]
 have hv:=of_eq (okT_sz 10 10 _ _ (qx _) h);rw[if_pos (okT_check (qx _) h)] at hv;rw[hm] at h;obtain⟨h3,_,_,hp,he,_,_,_⟩:=h
 have one:∀ e∈t.fEntries,∃ v,e=⟨1,[⟨1,v,[],[],[]⟩]⟩:=by
  intro e hm
  obtain⟨⟨_,h2,⟨h4,h5⟩,h6,h7⟩,_⟩:=he e hm
  have htag:e.fTag=1:=by
   by_cases e1:e.fTag=1
   · exact e1
   exfalso
   rw[zW,zW.l4,if_neg (by show ¬ (1:Int)=e.fTag; omega),zW.l4] at h2;cases h2
  have hf:zW ⟨vaY,[⟨[120],1,1,⟨2,[]⟩⟩],[]⟩ e.fTag=(⟨[120],1,1,⟨2,[]⟩⟩,true):=by rw[htag]; exact field1 2
  rw[hf] at h6 h7;have hl:e.fTrees.length=1:=h6 (by decide);obtain⟨x,hx⟩:=List.length_eq_one_iff.1 hl;have hk:=h7 x (by rw[hx]; exact uD.2 rfl);rw[okV,if_neg (by decide),if_neg (by decide)] at hk;refine⟨x.fN,?_⟩;obtain⟨g,ts⟩:=e;have e1:g=1:=htag;have e2:ts=[x]:=hx;rw[e1,e2,← hk.1]
 have hes:t.fEntries=[]∨∃ v,t.fEntries=[⟨1,[⟨1,v,[],[],[]⟩]⟩]:=by
  cases hq:t.fEntries with
  |nil=>exact .inl rfl
  |cons e l=>
   rw[hq] at one hp;obtain⟨v,rfl⟩:=one e (qP ..)
   cases l with
   |nil=>exact .inr ⟨v,rfl⟩
   |cons e' l=>
    obtain⟨v',rfl⟩:=one e' (qL _ (qP ..));have:=(uE.1 hp).1 _ (qP ..);exact absurd this (show ¬ ((1:Int)<1) by decide)
 rw[wP,Yx,bnd,progK,if_neg (by rw[decide_eq_true h3]; decide),hv,qk]
 have hvt:vaF 10 t=.node (t.fEntries.map (entV (vaF 9))) t.fRest:=by
  rw[vaF,if_neg (by omega),if_neg (by omega)]; rfl
 rw[hvt,if_neg (show ¬ (!(zo.node (t.fEntries.map (entV (vaF 9))) t.fRest,true).2)=true from fun h=>Bool.noConfusion h)]
 show ∃ x,Option.bind (Option.bind (some (⟨t.fEntries.map (entV (vaF 9)),t.fRest⟩:zZ)) _) _=some x
 rw[qk]
 rcases hes with hes|⟨v,hes⟩
 · rw[hes];obtain⟨x,hx⟩:=part_none t.fRest;rw[show List.map (entV (vaF 9)) ([]:List zv)=[] from rfl,hx];exact⟨_,rfl⟩
 rw[hes];obtain⟨x,hx⟩:=part_rest v t.fRest;rw[show List.map (entV (vaF 9)) [(⟨1,[⟨1,v,[],[],[]⟩]⟩:zv)]=[⟨1,[.num v]⟩] from rfl,hx];exact⟨_,rfl⟩
theorem meth2' : wn s2 [99]=(mthC,true):=meth2
def oS (c:xX)(e:List yc)(n:Nat):xy:=⟨0,[1],[s2],s2,[],c,e,n⟩
theorem oReady (c e n)(f i er:Int){b:List UInt8}(hb:b.length≤5000):∃ w x,wI (oS c e n) ⟨3,f,0,i,1,[99],er,b⟩=some (w,x)∧(x=0→w.fschema=s2∧w.fown=mthC∧w.ftheirs=mthC):=by
 have hdec:Zm s2 vaY b=some (vcZ s2 10 (vbJ s2 vaY) b):=decode_eq check2 (by rw[msg2]);unfold wI
 rw[bnd,show xZ (oS c e n).fnumbers (y3.fVersion ⟨3,f,0,i,1,[99],er,b⟩)=0 from rfl,if_neg (by decide),
  show YI (oS c e n).fschemas (IntKind.i64.wrap ((qa (oS c e n).fschemas:Int)-1))=some s2 from rfl,qk,
  show YI (oS c e n).fschemas 0=some s2 from rfl,qk,bnd,bnd]
 dsimp only
 rw[meth2',if_neg (by decide),show grd (qa b≤9223372036854775807)=some () from if_pos (by omega),qk,
  show Zm s2 (wT.fIn mthC) b=some (vcZ s2 10 (vbJ s2 vaY) b) from hdec,qk]
 by_cases h0:(vcZ s2 10 (vbJ s2 vaY) b).2=0
 · obtain⟨x,hx⟩:=run_any (decM_ok 10 _ b h0).1;rw[if_pos h0,show xD s2 s2 (wT.fIn mthC) (wT.fIn mthC)=_ from make22,qk]
   show ∃ w y,(Option.bind (wP ⟨[[⟨1,1,0⟩]]⟩ (vcZ s2 10 (vbJ s2 vaY) b).1) _)=some (w,y)∧_
   rw[hx,qk];exact⟨_,_,rfl,fun _=>⟨rfl,rfl,rfl⟩⟩
 rw[if_neg h0];exact⟨_,_,rfl,fun h=>absurd h h0⟩
theorem oHear {c:xX}{e:List yc}{n:Nat}(h:Inv c e n)(hn:n≤100)(q:Nat)(f i er:Int){b:List UInt8}(hb:b.length≤5000):
 ∃ p x c' e' q',xJ (oS c e q) ⟨3,f,0,i,1,[99],er,b⟩=some (p,x,oS c' e' q')∧Inv c' e' (n+1):=by
 have hcal:∃ p c' e' q',xd (oS c e q) ⟨3,f,0,i,1,[99],er,b⟩=some (p,oS c' e' q')∧Inv c' e' (n+1):=by
  unfold xd;rw[bnd]
  show ∃ p c' e' q',(if (xw c f i).2=2 then _ else if (xw c f i).2=3 then _ else _)=some (p,oS c' e' q')∧_
  by_cases h2:(xw c f i).2=2
  · rw[if_pos h2]; exact⟨_,c,e,q,rfl,h.mono (Nat.le_succ _)⟩
  rw[if_neg h2]
  by_cases h3:(xw c f i).2=3
  · rw[if_pos h3]; exact⟨_,c,e,q,rfl,h.mono (Nat.le_succ _)⟩
  rw[if_neg h3]
  have h1:(xw c f i).2=1:=by
   unfold xw at h2 h3 ⊢
   split
   · rename_i hh; rw[if_pos hh] at h2; exact absurd rfl h2
   rename_i hh
   rw[if_neg hh] at h3
   split
   · rename_i hg; rw[if_pos hg] at h3; exact absurd rfl h3
   rfl
  obtain⟨w,x,hr,hw⟩:=oReady c e q f i er hb;rw[hr,qk]
  by_cases hx:x=0
  · obtain⟨w1,w2,w3⟩:=hw hx
    obtain⟨cz,hz⟩:∃ cz,vbB 10 (oneT 0)=some cz:=oneT_enc (show vbU 0 by unfold vbU; omega)
    have ha:xx s2 (oS c e q).fnewest (oS c e q).frows [99] w.fin=some (oneT 0):=by
     rw[xx,bnd,meth2']
     rfl
    have hrun:wP ⟨[[⟨1,1,0⟩]]⟩ (oneT 0)=some (oneT 0,0):=run_one (.inl rfl) (show vbU 0 by unfold vbU; omega) progK;obtain⟨c',hadd,a1,a2,a3,a4⟩:=add_ok (r:=⟨4,0,f,i,1,[99],0,cz⟩) h1 (by have:=h.ord; omega) h.rw h.lw;rw[if_pos hx,show YI (oS c e q).fschemas (IntKind.i64.wrap ((qa (oS c e q).fschemas:Int)-1))=some s2 from rfl,qk,ZU (by show (e.length+1)*112≤_; have:=h.eff; omega),qk];rw[show xx s2 (oS c e q).fnewest (oS c e q).frows (y3.fMethod ⟨3,f,0,i,1,[99],er,b⟩) w.fin=_ from ha,qk]
    dsimp only
    rw[w1,w2,w3,show xD s2 s2 (wT.fOut mthC) (wT.fOut mthC)=_ from make22,qk,hrun,qk,if_pos rfl,oneT_Encode (show vbU 0 by unfold vbU; omega) hz,qk];unfold xd.j24
    show ∃ p c' e' q',(Option.bind (yU c f i ⟨4,0,f,i,1,[99],0,cz⟩) _)=some (p,oS c' e' q')∧_
    rw[hadd,qk];refine⟨_,c',e++[⟨f,i,[99],w.fin⟩],q+1,rfl,?_⟩;refine⟨by have:=h.ord; omega,by rw[qj,ub]; have:=h.eff; omega,a2,a3,fun y hy=>?_,?_⟩
    · rw[a4]
      rcases uI.1 hy with hy|hy
      · obtain⟨v,g1,g2⟩:=h.old y hy
        by_cases hf:y.fFrom=f
        · rw[hf] at g1 ⊢;have:=look_new h1 g1;exact⟨i,getM_set,by omega⟩
        exact⟨v,by rw[vdu hf]; exact g1,g2⟩
      have:y=⟨f,i,[99],w.fin⟩:=uD.1 hy;subst this;exact⟨i,getM_set,Int.le_refl _⟩
    refine List.pairwise_append.2 ⟨h.two,List.pairwise_singleton _ _,fun y hy z hz'=>?_⟩;have:z=⟨f,i,[99],w.fin⟩:=uD.1 hz';subst this;rintro ⟨k1,k2⟩;obtain⟨v,g1,g2⟩:=h.old y hy;have k1':y.fFrom=f:=k1;have k2':y.fID=i:=k2;rw[k1'] at g1;have:=look_new h1 g1
    omega
  rw[if_neg hx]; exact⟨_,c,e,q,rfl,h.mono (Nat.le_succ _)⟩
 obtain⟨p,c',e',q',h1,h2⟩:=hcal;refine⟨p,true,c',e',q',?_,h2⟩;unfold xJ
 show (if (0:Int)=0 then (if (3:Int)=1 then _ else (if (3:Int)=3 then Option.bind (xd _ _) _ else _)) else _)=_
 rw[if_pos rfl,if_neg (by decide),if_pos rfl,h1]
 rfl
theorem idx_ex {α:Type}{l:List α}{j:Nat}(h:j<l.length):YI l (j:Int)=some (l[j]'h):=
 idx_t (Int.natCast_nonneg _) (by rw[uc]; exact qX h)
theorem o95 {e:List yc}{y:yc}{A q:List yc}(he:e=A++y::q)(hp:e.Pairwise fun x y=>¬ (x.fFrom=y.fFrom∧x.fID=y.fID))(hl:e.length≤1000)(rec88:Int→Option Bool):
 ∀ (k j:Nat),A.length<k+j→j≤A.length→law24_ServerOnce.l95 e (A.length:Int) rec88 y k (j:Int)=rec88 ((A.length:Int)+1)
 |0,j,h,h'=>by omega
 |k+1,j,h,h'=>by
  rw[law24_ServerOnce.l95]
  by_cases hj:j<A.length
  · have hje:j<e.length:=by rw[he,qj]; omega
    have w:IntKind.i64.wrap ((j:Int)+1)=((j+1:Nat):Int):=by
     have:A.length≤e.length:=by rw[he,qj]; omega
     rw[IntKind.wrap_i64]; omega
    have hne:¬ (e[j].fFrom=y.fFrom∧e[j].fID=y.fID):=by
     have hy:e[A.length]?=some y:=by rw[he]; simp
     have hlt:A.length<e.length:=(qQ.1 hy).1;have h2:=(List.pairwise_iff_getElem.1 hp) j A.length hje hlt hj;rw[(qQ.1 hy).2] at h2;exact h2
    have ih:=o95 he hp hl rec88 k (j+1) (by omega) (by omega);rw[if_pos (by omega),idx_ex hje,qk]
    by_cases hf:y.fFrom=e[j].fFrom
    · rw[if_pos hf,law24_ServerOnce.j101,decide_eq_false (fun hi=>hne ⟨hf.symm,hi.symm⟩),if_neg Bool.false_ne_true,w,ih]
    rw[if_neg hf,law24_ServerOnce.j101,if_neg Bool.false_ne_true,w,ih]
  rw[if_neg (by omega)]
theorem o88 {e:List yc}(hp:e.Pairwise fun x y=>¬ (x.fFrom=y.fFrom∧x.fID=y.fID))(hl:e.length≤1000):∀ (q A:List yc),e=A++q→law24_ServerOnce.l88 e q (A.length:Int)=some true
 |[],A,he=>by rw[law24_ServerOnce.l88,awake24]; rfl
 |y::q,A,he=>by
  have hA:A.length≤e.length:=by rw[he,qj]; omega
  have hr:2000≤xz:=by decide
  rw[law24_ServerOnce.l88,show ((0:Int))=((0:Nat):Int) from rfl,o95 he hp hl _ xz 0 (by omega) (qU _)];have:=o88 hp hl q (A++[y]) (by rw[he]; simp);rw[qj,ub] at this;rw[show ((A.length:Int)+1)=((A.length+1:Nat):Int) by omega];exact this
theorem o62 {L:List y3}:∀ (k j:Nat) (c:xX) (e:List yc) (q:Nat),60<k+j→j≤60→Inv c e j→
 law24_ServerOnce.l62 L k 0 [1] [s2] s2 [] c.fsize c.forder c.vorder c.freplies c.flast e q (j:Int)=some true
 |0,j,c,e,q,h,h',_=>by omega
 |k+1,j,c,e,q,h,h',hi=>by
  rw[law24_ServerOnce.l62]
  by_cases hj:j<L.length∧j<60
  · have w:IntKind.i64.wrap ((j:Int)+1)=((j+1:Nat):Int):=by rw[IntKind.wrap_i64]; omega
    rw[if_pos (by rw[decide_eq_true (show (j:Int)<(qa L:Int) by omega),decide_eq_true (show (j:Int)<60 by omega)]; rfl),idx_ex hj.1,qk]
    by_cases hb:(5000:Int)<(qa (L[j]).fBody:Int)
    · rw[if_pos hb,awake24]; rfl
    rw[if_neg hb]
    have j79:∀ b:List UInt8,b.length≤5000→law24_ServerOnce.j79 0 [1] [s2] s2 [] c.fsize c.forder c.vorder c.freplies c.flast e q (j:Int) (law24_ServerOnce.l62 L k) ⟨3,(L[j]).fFrom,0,(L[j]).fID,1,[99],(L[j]).fErr,b⟩=some true:=by
     intro b hb'
     obtain⟨p,x,c',e',q',h1,h2⟩:=oHear hi (by omega) q (L[j]).fFrom (L[j]).fID (L[j]).fErr hb';have h1':xJ ⟨0,[1],[s2],s2,[],⟨c.fsize,c.forder,c.vorder,c.freplies,c.flast⟩,e,q⟩ ⟨3,(L[j]).fFrom,0,(L[j]).fID,1,[99],(L[j]).fErr,b⟩=some (p,x,oS c' e' q'):=h1;rw[law24_ServerOnce.j79,h1',qk,w];exact o62 k (j+1) c' e' q' (by omega) (by omega) h2
    split
    · exact j79 [] (qU _)
    exact j79 _ (by omega)
  rw[if_neg (by
   rw[qJ,decide_eq_true_eq,decide_eq_true_eq]
   omega)]
  have he:xS ⟨0,[1],[s2],s2,[],⟨c.fsize,c.forder,c.vorder,c.freplies,c.flast⟩,e,q⟩=some e:=by
   unfold xS
   rw[Zq,ZU (by show e.length*112≤_; have:=hi.eff; omega)]; rfl
  rw[he,qk];exact o88 hi.two (by have:=hi.eff; omega) e [] rfl
theorem oNew (n:Int):ZD 0 [1] [s2] s2 [] n=some (some (oS (Xi n) [] 0),0):=by kernel_rfl
theorem once_true (L:List y3)(n:Int):law24_ServerOnce L n=some true:=by
 unfold law24_ServerOnce;rw[bnd,bnd,show ZD 0 [1] [Zs 2] (Zs 2) ([]:List GRow) n=_ from oNew n,qk]
 dsimp only
 rw[if_pos rfl]
 have hr:60<xz:=by decide
 refine o62 xz 0 (Xi n) [] 0 (by omega) (by omega) ⟨qU _,qU _,⟨rfl,List.nodup_nil,fun _ h=>by cases h⟩,⟨rfl,List.nodup_nil,fun _ h=>by cases h⟩,(fun _ h=>by cases h),List.Pairwise.nil⟩
end
section
open Go.ChangeShapes Go.WideShapes Go.ChangeAt Go.RowKit Go.Shelf Go.Lib AM
theorem own : ownKnob Tryz.prog.godebug=none:=by kernel_rfl
theorem laidOut : laidOutB qi=true:=by kernel_rfl
def listed : List (String×DataW Unit):=[("unicode/utf8.acceptRanges",Rows.laid_unicode_utf8_acceptRanges),("unicode/utf8.first",Rows.laid_unicode_utf8_first)]
noncomputable def laidWorld (os:Os):World:=
 let w0:=World.holding qi os ⟨#[],#[],[]⟩
 let put (h:Array Obj) (g:Nat) (cs:Array Value):Array Obj:=h.modify g fun
  |.cells _ t frozen=>.cells cs t frozen
  |o=>o
 let h1:=put w0.heap (vco.g 3) (Lib.firstTab.map fun z=>Value.int .u8 z).toArray
 let h2:=put h1 (vco.g 4) ((uJ 16).flatMap fun i=>[Value.int .u8 (Lib.accLo i),Value.int .u8 (Lib.accHi i)]).toArray
 { w0 with heap:=h2 }
theorem laid_met (os:Os)(args:Array Value):laidMet qi listed ((laidWorld os).forCall (fun _ _=>0) ⟨#[],args,[]⟩).memory:=
 (LaidIn.of_run (l:=listed) [0,1] 8 (by kernel_rfl) (by kernel_rfl) (by kernel_rfl) (by kernel_rfl)).met
theorem laid_metH (os:Os)(args:Array Value):laidMetH qi listed ((laidWorld os).forCall (fun _ _=>0) ⟨#[],args,[]⟩).memory:=laid_met os args
theorem firstD : Rows.laid_unicode_utf8_first=Lib.firstData:=by kernel_rfl
theorem acceptD : (Rows.laid_unicode_utf8_acceptRanges:DataW Unit)=Lib.acceptData:=by kernel_rfl
theorem u8types : U8Types qi vco:=⟨vbX.t5,vbX.t119,vbX.t138,vbX.t139⟩
theorem glb_of_laid {W:World}(hL:laidMetH qi listed W):Glb W fun b=>b<W.heap.size:=by
 have h':laidMet qi listed W:=hL;have r1:=Lib.laidMet.reads h' (.tail _ (.head _));have r2:=Lib.laidMet.reads h' (.head _);rw[firstD] at r1;rw[acceptD] at r2;have ht:Lib.Utf8Tabs (vco.g 3) (vco.g 4) W:=utf8Tabs_of_readsT u8types ⟨by kernel_rfl,by kernel_rfl,by kernel_rfl,by kernel_rfl,by kernel_rfl,by kernel_rfl,by kernel_rfl⟩ r1 r2;obtain⟨t1,t2⟩:=ht
 have lt:∀ {g o:Nat} {v:Value},W.cell? ⟨g,o,none⟩=some v→g<W.heap.size:=by
  intro g o v h
  refine Nat.lt_of_not_le fun hle=>?_
  unfold World.cell? at h;rw[Array.getElem?_eq_none hle] at h;cases h
 refine⟨fun g vs hm=>?_,fun g vs hm i v hv=>?_⟩
 · rcases q9.1 hm with e|hm
   · cases e; exact lt (t1 0 (by decide))
   rcases q9.1 hm with e|hm
   · cases e; exact lt (t2 0 (by decide)).1
   cases hm
 rcases q9.1 hm with e|hm
 · cases e
   have hi:i<256:=by
    have:=(qQ.1 hv).1; simpa using this
   rw[vp,List.getElem?_range hi] at hv;cases hv;exact t1 i hi
 rcases q9.1 hm with e|hm
 · cases e
   have hi:i<32:=by
    have:=(qQ.1 hv).1; simpa using this
   rw[vp,List.getElem?_range hi] at hv;cases hv;have h1:=t2 (i / 2) (by omega)
   have:i % 2=0∨i % 2=1:=by omega
   rcases this with h|h
   · have e:2*(i / 2)=i:=by omega
     rw[e] at h1
     simp only[h,if_true]; exact h1.1
   have e:2*(i / 2)+1=i:=by omega
   rw[e] at h1
   simp only[h]; exact h1.2
 cases hm
end
section
namespace AM
open Go.RowKit Go.ChangeShapes Go.WideShapes Go.Deep
section
variable {H:Type} {enc:TypeId×Value→H} {P:Program} {w:World} {base:Nat} {spare:Nat→Bool} {held:Bool}
def OpensS (enc:TypeId×Value→H)(P:Program)(w:World)(base:Nat)(spare:Nat→Bool)(held:Bool)(N:Nat)(t:TypeId)(A:List AV→Prop):Prop:=
 ∀ n cs y,DataW.trod enc P w base spare held n t cs=some y→SizeOf.sizeOf y.1<N→(∀ x∈y.1.weights P t,x≤reachBytes)→∃ avs,avs.length=cs.length∧A avs∧∀ i,i<avs.length→VR (Env.start w) (gc avs i) (cs.getD i undef)
variable {N:Nat}
theorem OpensS.mono {t:TypeId}{A B:List AV→Prop}(h:OpensS enc P w base spare held N t A)(k:∀ l,A l→B l):OpensS enc P w base spare held N t B:=fun n cs y hy hN hs=>by
 obtain⟨avs,h1,h2,h3⟩:=h n cs y hy hN hs;exact⟨avs,h1,k _ h2,h3⟩
theorem OpensS.less {t:TypeId}{A:List AV→Prop}(h:OpensS enc P w base spare held (N+1) t A):OpensS enc P w base spare held N t A:=fun n cs y hy hN hs=>h n cs y hy (by omega) hs
theorem Opens.sized {t:TypeId}{A:List AV→Prop}(h:Opens enc P w base spare held t A):OpensS enc P w base spare held N t A:=fun n cs y hy _ _=>h n cs y hy
theorem opensS_string {t:TypeId}(ht:P.underlying t=some .string):OpensS enc P w base spare held N t fun l=>∃ s,l=[.str s]∧s.length≤reachBytes:=by
 intro n cs y hy _ hs
 obtain⟨m,rfl,hy,hl⟩:=DataW.trod_string ht hy;refine⟨[.str m.data.toList],rfl,⟨_,rfl,?_⟩,fun i hi=>by simp at hi; subst hi; exact .str _ _ rfl⟩;have:=hs m.data.toList.length (by subst hy; simp[DataW.weights])
 simpa using this
def tiles (P:Program):List Field→Nat→Nat→Bool
 |[],o,e=>o==e
 |f::l,o,e=>f.offset==o&&tiles P l (o+P.cellsOf f.type) e
theorem tile {cs:List Value}{A:Nat→List AV→Prop}:∀ (l:List Field) (o k e:Nat),tiles P l o e=true→
 (∀ j f,l[j]?=some f→∃ avs:List AV,avs.length=P.cellsOf f.type∧A (k+j) avs∧∀ i,i<avs.length→VR (Env.start w) (gc avs i) (cs.getD (f.offset+i) undef))→
 ∃ parts:List (List AV),parts.length=l.length∧(∀ j,j<l.length→A (k+j) (parts.getD j []))∧o+parts.flatten.length=e∧∀ i,i<parts.flatten.length→VR (Env.start w) (gc parts.flatten i) (cs.getD (o+i) undef)
 |[],o,k,e,h,_=>⟨[],rfl,(fun j hj=>by simp at hj),by simpa [tiles] using h,(fun i hi=>by simp at hi)⟩
 |f::l,o,k,e,h,hA=>by
  simp only[tiles,qJ,beq_iff_eq] at h;obtain⟨avs,a1,a2,a3⟩:=hA 0 f rfl
  obtain⟨parts,p1,p2,p3,p4⟩:=tile l (o+P.cellsOf f.type) (k+1) e h.2 fun j g hg=>by
   obtain⟨x,x1,x2,x3⟩:=hA (j+1) g (by simpa using hg);exact⟨x,x1,by rw[show k+1+j=k+(j+1) by omega]; exact x2,x3⟩
  refine⟨avs::parts,by simp[p1],?_,by rw[List.flatten_cons,qj]; omega,?_⟩
  · intro j hj
    cases j with
    |zero=>simpa using a2
    |succ j=>
     have:=p2 j (by simpa using hj);rw[show k+1+j=k+(j+1) by omega] at this
     simpa using this
  intro i hi
  rw[List.flatten_cons] at hi ⊢
  by_cases hlt:i<avs.length
  · have:=a3 i hlt;rw[h.1] at this;rw[gc,qC,qY hlt]
    simpa [gc,qC] using this
  rw[qj] at hi;have:=p4 (i-avs.length) (by omega);rw[show o+P.cellsOf f.type+(i-avs.length)=o+i by omega] at this;rw[gc,qC,uo (by omega)]
  simpa [gc,qC] using this
theorem mem_weightsEach {x:Nat}:∀ {ts:List TypeId} {ds:List (DataW H)} (j:Nat) (t:TypeId) (d:DataW H),ts[j]?=some t→ds[j]?=some d→x∈d.weights P t→x∈DataW.weightsEach P ts ds
 |[],_,j,t,d,h,_,_=>by simp at h
 |_::_,[],j,t,d,_,h,_=>by simp at h
 |t'::ts,d'::ds,j,t,d,ht,hd,hx=>by
  rw[DataW.weightsEach,uI]
  cases j with
  |zero=>
   simp at ht hd; subst ht hd; exact Or.inl hx
  |succ j=>exact Or.inr (mem_weightsEach j t d (by simpa using ht) (by simpa using hd) hx)
theorem vbz {x:Nat}{e:TypeId}:∀ {ds:List (DataW H)} {d:DataW H},d∈ds→x∈d.weights P e→x∈DataW.weightsAll P e ds
 |[],_,h,_=>by cases h
 |d'::ds,d,h,hx=>by
  rw[DataW.weightsAll,uI]
  rcases q9.1 h with rfl|h
  · exact Or.inl hx
  exact Or.inr (vbz h hx)
theorem opensS_struct {t:TypeId}{fs:Array Field}(ht:P.underlying t=some (.struct fs))(hC:tiles P fs.toList 0 (P.cellsOf t)=true){A:Nat→List AV→Prop}
 (hA:∀ j f,fs[j]?=some f→OpensS enc P w base spare held N f.type (A j)):OpensS enc P w base spare held (N+1) t fun l=>∃ parts:List (List AV),l=parts.flatten∧parts.length=fs.size∧∀ j,j<fs.size→A j (parts.getD j []):=by
 intro n cs y hy hN hs
 obtain⟨ys,n',_,he,hlen,hyl,hf⟩:=DataW.trod_struct ht hy
 have hends:∀ (l:List Field) (o e:Nat),tiles P l o e=true→o≤e∧∀ (j:Nat) (f:Field),l[j]?=some f→f.offset+P.cellsOf f.type≤e:=by
  intro l
  induction l with
  |nil=>intro o e h; simp[tiles] at h; exact⟨by omega,fun j f h=>by simp at h⟩
  |cons f l ih=>
   intro o e h
   simp only[tiles,qJ,beq_iff_eq] at h;obtain⟨h1,h2⟩:=ih _ _ h.2;refine⟨by omega,fun j g hg=>?_⟩
   cases j with
   |zero=>simp at hg; subst hg; omega
   |succ j=>exact h2 j g (by simpa using hg)
 obtain⟨parts,p1,p2,p3,p4⟩:=tile (w:=w) (cs:=cs) (A:=A) fs.toList 0 0 (P.cellsOf t) hC fun j f hj=>by
  have hfj:fs[j]?=some f:=by simpa using hj
  have hlt:j<fs.size:=(Array.getElem?_eq_some_iff.1 hfj).1;have h1:=hf j f hfj;rw[qX (by omega)] at h1;have hend:=(hends _ _ _ hC).2 j f hj;have hm:ys[j]'(by omega)∈ys:=List.getElem_mem _
  have hsz:SizeOf.sizeOf (ys[j]'(by omega)).1<N:=by
   have h2:(ys[j]'(by omega)).1∈ys.map (·.1):=List.mem_map_of_mem hm;have h3:=List.sizeOf_lt_of_mem h2;rw[he] at hN;simp only[DataW.agg.sizeOf_spec] at hN
   omega
  obtain⟨avs,e1,e2,e3⟩:=hA j f hfj _ _ _ h1 hsz fun x hx=>hs x (by
   rw[he,DataW.weights,ht]
   exact mem_weightsEach j f.type _ (by simp[hj]) (by rw[vp,qX (by omega)]; rfl) hx)
  have hl1:avs.length=P.cellsOf f.type:=by rw[e1,uR,uU]; omega
  refine⟨avs,hl1,by rw[qn]; exact e2,fun i hi=>?_⟩;have h4:=e3 i hi
  have h5:((cs.drop f.offset).take (P.cellsOf f.type)).getD i undef=cs.getD (f.offset+i) undef:=by
   simp only[qC];rw[List.getElem?_take_of_lt (by omega),List.getElem?_drop]
  rw[h5] at h4; exact h4
 refine⟨parts.flatten,by omega,⟨parts,rfl,by simpa using p1,fun j hj=>?_⟩,fun i hi=>?_⟩
 · have:=p2 j (by simpa using hj)
   rwa [qn] at this
 have:=p4 i hi
 rwa [qn] at this
theorem opensS_slice {t e:TypeId}(ht:P.underlying t=some (.slice e))(hpos:0<P.cellsOf e){A:List AV→Prop}(hA:OpensS enc P w base spare held N e A):
 OpensS enc P w base spare held (N+1) t fun l=>∃ es,l=[.ds true (List.flatten es) (qa es) false]∧(∀ x∈es,A x∧x.length=P.cellsOf e)∧es.length*P.bytesOf e≤reachBytes∧es.length≤maxLen:=by
 intro n cs y hy hN hs
 rcases open_slice ht hy with ⟨rfl,_⟩|⟨a,len,cap,m,n',D,Pl,rfl,_,hl,hm,hmm,hye,hi⟩
 · refine⟨[.ds true [] 0 false],rfl,⟨[],by simp,by simp,by simp,by simp⟩,fun i hi=>?_⟩
   simp at hi; subst hi; exact .dsn _
 have hlm:len≤m:=by rw[hmm]; split<;>omega
 have hlen:len*P.bytesOf e≤reachBytes:=by
  have:=hs ((((uJ len).map D).length+((uJ (m-len)).map fun j=>D (len+j)).length)*P.bytesOf e) (by rw[hye]; simp only[DataW.weights,ht]; exact qP ..);rw[ul,List.length_range] at this;exact uB (ud _ (Nat.le_add_right _ _)) this
 have each:∀ i,i<len→∃ avs:List AV,avs.length=P.cellsOf e∧A avs∧∀ j,j<avs.length→∃ v,w.cell? ((a.add (i*P.cellsOf e)).add j)=some v∧VR (Env.start w) (gc avs j) v:=by
  intro i hil
  obtain⟨cs',h1,h2⟩:=hi i (by omega);obtain⟨_,hcl,hat⟩:=World.cells?_some h1;have hmem:D i∈(uJ len).map D:=List.mem_map_of_mem (List.mem_range.2 hil)
  have hsz:SizeOf.sizeOf (D i)<N:=by
   have h3:=List.sizeOf_lt_of_mem hmem;rw[hye] at hN;simp only[DataW.slice.sizeOf_spec] at hN
   omega
  obtain⟨avs,e1,e2,e3⟩:=hA _ _ _ h2 hsz fun x hx=>hs x (by
   rw[hye]; simp only[DataW.weights,ht]
   exact qL _ (uT _ (vbz hmem hx)))
  refine⟨avs,by omega,e2,fun j hj=>⟨cs'.getD j undef,?_,e3 j hj⟩⟩
  rw[hat j (by omega),qC,qX (by omega)]; rfl
 obtain⟨g,hg⟩:=Classical.axiomOfChoice (r:=fun (i:Fin len) (avs:List AV)=>avs.length=P.cellsOf e∧A avs∧∀ j,j<avs.length→∃ v,w.cell? ((a.add (i.1*P.cellsOf e)).add j)=some v∧VR (Env.start w) (gc avs j) v) (fun i=>each i.1 i.2)
 have hes:∀ x∈List.ofFn g,A x∧x.length=P.cellsOf e:=by
  intro x hx
  obtain⟨i,rfl⟩:=List.mem_ofFn.1 hx;exact⟨(hg i).2.1,(hg i).1⟩
 refine⟨[.ds true (List.ofFn g).flatten (List.ofFn g).length false],rfl,⟨_,rfl,hes,by simpa using hlen,by simp; omega⟩,fun i hi=>?_⟩
 simp at hi; subst hi
 have hfl:=length_flat (es:=List.ofFn g) (sz:=P.cellsOf e) fun x hx=>(hes x hx).2
 have hsp:(List.ofFn g).flatten.length≠0→a.spot=none:=by
  intro h0
  rw[hfl] at h0
  have hl0:0<len:=by
   rcases Nat.eq_zero_or_pos len with h|h
   · subst h; simp at h0
   exact h
  obtain⟨v,h1,_⟩:=(hg ⟨0,hl0⟩).2.2 0 (by rw[(hg ⟨0,hl0⟩).1]; exact hpos);have:=World.cell?_spot h1
  simpa [Addr.add] using this
 have hcell:∀ k,k<(List.ofFn g).flatten.length→∃ v,w.cell? ⟨a.block,a.off+k,none⟩=some v∧VR (Env.start w) (gc (List.ofFn g).flatten k) v:=by
  intro k hk
  have hs:=hsp (by omega);rw[hfl] at hk;simp only[List.length_ofFn] at hk;have hd:k / P.cellsOf e<len:=Nat.div_lt_of_lt_mul (by rw[Nat.mul_comm]; exact hk);have hmd:k % P.cellsOf e<P.cellsOf e:=Nat.mod_lt _ hpos
  have hsplit:k / P.cellsOf e*P.cellsOf e+k % P.cellsOf e=k:=by rw[Nat.mul_comm]; exact Nat.div_add_mod _ _
  obtain⟨v,h1,h2⟩:=(hg ⟨_,hd⟩).2.2 (k % P.cellsOf e) (by rw[(hg ⟨_,hd⟩).1]; exact hmd);refine⟨v,?_,?_⟩
  · rw[add_spot hs,add_spot rfl] at h1;simp only at h1
    rw[ux,hsplit] at h1; exact h1
  have:=gc_flat (es:=List.ofFn g) (fun x hx=>(hes x hx).2) (k / P.cellsOf e) (k % P.cellsOf e) hmd (by simpa using hd);rw[hsplit] at this
  rw[this]; simpa using h2
 obtain⟨vs,hvs⟩:∃ vs:Nat→Value,∀ k,k<(List.ofFn g).flatten.length→w.cell? ⟨a.block,a.off+k,none⟩=some (vs k)∧VR (Env.start w) (gc (List.ofFn g).flatten k) (vs k):=by
  refine⟨fun k=>(w.cell? ⟨a.block,a.off+k,none⟩).getD undef,fun k hk=>?_⟩;obtain⟨v,h1,h2⟩:=hcell k hk
  simp only[h1,uO]; exact⟨trivial,h2⟩
 show VR (Env.start w) (.ds true _ _ false) (.slice (some a) len cap)
 rw[List.length_ofFn];refine .ds _ _ _ _ a cap vs ?_ ?_ (fun k hk=>(hvs k hk).2) hl (fun h=>by cases h) ?_
 · by_cases h0:(List.ofFn g).flatten.length=0
   · exact .inl (qS.1 h0)
   exact .inr (hsp h0)
 · by_cases h0:(List.ofFn g).flatten.length=0
   · exact .inl h0
   refine .inr ⟨?_,fun k hk=>(hvs k hk).1⟩;obtain⟨_,h,_⟩:=hcell 0 (by omega);exact cell_lt (a:=⟨a.block,a.off+0,none⟩) h
 unfold maxLen at *; omega
theorem OpensS.arg {t:TypeId}{A:List AV→Prop}(h:∀ N,OpensS enc P w base spare held N t A){v:Value}{d:DataW H}{p:List MemPlace}(hv:DataW.Trod enc P w base spare held t v d p)(hw:∀ x∈d.weights P t,x≤reachBytes)(h1:v.cells.toList=[v]):∃ a,A [a]∧VR (Env.start w) a v:=by
 obtain⟨n,hn⟩:=hv;obtain⟨avs,e1,e2,e3⟩:=h _ _ _ _ hn (qK _) hw;rw[h1] at e1 e3
 match avs,e1 with
 |[a],_=>exact⟨a,e2,by simpa [gc] using e3 0 (by simp)⟩
theorem OpensS.agg {t:TypeId}{A:List AV→Prop}(h:∀ N,OpensS enc P w base spare held N t A){vs:Array Value}{d:DataW H}{p:List MemPlace}(hv:DataW.Trod enc P w base spare held t (.agg vs) d p)(hw:∀ x∈d.weights P t,x≤reachBytes):∃ l,A l∧VR (Env.start w) (.agg l) (.agg vs):=by
 obtain⟨n,hn⟩:=hv;obtain⟨avs,e1,e2,e3⟩:=h _ _ _ _ hn (qK _) hw;refine⟨avs,e2,.agg _ _ (by simpa [Value.cells] using e1.symm) fun i hi=>?_⟩;have:=e3 i hi
 simpa [Value.cells,qC,uG] using this
end
end AM
open AM
theorem flat_of {α:Type}{e:α→List AV}{p:α→Prop}{es:List (List AV)}(h:∀ x∈es,∃ y:α,x=e y∧p y):∃ zs:List α,es.flatten=zs.flatMap e∧zs.length=es.length∧∀ z∈zs,p z:=by
 induction es with
 |nil=>exact⟨[],rfl,rfl,fun z hz=>by cases hz⟩
 |cons x es ih=>
  obtain⟨zs,h1,h2,h3⟩:=ih fun y hy=>h y (by simp[hy])
  obtain⟨y,rfl,hp⟩:=h x (by simp);refine⟨y::zs,by simp[h1],by simp[h2],fun z hz=>?_⟩
  rcases q9.1 hz with rfl|hz
  · exact hp
  exact h3 z hz
def in64 (n:Int):Prop := -9223372036854775808≤n∧n<9223372036854775808
theorem wf64 {n:Int}(h:(Lit.int .i64 n).wf=true):in64 n:=by
 simp only[Lit.wf,IntKind.min,IntKind.max,IntKind.signed,IntKind.bits,qJ,decide_eq_true_eq,if_true] at h
 unfold in64; omega
section
variable {H:Type} {enc:TypeId×Value→H} {w:World} {base:Nat} {spare:Nat→Bool} {held:Bool} {N:Nat}
theorem XS : OpensS enc qi w base spare held N 3 fun x=>∃ n,x=[.int .i64 n]∧in64 n:=
 ((opens_int Tryz.underlying3).mono fun x ⟨n,h1,h2⟩=>⟨n,h1,wf64 h2⟩).sized
theorem opens_str : OpensS enc qi w base spare held N 9 fun x=>∃ s,x=[.str s]∧s.length≤140737488351232:=opensS_string Tryz.underlying9
end
end
section
open AM
section
variable {H:Type} {enc:TypeId×Value→H} {w:World} {base:Nat} {spare:Nat→Bool} {held:Bool}
end
def okPacket (y:y3):Prop:=in64 y.fKind∧in64 y.fFrom∧in64 y.fTo∧in64 y.fID∧in64 y.fVersion∧y.fMethod.length≤140737488351232∧in64 y.fErr∧y.fBody.length≤140737488351232
section
variable {H:Type} {enc:TypeId×Value→H} {w:World} {base:Nat} {spare:Nat→Bool} {held:Bool}
theorem opens_Packet (N:Nat):OpensS enc qi w base spare held N 43 fun x=>∃ y:y3,x=zn y∧okPacket y:=by
 refine ((opensS_struct (N:=N) (A:=fun j x=>if j=0 then ∃ z:Int,x=[.int .i64 z]∧in64 z else if j=1 then ∃ z:Int,x=[.int .i64 z]∧in64 z else if j=2 then ∃ z:Int,x=[.int .i64 z]∧in64 z else if j=3 then ∃ z:Int,x=[.int .i64 z]∧in64 z else if j=4 then ∃ z:Int,x=[.int .i64 z]∧in64 z else if j=5 then ∃ z:List UInt8,x=[.str z]∧z.length≤140737488351232 else if j=6 then ∃ z:Int,x=[.int .i64 z]∧in64 z else if j=7 then ∃ z:List UInt8,x=[.str z]∧z.length≤140737488351232 else False) Tryz.underlying43 (by decide +kernel) ?_).mono ?_).less
 · intro j f hf
   match j with
   |0=>cases hf; exact XS
   |1=>cases hf; exact XS
   |2=>cases hf; exact XS
   |3=>cases hf; exact XS
   |4=>cases hf; exact XS
   |5=>cases hf; exact opens_str
   |6=>cases hf; exact XS
   |7=>cases hf; exact opens_str
   |j+8=>simp at hf
 rintro x ⟨parts,rfl,hl,hx⟩;obtain⟨a0,e0,w0⟩:=hx 0 (by decide);obtain⟨a1,e1,w1⟩:=hx 1 (by decide);obtain⟨a2,e2,w2⟩:=hx 2 (by decide);obtain⟨a3,e3,w3⟩:=hx 3 (by decide);obtain⟨a4,e4,w4⟩:=hx 4 (by decide);obtain⟨a5,e5,w5⟩:=hx 5 (by decide);obtain⟨a6,e6,w6⟩:=hx 6 (by decide);obtain⟨a7,e7,w7⟩:=hx 7 (by decide);refine⟨⟨a0,a1,a2,a3,a4,a5,a6,a7⟩,?_,w0,w1,w2,w3,w4,w5,w6,w7⟩
 match parts,hl with
 |[p0,p1,p2,p3,p4,p5,p6,p7],_=>
  simp only[List.getD_cons_zero,List.getD_cons_succ] at e0 e1 e2 e3 e4 e5 e6 e7
  subst e0 e1 e2 e3 e4 e5 e6 e7; rfl
end
section
variable {H:Type} {enc:TypeId×Value→H} {w:World} {base:Nat} {spare:Nat→Bool} {held:Bool}
theorem opens_Packets (N:Nat):OpensS enc qi w base spare held N 88 fun x=>∃ zs:List y3,x=[AV.ds true (zs.flatMap zn) zs.length false]∧zs.length*80≤140737488351232∧∀ y∈zs,okPacket y:=by
 refine ((opensS_slice (N:=N) Tryz.underlying88 (by decide +kernel) (opens_Packet N)).mono ?_).less;rintro x ⟨es,rfl,h1,h2,_⟩
 obtain⟨l,e1,e2,e3⟩:=flat_of fun y hy=>(h1 y hy).1
 rw[show Tryz.prog.bytesOf 43=80 by kernel_rfl] at h2;exact⟨l,by rw[e1,e2],by rw[e2]; exact h2,e3⟩
end
end
end Go.Proofs.YtaahlckibpiphaaGreatDoor
