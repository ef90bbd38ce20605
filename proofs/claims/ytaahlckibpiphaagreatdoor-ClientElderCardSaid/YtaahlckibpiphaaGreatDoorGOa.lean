/- Parts of the proof, cut down to what it needs. -/
import Derived.Test.YtaahlckibpiphaaGreatDoorGSj
import Derived.Test.YtaahlckibpiphaaGreatDoorGU
import Derived.Test.YtaahlckibpiphaaGreatDoorRows
import Derived.Test.YtaahlckibpiphaaGreatDoorChecked
import Derived.Test.YtaahlckibpiphaaGreatDoorTie
import Derived.ProofKit
import Derived.OpenShut
import Derived.ShutString
import Derived.ChangeOld
import Derived.ChangeSame
import Derived.ChangeVars
import Derived.JoinedOf
import Derived.RowKit
import Derived.LaidLaws
import Derived.LaidHandle
import Derived.Lib.LaidIn
import Derived.Lib.LaidU8T
import Derived.SevenTiedAt
set_option linter.constructorNameAsVariable false
set_option linter.unusedSimpArgs false
set_option linter.unusedVariables false
namespace Go.Proofs.YtaahlckibpiphaaGreatDoor
open _root_.List renaming length → qb, flatMap → qd, length_append → qj, length_cons → qk, map_nil → qm, map_cons → qp, length_nil → qr, append_assoc → qv, mem_cons_self → qA, mem_cons_of_mem → qB, drop_zero → qC, map_append → qE, length_eq_zero_iff → qF, getD_eq_getElem?_getD → qG, append_nil → qH, nil_append → qK, cons_append → qM, replicate → qP, length_singleton → qQ, getElem?_append_left → qR, flatMap_cons → qS, range_zero → qT, mem_cons → qU, getElem?_eq_some_iff → qW, all_cons → qZ, range_succ → q1, getElem?_eq_getElem → q3, flatMap_append → q5, all_eq_true → q7, all_nil → uc, getElem?_set_ne → ud, take_of_length_le → uf, length_map → uh, getElem?_append_right → ui, flatMap_nil → uj, getElem?_eq_none → uk, take_length → ul, pairwise_cons → un, take_append_drop → uo, getElem?_set_self → ur, set_cons_zero → uu, mem_map → uw, filter_cons → ux, getElem?_cons_zero → uA, getElem?_cons_succ → uB, range → uC, length_take → uF, set_cons_succ → uG, mem_append_right → uI, mem_append → uM, mem_singleton → uP, mem_of_getElem? → uS, mem_append_left → uT, eq_nil_of_length_eq_zero → uU, drop_drop → uV
open _root_.Option renaming bind_some → qh, map_some → uy, getD_some → uK
open _root_.Nat renaming reduceEqDiff → qa, reduceLT → qc, reduceAdd → qe, reduceLeDiff → qf, reduceMul → ql, zero_add → qn, reduceSub → qs, le_refl → qx, lt_succ_self → qy, mul_le_mul_right → qY, reduceMod → ub, lt_of_lt_of_le → ug, zero_le → ut, zero_mul → uz, sub_self → uD, le_trans → uE, add_mul → uL, sub_zero → uN, add_zero → uO, succ_mul → uR, lt_or_ge → uY
open _root_.Bool renaming or_true → qq, not_true → qt, and_false → qu, not_false → qw, and_eq_true → qz, and_true → qJ, or_false → qN, and_self → qO, false_eq_true → q2, or_eq_true → ua, true_and → uq, false_or → uH, not_eq_true' → uW
open _root_.Int renaming toNat → qI, toNat_natCast → qV
open _root_.BitVec renaming ofInt → qD, toNat → um
open _root_.Array renaming length_toList → ue, getD_eq_getD_getElem? → uv, getElem?_eq_getElem → uJ, getElem?_setIfInBounds_ne → uQ, replicate → uX, getElem?_modify → uZ
open _root_.UInt8 renaming ofNat → qX
open Result renaming andThen_ok → qi
open Sem renaming run_bind → qo, run_pure → qL
open _root_.Go.Proofs.Tryz renaming prog → qg
section
set_option maxRecDepth 4000
open AM
inductive Shuf : List GRaw→List GRaw→Prop
 |refl (l:List GRaw):Shuf l l
 |cons (a:GRaw) {l m:List GRaw}:Shuf l m→Shuf (a::l) (a::m)
 |swap {a b:GRaw} (h:a.fTag≠b.fTag) (l:List GRaw):Shuf (a::b::l) (b::a::l)
 |trans {l m n:List GRaw}:Shuf l m→Shuf m n→Shuf l n
theorem shuf_move {r:GRaw}:∀ {B:List GRaw},(∀ b∈B,b.fTag≠r.fTag)→Shuf (B++[r]) (r::B)
 |[],_=>.refl _
 |b::B,h=>.trans (.cons b (shuf_move fun x hx=>h x (qB _ hx))) (.swap (h b (qA ..)) B)
theorem shuf_ins {r:GRaw}:∀ {l:List GRaw},l.Pairwise TagLe→Shuf (l++[r]) (vbd r l)
 |[],_=>.refl _
 |x::l,h=>by
  rw[vbd];rw[un] at h
  split
  · rename_i hlt
    refine shuf_move fun b hb=>?_
    rcases qU.1 hb with rfl|hb
    · omega
    have:=h.1 b hb; unfold TagLe at this; omega
  exact .cons x (shuf_ins h.2)
theorem Shuf.app {l m:List GRaw}(h:Shuf l m)(k:List GRaw):Shuf (l++k) (m++k):=by
 induction h with
 |refl l=>exact .refl _
 |cons a _ ih=>exact .cons a ih
 |swap h l=>exact .swap h _
 |trans _ _ h1 h2=>exact .trans h1 h2
theorem shuf_srtA : ∀ {l S:List GRaw},S.Pairwise TagLe→Shuf (S++l) (srtA l S)
 |[],S,_=>by rw[srtA,qH]; exact .refl _
 |r::l,S,h=>by
  rw[srtA,show S++r::l=(S++[r])++l by rw[qv]; rfl];exact .trans ((shuf_ins h).app l) (shuf_srtA (ZN h))
theorem shuf_srt (l:List GRaw):Shuf l (srt l):=shuf_srtA (S:=[]) List.Pairwise.nil
theorem vb8 {m:GMessage}{one:GType→GRaw→GTree×Int}:∀ {l:List GRaw} {es:List GEntry} {rest rest':List GRaw},(∀ k,srt (rest++k)=srt (rest'++k))→X6 m one l es rest=X6 m one l es rest'
 |[],es,rest,rest',h=>by
  have:=h [];rw[qH,qH] at this;rw[X6,X6,this]
 |r::l,es,rest,rest',h=>by
  rw[X6,X6]
  have h2:=vb8 (m:=m) (one:=one) (l:=l) (es:=es) (rest:=rest++[r]) (rest':=rest'++[r]) fun k=>by rw[qv,qv]; exact h _
  have h1:=vb8 (m:=m) (one:=one) (l:=l) (es:=Yh r.fTag ((zk m r.fTag).1.fLabel=3) (one (zk m r.fTag).1.fType r).1 es) h;rw[h1,h2]
theorem putE_comm {s t:Int}(hst:s≠t){p q:Prop} [Decidable p] [Decidable q]{x y:GTree}:∀ {es:List GEntry},Yh s p x (Yh t q y es)=Yh t q y (Yh s p x es)
 |[]=>by
  by_cases h:s<t
  · simp only[reduceIte,Yh,Zd,(show ¬ t<s by omega),(show ¬ t=s by omega),h]
  simp only[reduceIte,Yh,Zd,(show t<s by omega),(show ¬ s<t by omega),hst]
 |e::es=>by
  have ih:=putE_comm hst (p:=p) (q:=q) (x:=x) (y:=y) (es:=es)
  rcases Int.lt_or_gt_of_ne hst with h|h
  · by_cases a:e.fTag<s
    · simp only[reduceIte,Yh,a,(show e.fTag<t by omega),ih]
    by_cases a':e.fTag=s
    · simp only[reduceIte,Yh,a,a',h,Zd,(show ¬ s<s by omega)]
    by_cases b:e.fTag<t
    · simp only[reduceIte,Yh,a,a',b,Zd,h]
    by_cases b':e.fTag=t
    · simp only[reduceIte,Yh,b',(show ¬ t<s by omega),(show ¬ t=s by omega),(show ¬ t<t by omega),Zd,h]
    simp only[reduceIte,Yh,a,a',b,b',Zd,h,(show ¬ t<s by omega),(show ¬ t=s by omega)]
  have h':t<s:=h
  by_cases a:e.fTag<t
  · simp only[reduceIte,Yh,a,(show e.fTag<s by omega),ih]
  by_cases a':e.fTag=t
  · simp only[reduceIte,Yh,a,a',h',Zd,(show ¬ t<t by omega)]
  by_cases b:e.fTag<s
  · simp only[reduceIte,Yh,a,a',b,Zd,h']
  by_cases b':e.fTag=s
  · simp only[reduceIte,Yh,b',(show ¬ s<t by omega),hst,(show ¬ s<s by omega),Zd,h']
  simp only[reduceIte,Yh,a,a',b,b',Zd,h',(show ¬ s<t by omega),hst]
theorem vaS {s t:Int}(hst:s≠t){p q:Prop} [Decidable p] [Decidable q]{y:GTree}:∀ {es:List GEntry},vaT s p (Yh t q y es)=vaT s p es
 |[]=>by
  by_cases h:s<t
  · simp only[reduceIte,Yh,vaT,Zd,(show ¬ t<s by omega),(show ¬ t=s by omega)]
  simp only[reduceIte,Yh,vaT,Zd,(show t<s by omega)]
 |e::es=>by
  have ih:=vaS hst (p:=p) (q:=q) (y:=y) (es:=es)
  by_cases a:e.fTag<t
  · simp only[reduceIte,Yh,vaT,a,ih]
  by_cases a':e.fTag=t
  · by_cases b:t<s
    · simp only[reduceIte,Yh,vaT,a,a',Zd,b,(show ¬ t<t by omega)]
    simp only[reduceIte,Yh,vaT,a,a',Zd,b,(show ¬ t<t by omega),(show ¬ t=s by omega)]
  by_cases b:t<s
  · simp only[reduceIte,Yh,vaT,a,a',Zd,b]
  simp only[reduceIte,Yh,vaT,a,a',Zd,b,(show ¬ t=s by omega),(show ¬ e.fTag<s by omega),(show ¬ e.fTag=s by omega)]
theorem fldD_swap {m:GMessage}{one:GType→GRaw→GTree×Int}{a b:GRaw}(hab:a.fTag≠b.fTag){l:List GRaw}{es:List GEntry}{rest:List GRaw}(h0:(X6 m one (a::b::l) es rest).2=0):X6 m one (b::a::l) es rest=X6 m one (a::b::l) es rest:=by
 have h4:¬ ((YI,(4:Int)).2=0):=by decide
 have nab:=fun (x:GTree) (es:List GEntry)=>vaS (Ne.symm hab) (p:=(zk m b.fTag).1.fLabel=3) (q:=(zk m a.fTag).1.fLabel=3) (y:=x) (es:=es)
 have nba:=fun (x:GTree) (es:List GEntry)=>vaS hab (p:=(zk m a.fTag).1.fLabel=3) (q:=(zk m b.fTag).1.fLabel=3) (y:=x) (es:=es)
 simp only[X6,nab,nba] at h0 ⊢
 by_cases ka:(zk m a.fTag).2=true
 · by_cases oa:(one (zk m a.fTag).1.fType a).2=0
   · by_cases na:vaT a.fTag ((zk m a.fTag).1.fLabel=3) es≤64
     · by_cases kb:(zk m b.fTag).2=true
       · by_cases ob:(one (zk m b.fTag).1.fType b).2=0
         · by_cases nb:vaT b.fTag ((zk m b.fTag).1.fLabel=3) es≤64
           · simp only[ka,oa,na,kb,ob,nb,reduceIte];rw[putE_comm hab]
           simp only[ka,oa,na,kb,ob,nb,reduceIte] at h0; exact absurd h0 h4
         simp only[ka,oa,na,kb,ob,reduceIte] at h0
       simp only[ka,oa,na,kb,reduceIte,q2]
     simp only[ka,oa,na,reduceIte] at h0; exact absurd h0 h4
   simp only[ka,oa,reduceIte] at h0
 by_cases kb:(zk m b.fTag).2=true
 · by_cases ob:(one (zk m b.fTag).1.fType b).2=0
   · by_cases nb:vaT b.fTag ((zk m b.fTag).1.fLabel=3) es≤64
     · simp only[ka,kb,ob,nb,reduceIte,q2]
     simp only[ka,kb,ob,nb,reduceIte,q2] at h0; exact absurd h0 h4
   simp only[ka,kb,ob,reduceIte,q2] at h0
 simp only[ka,kb,reduceIte,q2]
 refine vb8 fun k=>srt_of (vaM _) fun t=>?_
 rw[vaN];simp only[List.filter_append,qv]
 congr 1
 rw[← qv,← qv]
 congr 1
 simp only[ux,List.filter_nil,decide_eq_true_eq]
 by_cases h1:a.fTag=t
 · rw[if_pos h1,if_neg (show ¬ b.fTag=t by omega)]; rfl
 rw[if_neg h1]; simp
theorem fldD_shuf {m:GMessage}{one:GType→GRaw→GTree×Int}{l k:List GRaw}(h:Shuf l k):∀ {es:List GEntry} {rest:List GRaw},(X6 m one l es rest).2=0→X6 m one k es rest=X6 m one l es rest:=by
 induction h with
 |refl l=>intros; rfl
 |cons a _ ih=>
  intro es rest h0
  simp only[X6] at h0 ⊢
  by_cases ka:(zk m a.fTag).2=true
  · rw[if_pos ka] at h0 ⊢;rw[if_pos ka]
    by_cases oa:(one (zk m a.fTag).1.fType a).2=0
    · rw[if_pos oa] at h0 ⊢;rw[if_pos oa]
      by_cases na:vaT a.fTag ((zk m a.fTag).1.fLabel=3) es≤64
      · rw[if_pos na] at h0 ⊢
        rw[if_pos na]; exact ih h0
      rw[if_neg na,if_neg na]
    rw[if_neg oa,if_neg oa]
  rw[if_neg ka] at h0 ⊢
  rw[if_neg ka]; exact ih h0
 |swap h l=>intro es rest h0; exact fldD_swap h h0
 |trans _ _ h1 h2=>
  intro es rest h0
  have e:=h1 h0;rw[h2 (by rw[e]; exact h0),e]
end
section
set_option maxRecDepth 4000
open AM
theorem getD_of {l:List GRaw}(h:∀ r∈l,YK r)(hb:(Zy l).length≤4096):getD (Zy l)=(l,0):=by
 unfold getD; rw[wire_Get_ok h hb]; rfl
def okV (f:GMessage→GTree→Prop)(s:GSchema)(y:GType)(x:GTree):Prop:=
 if y.fKind=7 then x.fKind=3∧f (msgOf s y.fName) x
 else if y.fKind=4∨y.fKind=5 then x=⟨2,0,x.fS,[],[]⟩∧x.fS.length≤4096∧(y.fKind=4→runesV x.fS=true)
 else x=⟨1,x.fN,[],[],[]⟩∧Xd x.fN∧(y.fKind=3∨y.fKind=6→xH y x.fN=true)
def okN (f:GMessage→GTree→Prop)(s:GSchema)(m:GMessage)(e:GEntry):Prop:=
 (1≤e.fTag∧e.fTag≤500)∧(zk m e.fTag).2=true∧(1≤e.fTrees.length∧e.fTrees.length≤64)∧((zk m e.fTag).1.fLabel≠3→e.fTrees.length=1)∧∀ x∈e.fTrees,okV f s (zk m e.fTag).1.fType x
def okT (s:GSchema):Nat→GMessage→GTree→Prop
 |0,_,_=>False
 |d+1,m,t=>t.fKind=3∧t.fN=0∧t.fS=[]∧t.fEntries.Pairwise Xr∧(∀ e∈t.fEntries,okN (okT s d) s m e∧isZ m e=false)∧t.fRest.Pairwise TagLe∧t.fRest.length≤4096∧∀ r∈t.fRest,YK r∧(zk m r.fTag).2≠true
def kindT (y:GType):Int:=if y.fKind=7 then 3 else if y.fKind=4∨y.fKind=5 then 2 else 1
theorem gt_kind (k n:Int)(s:List UInt8)(e:List GEntry)(r:List GRaw):(GTree.mk k n s e r).fKind=k:=rfl
theorem gt_eta (t:GTree):t=⟨t.fKind,t.fN,t.fS,t.fEntries,t.fRest⟩:=by cases t; rfl
theorem okV_kind {f:GMessage→GTree→Prop}{s:GSchema}{y:GType}{x:GTree}(h:okV f s y x):x.fKind=kindT y:=by
 unfold okV at h; unfold kindT
 by_cases h7:y.fKind=7
 · rw[if_pos h7] at h ⊢; exact h.1
 rw[if_neg h7] at h ⊢
 by_cases h4:y.fKind=4∨y.fKind=5
 · rw[if_pos h4] at h ⊢; rw[h.1]; rfl
 rw[if_neg h4] at h ⊢; rw[h.1]; rfl
theorem okV_leaf {f:GMessage→GTree→Prop}{s:GSchema}{y:GType}{x:GTree}(h:okV f s y x)(h7:y.fKind≠7):x.fEntries=[]∧x.fRest=[]∧Xd x.fN∧vbm x=true∧x.fKind≠3:=by
 unfold okV at h;rw[if_neg h7] at h
 split at h
 · rw[h.1];exact⟨rfl,rfl,in0,rfl,by rw[gt_kind]; decide⟩
 refine⟨by rw[h.1]; rfl,by rw[h.1]; rfl,h.2.1,?_,by rw[h.1,gt_kind]; decide⟩
 rw[h.1]; rfl
theorem kids_nil {x:GTree}(h:x.fEntries=[]):kids x=[]:=by unfold kids; rw[h]; rfl
theorem szT_leaf {x:GTree}(h1:x.fEntries=[])(h2:x.fRest=[])(h3:Xd x.fN):∀ d,szT d x
 |0=>⟨h3,by rw[h2]; exact ut _,by rw[h2]; intro r hr; cases hr⟩
 |d+1=>⟨⟨h3,by rw[h2]; exact ut _,by rw[h2]; intro r hr; cases hr⟩,by rw[kids_nil h1]; intro x hx; cases hx⟩
theorem okT_sz {s:GSchema}:∀ (d n:Nat) (m:GMessage) (t:GTree),d≤n→okT s d m t→szT n t
 |0,_,_,_,_,h=>h.elim
 |d+1,0,_,_,h,_=>absurd h (by omega)
 |d+1,n+1,m,t,hn,h=>by
  obtain⟨_,h0,_,_,he,_,hl,hr⟩:=h;refine⟨⟨by rw[h0]; exact in0,by omega,fun r hm=>(hr r hm).1.2⟩,fun x hx=>?_⟩;obtain⟨e,hm,hxe⟩:=List.mem_flatMap.1 hx;have hv:=(he e hm).1.2.2.2.2 x hxe
  by_cases h7:(zk m e.fTag).1.fType.fKind=7
  · unfold okV at hv; rw[if_pos h7] at hv
    exact okT_sz d n _ x (by omega) hv.2
  obtain⟨a,b,c,_,_⟩:=okV_leaf hv h7;exact szT_leaf a b c n
theorem leafB_right {x:GTree}(h:vbm x=true)(h3:x.fKind≠3):∀ d,wn d x=true
 |0=>h
 |d+1=>by rw[wn,if_neg h3]; exact h
theorem okT_ents {d:Nat}{s:GSchema}{m:GMessage}{f:GTree→Bool}(hf:∀ y x,okV (okT s d) s y x→f x=true):∀ {l:List GEntry} {last:Int},l.Pairwise Xr→(∀ e∈l,last<e.fTag)→(∀ e∈l,okN (okT s d) s m e)→entB f last l=true
 |[],_,_,_,_=>rfl
 |e::l,last,hs,hlt,he=>by
  rw[un] at hs;obtain⟨⟨h1,h2⟩,h3,h4,h5,h6⟩:=he e (qA ..);rw[entB,okT_ents hf hs.2 (fun a ha=>hs.1 a ha) fun a ha=>he a (qB _ ha),qJ,qz,decide_eq_true_eq];refine⟨⟨hlt e (qA ..),h2,h4.1,h4.2⟩,q7.2 fun x hx=>?_⟩;rw[qz,decide_eq_true_eq];refine⟨?_,hf _ x (h6 x hx)⟩;rw[okV_kind (h6 x hx)]
  cases ht:e.fTrees with
  |nil=>rw[ht] at hx; cases hx
  |cons a l=>rw[List.headD_cons]; exact (okV_kind (h6 a (by rw[ht]; exact qA ..))).symm
theorem okT_right {s:GSchema}:∀ (d n:Nat) (m:GMessage) (t:GTree),d≤n→okT s d m t→wn n t=true
 |0,_,_,_,_,h=>h.elim
 |d+1,0,_,_,h,_=>absurd h (by omega)
 |d+1,n+1,m,t,hn,h=>by
  obtain⟨h3,h0,hS,hs,he,hrs,_,hr⟩:=h;rw[wn,if_pos h3]
  have e1:entB (wn n) 0 t.fEntries=true:=by
   refine okT_ents (m:=m) (d:=d) (s:=s) ?_ hs (fun e hm=>by have:=(he e hm).1.1; omega) fun e hm=>(he e hm).1
   intro y x hv
   by_cases h7:y.fKind=7
   · unfold okV at hv; rw[if_pos h7] at hv
     exact okT_right d n _ x (by omega) hv.2
   obtain⟨_,_,_,d1,e1⟩:=okV_leaf hv h7;exact leafB_right d1 e1 n
  have e2:restB t=true:=by
   unfold restB;rw[qz];refine⟨q7.2 fun r hm=>?_,risB_iff.2 hrs⟩;obtain⟨⟨a,_⟩,b⟩:=hr r hm;rw[a,uq,uW,List.any_eq_false]
   intro e hme hc
   rw[decide_eq_true_eq] at hc;exact b (by rw[← hc]; exact (he e hme).1.2.1)
  rw[e1,e2,decide_eq_true h0,decide_eq_true hS]; rfl
theorem gr_wire (a b c:Int)(d:List UInt8):(GRaw.mk a b c d).fWire=b:=rfl
theorem gr_n (a b c:Int)(d:List UInt8):(GRaw.mk a b c d).fN=c:=rfl
theorem gr_b (a b c:Int)(d:List UInt8):(GRaw.mk a b c d).fB=d:=rfl
theorem rawT_tag {enc:GTree→Option (List UInt8)}{tag:Int}{x:GTree}{r:GRaw}(h:rawT enc tag x=some r):r.fTag=tag:=by
 unfold rawT at h
 split at h
 · cases h; rfl
 split at h
 · split at h
   · cases h
   cases h; rfl
 obtain⟨b,hb,h⟩:=bind_some h
 cases h; rfl
theorem vb3 {msg:GMessage→List UInt8→GTree×Int}{s:GSchema}{y:GType}{r:GRaw}(h:(y.fKind=4∨y.fKind=5∨y.fKind=7)∧r.fWire=1∨¬ (y.fKind=4∨y.fKind=5∨y.fKind=7)∧r.fWire=0):
 oneD msg s y r=(if y.fKind=3∨y.fKind=6 then (if xH y r.fN=true then (⟨1,r.fN,[],[],[]⟩,0) else (YI,11))
 else if y.fKind=4 then (if runesV r.fB=true then (⟨2,0,r.fB,[],[]⟩,0) else (YI,9))
 else if y.fKind=7 then msg (msgOf s y.fName) r.fB
 else (if r.fWire=1 then ⟨2,0,r.fB,[],[]⟩ else ⟨1,r.fN,[],[],[]⟩,0)):=by
 unfold oneD;refine if_pos ?_
 rcases h with ⟨h,h'⟩|⟨h,h'⟩
 · rw[if_pos h]; exact h'
 rw[if_neg h]; exact h'
theorem oneD_back {s:GSchema}{d:Nat}{y:GType}{x:GTree}{tag:Int}{q:GRaw}(ih:∀ m t c,okT s d m t→YA d t=some c→decM s d m c=(t,0))(hv:okV (okT s d) s y x)(hq:rawT (YA d) tag x=some q):oneD (decM s d) s y q=(x,0):=by
 have hk:=okV_kind hv
 unfold okV at hv; unfold rawT at hq; unfold kindT at hk
 by_cases h7:y.fKind=7
 · rw[if_pos h7] at hv hk;rw[if_neg (by omega),if_neg (by omega)] at hq;obtain⟨c,hc,hq⟩:=bind_some hq;cases hq;rw[vb3 (Or.inl ⟨Or.inr (Or.inr h7),rfl⟩),if_neg (by omega),if_neg (by omega),if_pos h7,gr_b];exact ih _ _ _ hv.2 hc
 rw[if_neg h7] at hv hk
 by_cases h4:y.fKind=4∨y.fKind=5
 · rw[if_pos h4] at hv hk;rw[if_neg (by omega),if_pos hk,if_neg (by omega)] at hq;cases hq;rw[vb3 (Or.inl ⟨by rcases h4 with h|h; exact Or.inl h; exact Or.inr (Or.inl h),rfl⟩),if_neg (by omega),gr_b]
   by_cases h44:y.fKind=4
   · rw[if_pos h44,if_pos (hv.2.2 h44),← hv.1]
   rw[if_neg h44,if_neg h7,gr_wire,if_pos rfl,← hv.1]
 rw[if_neg h4] at hv hk;rw[if_pos hk] at hq;cases hq;rw[vb3 (Or.inr ⟨by omega,rfl⟩)]
 by_cases h3:y.fKind=3∨y.fKind=6
 · rw[if_pos h3,gr_n,if_pos (hv.2.2 h3),← hv.1]
 rw[if_neg h3,if_neg (by omega),if_neg h7,gr_wire,if_neg (by decide),gr_n,← hv.1]
theorem fldD_unk {m:GMessage}{one:GType→GRaw→GTree×Int}{B:List GRaw}{es:List GEntry}:∀ {A rest:List GRaw},(∀ r∈A,(zk m r.fTag).2≠true)→X6 m one (A++B) es rest=X6 m one B es (rest++A)
 |[],rest,_=>by rw[qH]; rfl
 |r::A,rest,h=>by
  rw[qM,X6,if_neg (h r (qA ..)),fldD_unk fun x hx=>h x (qB _ hx),qv]; rfl
theorem fldD_more {m:GMessage}{one:GType→GRaw→GTree×Int}{enc:GTree→Option (List UInt8)}{tag:Int}{A:List GEntry}{M rest:List GRaw}(hk:(zk m tag).2=true)(h3:(zk m tag).1.fLabel=3)(hA:∀ a∈A,a.fTag<tag):∀ {l:List GTree} {ts:List GTree} {L:List GRaw},ts.length+l.length≤64→(∀ x∈l,∀ q,rawT enc tag x=some q→one (zk m tag).1.fType q=(x,0))→rawL enc tag l=some L→X6 m one (L++M) (A++[⟨tag,ts⟩]) rest=X6 m one M (A++[⟨tag,ts++l⟩]) rest
 |[],ts,L,_,_,h=>by cases h; rw[qH]; rfl
 |x::l,ts,L,hl,ho,h=>by
  obtain⟨q,hq,h⟩:=bind_some h;obtain⟨L',hL,h⟩:=bind_some h;cases h;rw[qk] at hl
  have hn:∀ rep:Prop,[Decidable rep]→rep→vaT tag rep (A++[⟨tag,ts⟩])=ts.length+1:=by
   intro rep _ hr
   rw[vbt hA,vaT,Zd,if_neg (by omega),if_pos rfl,if_pos hr,Yj]
  have he:∀ rep:Prop,[Decidable rep]→rep→Yh tag rep x (A++[⟨tag,ts⟩])=A++[⟨tag,ts++[x]⟩]:=by
   intro rep _ hr
   rw[vbu hA,Yh,Zd,if_neg (by omega),if_pos rfl,if_pos hr,Yj]
  rw[qM,X6,rawT_tag hq,if_pos hk,ho x (qA ..) q hq,if_pos rfl,if_pos (by rw[hn _ h3]; omega),he _ h3,fldD_more hk h3 hA (by rw[qj,qQ]; omega) (fun z hz=>ho z (qB _ hz)) hL,qv]; rfl
theorem fldD_entry {m:GMessage}{one:GType→GRaw→GTree×Int}{enc:GTree→Option (List UInt8)}{e:GEntry}{A:List GEntry}{M rest L:List GRaw}(hk:(zk m e.fTag).2=true)(h1:1≤e.fTrees.length)(h64:e.fTrees.length≤64)(hl:(zk m e.fTag).1.fLabel≠3→e.fTrees.length=1)(hA:∀ a∈A,a.fTag<e.fTag)(ho:∀ x∈e.fTrees,∀ q,rawT enc e.fTag x=some q→one (zk m e.fTag).1.fType q=(x,0))(h:rawL enc e.fTag e.fTrees=some L):X6 m one (L++M) A rest=X6 m one M (A++[e]) rest:=by
 obtain⟨tag,ts⟩:=e;rw[Zd] at *;rw[Yj] at *
 cases ts with
 |nil=>exact absurd h1 (by decide)
 |cons x l=>
  obtain⟨q,hq,h⟩:=bind_some h;obtain⟨L',hL,h⟩:=bind_some h;cases h
  have hn:∀ rep:Prop,[Decidable rep]→vaT tag rep A=1:=by
   intro rep _
   have:=vbt (rep:=rep) (B:=[]) hA;rw[qH] at this
   rw[this]; rfl
  have he:∀ rep:Prop,[Decidable rep]→Yh tag rep x A=A++[⟨tag,[x]⟩]:=by
   intro rep _
   have:=vbu (rep:=rep) (x:=x) (B:=[]) hA;rw[qH] at this
   rw[this]; rfl
  rw[qM,X6,rawT_tag hq,if_pos hk,ho x (qA ..) q hq,if_pos rfl,if_pos (by rw[hn]; decide),he]
  cases l with
  |nil=>cases hL; rfl
  |cons y l=>
   have h3:(zk m tag).1.fLabel=3:=by
    by_cases h3:(zk m tag).1.fLabel=3
    · exact h3
    have:=hl h3; rw[qk,qk] at this; omega
   have:=fldD_more (m:=m) (one:=one) (enc:=enc) (tag:=tag) (A:=A) (M:=M) (rest:=rest) hk h3 hA (l:=y::l) (ts:=[x]) (L:=L') (by rw[qk] at h64; rw[qQ]; omega) (fun z hz=>ho z (qB _ hz)) hL;exact this
theorem fldD_ents {d:Nat}{s:GSchema}{m:GMessage}{rest:List GRaw}(ih:∀ m t c,okT s d m t→YA d t=some c→decM s d m c=(t,0)):∀ {B A:List GEntry} {L:List GRaw},(A++B).Pairwise Xr→(∀ e∈B,okN (okT s d) s m e)→rawE (YA d) B=some L→X6 m (oneD (decM s d) s) L A rest=(⟨3,0,[],zdel m (A++B),srt rest⟩,0)
 |[],A,L,_,_,h=>by cases h; rw[X6,qH]
 |e::B,A,L,hs,he,h=>by
  obtain⟨a,ha,h⟩:=bind_some h;obtain⟨L',hL,h⟩:=bind_some h;cases h;obtain⟨_,h2,h3,h4,h5⟩:=he e (qA ..)
  rw[fldD_entry (enc:=YA d) h2 h3.1 h3.2 h4 (fun x hx=>(List.pairwise_append.1 hs).2.2 x hx e (qA ..)) (fun x hx q hq=>oneD_back ih (h5 x hx) hq) ha,fldD_ents ih (A:=A++[e]) (by rw[qv]; exact hs) (fun x hx=>he x (qB _ hx)) hL,qv]; rfl
theorem zdel_id {m:GMessage}{es:List GEntry}(h:∀ e∈es,isZ m e=false):zdel m es=es:=by
 unfold zdel;rw[List.filter_eq_self]
 intro e he
 rw[h e he]; rfl
theorem decM_back {s:GSchema}:∀ (d:Nat) (m:GMessage) (t:GTree) (c:List UInt8),okT s d m t→YA d t=some c→decM s d m c=(t,0)
 |0,_,_,_,h,_=>h.elim
 |d+1,m,t,c,hok,h=>by
  have hr:=okT_right (d+1) (d+1) m t (qx _) hok;have hz:=okT_sz (d+1) (d+1) m t (qx _) hok;obtain⟨h3,h0,hS,hs,he,hrs,hl,hrest⟩:=hok;rw[YA] at h;obtain⟨L,hL,h⟩:=bind_some h;obtain⟨hc,hlen⟩:=putB_some h;have hg:=getD_of (raws_ok hr h3 hz hL) (by rw[← hc]; exact hlen)
  have key:X6 m (oneD (decM s d) s) (t.fRest++L) [] []=(t,0):=by
   rw[fldD_unk fun r hm=>(hrest r hm).2,fldD_ents (decM_back d) (A:=[]) (B:=t.fEntries) hs (fun e hm=>(he e hm).1) hL,qK,qK,zdel_id (es:=t.fEntries) fun e hm=>(he e hm).2,srt_id hrs,← h3,← h0,← hS,← gt_eta]
  rw[decM,hc,hg,if_pos rfl,fldD_shuf (shuf_srt _) (by rw[key]),key]
end
section
set_option maxRecDepth 4000
open AM
theorem awakeP : wX=some true:=by decide +kernel
def s1 : GSchema:=wv 1
def s2 : GSchema:=wv 2
def ZY : List UInt8:=[109]
def Zz (v:Int):GTree:=zX v
def oneB (v:Int):GTree:=⟨3,0,[],[⟨1,[⟨1,v,[],[],[]⟩]⟩],[]⟩
theorem YL {v:Int}(h:v≠0):Zz v=oneB v:=if_neg h
theorem check1 : z6 s1=some 0:=by decide +kernel
theorem check2 : z6 s2=some 0:=by decide +kernel
theorem msg1 : zG s1 ZY=(⟨ZY,[⟨[120],1,1,⟨1,[]⟩⟩],[]⟩,true):=by decide +kernel
theorem msg2 : zG s2 ZY=(⟨ZY,[⟨[120],1,1,⟨2,[]⟩⟩],[]⟩,true):=by decide +kernel
theorem meth1 : yG s1 [99]=(⟨[99],ZY,ZY⟩,true):=by decide +kernel
theorem meth2 : yG s2 [99]=(⟨[99],ZY,ZY⟩,true):=by decide +kernel
theorem make21 : yI s2 s1 ZY ZY=some (⟨[[⟨2,1,0⟩]]⟩,0):=by decide +kernel
theorem make12 : yI s1 s2 ZY ZY=some (⟨[[⟨1,1,0⟩]]⟩,0):=by decide +kernel
theorem progC : yN ⟨[[⟨2,1,0⟩]]⟩=true:=by decide +kernel
theorem progK : yN ⟨[[⟨1,1,0⟩]]⟩=true:=by decide +kernel
theorem oneB_sz {v:Int}(h:Xd v):szT 10 (oneB v):=by
 refine⟨⟨by show Xd 0; unfold Xd; omega,by show (0:Nat)≤900000; omega,fun r hm=>by cases hm⟩,fun x hx=>?_⟩
 have hx':x=⟨1,v,[],[],[]⟩:=by simpa [kids,oneB,GTree.fEntries,GEntry.fTrees] using hx
 subst hx';exact⟨⟨h,by show (0:Nat)≤900000; omega,fun r hm=>by cases hm⟩,fun x hx=>by cases hx⟩
theorem zero_sz : szT 10 (⟨3,0,[],[],[]⟩:GTree):=
 ⟨⟨by show Xd 0; unfold Xd; omega,by show (0:Nat)≤900000; omega,fun r hm=>by cases hm⟩,fun x hx=>by cases hx⟩
theorem oneT_sz {v:Int}(h:Xd v):szT 10 (Zz v):=by
 by_cases h0:v=0
 · subst h0; exact zero_sz
 rw[YL h0]; exact oneB_sz h
theorem XU (v:Int):Yf (Zz v)=true:=by
 by_cases h0:v=0
 · subst h0; decide +kernel
 rw[YL h0]; rfl
theorem vb1 (v:Int):(Zz v).fKind=3:=by
 by_cases h0:v=0
 · subst h0; rfl
 rw[YL h0]; rfl
theorem oneT_enc {v:Int}(h:Xd v):∃ c,YA 10 (Zz v)=some c:=by
 by_cases h0:v=0
 · subst h0; exact⟨[],by decide +kernel⟩
 rw[YL h0];have e:YA 10 (oneB v)=putB [⟨1,0,v,[]⟩]:=rfl;rw[e,putB];have k1:(vb (vaX ⟨1,0,v,[]⟩)).length≤10:=Zv (by show ((2*1+0:Int).toNat)<2^64; decide);have k2:(vb (zg v)).length≤10:=Zv (zg_lt h)
 have hl:(Zy [⟨1,0,v,[]⟩]).length≤20:=by
  show (vaj ⟨1,0,v,[]⟩++[]).length≤20
  rw[qH]
  show (vb (vaX ⟨1,0,v,[]⟩)++vb (zg v)).length≤20
  rw[qj]; omega
 rw[if_neg (by omega)];exact⟨_,rfl⟩
theorem vb2 {v:Int}(h:Xd v){c:List UInt8}(hc:YA 10 (Zz v)=some c):xF (Zz v)=some (c,0):=by
 rw[Encode_eq (oneT_sz h),if_pos ⟨XU v,vb1 v⟩,hc]; rfl
theorem oneT_ref {v:Int}(h:Xd v){c:List UInt8}(hc:YA 10 (Zz v)=some c):xC (Zz v)=some (c,0):=by
 rw[vbU (oneT_sz h),if_pos ⟨XU v,vb1 v⟩,hc]; rfl
theorem oneT_ok {s:GSchema}{k v:Int}(hm:zG s ZY=(⟨ZY,[⟨[120],1,1,⟨k,[]⟩⟩],[]⟩,true))(hk:k=1∨k=2)(h:Xd v):okT s 10 (msgOf s ZY) (Zz v):=by
 have hmo:msgOf s ZY=⟨ZY,[⟨[120],1,1,⟨k,[]⟩⟩],[]⟩:=by rw[msgOf,hm]
 rw[hmo]
 by_cases h0:v=0
 · subst h0;exact⟨rfl,rfl,rfl,List.Pairwise.nil,(fun e he=>(List.not_mem_nil he).elim),List.Pairwise.nil,ut _,fun r hr=>(List.not_mem_nil hr).elim⟩
 rw[YL h0];refine⟨rfl,rfl,rfl,List.pairwise_singleton _ _,fun e he=>?_,List.Pairwise.nil,ut _,fun r hr=>(List.not_mem_nil hr).elim⟩
 have he':e=⟨1,[⟨1,v,[],[],[]⟩]⟩:=by simpa [oneB,GTree.fEntries] using he
 subst he';refine⟨⟨⟨show (1:Int)≤1 by decide,show (1:Int)≤500 by decide⟩,rfl,⟨show 1≤1 by decide,show 1≤64 by decide⟩,fun _=>rfl,fun x hx=>?_⟩,?_⟩
 · have hx':x=⟨1,v,[],[],[]⟩:=by simpa [GEntry.fTrees] using hx
   subst hx';unfold okV;rw[show (zk ⟨ZY,[⟨[120],1,1,⟨k,[]⟩⟩],[]⟩ (GEntry.fTag ⟨1,[⟨1,v,[],[],[]⟩]⟩)).1.fType.fKind=k from rfl,if_neg (by omega),if_neg (by omega)];exact⟨rfl,h,fun h=>by omega⟩
 show (true&&xQ ⟨1,v,[],[],[]⟩)=false
 have:xQ ⟨1,v,[],[],[]⟩=false:=by
  unfold xQ
  show _=_
  simp[h0,GTree.fKind,GTree.fN]
 rw[this]; rfl
theorem oneT_decode {s:GSchema}{k v:Int}(hs:z6 s=some 0)(hm:zG s ZY=(⟨ZY,[⟨[120],1,1,⟨k,[]⟩⟩],[]⟩,true))(hk:k=1∨k=2)(h:Xd v){c:List UInt8}(hc:YA 10 (Zz v)=some c):xM s ZY c=some (Zz v,0):=by
 rw[decode_eq hs (by rw[hm]),decM_back 10 _ _ _ (oneT_ok hm hk h) hc]
def KK : Nat:=999999999999999999999
theorem rounds_s : rounds=KK+1:=rfl
def KJ : Nat:=999999999999999999998
theorem KK_s : KK=KJ+1:=rfl
theorem oneB_valid {v:Int}(h0:v≠0):zr rounds s2 ⟨ZY,[⟨[120],1,1,⟨2,[]⟩⟩],[]⟩ (oneB v)=some 0:=by
 have hz:xQ ⟨1,v,[],[],[]⟩=false:=by
  unfold xQ
  simp[h0,GTree.fKind,GTree.fN]
 rw[rounds_s,zr,zr.body]
 show zr.l4 _ _ _ _ [⟨1,[⟨1,v,[],[],[]⟩]⟩] 0=_
 rw[zr.l4,bnd]
 show (if (!true)=true then some 7 else if (!(decide ((1:Int)=3))&&decide (1<(qb [(⟨1,v,[],[],[]⟩:GTree)]:Int)))=true then some 4 else zr.l30 (zr KK) s2 0 _ _ (⟨[120],1,1,⟨2,[]⟩⟩,true) [⟨1,v,[],[],[]⟩] 0)=_
 rw[if_neg (by decide),if_neg (by simp),zr.l30];have hf:Zj ⟨2,[]⟩ ⟨1,v,[],[],[]⟩=some 0:=rfl;rw[hf,qh,if_neg (by simp),zr.j46,if_pos rfl,zr.l30,if_pos rfl];have hi:Zb (GEntry.fTrees ⟨1,[⟨1,v,[],[],[]⟩]⟩) 0=some ⟨1,v,[],[],[]⟩:=rfl;rw[hi,qh,bnd,hz,qh,if_neg (by decide),zr.l4]
 rfl
theorem oneT_valid {v:Int}(h:Xd v):wB s2 ZY (Zz v)=some 0:=by
 rw[wB,check2,qh,if_pos rfl,bnd,msg2]
 dsimp only
 rw[if_neg (by decide),if_pos (vb1 v),check_eq (oneT_sz h),XU,qh,qh,if_neg (by decide)]
 by_cases h0:v=0
 · subst h0; decide +kernel
 rw[YL h0,oneB_valid h0]; rfl
theorem num_tree (v:Int):zt rounds (.num v)=some ⟨1,v,[],[],[]⟩:=by
 rw[rounds_s,zt,zt.body]; rfl
def keepF (op v:Int):Int:=if op=2 then xa v else v
theorem step_one {op v:Int}(hop:op=1∨op=2)(r:GInterpRun):zm KK r ⟨op,1,0⟩ [.num v]=some ([⟨1,keepF op v,[],[],[]⟩],r):=by
 rw[KK_s,zm,zm.body,if_neg (by show ¬ op=4; omega),zm.j2,zm.l12,num_tree,qh,bnd];have hk:xO (.num v)=.num v:=rfl;rw[hk]
 dsimp only
 have hl:∀ (m:GInterpRun) (T:GTree),zm.j22 0 ([]:List GTree) (zm.l12 (zw KJ) ⟨op,1,0⟩ []) m T=some ([T],m):=fun m T=>by
  rw[zm.j22,wA (by simp),qh,zm.l12]; rfl
 rcases hop with rfl|rfl
 · rw[if_neg (by decide),if_neg (by decide)]
   show zm.j36 _ _ _ _ _ _ _ _ (decide ((1:Int)=4))=_
   unfold zm.j36;rw[if_neg (by decide)];exact hl _ _
 rw[if_pos rfl,bnd];exact hl _ _
theorem part_one {op v:Int}(hop:op=1∨op=2):∃ r,zw rounds ⟨⟨[[⟨op,1,0⟩]]⟩,0⟩ 0 ⟨[⟨1,[.num v]⟩],[]⟩=some (oneB (keepF op v),r):=by
 rw[rounds_s,zw,zw.body];have hi:Zb (GInterpRun.fp ⟨⟨[[⟨op,1,0⟩]]⟩,0⟩).fParts 0=some [⟨op,1,0⟩]:=rfl;rw[hi,qh,zw.l13]
 have hg:ye ⟨[⟨1,[.num v]⟩],[]⟩ 1=some [.num v]:=by
  rw[ye,ye.l4,if_pos (show (GValueEntry.mk 1 [GValueValue.num v]).ftag=1 from rfl)]
  show ((xV [.num v]).bind fun r12=>some r12)=_
  rw[xV,wA (by simp)]; rfl
 dsimp only [GValueNode.fentries]
 rw[hg,qh,if_neg (by simp),step_one hop,qh,if_pos (by simp),wA (by simp),qh,zw.j19,zw.l13];exact⟨_,rfl⟩
def treeB (t:GTree):Bool:=match t with
 |⟨k,n,s,es,rs⟩=>decide (k=3)&&decide (n=0)&&decide (s=[])&&es.isEmpty&&rs.isEmpty
theorem treeB_eq {t:GTree}(h:treeB t=true):t=Zz 0:=by
 obtain⟨k,n,s,es,rs⟩:=t;simp only[treeB,qz,decide_eq_true_eq,List.isEmpty_iff] at h;obtain⟨⟨⟨⟨rfl,rfl⟩,rfl⟩,rfl⟩,rfl⟩:=h
 rfl
theorem run_z {P:GAdaptProgram}(h:(xR P (Zz 0)).any (fun r=>treeB r.1&&decide (r.2=0))=true):xR P (Zz 0)=some (Zz 0,0):=by
 cases hr:xR P (Zz 0) with
 |none=>rw[hr] at h; cases h
 |some r=>
  rw[hr] at h;simp only[Option.any_some,qz,decide_eq_true_eq] at h;obtain⟨a,b⟩:=r;obtain⟨h1,h2⟩:=h;have e1:a=Zz 0:=treeB_eq h1;have e2:b=0:=h2;rw[e1,e2]
theorem keepF_ne {op v:Int}(h0:v≠0):keepF op v≠0:=by
 unfold keepF xa
 split
 · split<;>split<;>omega
 exact h0
theorem run_one {op v:Int}(hop:op=1∨op=2)(h:Xd v)(hp:yN ⟨[[⟨op,1,0⟩]]⟩=true):xR ⟨[[⟨op,1,0⟩]]⟩ (Zz v)=some (Zz (keepF op v),0):=by
 by_cases h0:v=0
 · subst h0
   have hk:keepF op 0=0:=by rcases hop with rfl|rfl<;>decide
   rw[hk]
   rcases hop with rfl|rfl
   · exact run_z (by decide +kernel)
   exact run_z (by decide +kernel)
 have hv:Zi (oneB v)=some (.node [⟨1,[.num v]⟩] [],true):=by
  have:=of_eq (oneB_sz h);have hc:=XU v;rw[YL h0] at hc
  rw[this,if_pos hc]; rfl
 obtain⟨r,hr⟩:=part_one (v:=v) hop;rw[YL h0,YL (keepF_ne h0),xR,wG,bnd,hp,if_neg (show ¬ (!true || !decide ((oneB v).fKind=3))=true from fun h=>Bool.noConfusion h),hv,qh,if_neg (show ¬ (!(GValueValue.node [⟨1,[.num v]⟩] [],true).2)=true from fun h=>Bool.noConfusion h)]
 show (Option.bind (Option.bind (some (⟨[⟨1,[.num v]⟩],[]⟩:GValueNode)) _) _)=_
 rw[qh,hr,qh,qh]
theorem clamp_eq (n:Int):wC n=xa n:=by
 unfold wC xa
 split<;>split<;>(try split)<;>(try split)<;>omega
theorem clamp_in (n:Int):Xd (xa n):=by
 unfold xa Xd
 split<;>(try split)<;>omega
def ec (i w:Int)(m:List UInt8)(t:GTree)(sn:GPacket)(rs:Option GClientResult):GClientClient:=⟨1,0,[1,2],[s1,s2],i,w,m,t,0,sn,rs⟩
def ezT : GTree:=⟨0,0,[],[],[]⟩
def ezP : GPacket:=⟨0,0,0,0,0,[],0,[]⟩
def eHel : GPacket:=⟨1,1,0,1,0,[],0,[1,2]⟩
theorem eNew : xB 1 0 [1,2] [s1,s2]=some (some (ec 0 0 [] ezT ezP none),0):=by
 have h:xD 1 [1,2] [s1,s2]=some true:=by decide +kernel
 unfold xB;rw[h]
 rfl
theorem eOwn (i w m t sn rs):yB (ec i w m t sn rs)=some s2:=rfl
theorem eCall {v:Int}(h:Xd v){c:List UInt8}(hc:YA 10 (Zz v)=some c):yq (ec 0 0 [] ezT ezP none) [99] (Zz v)=some (eHel,0,ec 1 1 [99] (Zz v) eHel none):=by
 unfold yq;rw[eOwn,qh];have hv:wB s2 (GMethod.fIn ⟨[99],ZY,ZY⟩) (Zz v)=some 0:=oneT_valid h;simp only[bnd,meth2,hv,vb2 h hc,qh,if_true];rw[if_pos (show (ec 0 0 [] ezT ezP none).fwaits=0 from rfl),if_neg (by decide)]
 rfl
theorem eIn {v:Int}(h:Xd v){c:List UInt8}(hc:YA 10 (Zz (xa v))=some c)(sn rs):wu (ec 1 1 [99] (Zz v) sn rs)=some (c,0):=by
 unfold wu;have h1:Zb (ec 1 1 [99] (Zz v) sn rs).fschemas (ec 1 1 [99] (Zz v) sn rs).fagreed=some s1:=rfl;have h2:(ec 1 1 [99] (Zz v) sn rs).fmethod=[99]:=rfl;have h3:(ec 1 1 [99] (Zz v) sn rs).ft=Zz v:=rfl;have h4:xR ⟨[[⟨2,1,0⟩]]⟩ (Zz v)=some (Zz (xa v),0):=run_one (.inr rfl) h progC;simp only[h1,h2,h3,eOwn,qh,bnd,meth1,meth2,make21,h4,vb2 (clamp_in v) hc,if_true]
 rfl
def eCal (c:List UInt8):GPacket:=⟨3,1,0,1,1,[99],0,c⟩
theorem eAgreed {v:Int}(h:Xd v){c:List UInt8}(hc:YA 10 (Zz (xa v))=some c):zo (ec 1 1 [99] (Zz v) eHel none) ⟨2,0,1,1,1,[],0,[]⟩=some (eCal c,true,ec 1 2 [99] (Zz v) (eCal c) none):=by
 unfold zo;simp only[ec];rw[if_neg (by decide),if_pos trivial,if_pos trivial];unfold zo.j3
 dsimp only
 rw[if_neg (by simp),if_pos (by simp)];unfold zJ
 dsimp only
 rw[if_neg (by decide)];simp only[zJ.l10,if_true];have:=eIn h hc eHel none;simp only[ec] at this;rw[this]
 rfl
theorem eOut {v m:Int}(h:Xd m){c:List UInt8}(hc:YA 10 (Zz m)=some c)(sn rs):wi (ec 1 2 [99] (Zz v) sn rs) c=some (Zz m,0):=by
 unfold wi;have h1:Zb (ec 1 2 [99] (Zz v) sn rs).fschemas (ec 1 2 [99] (Zz v) sn rs).fagreed=some s1:=rfl;have h2:(ec 1 2 [99] (Zz v) sn rs).fmethod=[99]:=rfl;have h4:xR ⟨[[⟨1,1,0⟩]]⟩ (Zz m)=some (Zz m,0):=run_one (.inl rfl) h progK;have h5:xM s1 ZY c=some (Zz m,0):=oneT_decode check1 msg1 (.inl rfl) h hc;have h6:grd (qb c≤9223372036854775807)=some ():=if_pos (by have:=vcc hc; omega);simp only[h1,h2,eOwn,qh,bnd,meth1,meth2,make12,h4,h5,h6,if_true]
theorem eReply {v m:Int}(h:Xd m){c:List UInt8}(hc:YA 10 (Zz m)=some c)(sn):zo (ec 1 2 [99] (Zz v) sn none) ⟨4,0,1,1,1,[],0,c⟩=some (ezP,false,ec 1 0 [99] (Zz v) sn (some ⟨1,Zz m,0⟩)):=by
 unfold zo;simp only[ec];rw[if_neg (by decide),if_pos trivial,if_pos trivial];unfold zo.j3
 dsimp only
 rw[if_neg (by simp),if_neg (by simp),if_pos (by simp),if_pos (by simp)]
 show (zo.j12 _ _ (decide ((1:Int)=1)))=_
 unfold zo.j12;rw[if_pos (by decide),if_pos rfl];have:=eOut (v:=v) h hc sn none;simp only[ec] at this;rw[this]
 rfl
theorem oneT_right (v:Int):wn 10 (Zz v)=true:=by
 by_cases h0:v=0
 · subst h0; decide +kernel
 rw[YL h0]; rfl
theorem law23_ClientElder_true {n m:Int}(hn:Xd n)(hm:Xd m):law23_ClientElder n m=some true:=by
 obtain⟨cn,hcn⟩:=oneT_enc hn;obtain⟨cc,hcc⟩:=oneT_enc (clamp_in n);obtain⟨cm,hcm⟩:=oneT_enc hm;unfold law23_ClientElder;simp only[bnd];have h0:xB 1 0 [1,2] [wv 1,wv 2]=some (some (ec 0 0 [] ezT ezP none),0):=eNew;have h1:yq (ec 0 0 [] ezT ezP none) [99] (zX n)=some (eHel,0,ec 1 1 [99] (Zz n) eHel none):=eCall hn hcn;have h2:zo (ec 1 1 [99] (Zz n) eHel none) ⟨2,0,1,eHel.fID,1,[],0,[]⟩=some (eCal cc,true,ec 1 2 [99] (Zz n) (eCal cc) none):=eAgreed hn hcc
 have h3:xC (zX (wC n))=some (cc,0):=by rw[clamp_eq]; exact oneT_ref (clamp_in n) hcc
 have h4:xC (zX m)=some (cm,0):=oneT_ref hm hcm;have h5:zo (ec 1 2 [99] (Zz n) (eCal cc) none) ⟨4,0,1,eHel.fID,1,[],0,cm⟩=some (ezP,false,ec 1 0 [99] (Zz n) (eCal cc) (some ⟨1,Zz m,0⟩)):=eReply hm hcm (eCal cc);have h6:xX (ec 1 0 [99] (Zz n) (eCal cc) (some ⟨1,Zz m,0⟩))=(1,Zz m,0,true,ec 1 0 [99] (Zz n) (eCal cc) (some ⟨1,Zz m,0⟩)):=rfl;have h7:zQ rounds (Zz m) (zX m)=some true:=Same_refl (d:=10) (by decide) (right_deep 10 _ (oneT_right m));rw[h0,qh]
 dsimp only
 rw[if_pos rfl,h1,qh,h2,qh,h3,qh,h4,qh,h5,qh];simp only[h6,if_true];rw[if_pos (show (eCal cc).fBody=cc from rfl),if_pos (show (eCal cc).fVersion=1 from rfl),h7,qh,if_pos rfl,awakeP]
 rfl
end
section
open Go.ChangeShapes Go.WideShapes Go.ChangeAt Go.RowKit Go.Shelf Go.Lib AM
theorem own : ownKnob Tryz.prog.godebug=none:=by kernel_rfl
def listed : List (String×DataW Unit):=[("unicode/utf8.acceptRanges",Rows.laid_unicode_utf8_acceptRanges),("unicode/utf8.first",Rows.laid_unicode_utf8_first)]
noncomputable def laidWorld (os:Os):World:=
 let w0:=World.holding qg os ⟨#[],#[],[]⟩
 let put (h:Array Obj) (g:Nat) (cs:Array Value):Array Obj:=h.modify g fun
  |.cells _ t frozen=>.cells cs t frozen
  |o=>o
 let h1:=put w0.heap (utf8Ren.g 3) (Lib.firstTab.map fun z=>Value.int .u8 z).toArray
 let h2:=put h1 (utf8Ren.g 4) ((uC 16).flatMap fun i=>[Value.int .u8 (Lib.accLo i),Value.int .u8 (Lib.accHi i)]).toArray
 { w0 with heap:=h2 }
theorem laid_met (os:Os)(args:Array Value):laidMet qg listed ((laidWorld os).forCall (fun _ _=>0) ⟨#[],args,[]⟩).memory:=
 (LaidIn.of_run (l:=listed) [0,1] 8 (by kernel_rfl) (by kernel_rfl) (by kernel_rfl) (by kernel_rfl)).met
theorem laid_metH (os:Os)(args:Array Value):laidMetH qg listed ((laidWorld os).forCall (fun _ _=>0) ⟨#[],args,[]⟩).memory:=laid_met os args
theorem firstD : Rows.laid_unicode_utf8_first=Lib.firstData:=by kernel_rfl
theorem acceptD : (Rows.laid_unicode_utf8_acceptRanges:DataW Unit)=Lib.acceptData:=by kernel_rfl
theorem u8types : U8Types qg utf8Ren:=⟨vak.t5,vak.t119,vak.t138,vak.t139⟩
theorem glb_of_laid {W:World}(hL:laidMetH qg listed W):Glb W fun b=>b<W.heap.size:=by
 have h':laidMet qg listed W:=hL;have r1:=Lib.laidMet.reads h' (.tail _ (.head _));have r2:=Lib.laidMet.reads h' (.head _);rw[firstD] at r1;rw[acceptD] at r2;have ht:Lib.Utf8Tabs (utf8Ren.g 3) (utf8Ren.g 4) W:=utf8Tabs_of_readsT u8types ⟨by kernel_rfl,by kernel_rfl,by kernel_rfl,by kernel_rfl,by kernel_rfl,by kernel_rfl,by kernel_rfl⟩ r1 r2;obtain⟨t1,t2⟩:=ht
 have lt:∀ {g o:Nat} {v:Value},W.cell? ⟨g,o,none⟩=some v→g<W.heap.size:=by
  intro g o v h
  refine Nat.lt_of_not_le fun hle=>?_
  unfold World.cell? at h;rw[Array.getElem?_eq_none hle] at h;cases h
 refine⟨fun g vs hm=>?_,fun g vs hm i v hv=>?_⟩
 · rcases qU.1 hm with e|hm
   · cases e; exact lt (t1 0 (by decide))
   rcases qU.1 hm with e|hm
   · cases e; exact lt (t2 0 (by decide)).1
   cases hm
 rcases qU.1 hm with e|hm
 · cases e
   have hi:i<256:=by
    have:=(qW.1 hv).1; simpa using this
   rw[List.getElem?_map,List.getElem?_range hi] at hv;cases hv;exact t1 i hi
 rcases qU.1 hm with e|hm
 · cases e
   have hi:i<32:=by
    have:=(qW.1 hv).1; simpa using this
   rw[List.getElem?_map,List.getElem?_range hi] at hv;cases hv;have h1:=t2 (i / 2) (by omega)
   have:i % 2=0∨i % 2=1:=by omega
   rcases this with h|h
   · have e:2*(i / 2)=i:=by omega
     rw[e] at h1
     simp only[h,if_true]; exact h1.1
   have e:2*(i / 2)+1=i:=by omega
   rw[e] at h1
   simp only[h]; exact h1.2
 cases hm
end
section
namespace AM
open Go.RowKit Go.ChangeShapes Go.WideShapes Go.Deep
section
variable {H:Type} {enc:TypeId×Value→H} {P:Program} {w:World} {base:Nat} {spare:Nat→Bool} {held:Bool}
def OpensS (enc:TypeId×Value→H)(P:Program)(w:World)(base:Nat)(spare:Nat→Bool)(held:Bool)(N:Nat)(t:TypeId)(A:List AV→Prop):Prop:=
 ∀ n cs y,DataW.trod enc P w base spare held n t cs=some y→SizeOf.sizeOf y.1<N→(∀ x∈y.1.weights P t,x≤reachBytes)→∃ avs,avs.length=cs.length∧A avs∧∀ i,i<avs.length→VR (Env.start w) (gc avs i) (cs.getD i undef)
variable {N:Nat}
theorem OpensS.mono {t:TypeId}{A B:List AV→Prop}(h:OpensS enc P w base spare held N t A)(k:∀ l,A l→B l):OpensS enc P w base spare held N t B:=fun n cs y hy hN hs=>by
 obtain⟨avs,h1,h2,h3⟩:=h n cs y hy hN hs;exact⟨avs,h1,k _ h2,h3⟩
theorem Opens.sized {t:TypeId}{A:List AV→Prop}(h:Opens enc P w base spare held t A):OpensS enc P w base spare held N t A:=fun n cs y hy _ _=>h n cs y hy
theorem OpensS.agg {t:TypeId}{A:List AV→Prop}(h:∀ N,OpensS enc P w base spare held N t A){vs:Array Value}{d:DataW H}{p:List MemPlace}(hv:DataW.Trod enc P w base spare held t (.agg vs) d p)(hw:∀ x∈d.weights P t,x≤reachBytes):∃ l,A l∧VR (Env.start w) (.agg l) (.agg vs):=by
 obtain⟨n,hn⟩:=hv;obtain⟨avs,e1,e2,e3⟩:=h _ _ _ _ hn (qy _) hw;refine⟨avs,e2,.agg _ _ (by simpa [Value.cells] using e1.symm) fun i hi=>?_⟩;have:=e3 i hi
 simpa [Value.cells,qG,uv] using this
end
end AM
open AM
def in64 (n:Int):Prop := -9223372036854775808≤n∧n<9223372036854775808
theorem wf64 {n:Int}(h:(Lit.int .i64 n).wf=true):in64 n:=by
 simp only[Lit.wf,IntKind.min,IntKind.max,IntKind.signed,IntKind.bits,qz,decide_eq_true_eq,if_true] at h
 unfold in64; omega
section
variable {H:Type} {enc:TypeId×Value→H} {w:World} {base:Nat} {spare:Nat→Bool} {held:Bool} {N:Nat}
end
end
end Go.Proofs.YtaahlckibpiphaaGreatDoor
