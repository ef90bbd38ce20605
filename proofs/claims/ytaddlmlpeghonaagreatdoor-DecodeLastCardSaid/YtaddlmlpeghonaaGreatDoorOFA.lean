/- Parts of the proof, cut down to what it needs. -/
import Derived.Test.YtaddlmlpeghonaaGreatDoorOBl
import Derived.Deep.Slices
import Derived.Deep.Fields
import Derived.ChangeArms
import Derived.ChangeSame
import Derived.Scope
import Derived.Test.YtaddlmlpeghonaaGreatDoorProg
import Derived.KernelRfl
import Derived.Shelf.Unicode.DecodeAny
set_option linter.constructorNameAsVariable false
set_option linter.unusedSimpArgs false
set_option linter.unusedVariables false
namespace Go.Proofs.YtaddlmlpeghonaaGreatDoor
open _root_.List renaming length → qb, flatMap → qf, length_append → qi, length_cons → qk, length_nil → qn, append_assoc → qp, mem_cons_of_mem → qq, mem_cons_self → qr, getD_eq_getElem?_getD → qv, append_nil → qw, map_nil → qx, nil_append → qz, cons_append → qA, drop_zero → qD, length_eq_zero_iff → qE, length_singleton → qF, map_cons → qG, map_append → qH, flatMap_append → qI, mem_cons → qJ, flatMap_cons → qM, replicate → qQ, getElem?_append_left → qT, getElem?_eq_getElem → qV, getElem?_eq_some_iff → q1, length_map → q2, flatMap_nil → q3, all_cons → q5, range_zero → q7, getElem?_set_ne → q9, getElem?_append_right → ua, all_eq_true → ub, all_nil → ud, range_succ → ug, take_of_length_le → uh, getElem?_eq_none → ui, take_length → uj, take_append_drop → um, mem_append → un, pairwise_cons → uo, mem_singleton → uq, mem_append_right → ut, getElem?_set_self → uu, filter_cons → ux, range → uy, mem_map → uz, set_cons_zero → uA, getElem?_cons_zero → uE, getElem?_cons_succ → uF, toList_toArray → uG, length_take → uH, length_drop → uI, set_cons_succ → uQ, drop_eq_getElem_cons → uT, mem_append_left → uV, eq_nil_of_length_eq_zero → uZ, nodup_cons → u0, drop_drop → u6, getElem?_toArray → u9, map_congr_left → vg, ofFn → vn
open _root_.Option renaming bind_some → qg, map_some → uB, getD_some → uS
open _root_.Nat renaming reduceEqDiff → qa, reduceLT → qc, reduceAdd → qd, reduceLeDiff → qe, reduceMul → ql, reduceSub → qm, zero_add → qt, le_refl → qu, lt_succ_self → qy, mul_le_mul_right → qY, lt_of_lt_of_le → ue, reduceMod → ul, zero_le → ur, le_trans → uv, zero_mul → uC, sub_self → uM, add_assoc → uN, sub_zero → uR, add_mul → uW, succ_mul → uX, add_zero → uY, lt_or_ge → u4, le_of_not_lt → ve
open _root_.Bool renaming and_eq_true → qo, not_false → qC, not_true → qK, and_true → qL, or_true → qO, and_false → qR, or_eq_true → qS, or_false → qU, and_self → qX, false_eq_true → qZ, not_eq_true' → uD, false_ne_true → uJ, true_and → uK, false_or → uL, true_or → u3
open _root_.Int renaming toNat → qN, toNat_natCast → qW, le_refl → u7, fdiv → vj, reduceEq → vo, tmod_eq_emod_of_nonneg → vp
open _root_.BitVec renaming ofInt → qB, toNat → uk
open _root_.Array renaming length_toList → uc, getD_eq_getD_getElem? → uw, toList_map → uO, getElem?_eq_getElem → uP, getElem?_setIfInBounds_ne → uU, getElem?_modify → u5
open _root_.UInt8 renaming ofNat → uf
open Result renaming andThen_ok → qj
open Sem renaming run_bind → qs, run_pure → qP
open _root_.Go.Proofs.Tryz renaming prog → qh
section
namespace AM
open Go.RowKit
def vaJ (e:Edge):Bool:=
 match e.ground with
 |.textOnly _|.gcOnly _=>false
 |_=>true
theorem vaI {e:Edge}(h:vaJ e=true)(md:Region.Mode):Region.binds md e=true:=by
 unfold vaJ at h;unfold Region.binds
 split at h<;>simp_all
def ancGo : List (List Nat)→List Oper→List (List Nat)
 |acc,[]=>acc
 |acc,o::l=>
  let d:=(o.after.toList.filter vaJ).map (·.on)
  ancGo (acc++[d++d.flatMap fun i=>acc.getD i []]) l
def anc (l:List Oper):List (List Nat):=ancGo [] l
def Yu : Nat→List Oper→Bool
 |_,[]=>true
 |j,o::l=>o.after.all (fun e => !vaJ e||decide (e.on<j))&&Yu (j+1) l
def lvls (md:Region.Mode)(ops:List Oper):Nat→List Nat→List Nat
 |0,ls=>ls
 |n+1,ls=>lvls md ops n (ops.map fun o=>(o.after.toList.filter (Region.binds md)).foldl (fun m e=>max m (ls.getD e.on 0+1)) 0)
def topo (md:Region.Mode)(ops:List Oper):Bool:=
 let L:=lvls md ops ops.length (qQ ops.length 0)
 ops.zipIdx.all fun (o,j)=>o.after.all fun e => !Region.binds md e||(decide (L.getD e.on 0<L.getD j 0)&&decide (e.on<ops.length))
theorem topo_spec {md:Region.Mode}{ops:List Oper}(h:topo md ops=true):∃ L:Nat→Nat,∀ j o,ops[j]?=some o→∀ e∈o.after,Region.binds md e=true→L e.on<L j∧e.on<ops.length:=by
 refine⟨fun j=>(lvls md ops ops.length (qQ ops.length 0)).getD j 0,fun j o ho e he hb=>?_⟩;unfold topo at h;simp only at h
 have h1:=ub.1 h (o,j) (by
  rw[List.mem_iff_getElem?]
  exact⟨j,by rw[List.getElem?_zipIdx,ho]; simp⟩)
 have h2:=Array.all_eq_true_iff_forall_mem.1 h1 e he
 simpa [hb] using h2
def Closed (ops:List Oper)(X:Nat→Prop):Prop:=∀ j o,ops[j]?=some o→X j→∀ e∈o.after,vaJ e=true→X e.on
theorem anc_closed {ops:List Oper}:∀ (l:List Oper) (acc:List (List Nat)),(∃ pre,ops=pre++l∧pre.length=acc.length)→(∀ j i,i∈acc.getD j []→∀ X,Closed ops X→X j→X i)→
 ∀ j i,i∈(ancGo acc l).getD j []→∀ X,Closed ops X→X j→X i:=by
 intro l
 induction l with
 |nil=>intro acc _ h; exact h
 |cons o l ih=>
  intro acc ⟨pre,hp,hl⟩ h
  simp only[ancGo];refine ih _ ⟨pre++[o],by simp[hp],by simp[hl]⟩ ?_
  intro j i hi X hX hj
  by_cases hlt:j<acc.length
  · rw[qv,qT hlt,← qv] at hi;exact h j i hi X hX hj
  by_cases he:j=acc.length
  · subst he;rw[qv,ua (qu _),uM,uE,uS] at hi
    have hops:ops[acc.length]?=some o:=by rw[hp,← hl]; simp
    have direct:∀ d,d∈(o.after.toList.filter vaJ).map (·.on)→X d:=by
     intro d hd
     obtain⟨e,he,rfl⟩:=uz.1 hd;obtain⟨h1,h2⟩:=List.mem_filter.1 he;exact hX _ o hops hj e (by simpa using h1) h2
    rcases un.1 hi with hi|hi
    · exact direct i hi
    obtain⟨d,hd,hi⟩:=List.mem_flatMap.1 hi;exact h d i hi X hX (direct d hd)
  rw[qv,ui (by simp; omega)] at hi
  simp at hi
theorem anc_spec {ops:List Oper}{j i:Nat}(hi:i∈(anc ops).getD j []){X:Nat→Prop}(hX:Closed ops X)(hj:X j):X i:=
 anc_closed ops [] ⟨[],by simp,rfl⟩ (fun j i h=>by simp at h) j i hi X hX hj
theorem Xx : ∀ {l:List Oper} {k:Nat},Yu k l=true→∀ j o,l[j]?=some o→∀ e∈o.after,vaJ e=true→e.on<k+j:=by
 intro l
 induction l with
 |nil=>intro k _ j o h; simp at h
 |cons x l ih=>
  intro k h j o hj e he ha
  simp only[Yu,qo] at h
  cases j with
  |zero=>
   simp at hj; subst hj
   have:=Array.all_eq_true_iff_forall_mem.1 h.1 e he
   simpa [ha] using this
  |succ j=>
   have:=ih h.2 j o (by simpa using hj) e he ha
   omega
theorem anc_lt {ops:List Oper}(hb:Yu 0 ops=true){j i:Nat}(hj:j<ops.length)(hi:i∈(anc ops).getD j []):i<j:=by
 -- what stands in front of j is below j: the numbers up to j,without j,and j
 have h:=anc_spec (X:=fun x=>x≤j) hi (fun k o hk hx e he ha=>by
  have h1:=Xx hb k o hk e he ha
  show e.on≤j
  have h2:k≤j:=hx
  omega) (qu j)
 -- j itself is not among them
 rcases u4 i j with h1|h1
 · exact h1
 exfalso
 have h2:i≤j:=h
 have hij:i=j:=by omega
 subst hij
 have key:∀ (l:List Oper) (acc:List (List Nat)),(∃ pre,ops=pre++l∧pre.length=acc.length)→(∀ j i,i∈acc.getD j []→i<j)→∀ j i,i∈(ancGo acc l).getD j []→i<j:=by
  intro l
  induction l with
  |nil=>intro acc _ h; exact h
  |cons o l ih=>
   intro acc ⟨pre,hp,hl⟩ h
   simp only[ancGo];refine ih _ ⟨pre++[o],by simp[hp],by simp[hl]⟩ ?_
   intro j i hi
   by_cases hlt:j<acc.length
   · rw[qv,qT hlt,← qv] at hi;exact h j i hi
   by_cases he:j=acc.length
   · subst he;rw[qv,ua (qu _),uM,uE,uS] at hi
     have hops:ops[acc.length]?=some o:=by rw[hp,← hl]; simp
     have direct:∀ d,d∈(o.after.toList.filter vaJ).map (·.on)→d<acc.length:=by
      intro d hd
      obtain⟨e,he,rfl⟩:=uz.1 hd;obtain⟨h1,h2⟩:=List.mem_filter.1 he;have:=Xx hb _ o hops e (by simpa using h1) h2
      omega
     rcases un.1 hi with hi|hi
     · exact direct i hi
     obtain⟨d,hd,hi⟩:=List.mem_flatMap.1 hi;have:=h d i hi;have:=direct d hd
     omega
   rw[qv,ui (by simp; omega)] at hi
   simp at hi
 have:=key ops [] ⟨[],by simp,rfl⟩ (fun j i h=>by simp at h) i i hi
 omega
def tmpsOf (l:List Operand):List Tmp:=l.filterMap fun|.tmp t=>some t|_=>none
def YV (ops:List Oper)(o:Oper):List Tmp:=
 tmpsOf o.op.operands.toList++(match o.guard with
  |some (g,_)=>((ops[g]?).bind (·.dst)).toList
  |none=>[])
theorem ev_congr {F G:Fr}{l:List Operand}(h:∀ t∈tmpsOf l,F t=G t):∀ x∈l,ev F x=ev G x:=by
 intro x hx
 cases x with
 |tmp t=>exact h t (List.mem_filterMap.2 ⟨.tmp t,hx,rfl⟩)
 |_=>rfl
theorem vbs {ρ ρ':Operand→AV}(ps:Array (Nat×Operand))(h:∀ x∈(ps.toList.map (·.2)),ρ x=ρ' x):(ps.toList.map fun p=>(p.1,ρ p.2))=ps.toList.map fun p=>(p.1,ρ' p.2):=
 vg fun p hp=>by rw[h p.2 (uz.2 ⟨p,hp,rfl⟩)]
theorem evOp_congr {T:TT}{op:Op}{ρ ρ':Operand→AV}{σ:Store}(h:∀ x∈op.operands.toList,ρ x=ρ' x):var T op ρ σ=var T op ρ' σ:=by
 cases op<;>simp only[Op.operands] at h<;>simp only[var]
 case build t ps=>rw[vbs ps fun x hx=>h x (by simpa using hx)]
 case buildSlice t n ps=>rw[vbs ps fun x hx=>h x (by simpa using hx)]
 case makeFunc f a b=>
  rw[vg (l:=a.toList) fun x hx=>h x (by simp at hx ⊢; exact .inl hx),vg (l:=b.toList) fun x hx=>h x (by simp at hx ⊢; exact .inr hx)]
 case slice t x lo hi mx=>cases lo<;>cases hi<;>cases mx<;>simp_all
 case makeMap t r=>cases r<;>simp_all
 case call c=>
  obtain⟨cal,args,ats⟩:=c
  cases cal<;>simp only[]
  rw[vg (l:=args.toList) fun x hx=>h x (by simp only[Call.operands]; simpa using hx)]
 all_goals (first|rfl|(simp_all; done))
theorem callee_congr {F G:Fr}{o:Oper}(h:∀ x∈o.op.operands.toList,ev F x=ev G x):callee F o=callee G o:=by
 obtain⟨dst,op,ty,pos,after,guard⟩:=o
 cases op<;>simp only[callee]
 rename_i c
 obtain⟨cal,args,ats⟩:=c
 cases cal<;>simp only[]
 rename_i f
 simp only[Op.operands,Call.operands] at h;rw[h f (by simp),vg (l:=args.toList) fun x hx=>h x (by simp at hx ⊢; exact .inr hx)]
theorem Xc {F G:Fr}{ops:List Oper}{o:Oper}(h:∀ t∈YV ops o,F t=G t):wX ops.toArray F o=wX ops.toArray G o:=by
 unfold wX
 split
 · rfl
 rename_i j want hg
 simp only[u9]
 cases ht:(ops[j]?).bind (·.dst) with
 |none=>rfl
 |some t=>simp only[]; rw[h t (by simp[YV,hg,ht])]
def only (l:List Tmp)(F:Fr):Fr:=fun t=>if t∈l then F t else .u
theorem vaV {l:List Tmp}{F:Fr}{t:Tmp}(h:t∈l):only l F t=F t:=by simp[only,h]
def SF (P:Program)(n:Nat)(ops:List Oper)(o:Oper)(F:Fr)(σ:Store)(r:AV)(σ':Store):Prop:=
 ∀ E a,SR E σ→FR E n (only (YV ops o) F) a→∀ (K:Act→World→Prop) (Qc:Exit→Act→World→Prop),(∀ E' cv,SR E' σ'→VR E' r cv→Ext E E'→K (a.put o.dst cv) E'.w)→
  if Region.wanted o (yielded ops.toArray a.tmps) then o.wp P a E.w K Qc∨(o.asks P a E.w∧LetsOut Qc) else K (a.put o.dst undef) E.w
section
variable {P:Program} {n:Nat} {F:Fr} {σ σ':Store}
theorem op_wp' {T:TT}(hT:TOK P T){o:Oper}{r:AV}(h:var T o.op (ev F) σ=some (r,σ')){E:Env}{a:Act}(hS:SR E σ)(hF:FR E n F a){next:Act→World→Prop}{Qc:Exit→Act→World→Prop}
 (hn:∀ E' cv,SR E' σ'→VR E' r cv→Ext E E'→next (a.put o.dst cv) E'.w):o.wp P a E.w next Qc:=by
 obtain⟨E',h1,h2,h3⟩:=run_evOp hT hS (o:=o) (fun x=>hF.ev x) h;unfold Oper.wp
 rcases h3 with ⟨cv,h4,h5⟩|⟨h4,h5⟩
 · rw[h4]; exact hn E' _ h1 h5 h2
 subst h5
 rw[h4]; exact hn E' _ h1 (.u _) h2
theorem SF.op {T:TT}(hT:TOK P T){ops:List Oper}{o:Oper}{r:AV}(hg:wX ops.toArray F o=some true)(h:var T o.op (ev F) σ=some (r,σ')):SF P n ops o F σ r σ':=by
 intro E a hS hF K Qc hK
 have h1:∀ t∈YV ops o,only (YV ops o) F t=F t:=fun t ht=>vaV ht
 rw[← Xc h1] at hg;rw[if_pos (wA hF hg)];rw[← evOp_congr (ρ:=ev (only (YV ops o) F)) (ev_congr fun t ht=>h1 t (uV _ ht))] at h;exact .inl (op_wp' hT h hS hF hK)
theorem SF.skip {ops:List Oper}{o:Oper}(hg:wX ops.toArray F o=some false):SF P n ops o F σ .u σ:=by
 intro E a hS hF K Qc hK
 have h1:∀ t∈YV ops o,only (YV ops o) F t=F t:=fun t ht=>vaV ht
 rw[← Xc h1] at hg;rw[if_neg (by rw[wA hF hg]; simp)];exact hK E _ hS (.u _) (Ext.refl E)
theorem SF.call {ops:List Oper}{o:Oper}{f:FuncId}{args:List AV}{r:AV}(hg:wX ops.toArray F o=some true)(hc:callee F o=some (f,args))(h:ACalls P f args σ fun r' s=>r'=r∧s=σ'):SF P n ops o F σ r σ':=by
 intro E a hS hF K Qc hK
 have h1:∀ t∈YV ops o,only (YV ops o) F t=F t:=fun t ht=>vaV ht
 rw[← Xc h1] at hg;rw[if_pos (wA hF hg)];rw[← callee_congr (F:=only (YV ops o) F) (ev_congr fun t ht=>h1 t (uV _ ht))] at hc;refine .inl ?_;obtain⟨dst,op,ty,pos,after,guard⟩:=o
 generalize only _ F=G at hF hc
 unfold callee at hc;simp only at hc
 split at hc
 · rename_i fo ao ats
   split at hc
   · rename_i g first cap hfo
     cases hc;have hv:=hF.ev fo;rw[hfo] at hv
     generalize hfv:a.eval fo=fv at hv
     cases hv with|fn _ _ _ vf vc h1 h2 h3 h4=>
     have hargs:=ZP (ZP (vaY h1 h3) (vbv (fun x=>hF.ev x) ao)) (vaY h2 h4);unfold Oper.wp
     have hrun:(execOp a.eval { dst:=dst,op:=.call { callee:=.value fo,args:=ao,argTypes:=ats },type:=ty,pos:=pos,after:=after,guard:=guard }).run P E.w=.ok (.enter f (vf++ao.map a.eval++vc)) E.w:=by
      simp only[execOp,resolve,hfv,Deferred.ofValue,qs,qP,qj,invoke];exact h.1 _ _
     rw[hrun];refine (h.2 E _ hS hargs).mono ?_;rintro e w' ⟨v,r',s',E',rfl,rfl,h5,h6,h7,rfl,rfl⟩;exact hK E' v h6 h5 h7
   cases hc
 cases hc
end
def cnt (eff:Nat→Bool):Nat→Nat
 |0=>0
 |j+1=>cnt eff j+(if eff j then 1 else 0)
theorem va5 (eff:Nat→Bool){i j:Nat}(h:i≤j):cnt eff i≤cnt eff j:=by
 induction j with
 |zero=>have:i=0:=by omega
        subst this; exact qu _
 |succ j ih=>
  by_cases e:i=j+1
  · subst e; exact qu _
  have:=ih (by omega); simp only[cnt]; omega
theorem cnt_lt (eff:Nat→Bool){i j:Nat}(h:i<j)(hi:eff i=true):cnt eff i<cnt eff j:=by
 have h1:=va5 eff (show i+1≤j from h);simp only[cnt,hi,if_true] at h1
 omega
def hard (eff flt:Nat→Bool)(i:Nat):Bool:=eff i && !flt i
def vbI (ops:List Oper)(A:List (List Nat))(eff flt:Nat→Bool)(j:Nat)(o:Oper)(i:Nat)(p:Oper):Bool:=
 (match p.dst with
  |some d=>(if i=j then !((YV ops o).contains d) else (!((YV ops o).contains d)||((A.getD j []).contains i&&(!(flt i)||hard eff flt j||(A.getD j []).any fun q=>decide (i<q)&&hard eff flt q))||(A.getD i []).contains j)&&(o.dst != some d))
  |none=>true) &&
 (!(eff i&&hard eff flt j&&decide (i<j))||(A.getD j []).contains i)
def Yy (ops:List Oper)(eff flt:Nat→Bool):Bool:=
 Yu 0 ops&&(topo .text ops&&(topo .gc ops&&topo .any ops))&&(let A:=anc ops; ops.zipIdx.all fun (o,j)=>(!(flt j)||eff j)&&ops.zipIdx.all fun (p,i)=>vbI ops A eff flt j o i p)
def meets (ops:List Oper)(eff flt:Nat→Bool)(j k:Nat):Bool:=
 let A:=anc ops
 (uy ops.length).all fun i => !eff i||((flt i || !((A.getD j []).contains i)||decide (cnt eff i<k))&&(!((A.getD i []).contains j)||decide (k≤cnt eff i)))
theorem cnt_congr {p q:Nat→Bool}:∀ {N:Nat},(∀ i,i<N→p i=q i)→cnt p N=cnt q N:=by
 intro N
 induction N with
 |zero=>intro _; rfl
 |succ N ih=>intro h; simp only[cnt]; rw[ih fun i hi=>h i (by omega),h N (by omega)]
theorem cnt_add {p q:Nat→Bool}{j:Nat}:∀ {N:Nat},j<N→(∀ i,i≠j→q i=p i)→p j=false→q j=true→cnt q N=cnt p N+1:=by
 intro N
 induction N with
 |zero=>intro h; omega
 |succ N ih=>
  intro hj h hp hq
  simp only[cnt]
  by_cases e:j=N
  · subst e;rw[cnt_congr (p:=q) (q:=p) fun i hi=>h i (by omega),hp,hq]
    simp
  rw[ih (by omega) h hp hq,h N (fun e'=>e e'.symm)]
  omega
theorem cnt_le (p:Nat→Bool):∀ N,cnt p N≤N
 |0=>qu _
 |N+1=>by have:=cnt_le p N; simp only[cnt]; split<;>omega
theorem cnt_all' {p:Nat→Bool}:∀ {N:Nat},cnt p N=N→∀ i,i<N→p i=true:=by
 intro N
 induction N with
 |zero=>intro _ i hi; omega
 |succ N ih=>
  intro h i hi
  simp only[cnt] at h;have:=cnt_le p N
  by_cases e:i=N
  · subst e
    cases hp:p i with
    |true=>rfl
    |false=>rw[hp] at h; simp at h; omega
  refine ih ?_ i (by omega)
  split at h<;>omega
theorem chk_pair {ops:List Oper}{eff flt:Nat→Bool}(h:Yy ops eff flt=true){i j:Nat}{o p:Oper}(hj:ops[j]?=some o)(hi:ops[i]?=some p):vbI ops (anc ops) eff flt j o i p=true:=by
 simp only[Yy,qo] at h;have h1:=ub.1 h.2 (o,j) (by rw[List.mem_zipIdx_iff_getElem?]; exact hj);simp only[qo] at h1;have h2:=ub.1 h1.2 (p,i) (by rw[List.mem_zipIdx_iff_getElem?]; exact hi);exact h2
theorem chk_flt {ops:List Oper}{eff flt:Nat→Bool}(h:Yy ops eff flt=true){j:Nat}{o:Oper}(hj:ops[j]?=some o)(hf:flt j=true):eff j=true:=by
 simp only[Yy,qo] at h;have h1:=ub.1 h.2 (o,j) (by rw[List.mem_zipIdx_iff_getElem?]; exact hj);simp only[qo,hf,qK,uL] at h1;exact h1.1
theorem vat {ops:List Oper}{eff flt:Nat→Bool}(h:Yy ops eff flt=true){i j:Nat}{o p:Oper}{t:Tmp}(hj:ops[j]?=some o)(hi:ops[i]?=some p)(hne:i≠j)(hp:p.dst=some t):o.dst≠some t:=by
 have:=chk_pair h hj hi;simp only[vbI,hp,if_neg hne,qo,bne_iff_ne] at this;exact this.1.2
theorem chk_hard {ops:List Oper}{eff flt:Nat→Bool}(h:Yy ops eff flt=true){i j:Nat}{o p:Oper}(hj:ops[j]?=some o)(hi:ops[i]?=some p)(he:eff i=true)(hh:hard eff flt j=true)(hlt:i<j):i∈(anc ops).getD j []:=by
 have:=chk_pair h hj hi;simp only[vbI,qo,qS,uD,List.contains_eq_mem,decide_eq_true_eq] at this
 rcases this.2 with h2|h2
 · simp[he,hh,hlt] at h2
 exact h2
theorem chk_look {ops:List Oper}{eff flt:Nat→Bool}(h:Yy ops eff flt=true){i j:Nat}{o p:Oper}{t:Tmp}(hj:ops[j]?=some o)(hi:ops[i]?=some p)(hp:p.dst=some t)(ht:t∈YV ops o):
 i≠j∧(j∈(anc ops).getD i []∨(i∈(anc ops).getD j []∧(flt i=false∨hard eff flt j=true∨∃ q,q∈(anc ops).getD j []∧i<q∧hard eff flt q=true))):=by
 have hc:=chk_pair h hj hi;simp only[vbI,hp,qo] at hc
 have hij:i≠j:=by
  intro e
  subst e;have:=hc.1;simp only[if_true,uD,List.contains_eq_mem,decide_eq_false_iff_not] at this;exact this ht
 refine⟨hij,?_⟩;have hc1:=hc.1;rw[if_neg hij] at hc1;simp only[qo,qS,uD,List.contains_eq_mem,decide_eq_false_iff_not,decide_eq_true_eq,List.any_eq_true] at hc1
 rcases hc1.1 with (h|⟨h1,h2⟩)|h
 · exact absurd ht h
 · refine .inr ⟨h1,?_⟩
   rcases h2 with (h2|h2)|⟨q,hq,h3,h4⟩
   · exact .inl h2
   · exact .inr (.inl h2)
   exact .inr (.inr ⟨q,hq,h3,h4⟩)
 exact .inl h
section
variable {P:Program} {n k0:Nat} {Q:Exit→Fr→Store→Prop} {ops:List Oper} {eff flt:Nat→Bool} (F:Nat→Fr) (r:Nat→AV) (S:Nat→Store)
theorem vby (hF:∀ j o,ops[j]?=some o→F (j+1)=Yd (F j) o.dst (r j))(t:Tmp):∀ j,j≤ops.length→(∀ i o,i<j→ops[i]?=some o→o.dst≠some t)→F j t=F 0 t:=by
 intro j
 induction j with
 |zero=>intro _ _; rfl
 |succ j ih=>
  intro hj h
  obtain⟨o,ho⟩:∃ o,ops[j]?=some o:=⟨_,qV (by omega)⟩
  rw[hF j o ho];have hne:=h j o (by omega) ho;rw[← ih (by omega) fun i o hi=>h i o (by omega)]
  cases hd:o.dst with
  |none=>rfl
  |some d=>
   have:t≠d:=fun e=>hne (by rw[hd,e])
   simp[Yd,upd,this]
theorem frame_new (hF:∀ j o,ops[j]?=some o→F (j+1)=Yd (F j) o.dst (r j)){t:Tmp}{i:Nat}{p:Oper}(hi:ops[i]?=some p)(hp:p.dst=some t)(huniq:∀ k o,ops[k]?=some o→k≠i→o.dst≠some t):
 ∀ j,j≤ops.length→i<j→F j t=r i:=by
 intro j
 induction j with
 |zero=>intro _ h; omega
 |succ j ih=>
  intro hj hij
  obtain⟨o,ho⟩:∃ o,ops[j]?=some o:=⟨_,qV (by omega)⟩
  rw[hF j o ho]
  by_cases e:i=j
  · subst e
    rw[hi] at ho; cases ho
    rw[hp]; simp[Yd,upd]
  have hne:=huniq j o ho (fun h=>e h.symm);rw[← ih (by omega) (by omega)]
  cases hd:o.dst with
  |none=>rfl
  |some d=>
   have:t≠d:=fun h=>hne (by rw[hd,h])
   simp[Yd,upd,this]
structure Mid (lo:Nat)(E:Env)(listed:Array Bool)(a:Act)(m:Nat)(fb:Nat→Nat):Prop where
 size:listed.size=ops.length
 closed:Closed ops fun j=>listed.getD j false=true
 mle:m≤ops.length
 done:∀ i,i<m→eff i=true→listed.getD i false=true
 none:∀ i,m≤i→hard eff flt i=true→listed.getD i false=false
 store:SR E (S (cnt eff m))
 tsize:a.tmps.size=n
 defers:a.defers=[]
 new:∀ t j o,ops[j]?=some o→listed.getD j false=true→¬ (flt j=true∧m≤j)→o.dst=some t→VR E (r j) (a.tmps.getD t undef)
 fl:∀ j o,ops[j]?=some o→listed.getD j false=true→flt j=true→m≤j→∃ cs v,S (cnt eff j+1)=S (cnt eff j)++[.cells 0 cs]∧r j=.op (S (cnt eff j)).length 0 0∧Flt lo E cs v (fb j)∧∀ t,o.dst=some t→a.tmps.getD t undef=v
 fne:∀ i j,listed.getD i false=true→flt i=true→m≤i→listed.getD j false=true→flt j=true→m≤j→i≠j→fb i≠fb j
 old:∀ t,(∀ j o,ops[j]?=some o→listed.getD j false=true→o.dst≠some t)→VR E (F 0 t) (a.tmps.getD t undef)
theorem wd {listed:Array Bool}{j i:Nat}(hj:j<listed.size):(listed.setIfInBounds j true).getD i false=(listed.getD i false||decide (i=j)):=by
 by_cases e:i=j
 · subst e; simp[hj]
 simp[uU (show j≠i from fun h=>e h.symm),e]
theorem Mid.advance (hchk:Yy ops eff flt=true){E0:Env}{listed:Array Bool}{a:Act}{fb:Nat→Nat}{m':Nat}(hm':m'≤ops.length):
 ∀ (d m:Nat) (E:Env),m+d=m'→Mid (n:=n) (ops:=ops) (eff:=eff) (flt:=flt) F r S E0.w.heap.size E listed a m fb→Yc k0 E0 E→(∀ i,m≤i→i<m'→eff i=true→listed.getD i false=true∧flt i=true)→
  ∃ E',E'.w=E.w∧Mid (n:=n) (ops:=ops) (eff:=eff) (flt:=flt) F r S E0.w.heap.size E' listed a m' fb∧Yc k0 E0 E':=by
 intro d
 induction d with
 |zero=>intro m E e hm hx _; have:m=m':=by omega
        subst this; exact⟨E,rfl,hm,hx⟩
 |succ d ih=>
  intro m E e hm hx h
  obtain⟨o,ho⟩:∃ o,ops[m]?=some o:=⟨_,qV (by omega)⟩
  cases he:eff m with
  |false=>
   have hf:flt m=false:=by
    cases hf:flt m with
    |false=>rfl
    |true=>rw[chk_flt hchk ho hf] at he; cases he
   refine ih (m+1) E (by omega) { hm with mle:=by omega,done:=fun i hi hei=>?_,none:=fun i hi=>hm.none i (by omega),store:=?_,new:=fun t j p hp hl hn=>hm.new t j p hp hl fun hh=>hn ⟨hh.1,?_⟩,fl:=fun j p hp hl hfl hj=>hm.fl j p hp hl hfl (by omega),fne:=fun i j h1 h2 h3 h4 h5 h6=>hm.fne i j h1 h2 (by omega) h4 h5 (by omega) } hx fun i hi hi'=>h i (by omega) hi'
   · by_cases e:i=m
     · subst e; rw[he] at hei; cases hei
     exact hm.done i (by omega) hei
   · have:cnt eff (m+1)=cnt eff m:=by simp[cnt,he]
     rw[this]; exact hm.store
   have:j≠m:=by rintro rfl; rw[hf] at hh; cases hh.1
   omega
  |true=>
   obtain⟨hl,hf⟩:=h m (qu _) (by omega) he;obtain⟨cs,v,e1,e2,e3,e4⟩:=hm.fl m o ho hl hf (qu _);obtain⟨hS,hv⟩:=hm.store.adopt e3
   have hcnt:cnt eff (m+1)=cnt eff m+1:=by simp[cnt,he]
   refine ih (m+1) (E.new E.w (some (fb m))) (by omega) { hm with mle:=by omega,done:=fun i hi hei=>?_,none:=fun i hi=>hm.none i (by omega),store:=by rw[hcnt,e1]; exact hS,new:=fun t j p hp hlj hn hd=>?_,fl:=fun j p hp hlj hfl hj=>?_,fne:=fun i j h1 h2 h3 h4 h5 h6=>hm.fne i j h1 h2 (by omega) h4 h5 (by omega),old:=fun t ht=>(hm.old t ht).extV (ExtV.adopt E _) } (hx.adopt e3.lo) fun i hi hi'=>h i (by omega) hi'
   · by_cases e:i=m
     · subst e; exact hl
     exact hm.done i (by omega) hei
   · by_cases e:j=m
     · subst e
       rw[ho] at hp; cases hp
       rw[e2,e4 t hd]; exact hv
     exact (hm.new t j p hp hlj (fun hh=>hn ⟨hh.1,by omega⟩) hd).extV (ExtV.adopt E _)
   obtain⟨cs',v',f1,f2,f3,f4⟩:=hm.fl j p hp hlj hfl (by omega);exact⟨cs',v',f1,f2,f3.adopt (hm.fne j m hlj hfl (by omega) hl hf (qu _) (by omega)),f4⟩
theorem wpAny_mid {T:TT}(hT:TOK P T){md:Region.Mode}(hchk:Yy ops eff flt=true)(hF:∀ j o,ops[j]?=some o→F (j+1)=Yd (F j) o.dst (r j))(hd:∀ o∈ops,∀ t,o.dst=some t→t<n)
 (heff:∀ j o,ops[j]?=some o→hard eff flt j=true→SF P n ops o (F j) (S (cnt eff j)) (r j) (S (cnt eff j+1)))
 (hflt:∀ j o,ops[j]?=some o→flt j=true→o.guard=none∧∃ e,o.op=.alloc e∧YP T e (S (cnt eff j))=some (r j,S (cnt eff j+1)))
 (hpure:∀ j o,ops[j]?=some o→eff j=false→∀ k,k≤cnt eff ops.length→meets ops eff flt j k=true→SF P n ops o (F j) (S k) (r j) (S k))
 (hQ:Q .normal (F ops.length) (S (cnt eff ops.length))) (E0:Env):
 ∀ (fuel:Nat) (listed:Array Bool) (E:Env) (a:Act) (m:Nat) (fb:Nat→Nat),Yc k0 E0 E→Mid (n:=n) (ops:=ops) (eff:=eff) (flt:=flt) F r S E0.w.heap.size E listed a m fb→ops.length≤cnt (fun i=>listed.getD i false) ops.length+fuel→
  wpAny P md ops.toArray (post n k0 Q E0) fuel listed a E.w:=by
 have hback:Yu 0 ops=true:=by simp only[Yy,qo] at hchk; exact hchk.1.1
 have htopo:topo md ops=true:=by
  simp only[Yy,qo] at hchk
  cases md with
  |text=>exact hchk.1.2.1
  |gc=>exact hchk.1.2.2.1
  |any=>exact hchk.1.2.2.2
 -- the end
 have fin:∀ listed E a m fb,Yc k0 E0 E→Mid (n:=n) (ops:=ops) (eff:=eff) (flt:=flt) F r S E0.w.heap.size E listed a m fb→(∀ j,j<ops.length→listed.getD j false=true)→post n k0 Q E0 .normal a E.w:=by
  intro listed E1 a m fb hx1 hm1 hall
  obtain⟨E,hw,hm,hx⟩:=Mid.advance F r S hchk (qu _) (ops.length-m) m E1 (by have:=hm1.mle; omega) hm1 hx1 fun i h1 h2 he=>by
   refine⟨hall i h2,?_⟩
   cases hf:flt i with
   |true=>rfl
   |false=>have:=hm1.none i h1 (by simp[hard,he,hf]); rw[hall i h2] at this; cases this
  rw[← hw];refine⟨E,F ops.length,S (cnt eff ops.length),rfl,hm.store,⟨hm.tsize,hm.defers,fun t=>?_⟩,hx,hQ⟩
  by_cases hw:∃ (i:Nat) (p:Oper),ops[i]?=some p∧p.dst=some t
  · obtain⟨i,p,hi,hp⟩:=hw;have hilt:i<ops.length:=(q1.1 hi).1;rw[frame_new F r hF hi hp (fun k o hk hki=>vat hchk hk hi (Ne.symm hki) hp) _ (qu _) hilt];exact hm.new t i p hi (hall i hilt) (fun hh=>by omega) hp
  have hno:∀ (i:Nat) (o:Oper),ops[i]?=some o→o.dst≠some t:=fun i o hi ho=>hw ⟨i,o,hi,ho⟩
  rw[vby F r hF t _ (qu _) fun i o _ hi=>hno i o hi]
  exact hm.old t fun j o hj _=>hno j o hj
 -- nothing is ready only when all is done
 have full:∀ listed E a m fb,Mid (n:=n) (ops:=ops) (eff:=eff) (flt:=flt) F r S E0.w.heap.size E listed a m fb→Region.ready md ops.toArray listed=[]→∀ j,j<ops.length→listed.getD j false=true:=by
  intro listed E a m fb hm hr
  obtain⟨L,hL⟩:=topo_spec htopo
  suffices h:∀ q j,L j=q→j<ops.length→listed.getD j false=true from fun j=>h _ j rfl
  intro q
  induction q using Nat.strongRecOn with
  |_ q ih=>
   intro j hq hj
   cases hc:listed.getD j false with
   |true=>rfl
   |false=>
    exfalso
    obtain⟨o,ho⟩:∃ o,ops[j]?=some o:=⟨_,qV hj⟩
    have:j∈Region.ready md ops.toArray listed:=mem_ready.2 ⟨by
     have:j<listed.size:=by rw[hm.size]; exact hj
     simpa [this] using hc,o,by simpa using ho,fun e he hb=>by
     obtain⟨h1,h2⟩:=hL j o ho e he hb
     exact ih (L e.on) (by omega) e.on rfl h2⟩
    rw[hr] at this;cases this
 intro fuel
 induction fuel with
 |zero=>
  intro listed E a m fb hx hm hcnt
  have hall:=cnt_all' (p:=fun i=>listed.getD i false) (N:=ops.length) (by have:=cnt_le (fun i=>listed.getD i false) ops.length; omega);refine⟨?_,fin listed E a m fb hx hm hall⟩
  cases hr:Region.ready md ops.toArray listed with
  |nil=>rfl
  |cons i l=>
   exfalso
   have:i∈Region.ready md ops.toArray listed:=by rw[hr]; simp
   obtain⟨h1,o,h2,_⟩:=mem_ready.1 this
   have hlt:i<ops.length:=by simpa using (Array.getElem?_eq_some_iff.1 h2).1
   have:=hall i hlt
   have hl:i<listed.size:=by rw[hm.size]; exact hlt
   simp[hl] at h1 this
   rw[h1] at this; cases this
 |succ fuel ih=>
  intro listed E1 a m1 fb hx1 hm1 hcnt
  refine⟨fun hr=>fin listed E1 a m1 fb hx1 hm1 (full listed E1 a m1 fb hm1 hr),fun j hj=>?_⟩;obtain⟨hnl,o,ho',hafter⟩:=mem_ready.1 hj
  have ho:ops[j]?=some o:=by simpa using ho'
  have hjlt:j<ops.length:=(q1.1 ho).1
  have hjl:j<listed.size:=by rw[hm1.size]; exact hjlt
  have hjf:listed.getD j false=false:=by simpa [hjl] using hnl
  -- the listed ones and j
  have hclosed':Closed ops fun i=>listed.getD i false=true∨i=j:=by
   intro k p hk hx e he ha
   rcases hx with hx|hx
   · exact .inl (hm1.closed k p hk hx e he ha)
   subst hx
   rw[ho] at hk; cases hk
   exact .inl (hafter e he (vaI ha md))
  have before:∀ i,i∈(anc ops).getD j []→listed.getD i false=true:=by
   intro i hi
   rcases anc_spec hi hclosed' (.inr rfl) with h|h
   · exact h
   exact absurd (anc_lt hback hjlt hi) (by omega)
  have behind:∀ i,i<ops.length→j∈(anc ops).getD i []→listed.getD i false=false:=by
   intro i hil hi
   cases hc:listed.getD i false with
   |false=>rfl
   |true=>
    have:=anc_spec hi hm1.closed hc
    rw[hjf] at this; cases this
  have hclosed2:Closed ops fun i=>(listed.setIfInBounds j true).getD i false=true:=by
   intro k p hk hl e he ha
   simp only[wd hjl,qS,decide_eq_true_eq] at hl ⊢;refine .inl ?_
   rcases hl with hl|hl
   · exact hm1.closed k p hk hl e he ha
   subst hl
   rw[ho] at hk; cases hk
   exact hafter e he (vaI ha md)
  have hcnt2:ops.length≤cnt (fun i=>(listed.setIfInBounds j true).getD i false) ops.length+fuel:=by
   have:=cnt_add (p:=fun i=>listed.getD i false) (q:=fun i=>(listed.setIfInBounds j true).getD i false) hjlt (fun i hi=>by simp[wd hjl,hi]) hjf (by simp[wd hjl])
   omega
  -- effects at m and behind it that are listed are cells
  have soft:∀ i,m1≤i→eff i=true→listed.getD i false=true→flt i=true:=by
   intro i h1 he hl
   cases hf:flt i with
   |true=>rfl
   |false=>have:=hm1.none i h1 (by simp[hard,he,hf]); rw[hl] at this; cases this
  -- a hard effect that is listed is ahead of m
  have hardlt:∀ i,hard eff flt i=true→listed.getD i false=true→i<m1:=by
   intro i h1 hl
   rcases u4 i m1 with h|h
   · exact h
   rw[hm1.none i h h1] at hl; cases hl
  have mlej:eff j=true→m1≤j:=by
   intro he
   rcases u4 j m1 with h|h
   · rw[hm1.done j h he] at hjf; cases hjf
   exact h
  -- the frame that it YV at
  have look:∀ E m,Mid (n:=n) (ops:=ops) (eff:=eff) (flt:=flt) F r S E0.w.heap.size E listed a m fb→m1≤m→(hard eff flt j=true→m=j)→FR E n (only (YV ops o) (F j)) a:=by
   intro E m hm hmm hmj
   refine⟨hm.tsize,hm.defers,fun t=>?_⟩
   by_cases ht:t∈YV ops o
   · rw[vaV ht]
     by_cases hw:∃ (i:Nat) (p:Oper),ops[i]?=some p∧p.dst=some t
     · obtain⟨i,p,hi,hp⟩:=hw;have hilt:i<ops.length:=(q1.1 hi).1
       have huniq:∀ (k:Nat) (q:Oper),ops[k]?=some q→k≠i→q.dst≠some t:=fun k q hk hki=>vat hchk hk hi (Ne.symm hki) hp
       obtain⟨hij,h|⟨h,h'⟩⟩:=chk_look hchk ho hi hp ht
       · have hlt:=anc_lt hback hilt h
         rw[vby F r hF t j (by omega) fun k q hk hq hqt=>by
          by_cases e:k=i
          · omega
          exact huniq k q hq e hqt]
         refine hm.old t fun k q hq hl hqt=>?_
         by_cases e:k=i
         · subst e
           rw[behind k hilt h] at hl; cases hl
         exact huniq k q hq e hqt
       have hlt:=anc_lt hback hjlt h;rw[frame_new F r hF hi hp huniq j (by omega) hlt];refine hm.new t i p hi (before i h) (fun hh=>?_) hp
       rcases h' with h'|h'|⟨q,h1,h2,h3⟩
       · rw[h'] at hh; cases hh.1
       · have:=hmj h'; omega
       have:=hardlt q h3 (before q h1); omega
     have hno:∀ (i:Nat) (q:Oper),ops[i]?=some q→q.dst≠some t:=fun i q hi hq=>hw ⟨i,q,hi,hq⟩
     rw[vby F r hF t j (by omega) fun i q _ hi=>hno i q hi]
     exact hm.old t fun k q hk _=>hno k q hk
   simp only[only,ht,if_false]; exact .u _
  -- one step of an operation that has its fact
  have step:∀ (E:Env) (m m':Nat) (s':Store),Yc k0 E0 E→Mid (n:=n) (ops:=ops) (eff:=eff) (flt:=flt) F r S E0.w.heap.size E listed a m fb→FR E n (only (YV ops o) (F j)) a→flt j=false→SF P n ops o (F j) (S (cnt eff m)) (r j) s'→s'=S (cnt eff m')→m≤m'→m'≤ops.length→
   (∀ i,i<m'→eff i=true→i<m∨i=j)→(∀ i,m'≤i→hard eff flt i=true→i≠j)→
   wpOp P ops.toArray (post n k0 Q E0) j (wpAny P md ops.toArray (post n k0 Q E0) fuel (listed.setIfInBounds j true)) a E.w:=by
   intro E m m' s' hx hm hlook hfj hsf hs' hmm hm' hdone hnone
   have:=hsf E a hm.store hlook (wpAny P md ops.toArray (post n k0 Q E0) fuel (listed.setIfInBounds j true)) (post n k0 Q E0) fun E' cv h1 h2 h3=>by
    refine ih _ E' _ m' fb (hx.trans (h3.mono hx.n)) { size:=by simpa using hm.size,closed:=hclosed2,mle:=hm',done:=fun i hi he=>?_,none:=fun i hi he=>?_,store:=by rw[← hs']; exact h1,tsize:=by cases o.dst<;>simp[Act.put,hm.tsize],defers:=by cases o.dst<;>simp[Act.put,hm.defers],new:=?_,fl:=?_,fne:=?_,old:=?_ } hcnt2
    · simp only[wd hjl,qS,decide_eq_true_eq]
      rcases hdone i hi he with h|h
      · exact .inl (hm.done i h he)
      exact .inr h
    · simp only[wd hjl,Bool.or_eq_false_iff,decide_eq_false_iff_not];exact⟨hm.none i (by omega) he,hnone i hi he⟩
    · intro t k p hk hl hnf hp
      simp only[wd hjl,qS,decide_eq_true_eq] at hl
      by_cases e:k=j
      · subst e
        rw[ho] at hk; cases hk
        have htn:=hd o (List.mem_of_getElem? ho) t hp
        have:(a.put o.dst cv).tmps.getD t undef=cv:=by rw[hp]; simp[Act.put,hm.tsize,htn]
        rw[this]; exact h2
      have hne:o.dst≠some t:=vat hchk ho hk e hp
      have:(a.put o.dst cv).tmps.getD t undef=a.tmps.getD t undef:=by
       cases hdst:o.dst with
       |none=>rfl
       |some d=>
        have:d≠t:=fun h=>hne (by rw[hdst,h])
        simp[Act.put,uU this]
      rw[this];refine (hm.new t k p hk (hl.resolve_right e) (fun hh=>?_) hp).ext h3;have hke:=chk_flt hchk hk hh.1
      have:¬ m'≤k:=fun h=>hnf ⟨hh.1,h⟩
      rcases hdone k (by omega) hke with h|h
      · omega
      exact e h
    · intro k p hk hl hf hmk
      have hkj:k≠j:=by intro e; rw[e,hfj] at hf; cases hf
      simp only[wd hjl,qS,decide_eq_true_eq,hkj,or_false] at hl;obtain⟨cs,v,e1,e2,e3,e4⟩:=hm.fl k p hk hl hf (by omega);refine⟨cs,v,e1,e2,e3.ext h3,fun t ht=>?_⟩;have hne:o.dst≠some t:=vat hchk ho hk hkj ht
      have:(a.put o.dst cv).tmps.getD t undef=a.tmps.getD t undef:=by
       cases hdst:o.dst with
       |none=>rfl
       |some d=>
        have:d≠t:=fun h=>hne (by rw[hdst,h])
        simp[Act.put,uU this]
      rw[this]; exact e4 t ht
    · intro i k g1 g2 g3 g4 g5 g6 hik
      have hij:i≠j:=by intro e; rw[e,hfj] at g2; cases g2
      have hkj:k≠j:=by intro e; rw[e,hfj] at g5; cases g5
      simp only[wd hjl,qS,decide_eq_true_eq,hij,hkj,or_false] at g1 g4;exact hm.fne i k g1 g2 (by omega) g4 g5 (by omega) hik
    intro t hno
    have hot:o.dst≠some t:=hno j o ho (by simp[wd hjl])
    have:(a.put o.dst cv).tmps.getD t undef=a.tmps.getD t undef:=by
     cases hdst:o.dst with
     |none=>rfl
     |some d=>
      have:d≠t:=fun h=>hot (by rw[hdst,h])
      simp[Act.put,uU this]
    rw[this];exact (hm.old t fun k p hk hl=>hno k p hk (by simp[wd hjl,hl])).ext h3
   unfold wpOp;simp only[ho'];exact this
  cases hh:hard eff flt j with
  |true=>
   have he:eff j=true:=by simp only[hard,qo] at hh; exact hh.1
   have hfj:flt j=false:=by simp only[hard,qo,uD] at hh; exact hh.2
   have hmj:=mlej he
   obtain⟨E,hw,hm,hx⟩:=Mid.advance F r S hchk (show j≤ops.length by omega) (j-m1) m1 E1 (by omega) hm1 hx1 fun i h1 h2 hei=>by
    obtain⟨q,hq⟩:∃ q,ops[i]?=some q:=⟨_,qV (by omega)⟩
    have hl:=before i (chk_hard hchk ho hq hei hh h2);exact⟨hl,soft i h1 hei hl⟩
   rw[← hw]
   have hcj:cnt eff (j+1)=cnt eff j+1:=by simp[cnt,he]
   exact step E j (j+1) _ hx hm (look E j hm hmj fun _=>rfl) hfj (heff j o ho hh) (by rw[hcj]) (by omega) (by omega) (fun i hi _=>by omega) (fun i hi _=>by omega)
  |false=>
  cases hf:flt j with
  |true=>
   obtain⟨hg,e,hop,hal⟩:=hflt j o ho hf;have he:=chk_flt hchk ho hf;have hmj:=mlej he;obtain⟨cs,w',v,g1,g2,g3,g4,g5,g6⟩:=run_float (P:=P) hT hm1.store hal;obtain⟨hS',hx'⟩:=hm1.store.grew g4
   have hput:∀ t,(a.put o.dst v).tmps.getD t undef=if o.dst=some t then v else a.tmps.getD t undef:=by
    intro t
    split
    · rename_i hp
      have htn:=hd o (List.mem_of_getElem? ho) t hp
      rw[hp]; simp[Act.put,hm1.tsize,htn]
    rename_i hne
    cases hdst:o.dst with
    |none=>rfl
    |some d=>
     have:d≠t:=fun h=>hne (by rw[hdst,h])
     simp[Act.put,uU this]
   have key:wpAny P md ops.toArray (post n k0 Q E0) fuel (listed.setIfInBounds j true) (a.put o.dst v) w':=by
    refine ih _ { E1 with w:=w' } _ m1 (fun i=>if i=j then E1.w.heap.size else fb i) (hx1.trans (hx'.mono hx1.n)) { size:=by simpa using hm1.size,closed:=hclosed2,mle:=hm1.mle,done:=fun i hi he'=>?_,none:=fun i hi he'=>?_,store:=hS',tsize:=by cases o.dst<;>simp[Act.put,hm1.tsize],defers:=by cases o.dst<;>simp[Act.put,hm1.defers],new:=?_,fl:=?_,fne:=?_,old:=?_ } hcnt2
    · simp only[wd hjl,qS,decide_eq_true_eq];exact .inl (hm1.done i hi he')
    · simp only[wd hjl,Bool.or_eq_false_iff,decide_eq_false_iff_not];exact⟨hm1.none i hi he',by rintro rfl; rw[hh] at he'; cases he'⟩
    · intro t k p hk hl hnf hp
      simp only[wd hjl,qS,decide_eq_true_eq] at hl
      have hkj:k≠j:=by rintro rfl; exact hnf ⟨hf,hmj⟩
      rw[hput,if_neg (vat hchk ho hk hkj hp)];exact (hm1.new t k p hk (hl.resolve_right hkj) hnf hp).ext hx'
    · intro k p hk hl hfk hmk
      simp only[wd hjl,qS,decide_eq_true_eq] at hl
      by_cases e:k=j
      · subst e
        rw[ho] at hk; cases hk
        exact⟨cs,v,g2,g1,by simp only[if_true]; exact { g6 with lo:=hx1.size },fun t ht=>by rw[hput,if_pos ht]⟩
      obtain⟨cs',v',e1,e2,e3,e4⟩:=hm1.fl k p hk (hl.resolve_right e) hfk hmk;exact⟨cs',v',e1,e2,by simp only[e,if_false]; exact e3.ext hx',fun t ht=>by rw[hput,if_neg (vat hchk ho hk e ht)]; exact e4 t ht⟩
    · intro i k h1 h2 h3 h4 h5 h6 hik
      simp only[wd hjl,qS,decide_eq_true_eq] at h1 h4
      have lt:∀ q,q≠j→listed.getD q false=true→flt q=true→m1≤q→fb q<E1.w.heap.size:=by
       intro q hq hl hfq hmq
       have hql:q<ops.length:=by
        rcases u4 q ops.length with h|h
        · exact h
        rw[show listed.getD q false=false by simp[show ¬ q<listed.size by have:=hm1.size; omega]] at hl; cases hl
       obtain⟨p,hp⟩:∃ p,ops[q]?=some p:=⟨_,qV hql⟩
       obtain⟨_,_,_,_,e3,_⟩:=hm1.fl q p hp hl hfq hmq;exact e3.hi
      by_cases ei:i=j
      · have ek:k≠j:=by rintro rfl; exact hik ei
        have:=lt k ek (h4.resolve_right ek) h5 h6
        simp only[ei,ek,if_true,if_false]; omega
      by_cases ek:k=j
      · have:=lt i ei (h1.resolve_right ei) h2 h3
        simp only[ei,ek,if_true,if_false]; omega
      simp only[ei,ek,if_false];exact hm1.fne i k (h1.resolve_right ei) h2 h3 (h4.resolve_right ek) h5 h6 hik
    intro t hno
    have hot:o.dst≠some t:=hno j o ho (by simp[wd hjl]);rw[hput,if_neg hot];exact (hm1.old t fun k p hk hl=>hno k p hk (by simp[wd hjl,hl])).ext hx'
   have hwant:Region.wanted o (yielded ops.toArray a.tmps)=true:=by simp[Region.wanted,hg]
   unfold wpOp;simp only[ho'];rw[if_pos hwant];refine .inl ?_;unfold Oper.wp
   have hrun:(execOp a.eval o).run P E1.w=.ok (.value v) w':=by
    obtain⟨dst,op,ty,pos,after,guard⟩:=o;simp only at hop;subst hop;simp only[execOp,qs,g3,qj,qP]
   rw[hrun];exact key
  |false=>
   have he:eff j=false:=by simpa [hard,hf] using hh
   refine step E1 m1 m1 _ hx1 hm1 (look E1 m1 hm1 (qu _) fun h=>by rw[hh] at h; cases h) hf (hpure j o ho he _ ?_ ?_) rfl (qu _) hm1.mle (fun i hi _=>.inl hi) (fun i hi h1 h2=>by subst h2; rw[hh] at h1; cases h1)
   · exact va5 eff hm1.mle
   simp only[meets]
   refine ub.2 fun i hi=>?_
   have hil:i<ops.length:=by simpa using hi
   cases hei:eff i with
   |false=>simp
   |true=>
    simp only[qK,uL,qo,qS,uD,List.contains_eq_mem,decide_eq_false_iff_not,decide_eq_true_eq]
    constructor
    · by_cases h:i∈(anc ops).getD j []
      · cases hfi:flt i with
        |true=>exact .inl (.inl rfl)
        |false=>exact .inr (cnt_lt eff (hardlt i (by simp[hard,hei,hfi]) (before i h)) hei)
      exact .inl (.inr h)
    by_cases h:j∈(anc ops).getD i []
    · refine .inr (va5 eff ?_)
      rcases u4 i m1 with h1|h1
      · have:=hm1.done i h1 hei
        rw[behind i hil h] at this; cases this
      exact h1
    exact .inl h
theorem awp_drawn {T:TT}(hT:TOK P T){id:Nat}(hchk:Yy ops eff flt=true)(hF:∀ j o,ops[j]?=some o→F (j+1)=Yd (F j) o.dst (r j))(hd:∀ o∈ops,∀ t,o.dst=some t→t<n)
 (heff:∀ j o,ops[j]?=some o→hard eff flt j=true→SF P n ops o (F j) (S (cnt eff j)) (r j) (S (cnt eff j+1)))
 (hflt:∀ j o,ops[j]?=some o→flt j=true→o.guard=none∧∃ e,o.op=.alloc e∧YP T e (S (cnt eff j))=some (r j,S (cnt eff j+1)))
 (hpure:∀ j o,ops[j]?=some o→eff j=false→∀ k,k≤cnt eff ops.length→meets ops eff flt j k=true→SF P n ops o (F j) (S k) (r j) (S k))
 (hQ:Q .normal (F ops.length) (S (cnt eff ops.length))):awp P n k0 (.region id ops.toArray true) Q (F 0) (S 0):=by
 intro E a hk0 hS hF0
 refine wp_region_draw fun t=>?_
 obtain⟨hS1,hx1⟩:=hS.grew (ZW.drew E.w)
 have hfalse:∀ i,(Array.replicate ops.toArray.size false).getD i false=false:=by
  intro i; by_cases h:i<ops.length<;>simp[h]
 have mid:Mid (n:=n) (ops:=ops) (eff:=eff) (flt:=flt) F r S E.w.heap.size { E with w:=E.w.drew } (Array.replicate ops.toArray.size false) a 0 (fun _=>0):=
  { size:=by simp
    closed:=fun j o _ h=>by simp only[hfalse] at h; cases h
    mle:=ur _
    done:=fun i h=>by omega
    none:=fun i _ _=>hfalse i
    store:=hS1
    tsize:=hF0.size
    defers:=hF0.defers
    new:=fun t j o _ h=>by simp only[hfalse] at h; cases h
    fl:=fun j o _ h=>by simp only[hfalse] at h; cases h
    fne:=fun i j h=>by simp only[hfalse] at h; cases h
    old:=fun t _=>(hF0.tmps t).ext hx1 }
 have lin:∀ md t,wpOps P ops.toArray (post n k0 Q E) (Region.linearise md ops.toArray t) a E.w.drew:=fun md t=>
  wpAny_sound ops.toArray.size t _ a _ (wpAny_mid F r S hT hchk hF hd heff hflt hpure hQ E ops.toArray.size _ { E with w:=E.w.drew } a 0 _ (hx1.mono hk0) mid (by simp))
 unfold Region.schedule
 split
 · exact lin _ _
 exact lin _ _
end
end AM
end
section
namespace AM
open Go.RowKit
def memFree (o:Op):Bool:=
 match o with
 |.move _|.assign _|.pick ..|.build ..|.nilCheck _|.binOp ..|.unOp ..|.makeInterface ..|.makeFunc ..|.slice ..|.fieldAddr ..|.field ..|.indexAddr ..|.index ..|.typeAssert ..|.extract ..=>true
 |_=>false
theorem memFree_any {T:TT}{o:Op}{ρ:Operand→AV}{σ σ':Store}{r:AV}(h:var T o ρ σ=some (r,σ'))(hm:memFree o=true)(τ:Store):var T o ρ τ=some (r,τ):=by
 have key:∀ x:Option AV,ZC σ x=some (r,σ')→ZC τ x=some (r,τ):=by
  intro x hx; rw[(xd hx).1]; rfl
 cases o<;>simp only[memFree,qZ] at hm<;>simp only[var,Option.some.injEq,Prod.mk.injEq] at h ⊢
 all_goals first
  |exact key _ h
  |exact⟨h.1,trivial⟩
inductive EK where
 |eff
 |flt
 |any
 |own (m:Nat) (x:List Nat)
 |at (bs:List Nat)
def stabs (T:TT)(o:Op)(ρ:Operand→AV)(r:AV)(Ss:List Store):List Nat→Prop
 |[]=>True
 |b::bs=>(∃ τ,Ss[b]?=some τ∧var T o ρ τ=some (r,τ))∧stabs T o ρ r Ss bs
def refs : AV→List Nat
 |.op a _ _=>[a]
 |.os _ _ a _ _ _ _=>[a]
 |.mp a=>[a]
 |_=>[]
def XM (o:Op)(ρ:Operand→AV):Option (List Nat):=
 match o with
 |.load _ a=>some (refs (ρ a))
 |.lookup _ m _ _=>some (refs (ρ m))
 |.convert _ _ x=>some (refs (ρ x))
 |.call { callee:=.builtin .len,args:=args,.. }=>some ((args.toList.map ρ).flatMap refs)
 |_=>none
def hasN : List Nat→Nat→Bool
 |[],_=>false
 |b::l,a=>bif decide (a=b) then true else hasN l a
def ownA (N:Nat)(ex:List Nat):List Nat→Prop
 |[]=>True
 |a::l=>(a<N∧hasN ex a=false)∧ownA N ex l
def ownL (N:Nat)(ex:List Nat):Option (List Nat)→Prop
 |none=>False
 |some l=>ownA N ex l
theorem ownA_spec {N:Nat}{ex:List Nat}:∀ {l:List Nat},ownA N ex l→∀ id∈l,id<N∧hasN ex id=false:=by
 intro l
 induction l with
 |nil=>intro _ id h; cases h
 |cons a l ih=>
  intro h id hid
  have h':(a<N∧hasN ex a=false)∧ownA N ex l:=h
  rcases qJ.1 hid with rfl|hid
  · exact h'.1
  exact ih h'.2 id hid
theorem ownL_spec {N:Nat}{ex:List Nat}{x:Option (List Nat)}(h:ownL N ex x):∃ l,x=some l∧∀ id∈l,id<N∧hasN ex id=false:=by
 cases x with
 |none=>exact False.elim h
 |some l=>exact⟨l,rfl,ownA_spec h⟩
def agr (ex:List Nat):Nat→Store→Store→Store→Prop
 |_,[],_,_=>True
 |i,_::z,a::s,b::s'=>(hasN ex i=true∨b=a)∧agr ex (i+1) z s s'
 |_,_::_,_,_=>False
def Agr (ex:List Nat)(N:Nat)(σ σ':Store):Prop:=∀ id,id<N→hasN ex id=false→σ'[id]?=σ[id]?
theorem agr_spec {ex:List Nat}:∀ {z s s':Store} {i:Nat},agr ex i z s s'→∀ id,id<z.length→hasN ex (i+id)=false→s'[id]?=s[id]?:=by
 intro z
 induction z with
 |nil=>intro s s' i _ id h; simp at h
 |cons o z ih=>
  intro s s' i h id hid hx
  cases s with
  |nil=>simp[agr] at h
  |cons a s=>
  cases s' with
  |nil=>simp[agr] at h
  |cons b s'=>
  cases id with
  |zero=>
   rcases h.1 with h1|h1
   · rw[uY] at hx; rw[hx] at h1; cases h1
   simp[h1]
  |succ id=>
   simp only[uF];exact ih h.2 id (by simpa using hid) (by rw[← hx]; congr 1; omega)
theorem agr_Agr {ex:List Nat}{z s s':Store}(h:agr ex 0 z s s'):Agr ex z.length s s':=fun id h1 h2=>agr_spec h id h1 (by rw[qt]; exact h2)
def agrs (k:Nat)(z s s':Store):List (Nat×List Nat)→Prop
 |[]=>True
 |(m,x)::l=>(if k≤m then agr x 0 z s s' else True)∧agrs k z s s' l
def Agrs (ex:List (Nat×List Nat))(k N:Nat)(s s':Store):Prop:=∀ m x,(m,x)∈ex→k≤m→Agr x N s s'
theorem ZN {k:Nat}{z s s':Store}:∀ {ex:List (Nat×List Nat)},agrs k z s s' ex→Agrs ex k z.length s s':=by
 intro ex
 induction ex with
 |nil=>intro _ m x h; cases h
 |cons p ex ih=>
  intro h m x hm hk
  obtain⟨q,y⟩:=p
  rcases qJ.1 hm with e|hm
  · cases e;have:=h.1;rw[if_pos hk] at this;exact agr_Agr this
  exact ih h.2 m x hm hk
def inEx : List (Nat×List Nat)→Nat→List Nat→Bool
 |[],_,_=>false
 |(m,x)::l,q,y=>(m==q&&x==y)||inEx l q y
theorem inEx_mem : ∀ {ex:List (Nat×List Nat)} {q:Nat} {y:List Nat},inEx ex q y=true→(q,y)∈ex:=by
 intro ex
 induction ex with
 |nil=>intro q y h; cases h
 |cons p ex ih=>
  intro q y h
  obtain⟨m,x⟩:=p;simp only[inEx,qS,qo,beq_iff_eq] at h
  rcases h with ⟨rfl,rfl⟩|h
  · exact qr ..
  exact qq _ (ih h)
theorem Store.at_eq {σ τ:Store}{id ver:Nat}(h:τ[id]?=σ[id]?):Store.at τ id ver=Store.at σ id ver:=by unfold Store.at; rw[h]
theorem Store.mapAt_eq {σ τ:Store}{id:Nat}(h:τ[id]?=σ[id]?):Store.mapAt τ id=Store.mapAt σ id:=by unfold Store.mapAt; rw[h]
theorem vbi {σ τ:Store}{n:Nat}{x:AV}(ha:∀ id∈refs x,τ[id]?=σ[id]?):ya τ n x=ya σ n x:=by
 cases x<;>try rfl
 simp only[ya,Store.at_eq (ha _ (uq.2 rfl))]
theorem evLoad_own {T:TT}{t:TypeId}{x:AV}{σ τ:Store}(ha:∀ id∈refs x,τ[id]?=σ[id]?):wY T t x τ=wY T t x σ:=by
 unfold wY
 cases T t with
 |none=>rfl
 |some i=>
  cases x<;>try rfl
  simp only[Store.at_eq (ha _ (uq.2 rfl))]
theorem evLen_own {T:TT}{t:TypeId}{x:AV}{σ τ:Store}(ha:∀ id∈refs x,τ[id]?=σ[id]?):vaN T t x τ=vaN T t x σ:=by
 unfold vaN
 cases T t with
 |none=>rfl
 |some i=>
  simp only
  cases i.desc<;>cases x<;>try rfl
  simp only[ha _ (uq.2 rfl)]
theorem evLookup_own {T:TT}{t:TypeId}{x k:AV}{ok:Bool}{σ τ:Store}(ha:∀ id∈refs x,τ[id]?=σ[id]?):ZS T t x k ok τ=ZS T t x k ok σ:=by
 unfold ZS
 cases x<;>try rfl
 simp only[Store.mapAt_eq (ha _ (uq.2 rfl))]
theorem evConv_own {T:TT}{s d:TypeId}{x:AV}{σ τ:Store}{r:AV}(h:ZT T s d x σ=some (r,σ))(ha:∀ id∈refs x,τ[id]?=σ[id]?):ZT T s d x τ=some (r,τ):=by
 unfold ZT at h ⊢
 cases h1:T s with
 |none=>simp only[h1] at h; cases h
 |some i=>
 cases h2:T d with
 |none=>simp only[h1,h2] at h; cases h
 |some k=>
 simp only[h1,h2] at h ⊢
 split at h
 · cases h; rfl
 · cases h; rfl
 · split at h
   · split at h
     · split at h
       · simp only[Option.some.injEq,Prod.mk.injEq,List.append_right_eq_self] at h;cases h.2
       cases h
     cases h
   cases h
 · rename_i nl cells len t hk
   split at h
   · rename_i e he
     split at h
     · rename_i j hj
       split at h
       · rename_i q cs hd hs
         have hs':ya τ 1 (.ds nl cells len t)=some (q,cs):=(vbi ha).trans hs;simp only[he,hj,hd,hs']
         cases hu:unbs cs with
         |none=>rw[hu] at h; cases h
         |some l=>rw[hu] at h; simp only[uB,Option.some.injEq,Prod.mk.injEq] at h ⊢; exact⟨h.1,trivial⟩
       cases h
     cases h
   cases h
 · rename_i nl sz id ver off len t hk
   split at h
   · rename_i e he
     split at h
     · rename_i j hj
       split at h
       · rename_i q cs hd hs
         have hs':ya τ 1 (.os nl sz id ver off len t)=some (q,cs):=(vbi ha).trans hs;simp only[he,hj,hd,hs']
         cases hu:unbs cs with
         |none=>rw[hu] at h; cases h
         |some l=>rw[hu] at h; simp only[uB,Option.some.injEq,Prod.mk.injEq] at h ⊢; exact⟨h.1,trivial⟩
       cases h
     cases h
   cases h
 · rename_i e nl sz id ver off len t hk
   split at h
   · rename_i e' he
     split at h
     · rename_i hsd
       rw[if_pos hsd]
       split at h
       · rename_i j hj
         split at h
         · rename_i cs hd hs
           have hs':Store.at τ id ver=some cs:=(Store.at_eq (ha _ (by simp[refs]))).trans hs;simp only[he,hj,hd,hs']
           split at h
           · rename_i hq
             rw[if_pos hq];simp only[Option.some.injEq,Prod.mk.injEq] at h ⊢;exact⟨h.1,trivial⟩
           cases h
         cases h
       cases h
     cases h
   cases h
 cases h
theorem evOp_own {T:TT}{o:Op}{ρ:Operand→AV}{σ τ:Store}{r:AV}{l:List Nat}(hl:XM o ρ=some l)(h:var T o ρ σ=some (r,σ))(ha:∀ id∈l,τ[id]?=σ[id]?):var T o ρ τ=some (r,τ):=by
 have key:∀ x y:Option AV,y=x→ZC σ x=some (r,σ)→ZC τ y=some (r,τ):=by
  rintro x _ rfl hx; rw[(xd hx).1]; rfl
 unfold XM at hl
 split at hl
 · rename_i t a
   cases hl;simp only[var] at h ⊢
   split
   · rename_i hs
     rw[if_pos hs] at h;exact key _ _ (evLoad_own ha) h
   rename_i hs; rw[if_neg hs] at h; cases h
 · rename_i t m k ok
   cases hl;simp only[var] at h ⊢;exact key _ _ (evLookup_own ha) h
 · rename_i s d x
   cases hl;simp only[var] at h ⊢;exact evConv_own h ha
 · rename_i args ats
   cases hl;simp only[var] at h ⊢;unfold Xe at h ⊢
   revert ha h
   generalize args.toList.map ρ=l
   generalize ats.toList=m
   intro h ha
   match m,l with
   |[t],[x]=>
    exact key _ _ (evLen_own fun id hid=>ha id (by simpa using hid)) h
   |[],_=>cases h
   |_::_::_,_=>cases h
   |[_],[]=>cases h
   |[_],_::_::_=>cases h
 cases hl
def isAlloc (o:Oper):Bool:=
 match o.op,o.guard with
 |.alloc _,none=>true
 |_,_=>false
theorem isAlloc_spec {o:Oper}(h:isAlloc o=true):o.guard=none∧∃ e,o.op=.alloc e:=by
 unfold isAlloc at h
 split at h
 · rename_i e h1 h2; exact⟨h2,e,h1⟩
 cases h
def evD (T:TT)(n:Nat)(ops:Array Oper)(z:Store)(ex:List (Nat×List Nat)):List Oper→List EK→Fr→List Store→List AV→Prop→Option (List Oper×List EK×Fr×List Store×List AV×Prop)
 |[],es,F,Ss,rs,C=>some ([],es,F,Ss,rs,C)
 |o::l,e::es,F,σ::Ss,rs,C=>
  match wX ops F o with
  |some true=>bif isCall o then some (o::l,e::es,F,σ::Ss,rs,C) else
   bif dstOk n o.dst then
    match var T o.op (ev F) σ with
    |some (r,σ')=>match e with
     |.eff=>evD T n ops z ex l es (Yd F o.dst r) (σ'::σ::Ss) (r::rs) (C∧agrs (Ss.length+1) z σ σ' ex)
     |.flt=>bif isAlloc o then evD T n ops z ex l es (Yd F o.dst r) (σ'::σ::Ss) (r::rs) (C∧agrs (Ss.length+1) z σ σ' ex) else none
     |.own _ x=>evD T n ops z ex l es (Yd F o.dst r) (σ::Ss) (r::rs) (C∧σ'=σ∧ownL z.length x (XM o.op (ev F)))
     |.any=>bif memFree o.op then evD T n ops z ex l es (Yd F o.dst r) (σ::Ss) (r::rs) C else evD T n ops z ex l es (Yd F o.dst r) (σ::Ss) (r::rs) (C∧∀ τ,var T o.op (ev F) τ=some (r,τ))
     |.at bs=>evD T n ops z ex l es (Yd F o.dst r) (σ::Ss) (r::rs) (C∧σ'=σ∧stabs T o.op (ev F) r (σ::Ss) bs)
    |none=>none
   else none
  |some false=>bif dstOk n o.dst then
   match e with
   |.eff=>evD T n ops z ex l es (Yd F o.dst .u) (σ::σ::Ss) (.u::rs) C
   |.flt=>none
   |_=>evD T n ops z ex l es (Yd F o.dst .u) (σ::Ss) (.u::rs) C
   else none
  |none=>none
 |_::_,_,_,_,_,_=>none
def foldU : List Oper→List AV→Fr→Fr
 |o::l,r::rs,F=>foldU l rs (Yd F o.dst r)
 |_,_,F=>F
def kOf (es:List EK)(i:Nat):EK:=es.getD i .any
def isE (es:List EK)(i:Nat):Bool:=
 match kOf es i with
 |.eff=>true
 |.flt=>true
 |_=>false
def isF (es:List EK)(i:Nat):Bool:=
 match kOf es i with
 |.flt=>true
 |_=>false
def EffFact (P:Program)(n:Nat)(T:TT)(ops:List Oper)(es:List EK)(i:Nat)(o:Oper)(F:Fr)(σ:Store)(r:AV)(σ':Store):Prop:=
 (isF es i=false∧SF P n ops o F σ r σ')∨(isF es i=true∧o.guard=none∧∃ e,o.op=.alloc e∧YP T e σ=some (r,σ'))
def chkD (ops:List Oper)(es:List EK)(ex:List (Nat×List Nat)):Bool:=
 Yy ops (isE es) (isF es)&&(uy ops.length).all fun j=>match kOf es j with
  |.at bs=>(uy (cnt (isE es) ops.length+1)).all fun k => !meets ops (isE es) (isF es) j k||k==cnt (isE es) j||bs.any fun b=>k+b==cnt (isE es) j
  |.own m x=>inEx ex m x&&Nat.ble (cnt (isE es) j) m&&(uy (cnt (isE es) ops.length+1)).all fun k => !meets ops (isE es) (isF es) j k||Nat.ble k m
  |_=>true
section
variable {P:Program} {n k0:Nat} {Q:Exit→Fr→Store→Prop}
def PureFact (T:TT)(z:Store)(ex:List (Nat×List Nat))(ops:List Oper)(es:List EK)(i:Nat)(o:Oper)(F:Fr)(r:AV)(S:Nat→Store):Prop:=
 (wX ops.toArray F o=some false∧r=.u) ∨
 (wX ops.toArray F o=some true∧match kOf es i with
  |.at bs=>∀ k,(k=cnt (isE es) i∨∃ b∈bs,k+b=cnt (isE es) i)→var T o.op (ev F) (S k)=some (r,S k)
  |.own m x=>(m,x)∈ex→cnt (isE es) i≤m→∃ l,XM o.op (ev F)=some l∧(∀ id∈l,id<z.length∧hasN x id=false)∧var T o.op (ev F) z=some (r,z)
  |_=>∀ τ,var T o.op (ev F) τ=some (r,τ))
theorem PureFact.congr {T:TT}{z:Store}{ex:List (Nat×List Nat)}{ops:List Oper}{es:List EK}{i:Nat}{o:Oper}{F:Fr}{r:AV}{S S':Nat→Store}(h:PureFact T z ex ops es i o F r S)(hS:∀ k,k≤cnt (isE es) i→S' k=S k):PureFact T z ex ops es i o F r S':=by
 rcases h with h|⟨h1,h2⟩
 · exact .inl h
 refine .inr ⟨h1,?_⟩
 generalize kOf es i=q at h2
 cases q with
 |eff=>exact h2
 |flt=>exact h2
 |any=>exact h2
 |own m x=>exact h2
 | «at» bs=>
  intro k hk
  rw[hS k (by rcases hk with h|⟨b,_,h⟩<;>omega)];exact h2 k hk
def stk (Ss:List Store)(k:Nat):Store:=Ss.reverse.getD k []
theorem stk_cons {Ss:List Store}{σ:Store}{k:Nat}(h:k<Ss.length):stk (σ::Ss) k=stk Ss k:=by
 unfold stk;rw[List.reverse_cons,qv,qT (by rw[List.length_reverse]; exact h),← qv]
theorem XA {Ss:List Store}{σ:Store}{k:Nat}(h:k=Ss.length):stk (σ::Ss) k=σ:=by
 unfold stk;rw[List.reverse_cons,qv,ua (by simp[h])]
 subst h; simp
theorem stk_back {Ss:List Store}{b k:Nat}{τ:Store}(h:Ss[b]?=some τ)(hk:k+b+1=Ss.length):stk Ss k=τ:=by
 unfold stk
 rw[qv,List.getElem?_reverse (by omega),show Ss.length-1-k=b by omega,h]; rfl
def nth (rs:List AV)(i:Nat):AV:=rs.reverse.getD i .u
theorem nth_cons {rs:List AV}{r:AV}{i:Nat}(h:i<rs.length):nth (r::rs) i=nth rs i:=by
 unfold nth;rw[List.reverse_cons,qv,qT (by rw[List.length_reverse]; exact h),← qv]
theorem nth_top {rs:List AV}{r:AV}{i:Nat}(h:i=rs.length):nth (r::rs) i=r:=by
 unfold nth;rw[List.reverse_cons,qv,ua (by simp[h])]
 subst h; simp
def frs (ops:List Oper)(rs:List AV)(F:Fr)(i:Nat):Fr:=foldU (ops.take i) (rs.reverse.take i) F
theorem va3 {ops:List Oper}{rs:List AV}{F:Fr}{r:AV}{i:Nat}(h:i≤rs.length):frs ops (r::rs) F i=frs ops rs F i:=by
 unfold frs;rw[List.reverse_cons,List.take_append_of_le_length (by simpa using h)]
theorem foldU_snoc : ∀ (l:List Oper) (rs:List AV) (F:Fr) (o:Oper) (r:AV),rs.length=l.length→foldU (l++[o]) (rs++[r]) F=Yd (foldU l rs F) o.dst r:=by
 intro l
 induction l with
 |nil=>intro rs F o r h; have:rs=[]:=qE.1 h; subst this; rfl
 |cons x l ih=>
  intro rs F o r h
  cases rs with
  |nil=>simp at h
  |cons y rs=>exact ih rs _ o r (by simpa using h)
theorem X9 {α:Type}{l:List α}{j:Nat}{x:α}(h:l[j]?=some x):l.take (j+1)=l.take j++[x]:=by
 rw[List.take_add_one,h]; rfl
theorem frs_step {ops:List Oper}{rs:List AV}{F:Fr}{o:Oper}(ho:ops[rs.length]?=some o)(r:AV):frs ops (r::rs) F (rs.length+1)=Yd (frs ops rs F rs.length) o.dst r:=by
 have hjl:rs.length<ops.length:=(q1.1 ho).1;unfold frs;have e1:(rs.reverse++[r]).take (rs.length+1)=rs.reverse++[r]:=uh (by simp);have e2:rs.reverse.take rs.length=rs.reverse:=uh (by simp);rw[X9 ho,List.reverse_cons,e1,e2];exact foldU_snoc _ _ _ _ _ (by simp; omega)
structure Past (P:Program)(n:Nat)(T:TT)(ops:List Oper)(es:List EK)(F0:Fr)(σ0:Store)(ex:List (Nat×List Nat))(j:Nat)(F:Fr)(Ss:List Store)(rs:List AV):Prop where
 len:rs.length=j
 lenS:Ss.length=cnt (isE es) j+1
 first:stk Ss 0=σ0
 frame:F=frs ops rs F0 j
 dst:∀ i o,i<j→ops[i]?=some o→dstOk n o.dst=true
 eff:∀ i o,i<j→ops[i]?=some o→isE es i=true→EffFact P n T ops es i o (frs ops rs F0 i) (stk Ss (cnt (isE es) i)) (nth rs i) (stk Ss (cnt (isE es) i+1))
 pure:∀ i o,i<j→ops[i]?=some o→isE es i=false→PureFact T σ0 ex ops es i o (frs ops rs F0 i) (nth rs i) (stk Ss)
 agree:∀ k,k<Ss.length→Agrs ex k σ0.length σ0 (stk Ss k)
theorem Past.start (T:TT)(ops:List Oper)(es:List EK)(F0:Fr)(σ0:Store)(ex:List (Nat×List Nat)):Past P n T ops es F0 σ0 ex 0 F0 [σ0] [] where
 len:=rfl
 lenS:=rfl
 first:=rfl
 frame:=rfl
 dst:=fun i o h=>by omega
 eff:=fun i o h=>by omega
 pure:=fun i o h=>by omega
 agree:=fun k h=>by
  have:k=0:=by simpa using h
  subst this; exact fun _ _ _ _ _ _ _=>rfl
theorem Past.step {T:TT}{ops:List Oper}{es:List EK}{F0:Fr}{σ0:Store}{ex:List (Nat×List Nat)}{j:Nat}{F:Fr}{σ:Store}{Ss:List Store}{rs:List AV}(h:Past P n T ops es F0 σ0 ex j F (σ::Ss) rs){o:Oper}(ho:ops[j]?=some o)(hd:dstOk n o.dst=true){r:AV}{Ss':List Store}
 (he:isE es j=true→∃ σ',Ss'=σ'::σ::Ss∧Agrs ex (Ss.length+1) σ0.length σ σ'∧EffFact P n T ops es j o F σ r σ')
 (hp:isE es j=false→Ss'=σ::Ss∧PureFact T σ0 ex ops es j o F r (stk (σ::Ss))):
 Past P n T ops es F0 σ0 ex (j+1) (Yd F o.dst r) Ss' (r::rs):=by
 have hlen:=h.len;have hlS:=h.lenS;simp only[qk] at hlS;have hcur:stk (σ::Ss) (cnt (isE es) j)=σ:=XA (by omega)
 have hS:∀ k,k≤cnt (isE es) j→stk Ss' k=stk (σ::Ss) k:=by
  intro k hk
  cases hej:isE es j with
  |true=>
   obtain⟨σ',e1,_⟩:=he hej
   rw[e1]; exact stk_cons (by simp; omega)
  |false=>rw[(hp hej).1]
 subst hlen;refine⟨rfl,?_,?_,?_,fun i p hi hpp=>?_,fun i p hi hpp hei=>?_,fun i p hi hpp hei=>?_,fun k hk=>?_⟩
 · cases hej:isE es rs.length with
   |true=>obtain⟨σ',e1,_⟩:=he hej; rw[e1]; simp only[cnt,hej,if_true,qk]; omega
   |false=>rw[(hp hej).1]; simp only[cnt,hej,qk]; simp; omega
 · rw[hS 0 (ur _)]; exact h.first
 · rw[frs_step ho,← h.frame]
 · by_cases e:i=rs.length
   · subst e; rw[ho] at hpp; cases hpp; exact hd
   exact h.dst i p (by omega) hpp
 · by_cases e:i=rs.length
   · subst e
     rw[ho] at hpp; cases hpp
     obtain⟨σ',e1,_,e2⟩:=he hei;rw[va3 (qu _),← h.frame,nth_top rfl,hS _ (qu _),hcur]
     have:stk Ss' (cnt (isE es) rs.length+1)=σ':=by
      rw[e1]; exact XA (by simp; omega)
     rw[this]; exact e2
   have h1:=h.eff i p (by omega) hpp hei
   have hc:cnt (isE es) i+1≤cnt (isE es) rs.length:=by
    have:=cnt_lt (isE es) (show i<rs.length by omega) hei; omega
   rw[va3 (by omega),nth_cons (by omega),hS _ (by omega),hS _ hc];exact h1
 · by_cases e:i=rs.length
   · subst e
     rw[ho] at hpp; cases hpp
     obtain⟨e1,e2⟩:=hp hei;rw[va3 (qu _),← h.frame,nth_top rfl];exact e2.congr hS
   have h1:=h.pure i p (by omega) hpp hei;have hc:=va5 (isE es) (show i≤rs.length by omega);rw[va3 (by omega),nth_cons (by omega)]
   exact h1.congr fun k hk=>hS k (by omega)
 cases hej:isE es rs.length with
 |true=>
  obtain⟨σ',e1,e2,_⟩:=he hej;rw[e1] at hk ⊢
  by_cases hkk:k=Ss.length+1
  · intro m x hm hle id h1 h2
    rw[XA (by simpa using hkk)];have h3:=h.agree Ss.length (by simp) m x hm (by omega) id h1 h2;rw[XA rfl] at h3;exact (e2 m x hm (by omega) id h1 h2).trans h3
  have hk':k<(σ::Ss).length:=by simp only[qk] at hk ⊢; omega
  rw[stk_cons hk']; exact h.agree k hk'
 |false=>rw[(hp hej).1] at hk ⊢; exact h.agree k hk
def DW (P:Program)(n k0:Nat)(T:TT)(id:Nat)(ops:List Oper)(es:List EK)(F0:Fr)(σ0:Store)(ex:List (Nat×List Nat))(Q:Exit→Fr→Store→Prop)(l:List Oper)(es':List EK)(F:Fr)(Ss:List Store)(rs:List AV):Prop:=
 (∃ j,ops.drop j=l∧es.drop j=es'∧Past P n T ops es F0 σ0 ex j F Ss rs)→awp P n k0 (.region id ops.toArray true) Q F0 σ0
theorem DW.start {T:TT}{id:Nat}{ops:List Oper}(es:List EK)(ex:List (Nat×List Nat)){F0:Fr}{σ0:Store}(h:DW P n k0 T id ops es F0 σ0 ex Q ops es F0 [σ0] []):awp P n k0 (.region id ops.toArray true) Q F0 σ0:=
 h ⟨0,rfl,rfl,Past.start T ops es F0 σ0 ex⟩
theorem ZK {α:Type}{l:List α}{j:Nat}{x:α}{m:List α}(h:l.drop j=x::m):l[j]?=some x∧l.drop (j+1)=m:=by
 constructor
 · have:=List.getElem?_drop (xs:=l) (i:=j) (j:=0)
   rw[h] at this; simpa using this.symm
 have:=u6 (i:=1) (j:=j) (l:=l)
 rw[h] at this; simpa using this.symm
theorem XU {es es':List EK}{j:Nat}{e:EK}(h:es.drop j=e::es'):kOf es j=e:=by
 have:=(ZK h).1
 simp[kOf,qv,this]
theorem stabs_spec {T:TT}{o:Op}{ρ:Operand→AV}{r:AV}{Ss:List Store}:∀ {bs:List Nat},stabs T o ρ r Ss bs→∀ b∈bs,∃ τ,Ss[b]?=some τ∧var T o ρ τ=some (r,τ):=by
 intro bs
 induction bs with
 |nil=>intro _ b hb; cases hb
 |cons c bs ih=>
  intro h b hb
  rcases qJ.1 hb with rfl|hb
  · exact h.1
  exact ih h.2 b hb
def RunD (x:Option (List Oper×List EK×Fr×List Store×List AV×Prop))(K:List Oper→List EK→Fr→List Store→List AV→Prop):Prop:=
 match x with
 |some (l,es,F,Ss,rs,C)=>C∧K l es F Ss rs
 |none=>False
theorem RunD_some (l:List Oper)(es:List EK)(F:Fr)(Ss:List Store)(rs:List AV)(C:Prop)(K:List Oper→List EK→Fr→List Store→List AV→Prop):RunD (some (l,es,F,Ss,rs,C)) K=(C∧K l es F Ss rs):=rfl
theorem evD_past {T:TT}(hT:TOK P T){ops:List Oper}{es:List EK}{F0:Fr}{σ0:Store}{ex:List (Nat×List Nat)}(tl:List Oper):∀ (l:List Oper) (es':List EK) (F:Fr) (Ss:List Store) (rs:List AV) (C:Prop) (l':List Oper) (es'':List EK) (F':Fr) (Ss':List Store) (rs':List AV) (C':Prop),
 evD T n ops.toArray σ0 ex l es' F Ss rs C=some (l',es'',F',Ss',rs',C')→C'→C∧((∃ j,ops.drop j=l++tl∧es.drop j=es'∧Past P n T ops es F0 σ0 ex j F Ss rs)→∃ j,ops.drop j=l'++tl∧es.drop j=es''∧Past P n T ops es F0 σ0 ex j F' Ss' rs'):=by
 intro l
 induction l with
 |nil=>intro es' F Ss rs C l' es'' F' Ss' rs' C' h hC; simp only[evD] at h; cases h; exact⟨hC,id⟩
 |cons o l ih=>
  intro es' F Ss rs C l' es'' F' Ss' rs' C' h hC
  cases es' with
  |nil=>simp[evD] at h
  |cons e es'=>
  cases Ss with
  |nil=>simp[evD] at h
  |cons σ Ss=>
  simp only[evD] at h
  have next:∀ (r:AV) (Ss1:List Store),dstOk n o.dst=true→(e=.eff∨e=.flt→∃ σ',Ss1=σ'::σ::Ss∧Agrs ex (Ss.length+1) σ0.length σ σ'∧∀ j,es.drop j=e::es'→EffFact P n T ops es j o F σ r σ')→(e≠.eff∧e≠.flt→Ss1=σ::Ss∧∀ j,es.drop j=e::es'→cnt (isE es) j=Ss.length→Agrs ex Ss.length σ0.length σ0 σ→PureFact T σ0 ex ops es j o F r (stk (σ::Ss)))→
   (∃ j,ops.drop j=o::(l++tl)∧es.drop j=e::es'∧Past P n T ops es F0 σ0 ex j F (σ::Ss) rs)→∃ j,ops.drop j=l++tl∧es.drop j=es'∧Past P n T ops es F0 σ0 ex j (Yd F o.dst r) Ss1 (r::rs):=by
   rintro r Ss1 hd h1 h2 ⟨j,e1,e2,e3⟩;have hk:=XU e2;refine⟨j+1,(ZK e1).2,(ZK e2).2,e3.step (ZK e1).1 hd (fun hE=>?_) (fun hE=>?_)⟩
   · have he:e=.eff∨e=.flt:=by
      simp only[isE,hk] at hE
      split at hE
      · exact .inl rfl
      · exact .inr rfl
      cases hE
     obtain⟨σ',a1,a2,a3⟩:=h1 he;exact⟨σ',a1,a2,a3 j e2⟩
   have hne:e≠.eff∧e≠.flt:=⟨by rintro rfl; simp[isE,hk] at hE,by rintro rfl; simp[isE,hk] at hE⟩;have:=e3.lenS;simp only[qk] at this;have ha:=e3.agree Ss.length (by simp);rw[XA rfl] at ha;exact⟨(h2 hne).1,(h2 hne).2 j e2 (by omega) ha⟩
  split at h
  · rename_i hg
    rw[Bool.cond_eq_ite] at h
    split at h
    · cases h; exact⟨hC,id⟩
    rw[Bool.cond_eq_ite] at h
    split at h
    case isFalse=>cases h
    rename_i hd
    split at h
    case h_2=>cases h
    rename_i r σ' hr
    split at h
    · obtain⟨⟨h1,h3⟩,h2⟩:=ih _ _ _ _ _ _ _ _ _ _ _ h hC;exact⟨h1,fun hj=>h2 (next r _ hd (fun _=>⟨σ',rfl,ZN h3,fun j hj=>.inl ⟨by simp[isF,XU hj],SF.op hT hg hr⟩⟩) (fun hne=>absurd rfl hne.1) hj)⟩
    · rw[Bool.cond_eq_ite] at h
      split at h
      case isFalse=>cases h
      rename_i hal
      obtain⟨⟨h1,h3⟩,h2⟩:=ih _ _ _ _ _ _ _ _ _ _ _ h hC;obtain⟨g1,x,g2⟩:=isAlloc_spec hal;exact⟨h1,fun hj=>h2 (next r _ hd (fun _=>⟨σ',rfl,ZN h3,fun j hj=>.inr ⟨by simp[isF,XU hj],g1,x,g2,by rw[g2] at hr; exact hr⟩⟩) (fun hne=>absurd rfl hne.2) hj)⟩
    · obtain⟨⟨h1,h3,h4⟩,h2⟩:=ih _ _ _ _ _ _ _ _ _ _ _ h hC;refine⟨h1,fun hj=>h2 (next r _ hd (fun e=>by rcases e with e|e<;>cases e) (fun _=>⟨rfl,fun j hj hc ha=>.inr ⟨hg,?_⟩⟩) hj)⟩;rw[XU hj];subst h3;obtain⟨l0,e1,e2⟩:=ownL_spec h4
      exact fun hm hle=>⟨l0,e1,e2,evOp_own e1 hr fun id hid=>(ha _ _ hm (by omega) id (e2 id hid).1 (e2 id hid).2).symm⟩
    · rw[Bool.cond_eq_ite] at h
      split at h
      · rename_i hm
        obtain⟨h1,h2⟩:=ih _ _ _ _ _ _ _ _ _ _ _ h hC;refine⟨h1,fun hj=>h2 (next r _ hd (fun e=>by rcases e with e|e<;>cases e) (fun _=>⟨rfl,fun j hj _ _=>.inr ⟨hg,?_⟩⟩) hj)⟩;rw[XU hj]
        exact fun τ=>memFree_any hr hm τ
      obtain⟨⟨h1,h3⟩,h2⟩:=ih _ _ _ _ _ _ _ _ _ _ _ h hC;refine⟨h1,fun hj=>h2 (next r _ hd (fun e=>by rcases e with e|e<;>cases e) (fun _=>⟨rfl,fun j hj _ _=>.inr ⟨hg,?_⟩⟩) hj)⟩;rw[XU hj];exact h3
    rename_i bs
    obtain⟨⟨h1,h3,h4⟩,h2⟩:=ih _ _ _ _ _ _ _ _ _ _ _ h hC;refine⟨h1,fun hj=>h2 (next r _ hd (fun e=>by rcases e with e|e<;>cases e) (fun _=>⟨rfl,fun j hj hc _=>.inr ⟨hg,?_⟩⟩) hj)⟩;rw[XU hj];rintro k (hk|⟨b,hb,hk⟩)
    · rw[XA (by omega)]; rw[h3] at hr; exact hr
    obtain⟨τ,e1,e2⟩:=stabs_spec h4 b hb
    rw[stk_back e1 (by simp; omega)]; exact e2
  · rename_i hg
    rw[Bool.cond_eq_ite] at h
    split at h
    case isFalse=>cases h
    rename_i hd
    split at h
    · obtain⟨h1,h2⟩:=ih _ _ _ _ _ _ _ _ _ _ _ h hC;exact⟨h1,fun hj=>h2 (next .u _ hd (fun _=>⟨σ,rfl,fun _ _ _ _ _ _ _=>rfl,fun j hj=>.inl ⟨by simp[isF,XU hj],SF.skip hg⟩⟩) (fun hne=>absurd rfl hne.1) hj)⟩
    · cases h
    rename_i hne hnf
    obtain⟨h1,h2⟩:=ih _ _ _ _ _ _ _ _ _ _ _ h hC;exact⟨h1,fun hj=>h2 (next .u _ hd (fun e=>e.elim (fun e=>absurd e hne) (fun e=>absurd e hnf)) (fun _=>⟨rfl,fun j hj _ _=>.inl ⟨hg,rfl⟩⟩) hj)⟩
  cases h
theorem DW.run {T:TT}(hT:TOK P T){id:Nat}{ops:List Oper}{es:List EK}{F0:Fr}{σ0:Store}{ex:List (Nat×List Nat)}{l:List Oper}{es':List EK}{F:Fr}{Ss:List Store}{rs:List AV}
 (h:RunD (evD T n ops.toArray σ0 ex l es' F Ss rs True) fun l' es'' F' Ss' rs'=>DW P n k0 T id ops es F0 σ0 ex Q l' es'' F' Ss' rs'):DW P n k0 T id ops es F0 σ0 ex Q l es' F Ss rs:=by
 intro hp
 unfold RunD at h
 split at h
 · rename_i l' es'' F' Ss' rs' C he
   refine h.2 ?_;have:=(evD_past hT [] _ _ _ _ _ _ _ _ _ _ _ _ he h.1).2 (by simpa using hp)
   simpa using this
 exact h.elim
theorem DW.runN {T:TT}(hT:TOK P T)(m:Nat){id:Nat}{ops:List Oper}{es:List EK}{F0:Fr}{σ0:Store}{ex:List (Nat×List Nat)}{l:List Oper}{es':List EK}{F:Fr}{Ss:List Store}{rs:List AV}
 (h:RunD (evD T n ops.toArray σ0 ex (l.take m) es' F Ss rs True) fun l' es'' F' Ss' rs'=>l'=[]∧DW P n k0 T id ops es F0 σ0 ex Q (l.drop m) es'' F' Ss' rs'):DW P n k0 T id ops es F0 σ0 ex Q l es' F Ss rs:=by
 intro hp
 unfold RunD at h
 split at h
 · rename_i l' es'' F' Ss' rs' C he
   obtain⟨hC,rfl,h⟩:=h;refine h ?_;have:=(evD_past hT (l.drop m) _ _ _ _ _ _ _ _ _ _ _ _ he hC).2 (by simpa [um] using hp)
   simpa using this
 exact h.elim
theorem DW.callS {T:TT}{id:Nat}{ops:List Oper}{es:List EK}{F0:Fr}{σ0:Store}{ex:List (Nat×List Nat)}{o:Oper}{l:List Oper}{es':List EK}{F:Fr}{σ:Store}{Ss:List Store}{rs:List AV}{f:FuncId}{args:List AV}{r:AV}{σ':Store}
 (hg:wX ops.toArray F o=some true) (hc:callee F o=some (f,args)) (hd:dstOk n o.dst=true) (hf:ACalls P f args σ fun r' s=>r'=r∧s=σ') (ha:Agrs ex (Ss.length+1) σ0.length σ σ') (h:DW P n k0 T id ops es F0 σ0 ex Q l es' (Yd F o.dst r) (σ'::σ::Ss) (r::rs)):
 DW P n k0 T id ops es F0 σ0 ex Q (o::l) (.eff::es') F (σ::Ss) rs:=by
 rintro ⟨j,e1,e2,e3⟩;have hk:=XU e2;exact h ⟨j+1,(ZK e1).2,(ZK e2).2,e3.step (ZK e1).1 hd (fun _=>⟨σ',rfl,ha,.inl ⟨by simp[isF,hk],SF.call hg hc hf⟩⟩) (fun hE=>by simp[isE,hk] at hE)⟩
theorem DW.call {T:TT}{id:Nat}{ops:List Oper}{es:List EK}{F0:Fr}{σ0:Store}{ex:List (Nat×List Nat)}{o:Oper}{l:List Oper}{es':List EK}{F:Fr}{σ:Store}{Ss:List Store}{rs:List AV}{f:FuncId}{args:List AV}{r:AV}
 (hg:wX ops.toArray F o=some true) (hc:callee F o=some (f,args)) (hd:dstOk n o.dst=true) (hf:ACalls P f args σ fun r' s=>r'=r∧s=σ) (h:DW P n k0 T id ops es F0 σ0 ex Q l es' (Yd F o.dst r) (σ::σ::Ss) (r::rs)):
 DW P n k0 T id ops es F0 σ0 ex Q (o::l) (.eff::es') F (σ::Ss) rs:=DW.callS hg hc hd hf (fun _ _ _ _ _ _ _=>rfl) h
theorem DW.fin {T:TT}(hT:TOK P T){id:Nat}{ops:List Oper}{es:List EK}{F0:Fr}{σ0:Store}{ex:List (Nat×List Nat)}(hchk:chkD ops es ex=true){es':List EK}{F:Fr}{σ:Store}{Ss:List Store}{rs:List AV}(hl:rs.length=ops.length)(h:Q .normal F σ):
 DW P n k0 T id ops es F0 σ0 ex Q [] es' F (σ::Ss) rs:=by
 rintro ⟨j,e1,e2,e3⟩
 have hj:j=ops.length:=by rw[← e3.len,hl]
 subst hj;simp only[chkD,qo] at hchk;have hlS:=e3.lenS;simp only[qk] at hlS
 have h0:frs ops rs F0 0=F0:=by simp[frs,foldU]
 have:=awp_drawn (P:=P) (n:=n) (k0:=k0) (Q:=Q) (id:=id) (ops:=ops) (eff:=isE es) (flt:=isF es) (F:=fun j=>frs ops rs F0 j) (r:=nth rs) (S:=stk (σ::Ss)) hT hchk.1 (fun j o ho=>?_) (fun o ho t ht=>?_) (fun j o ho he=>?_) (fun j o ho hf=>?_) (fun j o ho he k hk hm=>?_) ?_
 · rw[e3.first,h0] at this; exact this
 · -- the frames
   have hjl:j<ops.length:=(q1.1 ho).1
   show foldU (ops.take (j+1)) (rs.reverse.take (j+1)) F0=Yd (foldU (ops.take j) (rs.reverse.take j) F0) o.dst (nth rs j)
   have hr:rs.reverse[j]?=some (nth rs j):=by
    unfold nth
    rw[qv,qV (by simp; omega)]; rfl
   rw[X9 ho,X9 hr,foldU_snoc _ _ _ _ _ (by simp; omega)]
 · obtain⟨i,hi,rfl⟩:=List.getElem_of_mem ho;exact YR (e3.dst i _ hi (qV hi)) t ht
 · simp only[hard,qo,uD] at he
   rcases e3.eff j o (q1.1 ho).1 ho he.1 with ⟨_,h1⟩|⟨h1,_⟩
   · exact h1
   rw[he.2] at h1; cases h1
 · rcases e3.eff j o (q1.1 ho).1 ho (chk_flt hchk.1 ho hf) with ⟨h1,_⟩|⟨_,h1⟩
   · rw[hf] at h1; cases h1
   exact h1
 · rcases e3.pure j o (q1.1 ho).1 ho he with ⟨h1,h2⟩|⟨h1,h2⟩
   · rw[h2]; exact SF.skip h1
   refine SF.op hT h1 ?_;have h3:=ub.1 hchk.2 j (by simpa using (q1.1 ho).1)
   generalize kOf es j=q at h2 h3
   cases q with
   |eff=>exact h2 _
   |flt=>exact h2 _
   |any=>exact h2 _
   |own m x=>
    simp only[qo] at h3;obtain⟨l0,g1,g2,g3⟩:=h2 (inEx_mem h3.1.1) (Nat.le_of_ble_eq_true h3.1.2);have hkl:k≤cnt (isE es) ops.length:=hk;have h4:=ub.1 h3.2 k (by simp; omega);simp only[hm,qK,uL] at h4
    exact evOp_own g1 g3 fun id hid=>e3.agree k (by simp; omega) m x (inEx_mem h3.1.1) (Nat.le_of_ble_eq_true h4) id (g2 id hid).1 (g2 id hid).2
   | «at» bs=>
    have h4:=ub.1 h3 k (by simp; omega);simp only[hm,qK,uL,qS,beq_iff_eq,List.any_eq_true] at h4;exact h2 k h4
 show Q .normal (frs ops rs F0 ops.length) (stk (σ::Ss) (cnt (isE es) ops.length))
 rw[XA (by omega),← e3.frame]; exact h
end
end AM
end
section
namespace AM
open Go.RowKit
theorem Store.at_hd {x:Store}{v v':Nat}{cs:List AV}:Store.at (.cells v cs::x) 0 v'=if v=v' then some cs else none:=rfl
theorem beq_tr (b:Bool):(b==true)=b:=by cases b<;>rfl
theorem beq_fa (b:Bool):(b==false) = !b:=by cases b<;>rfl
theorem VR.loose {E:Env}{nl:Bool}{sz id ver off len:Nat}{t:Bool}{v:Value}(h:VR E (.os nl sz id ver off len t) v):VR E (.os nl sz id ver off len false) v:=by
 cases h with
 |osn _ _ _ _ _ _ hk h=>exact .osn _ _ _ _ _ _ hk h
 |os _ _ _ _ _ _ _ a cap hk hc ht hB h=>exact .os _ _ _ _ _ _ _ a cap hk hc (fun e=>by cases e) hB h
theorem SR.cell {E:Env}{σ:Store}(hS:SR E σ){id ver:Nat}{cs:List AV}(hcs:Store.at σ id ver=some cs){i:Nat}(hi:i<cs.length){x:AV}(hc:∀ v,VR E (gc cs i) v→VR E x v):
 SR E (σ.set id (.cells ver (cs.set i x))):=by
 have hlt:=Store.at_lt hcs;refine⟨by simpa using hS.len,fun j=>?_,hS.inj,hS.blk,hS.stb,hS.glb⟩
 by_cases hj:j=id
 · subst hj;rw[uu hlt];have h1:=hS.obj j;rw[Store.at_some hcs] at h1
   rcases h1 with ⟨b,e1,e2⟩|⟨e1,e2⟩
   · refine .inl ⟨b,e1,?_⟩;obtain⟨conc,t',fr,a1,a2,a3,a4⟩:=e2.blk;refine⟨conc,t',fr,a1,a2,by simpa using a3,fun k hk=>?_⟩;simp only[List.length_set] at hk;rw[gc_set _ _ _ _ hi]
     by_cases hki:k=i
     · subst hki;rw[if_pos rfl];exact hc _ (a4 k hk)
     rw[if_neg hki]; exact a4 k hk
   subst e1; simp at hi
 rw[q9 (fun e=>hj e.symm)];exact hS.obj j
end AM
end
section
namespace AM
open Go.RowKit Go.ChangeShapes Go.WideShapes Go.Deep
def Env.start (w:World):Env := { w:=w,st:=fun b=>b<w.heap.size,loc:=fun _=>none,n:=0 }
theorem SR.start (w:World)(hg:Glb w fun b=>b<w.heap.size):SR (Env.start w) [] where
 len:=rfl
 obj:=fun id=>by simp[ObjR,Env.start]
 inj:=fun _ _ _ _ _ h=>by simp[Env.start] at h
 blk:=fun _ _ _ h=>by simp[Env.start] at h
 stb:=fun b hb=>hb
 glb:=hg
theorem cell_lt {w:World}{a:Addr}{v:Value}(h:w.cell? a=some v):a.block<w.heap.size:=by
 unfold World.cell? at h
 rcases u4 a.block w.heap.size with h1|h1
 · exact h1
 rw[Array.getElem?_eq_none h1] at h; simp at h
theorem add_spot {a:Addr}(h:a.spot=none)(n:Nat):a.add n=⟨a.block,a.off+n,none⟩:=by
 obtain⟨b,o,s⟩:=a
 simp only at h; subst h
 unfold Addr.add
 split
 · rename_i e; subst e; rfl
 rfl
section
variable {H:Type} {enc:TypeId×Value→H} {P:Program} {w:World} {base:Nat} {spare:Nat→Bool} {held:Bool}
def Opens (enc:TypeId×Value→H)(P:Program)(w:World)(base:Nat)(spare:Nat→Bool)(held:Bool)(t:TypeId)(A:List AV→Prop):Prop:=
 ∀ n cs y,DataW.trod enc P w base spare held n t cs=some y→∃ avs,avs.length=cs.length∧A avs∧∀ i,i<avs.length→VR (Env.start w) (gc avs i) (cs.getD i undef)
theorem Opens.mono {t:TypeId}{A B:List AV→Prop}(h:Opens enc P w base spare held t A)(k:∀ l,A l→B l):Opens enc P w base spare held t B:=fun n cs y hy=>by
 obtain⟨avs,h1,h2,h3⟩:=h n cs y hy;exact⟨avs,h1,k _ h2,h3⟩
theorem opens_int {t:TypeId}{k:IntKind}(ht:P.underlying t=some (.int k)):Opens enc P w base spare held t fun l=>∃ n,l=[.int k n]∧(Lit.int k n).wf=true:=by
 intro n cs y hy
 obtain⟨m,rfl,_,hw⟩:=DataW.trod_int ht hy;exact⟨[.int k m],rfl,⟨m,rfl,hw⟩,fun i hi=>by simp at hi; subst hi; exact .int _ _⟩
theorem gc_flat {sz:Nat}:∀ {es:List (List AV)} (_:∀ x∈es,x.length=sz) (i j:Nat) (_:j<sz) (hi:i<es.length),gc es.flatten (i*sz+j)=gc (es[i]'hi) j:=by
 intro es
 induction es with
 |nil=>intro _ i j _ hi; simp at hi
 |cons x es ih=>
  intro h i j hj hi
  have hx:=h x (by simp)
  cases i with
  |zero=>
   simp only[List.flatten_cons,uC,qt,List.getElem_cons_zero]
   simp[gc,qT (show j<x.length by omega)]
  |succ i=>
   have:=ih (fun y hy=>h y (by simp[hy])) i j hj (by simpa using hi)
   have e:(i+1)*sz+j=x.length+(i*sz+j):=by rw[uX,hx]; omega
   simp only[List.flatten_cons,List.getElem_cons_succ];rw[← this,e];simp only[gc,qv,ua (Nat.le_add_right _ _),Nat.add_sub_cancel_left]
theorem length_flat {sz:Nat}:∀ {es:List (List AV)} (_:∀ x∈es,x.length=sz),es.flatten.length=es.length*sz:=by
 intro es
 induction es with
 |nil=>intro _; simp
 |cons x es ih=>intro h; simp only[List.flatten_cons,qi,ih fun y hy=>h y (by simp[hy]),h x (by simp),qk]; rw[uX]; omega
theorem Opens.arg {t:TypeId}{A:List AV→Prop}(h:Opens enc P w base spare held t A){v:Value}{d:DataW H}{p:List MemPlace}(hv:DataW.Trod enc P w base spare held t v d p)(h1:v.cells.toList=[v]):∃ a,A [a]∧VR (Env.start w) a v:=by
 obtain⟨n,hn⟩:=hv;obtain⟨avs,e1,e2,e3⟩:=h _ _ _ hn;rw[h1] at e1 e3
 match avs,e1 with
 |[a],_=>exact⟨a,e2,by simpa [gc] using e3 0 (by simp)⟩
end
theorem walk_of {P:Program}{f:FuncId}{avs:List AV}{x:AV}{v:Value}(h:ACalls P f avs [] fun r σ'=>r=x){w:World}{vs:Array Value}(hg:Glb w fun b=>b<w.heap.size)(hvs:YE (Env.start w) avs vs.toList)(hx:∀ E u,VR E x u→u=v):
 Calls P f vs w fun e w'=>e=.returned v∧Below w.heap.size w w':=by
 refine (h.2 (Env.start w) vs (SR.start w hg) hvs).mono ?_;rintro e w' ⟨u,r,σ',E',rfl,rfl,h3,_,h5,rfl⟩;refine⟨by rw[hx _ _ h3],h5.os,h5.tape,h5.output,h5.size,fun k hk=>(h5.st k hk).2⟩
theorem listR_one {E:Env}{a:AV}{v:Value}(h:VR E a v):YE E [a] [v]:=⟨rfl,fun i hi=>by simp at hi; subst hi; exact h⟩
theorem listR_cons {E:Env}{a:AV}{v:Value}{l:List AV}{m:List Value}(h:VR E a v)(k:YE E l m):YE E (a::l) (v::m):=by
 refine⟨by simp[k.1],fun i hi=>?_⟩
 cases i with
 |zero=>exact h
 |succ i=>exact k.2 i (by simpa using hi)
theorem VR.true_of {E:Env}{u:Value}(h:VR E (.bool true) u):u=.bool true:=by cases h; rfl
end AM
end
section
namespace AM
open Go.RowKit
theorem listR_canon {E E':Env}{s:Bool}(hw:E'.w=E.w)(hst:∀ b,E.st b→E'.st b){l:List AV}{vs:List Value}(hc:canonL s l=true)(h:YE E l vs):YE E' l vs:=
 ⟨h.1,fun i hi=>VR.canonRenL hw hst l hc i hi (h.2 i hi)⟩
theorem ACalls.pureAt {P:Program}{f:FuncId}{args:List AV}{x:AV}(h:ACalls P f args [] fun r _=>r=x)(ha:canonL false args=true)(hx:x.canon false=true)(σ:Store):
 ACalls P f args σ fun r σ'=>r=x∧σ'=σ:=by
 refine⟨h.1,fun E vs hS hl=>?_⟩
 let Es:Env := { w:=E.w,st:=E.st,loc:=fun _=>none,n:=0 }
 have hSs:SR Es []:=⟨rfl,(fun id=>by simp[ObjR,Es]),(fun id id' v v' b h=>by cases h),(fun id v b h=>by cases h),hS.stb,hS.glb⟩;refine (h.2 Es vs hSs (listR_canon (E:=E) (E':=Es) rfl (fun _ h=>h) ha hl)).mono ?_;rintro e w ⟨v,r,σ',E1,rfl,rfl,h3,h4,h5,rfl⟩
 let E2:Env := { w:=E1.w,st:=E1.st,loc:=E.loc,n:=E.n }
 have hown:∀ b,b<E.w.heap.size→E1.w.heap[b]?=E.w.heap[b]?:=fun b hb=>h5.old b hb fun id v h=>by cases h
 have hext:Ext E E2 := {
  os:=h5.os
  tape:=h5.tape
  output:=h5.output
  size:=h5.size
  shape:=h5.shape
  st:=fun b hb=>h5.st b hb
  n:=qu _
  loc:=fun _ _ v o h=>⟨v,o,h,qu _,fun _=>rfl⟩
  old:=fun b hb _=>hown b hb
  own:=fun id v _ h _=>⟨id,v,h⟩
  stn:=fun b hb=>by
   rcases h5.stn b hb with h|h|⟨_,_,h⟩
   · exact .inl h
   · exact .inr (.inl h)
   cases h }
 refine⟨v,r,σ,E2,rfl,rfl,?_,?_,hext,rfl,rfl⟩
 · exact VR.canonRen (E:=E1) (E':=E2) rfl (fun _ h=>h) _ hx h3
 refine⟨hS.len,fun id=>(hS.obj id).ext hext rfl fun v b hb=>hown b (hS.blk id v b hb).1,hS.inj,fun id v b hb=>?_,fun b hb=>h4.stb b hb,h4.glb⟩;refine⟨ue (hS.blk id v b hb).1 h5.size,fun hs=>?_⟩
 rcases h5.stn b hs with h|h|⟨_,_,h⟩
 · exact (hS.blk id v b hb).2 h
 · have:=(hS.blk id v b hb).1; exact Nat.lt_irrefl _ (ue this h)
 cases h
mutual
theorem VR.flatRen {E E':Env}:∀ (a:AV) {v:Value},a.flat=true→VR E a v→VR E' a v
 |.u,_,_,h=>.u _
 |.bool _,_,_,h=>by cases h; exact .bool _
 |.int _ _,_,_,h=>by cases h; exact .int _ _
 |.str _,_,_,h=>by cases h with|str _ s h=>exact .str _ _ h
 |.nilp,_,_,h=>by cases h; exact .nilp
 |.nilm,_,_,h=>by cases h; exact .nilm
 |.nilF,_,_,h=>by cases h; exact .nilF
 |.nilI,_,_,h=>by cases h; exact .nilI
 |.gp _,_,_,h=>by cases h; exact .gp _
 |.agg cs,_,hc,h=>by
  cases h with|agg _ vs hl hv=>exact .agg _ vs hl fun i hi=>VR.flatRenL cs (by simpa [AV.flat] using hc) i hi (hv i hi)
 |.tup cs,_,hc,h=>by
  cases h with|tup _ vs hl hv=>exact .tup _ vs hl fun i hi=>VR.flatRenL cs (by simpa [AV.flat] using hc) i hi (hv i hi)
 |.ifc t a,_,hc,h=>by
  cases h with|ifc _ _ v h=>exact .ifc t a v (VR.flatRen a (by simpa [AV.flat] using hc) h)
 |.dp _ _,_,hc,_=>by simp[AV.flat] at hc
 |.ds _ _ _ _,_,hc,_=>by simp[AV.flat] at hc
 |.fn _ _ _,_,hc,_=>by simp[AV.flat] at hc
 |.op _ _ _,_,hc,_=>by simp[AV.flat] at hc
 |.os _ _ _ _ _ _ _,_,hc,_=>by simp[AV.flat] at hc
 |.mp _,_,hc,_=>by simp[AV.flat] at hc
 |.it _,_,hc,_=>by simp[AV.flat] at hc
theorem VR.flatRenL {E E':Env}:∀ (cs:List AV) (hc:flatL cs=true) (i:Nat) (hi:i<cs.length) {v:Value},VR E (gc cs i) v→VR E' (gc cs i) v
 |[],_,_,hi,_,_=>absurd hi (by simp)
 |a::cs,hc,0,_,_,h=>by
  simp only[flatL,qo] at hc;exact VR.flatRen a hc.1 h
 |a::cs,hc,i+1,hi,_,h=>by
  simp only[flatL,qo] at hc
  have e:gc (a::cs) (i+1)=gc cs i:=by simp[gc]
  rw[e] at h ⊢;exact VR.flatRenL cs hc.2 i (by simpa using hi) h
end
theorem ACalls.lend {P:Program}{f:FuncId}{args:List AV}{x:AV}(h:ACalls P f args [] fun r _=>r=x)(hx:x.flat=true){σ:Store}{args':List AV}(ls:Bool)(g:Nat)(ha:args'.map (tell σ [] ls g)=args):
 ACalls P f args' σ fun r σ'=>r=x∧σ'=σ:=by
 refine⟨h.1,fun E vs hS hl=>?_⟩;have hSs:SR (E.ren []) []:=hS.tell (keep:=[]) List.nodup_nil (fun _ h=>by cases h) ls g
 have hls:YE (E.ren []) args vs.toList:=by
  rw[← ha];refine⟨by simpa using hl.1,fun i hi=>?_⟩;rw[q2] at hi
  rw[XD hi]; exact VR.tell hS g _ (hl.2 i hi)
 refine (h.2 _ vs hSs hls).mono ?_;rintro e w ⟨v,r,σ',E1,rfl,rfl,h3,h4,h5,rfl⟩
 let E2:Env := { w:=E1.w,st:=E.st,loc:=E.loc,n:=E.n }
 have hown:∀ b,b<E.w.heap.size→E1.w.heap[b]?=E.w.heap[b]?:=fun b hb=>h5.old b hb fun id v h=>by simp[Env.ren] at h
 have hext:Ext E E2 := {
  os:=h5.os
  tape:=h5.tape
  output:=h5.output
  size:=h5.size
  shape:=h5.shape
  st:=fun b hb=>⟨hb,hown b (hS.stb b hb)⟩
  n:=qu _
  loc:=fun _ _ v o h=>⟨v,o,h,qu _,fun _=>rfl⟩
  old:=fun b hb _=>hown b hb
  own:=fun id v _ h _=>⟨id,v,h⟩
  stn:=fun b hb=>.inl hb }
 refine⟨v,r,σ,E2,rfl,rfl,VR.flatRen _ hx h3,?_,hext,rfl,rfl⟩;exact⟨hS.len,fun id=>(hS.obj id).ext hext rfl fun v b hb=>hown b (hS.blk id v b hb).1,hS.inj,fun id v b hb=>⟨ue (hS.blk id v b hb).1 h5.size,(hS.blk id v b hb).2⟩,fun b hb=>ue (hS.stb b hb) h5.size,hS.glb.mono hext.st⟩
mutual
def AV.ren (g:Nat→Nat):AV→AV
 |.u=>.u
 |.bool b=>.bool b
 |.int k n=>.int k n
 |.str s=>.str s
 |.nilp=>.nilp
 |.nilm=>.nilm
 |.nilF=>.nilF
 |.nilI=>.nilI
 |.gp n=>.gp n
 |.agg cs=>.agg (renL g cs)
 |.tup cs=>.tup (renL g cs)
 |.op id ver off=>.op (g id) ver off
 |.os nl sz id ver off len t=>.os nl sz (g id) ver off len t
 |.dp cs off=>.dp (renL g cs) off
 |.ds nl cs len t=>.ds nl (renL g cs) len t
 |.fn f a b=>.fn f (renL g a) (renL g b)
 |.ifc t a=>.ifc t (a.ren g)
 |.mp id=>.mp (g id)
 |.it id=>.it (g id)
def renL (g:Nat→Nat):List AV→List AV
 |[]=>[]
 |a::l=>a.ren g::renL g l
end
theorem renL_map (g:Nat→Nat)(l:List AV):renL g l=l.map (AV.ren g):=by
 induction l with
 |nil=>rfl
 |cons a l ih=>simp[renL,ih]
theorem z8 (g:Nat→Nat)(l:List AV):(renL g l).length=l.length:=by rw[renL_map]; simp
theorem w5 (g:Nat→Nat){l:List AV}{i:Nat}(h:i<l.length):gc (renL g l) i=(gc l i).ren g:=by
 rw[renL_map,XD h]
mutual
theorem Y6 (g:Nat→Nat){s:Bool}:∀ (a:AV),a.canon s=true→a.ren g=a
 |.u,_|.bool _,_|.int _ _,_|.str _,_|.nilp,_|.nilm,_|.nilF,_|.nilI,_|.gp _,_=>rfl
 |.agg cs,h=>by simp only[AV.canon] at h; simp only[AV.ren,xX g cs h]
 |.tup cs,h=>by simp only[AV.canon] at h; simp only[AV.ren,xX g cs h]
 |.dp cs _,h=>by simp only[AV.canon] at h; simp only[AV.ren,xX g cs h]
 |.ds nl cs _ t,h=>by simp only[AV.canon,qo] at h; simp only[AV.ren,xX g cs h.2]
 |.fn _ a b,h=>by simp only[AV.canon,qo] at h; simp only[AV.ren,xX g a h.1,xX g b h.2]
 |.ifc _ a,h=>by simp only[AV.canon] at h; simp only[AV.ren,Y6 g a h]
 |.op _ _ _,h|.os _ _ _ _ _ _ _,h|.mp _,h|.it _,h=>by simp[AV.canon] at h
theorem xX (g:Nat→Nat){s:Bool}:∀ (l:List AV),canonL s l=true→renL g l=l
 |[],_=>rfl
 |a::l,h=>by
  simp only[canonL,qo] at h;simp only[renL,Y6 g a h.1,xX g l h.2]
end
theorem VR.renum {E E':Env}{g:Nat→Nat}(hw:E'.w=E.w)(hst:∀ b,E.st b→E'.st b)(hok:∀ id ver,E.ok id ver→E'.ok (g id) ver)(hloc:∀ id,id<E.n→∀ p,E'.loc (g id)=some p→E.loc id=some p):
 ∀ {a:AV} {v:Value},VR E a v→VR E' (a.ren g) v:=by
 intro a v h
 have row:∀ {b o m:Nat} {vs:Nat→Value},Row E.w E.st b o m vs→Row E'.w E'.st b o m vs:=fun h=>by
  rcases h with h|⟨h1,h2⟩
  · exact .inl h
  exact .inr ⟨hst _ h1,by rw[hw]; exact h2⟩
 induction h with
 |u v=>exact .u _
 |bool b=>exact .bool _
 |int k n=>exact .int _ _
 |str l s h=>exact .str _ _ h
 |agg cs vs hl _ ih=>exact .agg _ vs (by rw[z8]; exact hl) fun i hi=>by rw[z8] at hi; rw[w5 g hi]; exact ih i hi
 |tup cs vs hl _ ih=>exact .tup _ vs (by rw[z8]; exact hl) fun i hi=>by rw[z8] at hi; rw[w5 g hi]; exact ih i hi
 |nilp=>exact .nilp
 |op id ver off a hk h=>exact .op _ _ _ _ (hok _ _ hk) fun b hb=>h b (hloc id hk.1 _ hb)
 |dp cells off b o vs hr _ ih=>exact .dp _ off b o vs (by rw[z8]; exact row hr) fun i hi=>by rw[z8] at hi; rw[w5 g hi]; exact ih i hi
 |dsn t=>exact .dsn _
 |ds nl cells len t a cap vs ha hr _ hc ht hB ih=>
  exact .ds _ _ _ _ a cap vs (by rcases ha with h|h; exact .inl (by rw[h]; rfl); exact .inr h) (by rw[z8]; exact row hr) (fun i hi=>by rw[z8] at hi; rw[w5 g hi]; exact ih i hi) hc ht hB
 |osn sz id ver off t a hk h=>exact .osn _ _ _ _ _ _ (hok _ _ hk) fun ob hb=>h ob (hloc id hk.1 _ hb)
 |os nl sz id ver off len t a cap hk hc ht hB h=>
  refine .os _ _ _ _ _ _ _ a cap (hok _ _ hk) hc ht hB fun ob hb=>?_
  obtain⟨b,e1,e2,t',m,hs,hm⟩:=h ob (hloc id hk.1 _ hb);exact⟨b,e1,e2,t',m,by rw[hw]; exact hs,hm⟩
 |mp id b hk h=>exact .mp _ b (hok _ _ hk) fun ob hb=>h ob (hloc id hk.1 _ hb)
 |nilm=>exact .nilm
 |fn f first cap vf vc hf hc _ _ i1 i2=>
  exact .fn f _ _ vf vc (by rw[z8]; exact hf) (by rw[z8]; exact hc) (fun i hi=>by rw[z8] at hi; rw[w5 g hi]; exact i1 i hi) (fun i hi=>by rw[z8] at hi; rw[w5 g hi]; exact i2 i hi)
 |nilF=>exact .nilF
 |ifc t a v _ ih=>exact .ifc t _ v ih
 |nilI=>exact .nilI
 |it id b hk h=>exact .it _ b (hok _ _ hk) fun ob hb=>h ob (hloc id hk.1 _ hb)
 |gp n=>exact .gp _
theorem VR.unren {E E':Env}{g:Nat→Nat}(hw:E.w=E'.w)(hst:∀ b,E'.st b→E.st b)(hok:∀ id ver,E'.ok (g id) ver→E.ok id ver)(hloc:∀ id,id<E.n→∀ p,E.loc id=some p→E'.loc (g id)=some p):
 ∀ {x:AV} {v:Value},VR E' x v→∀ a:AV,x=a.ren g→VR E a v:=by
 have row:∀ {b o m:Nat} {vs:Nat→Value},Row E'.w E'.st b o m vs→Row E.w E.st b o m vs:=fun h=>by
  rcases h with h|⟨h1,h2⟩
  · exact .inl h
  exact .inr ⟨hst _ h1,by rw[hw]; exact h2⟩
 intro x v h
 induction h with
 |u v=>intro a e; cases a<;>simp only[AV.ren,reduceCtorEq] at e; exact .u _
 |bool b=>intro a e; cases a<;>simp only[AV.ren,reduceCtorEq,AV.bool.injEq] at e; subst e; exact .bool _
 |int k n=>intro a e; cases a<;>simp only[AV.ren,reduceCtorEq,AV.int.injEq] at e; obtain⟨rfl,rfl⟩:=e; exact .int _ _
 |str l s h=>intro a e; cases a<;>simp only[AV.ren,reduceCtorEq,AV.str.injEq] at e; subst e; exact .str _ _ h
 |agg cs vs hl _ ih=>
  intro a e; cases a<;>simp only[AV.ren,reduceCtorEq,AV.agg.injEq] at e
  subst e;rw[z8] at hl
  exact .agg _ vs hl fun i hi=>ih i (by rw[z8]; exact hi) _ (w5 g hi)
 |tup cs vs hl _ ih=>
  intro a e; cases a<;>simp only[AV.ren,reduceCtorEq,AV.tup.injEq] at e
  subst e;rw[z8] at hl
  exact .tup _ vs hl fun i hi=>ih i (by rw[z8]; exact hi) _ (w5 g hi)
 |nilp=>intro a e; cases a<;>simp only[AV.ren,reduceCtorEq] at e; exact .nilp
 |op id ver off ad hk h=>
  intro a e; cases a<;>simp only[AV.ren,reduceCtorEq,AV.op.injEq] at e
  obtain⟨rfl,rfl,rfl⟩:=e;have:=hok _ _ hk
  exact .op _ _ _ _ this fun b hb=>h b (hloc _ this.1 _ hb)
 |dp cells off b o vs hr _ ih=>
  intro a e; cases a<;>simp only[AV.ren,reduceCtorEq,AV.dp.injEq] at e
  obtain⟨rfl,rfl⟩:=e;rw[z8] at hr
  exact .dp _ _ b o vs (row hr) fun i hi=>ih i (by rw[z8]; exact hi) _ (w5 g hi)
 |dsn t=>
  intro a e; cases a<;>simp only[AV.ren,reduceCtorEq,AV.ds.injEq] at e
  obtain⟨rfl,e2,rfl,rfl⟩:=e
  rename_i cs
  have:cs=[]:=qE.1 (by rw[← z8 g,← e2]; rfl)
  subst this; exact .dsn _
 |ds nl cells len t ad cap vs ha hr _ hc ht hB ih=>
  intro a e; cases a<;>simp only[AV.ren,reduceCtorEq,AV.ds.injEq] at e
  obtain⟨rfl,rfl,rfl,rfl⟩:=e;rw[z8] at hr;exact .ds _ _ _ _ ad cap vs (by rcases ha with h|h; exact .inl (qE.1 (by rw[← z8 g,h]; rfl)); exact .inr h) (row hr) (fun i hi=>ih i (by rw[z8]; exact hi) _ (w5 g hi)) hc ht hB
 |osn sz id ver off t ad hk h=>
  intro a e; cases a<;>simp only[AV.ren,reduceCtorEq,AV.os.injEq] at e
  obtain⟨rfl,rfl,rfl,rfl,rfl,rfl,rfl⟩:=e;have:=hok _ _ hk
  exact .osn _ _ _ _ _ _ this fun ob hb=>h ob (hloc _ this.1 _ hb)
 |os nl sz id ver off len t ad cap hk hc ht hB h=>
  intro a e; cases a<;>simp only[AV.ren,reduceCtorEq,AV.os.injEq] at e
  obtain⟨rfl,rfl,rfl,rfl,rfl,rfl,rfl⟩:=e;have:=hok _ _ hk
  refine .os _ _ _ _ _ _ _ ad cap this hc ht hB fun ob hb=>?_
  obtain⟨b,e1,e2,t',m,hs,hm⟩:=h ob (hloc _ this.1 _ hb);exact⟨b,e1,e2,t',m,by rw[hw]; exact hs,hm⟩
 |mp id b hk h=>
  intro a e; cases a<;>simp only[AV.ren,reduceCtorEq,AV.mp.injEq] at e
  subst e;have:=hok _ _ hk
  exact .mp _ b this fun ob hb=>h ob (hloc _ this.1 _ hb)
 |nilm=>intro a e; cases a<;>simp only[AV.ren,reduceCtorEq] at e; exact .nilm
 |fn f first cap vf vc hf hc _ _ i1 i2=>
  intro a e; cases a<;>simp only[AV.ren,reduceCtorEq,AV.fn.injEq] at e
  obtain⟨rfl,rfl,rfl⟩:=e;rw[z8] at hf hc;exact .fn _ _ _ vf vc hf hc (fun i hi=>i1 i (by rw[z8]; exact hi) _ (w5 g hi)) (fun i hi=>i2 i (by rw[z8]; exact hi) _ (w5 g hi))
 |nilF=>intro a e; cases a<;>simp only[AV.ren,reduceCtorEq] at e; exact .nilF
 |ifc t x v _ ih=>
  intro a e; cases a<;>simp only[AV.ren,reduceCtorEq,AV.ifc.injEq] at e
  obtain⟨rfl,e⟩:=e;exact .ifc _ _ v (ih _ e)
 |nilI=>intro a e; cases a<;>simp only[AV.ren,reduceCtorEq] at e; exact .nilI
 |it id b hk h=>
  intro a e; cases a<;>simp only[AV.ren,reduceCtorEq,AV.it.injEq] at e
  subst e;have:=hok _ _ hk
  exact .it _ b this fun ob hb=>h ob (hloc _ this.1 _ hb)
 |gp n=>intro a e; cases a<;>simp only[AV.ren,reduceCtorEq,AV.gp.injEq] at e; subst e; exact .gp _
def renO (g:Nat→Nat):Zo→Zo
 |.cells ver cs=>.cells ver (renL g cs)
 |.map es=>.map (es.map fun e=>(e.1.ren g,e.2.ren g))
 |.iter s p=>.iter s p
 |.dead=>.dead
def vbN (ids:List Nat)(base:Nat)(i:Nat):Nat:=(ids[i]?).getD (base+(i-ids.length))
def Ym (g:Nat→Nat):List Nat→Store→Store→Store
 |id::ids,o::l,σ=>Ym g ids l (σ.set id (renO g o))
 |_,l,σ=>σ++l.map (renO g)
theorem putAll_spec (g:Nat→Nat):∀ (ids:List Nat) (l σ:Store),ids.length≤l.length→ids.Nodup→(∀ id∈ids,id<σ.length)→
 (Ym g ids l σ).length=σ.length+(l.length-ids.length)∧(∀ (i id:Nat),ids[i]?=some id→(Ym g ids l σ)[id]?=(l[i]?).map (renO g))∧
  (∀ (id:Nat),id<σ.length→id∉ids→(Ym g ids l σ)[id]?=σ[id]?)∧(∀ (j:Nat),(Ym g ids l σ)[σ.length+j]?=(l[ids.length+j]?).map (renO g)):=by
 intro ids
 induction ids with
 |nil=>
  intro l σ _ _ _
  have e:Ym g [] l σ=σ++l.map (renO g):=by cases l<;>rfl
  rw[e];refine⟨by simp,fun i id h=>by simp at h,fun id h _=>by rw[qT h],fun j=>?_⟩;rw[ua (by omega)]
  simp
 |cons x ids ih=>
  intro l σ hl hn hlt
  cases l with
  |nil=>simp at hl
  |cons o l=>
   obtain⟨hn1,hn2⟩:=u0.1 hn;have hx:=hlt x (by simp);obtain⟨h1,h2,h3,h4⟩:=ih l (σ.set x (renO g o)) (by simpa using hl) hn2 (fun id hid=>by simpa using hlt id (by simp[hid]));simp only[Ym];simp only[List.length_set] at h1 h3 h4;refine⟨by simp only[qk]; omega,fun i id h=>?_,fun id h hm=>?_,fun j=>?_⟩
   · cases i with
     |zero=>
      simp only[uE,Option.some.injEq] at h;subst h
      rw[h3 x hx hn1,uu hx]; simp
     |succ i=>
      rw[uF] at h
      rw[h2 i id h]; simp
   · rw[h3 id h (fun e=>hm (by simp[e])),q9 (fun e=>hm (by simp[e]))]
   rw[h4 j]
   have:(x::ids).length+j=(ids.length+j)+1:=by simp; omega
   rw[this,uF]
theorem ObjR.renum {E E':Env}{g:Nat→Nat}(hw:E'.w=E.w)(hst:∀ b,E.st b→E'.st b)(hok:∀ id ver,E.ok id ver→E'.ok (g id) ver)(hloc:∀ id,id<E.n→∀ p,E'.loc (g id)=some p→E.loc id=some p)
 {i:Nat} {o:Zo} (hl:E'.loc (g i)=E.loc i) (h:ObjR E i (some o)):ObjR E' (g i) (some (renO g o)):=by
 cases o with
 |cells ver cs=>
  rcases h with ⟨b,h1,h2⟩|⟨h1,h2⟩
  · refine .inl ⟨b,hl.trans h1,?_⟩;obtain⟨conc,t,fr,a1,a2,a3,a4⟩:=h2.blk;exact⟨conc,t,fr,by rw[hw]; exact a1,a2,by rw[z8]; exact a3,fun j hj=>by rw[z8] at hj; rw[w5 g hj]; exact VR.renum hw hst hok hloc (a4 j hj)⟩
  exact .inr ⟨by rw[h1]; rfl,hl.trans h2⟩
 |map es=>
  obtain⟨b,ents,clock,h1,h2,h3,h4⟩:=h;refine⟨b,ents,clock,hl.trans h1,by rw[hw]; exact h2,by rw[q2]; exact h3,fun j h h'=>?_⟩;rw[q2] at h;simp only[List.getElem_map];exact⟨VR.renum hw hst hok hloc (h4 j h h').1,VR.renum hw hst hok hloc (h4 j h h').2⟩
 |iter s p=>obtain⟨b,h1,h2⟩:=h; exact⟨b,hl.trans h1,by rw[hw]; exact h2⟩
 |dead=>exact hl.trans h
theorem ObjR.unren {E E':Env}{g:Nat→Nat}(hw:E.w=E'.w)(hst:∀ b,E'.st b→E.st b)(hok:∀ id ver,E'.ok (g id) ver→E.ok id ver)(hloc:∀ id,id<E.n→∀ p,E.loc id=some p→E'.loc (g id)=some p)
 {i:Nat} {o:Zo} (hl:E.loc i=E'.loc (g i)) (h:ObjR E' (g i) (some (renO g o))):ObjR E i (some o):=by
 cases o with
 |cells ver cs=>
  rcases h with ⟨b,h1,h2⟩|⟨h1,h2⟩
  · refine .inl ⟨b,hl.trans h1,?_⟩;obtain⟨conc,t,fr,a1,a2,a3,a4⟩:=h2.blk;rw[z8] at a3 a4;exact⟨conc,t,fr,by rw[hw]; exact a1,a2,a3,fun j hj=>VR.unren hw hst hok hloc (a4 j hj) _ (w5 g hj)⟩
  exact .inr ⟨qE.1 (by rw[← z8 g,h1]; rfl),hl.trans h2⟩
 |map es=>
  obtain⟨b,ents,clock,h1,h2,h3,h4⟩:=h;rw[q2] at h3;refine⟨b,ents,clock,hl.trans h1,by rw[hw]; exact h2,h3,fun j h h'=>?_⟩;have:=h4 j (by simpa using h) h';simp only[List.getElem_map] at this;exact⟨VR.unren hw hst hok hloc this.1 _ rfl,VR.unren hw hst hok hloc this.2 _ rfl⟩
 |iter s p=>obtain⟨b,h1,h2⟩:=h; exact⟨b,hl.trans h1,by rw[hw]; exact h2⟩
 |dead=>exact hl.trans h
theorem ACalls.embed {P:Program}{f:FuncId}{args:List AV}{σs:Store}{R:AV→Store→Prop}(h:ACalls P f args σs R){σ:Store}(ids:List Nat)(hn:ids.Nodup)(hlt:∀ id∈ids,id<σ.length)
 (hobj:ids.map (fun id=>σ[id]?)=σs.map fun o=>some (renO (vbN ids σ.length) o)) {args':List AV} (ha:renL (vbN ids σ.length) args=args'):
 ACalls P f args' σ fun r' σ'=>∃ r τ,R r τ∧r'=r.ren (vbN ids σ.length)∧σ'=Ym (vbN ids σ.length) ids τ σ:=by
 refine⟨h.1,fun E vs hS hl=>?_⟩
 have hlen:σs.length=ids.length:=by have:=congrArg qb hobj; simpa using this.symm
 generalize hg:vbN ids σ.length=g at *
 have g1:∀ i id,ids[i]?=some id→g i=id:=fun i id h=>by rw[← hg]; simp[vbN,h]
 have g2:∀ i,ids.length≤i→g i=σ.length+(i-ids.length):=fun i h=>by rw[← hg]; simp[vbN,h]
 have g3:∀ i,i<ids.length→ids[i]?=some (g i):=fun i h=>by
  have:ids[i]?=some ids[i]:=qV h;rw[this,g1 i _ this]
 have gin:∀ i,i<ids.length→g i∈ids:=fun i h=>List.mem_of_getElem? (g3 i h)
 let Es:Env := { w:=E.w,st:=E.st,loc:=fun i=>if i<ids.length then E.loc (g i) else none,n:=ids.length }
 have hok:∀ id ver,E.ok (g id) ver→Es.ok id ver:=fun id ver h=>by
  have hid:id<ids.length:=by
   rcases u4 id ids.length with h1|h1
   · exact h1
   have:=g2 id h1; have h2:=h.1; have:=hS.len; omega
  exact⟨hid,fun v ob hb=>h.2 v ob (by simpa [Es,hid] using hb)⟩
 have hloc:∀ id,id<Es.n→∀ p,Es.loc id=some p→E.loc (g id)=some p:=fun id hid p hp=>by
  have hid':id<ids.length:=hid
  simpa [Es,hid'] using hp
 have hSs:SR Es σs:=by
  refine⟨hlen,fun i=>?_,fun i i' v v' b h1 h2=>?_,fun i v b h1=>?_,hS.stb,hS.glb⟩
  · by_cases hi:i<ids.length
    · have hsi:σs[i]?=some (σs[i]'(by omega)):=qV (by omega);rw[hsi]
      have h1:(ids.map fun id=>σ[id]?)[i]?=(σs.map fun o=>some (renO g o))[i]?:=by rw[hobj]
      rw[List.getElem?_map,List.getElem?_map,g3 i hi,hsi] at h1;simp only[uB,Option.some.injEq] at h1;have h2:=hS.obj (g i);rw[h1] at h2;exact ObjR.unren (E:=Es) (E':=E) rfl (fun _ h=>h) hok hloc (by simp[Es,hi]) h2
    rw[ui (by omega)]
    show Es.loc i=none
    simp[Es,hi]
  · have h1':i<ids.length∧E.loc (g i)=some (v,some b):=by
     by_cases hi:i<ids.length
     · exact⟨hi,by simpa [Es,hi] using h1⟩
     simp[Es,hi] at h1
    have h2':i'<ids.length∧E.loc (g i')=some (v',some b):=by
     by_cases hi:i'<ids.length
     · exact⟨hi,by simpa [Es,hi] using h2⟩
     simp[Es,hi] at h2
    have:=hS.inj _ _ _ _ _ h1'.2 h2'.2;have e1:=g3 i h1'.1;have e2:=g3 i' h2'.1;rw[this] at e1;exact (List.getElem?_inj h1'.1 hn).1 (e1.trans e2.symm)
  by_cases hi:i<ids.length
  · exact hS.blk (g i) v b (by simpa [Es,hi] using h1)
  simp[Es,hi] at h1
 have hls:YE Es args vs.toList:=by
  have h1:args'.length=args.length:=by rw[← ha,z8]
  refine⟨by rw[hl.1,h1],fun i hi=>?_⟩;have:=hl.2 i (by omega);exact VR.unren (E:=Es) (E':=E) rfl (fun _ h=>h) hok hloc this _ (by rw[← ha,w5 g hi])
 refine (h.2 Es vs hSs hls).mono ?_;rintro e w ⟨v,r,τ,E1,rfl,rfl,h3,h4,h5,hR⟩;have hn1:ids.length≤E1.n:=h5.n;have hτ:τ.length=E1.n:=h4.len;obtain⟨p1,p2,p3,p4⟩:=putAll_spec g ids τ σ (by omega) hn hlt
 let loc2:Nat→Option (Nat×Option Nat):=fun id=>
  match Zg ids id 0 with
  |some i=>E1.loc i
  |none=>if id<E.n then E.loc id else E1.loc (ids.length+(id-E.n))
 let E2:Env := { w:=E1.w,st:=E1.st,loc:=loc2,n:=E.n+(E1.n-ids.length) }
 have idx:∀ i,i<ids.length→Zg ids (g i) 0=some i:=fun i hi=>idxOf_get hn (g3 i hi)
 have noidx:∀ id,id∉ids→Zg ids id 0=none:=fun id h=>by
  cases hq:Zg ids id 0 with
  |none=>rfl
  |some j=>
   obtain⟨_,h2⟩:=Zl ids id 0 j hq;rw[uR] at h2;exact absurd (List.mem_of_getElem? h2) h
 have l1:∀ i,E2.loc (g i)=E1.loc i:=fun i=>by
  rcases u4 i ids.length with hi|hi
  · simp only[E2,loc2,idx i hi]
  have e:=g2 i hi
  have hnot:g i∉ids:=fun hm=>by have:=hlt _ hm; omega
  have hge:¬ g i<E.n:=by have:=hS.len; omega
  simp only[E2,loc2,noidx _ hnot,if_neg hge]
  congr 1
  have:=hS.len; omega
 have l2:∀ id,id<E.n→id∉ids→E2.loc id=E.loc id:=fun id h1 h2=>by simp only[E2,loc2,noidx _ h2,if_pos h1]
 have rev:∀ id,(id<E.n∧id∉ids)∨(∃ i,id=g i):=fun id=>by
  by_cases hm:id∈ids
  · obtain⟨i,hi,rfl⟩:=List.getElem_of_mem hm;exact .inr ⟨i,(g1 i _ (qV hi)).symm⟩
  by_cases hlt':id<E.n
  · exact .inl ⟨hlt',hm⟩
  refine .inr ⟨ids.length+(id-E.n),?_⟩
  rw[g2 _ (by omega)]; have:=hS.len; omega
 have grange:∀ i,i<E1.n→g i<E2.n:=fun i hi=>by
  show g i<E.n+(E1.n-ids.length)
  rcases u4 i ids.length with h|h
  · have:=hlt _ (gin i h); have:=hS.len; omega
  have:=g2 i h; have:=hS.len; omega
 have hok2:∀ id ver,E1.ok id ver→E2.ok (g id) ver:=fun id ver h=>⟨grange id h.1,fun v ob hb=>h.2 v ob (by rw[← l1 id]; exact hb)⟩
 have hloc2:∀ id,id<E1.n→∀ p,E2.loc (g id)=some p→E1.loc id=some p:=fun id _ p hp=>by rw[← l1 id]; exact hp
 -- what the call was not lent
 have esown:∀ i v b,Es.loc i=some (v,some b)→i<ids.length∧E.loc (g i)=some (v,some b):=fun i v b h=>by
  by_cases hi:i<ids.length
  · exact⟨hi,by simpa [Es,hi] using h⟩
  simp[Es,hi] at h
 have kept:∀ b,b<E.w.heap.size→(∀ i v,i<ids.length→E.loc (g i)≠some (v,some b))→E1.w.heap[b]?=E.w.heap[b]?:=fun b hb hno=>
  h5.old b hb fun i v h=>(hno i v (esown i v b h).1) (esown i v b h).2
 have notlent:∀ id v b,id<E.n→id∉ids→E.loc id=some (v,some b)→∀ i v',i<ids.length→E.loc (g i)≠some (v',some b):=fun id v b h1 h2 hl i v' hi hc=>by
  have:=hS.inj _ _ _ _ _ hl hc;subst this;exact h2 (gin i hi)
 have hext:Ext E E2 := {
  os:=h5.os
  tape:=h5.tape
  output:=h5.output
  size:=h5.size
  shape:=h5.shape
  st:=fun b hb=>h5.st b hb
  n:=Nat.le_add_right _ _
  loc:=fun id hid ver ob hl=>by
   by_cases hm:id∈ids
   · obtain⟨i,hi,rfl⟩:=List.getElem_of_mem hm;have hgi:=g1 i _ (qV hi);rw[← hgi,l1] at hl;obtain⟨v0,o0,e1,e2,e3⟩:=h5.loc i hi ver ob hl;refine⟨v0,o0,?_,e2,e3⟩
     rw[← hgi]; simpa [Es,hi] using e1
   rw[l2 id hid hm] at hl;exact⟨ver,ob,hl,qu _,fun _=>rfl⟩
  old:=fun b hb hno=>kept b hb fun i v _=>hno (g i) v
  own:=fun id v b hl hb=>by
   rcases rev id with ⟨h1,h2⟩|⟨i,rfl⟩
   · rw[l2 id h1 h2] at hl; exact⟨id,v,hl⟩
   rw[l1] at hl;obtain⟨i',v',e1⟩:=h5.own i v b hl hb;exact⟨g i',v',(esown i' v' b e1).2⟩
  stn:=fun b hb=>by
   rcases h5.stn b hb with h|h|⟨i,v,h⟩
   · exact .inl h
   · exact .inr (.inl h)
   exact .inr (.inr ⟨g i,v,(esown i v b h).2⟩) }
 refine⟨v,_,_,E2,rfl,rfl,VR.renum (E:=E1) (E':=E2) rfl (fun _ h=>h) hok2 hloc2 h3,?_,hext,r,τ,hR,rfl,rfl⟩;refine⟨by rw[p1,hτ,hS.len],fun id=>?_,fun id id' v v' b h1 h2=>?_,fun id v b h1=>?_,fun b hb=>h4.stb b hb,h4.glb⟩
 · rcases rev id with ⟨h1,h2⟩|⟨i,rfl⟩
   · rw[p3 id (by rw[hS.len]; exact h1) h2]
     exact (hS.obj id).ext hext (l2 id h1 h2) fun v b hb=>kept b (hS.blk id v b hb).1 (notlent id v b h1 h2 hb)
   have hg':(Ym g ids τ σ)[g i]?=(τ[i]?).map (renO g):=by
    rcases u4 i ids.length with hi|hi
    · exact p2 i _ (g3 i hi)
    rw[g2 i hi,p4]
    congr 2; omega
   rw[hg']
   cases ht:τ[i]? with
   |none=>
    have:=h4.obj i;rw[ht] at this
    show E2.loc (g i)=none
    rw[l1]; exact this
   |some o=>
    have:=h4.obj i;rw[ht] at this;exact ObjR.renum (E:=E1) (E':=E2) rfl (fun _ h=>h) hok2 hloc2 (l1 i) this
 · have mixed:∀ id i v v' b,id<E.n→id∉ids→E.loc id=some (v,some b)→E1.loc i=some (v',some b)→False:=fun id i v v' b h1 h2 hl hi=>by
    have hb:=(hS.blk id v b hl).1;obtain⟨i',v2,e1⟩:=h5.own i v' b hi hb;obtain⟨e2,e3⟩:=esown i' v2 b e1;exact notlent id v b h1 h2 hl i' v2 e2 e3
   rcases rev id with ⟨a1,a2⟩|⟨i,rfl⟩
   · rw[l2 id a1 a2] at h1
     rcases rev id' with ⟨b1,b2⟩|⟨i',rfl⟩
     · rw[l2 id' b1 b2] at h2; exact hS.inj _ _ _ _ _ h1 h2
     rw[l1] at h2; exact (mixed _ _ _ _ _ a1 a2 h1 h2).elim
   rw[l1] at h1
   rcases rev id' with ⟨b1,b2⟩|⟨i',rfl⟩
   · rw[l2 id' b1 b2] at h2; exact (mixed _ _ _ _ _ b1 b2 h2 h1).elim
   rw[l1] at h2; rw[h4.inj _ _ _ _ _ h1 h2]
 rcases rev id with ⟨a1,a2⟩|⟨i,rfl⟩
 · rw[l2 id a1 a2] at h1;refine⟨ue (hS.blk id v b h1).1 h5.size,fun hs=>?_⟩
   rcases h5.stn b hs with h|h|⟨i,v',h⟩
   · exact (hS.blk id v b h1).2 h
   · exact Nat.lt_irrefl _ (ue (hS.blk id v b h1).1 h)
   exact notlent id v b a1 a2 h1 i v' (esown i v' b h).1 (esown i v' b h).2
 rw[l1] at h1;exact h4.blk i v b h1
section
variable {P:Program} {n k:Nat} {Q:Exit→Fr→Store→Prop} {F:Fr} {σ:Store}
end
end AM
end
section
namespace AM
open Go.RowKit
theorem Store.at_tl {o:Zo}{x:Store}{i v:Nat}:Store.at (o::x) (i+1) v=Store.at x i v:=rfl
theorem Store.mapAt_hd {es:List (AV×AV)}{x:Store}:Store.mapAt (.map es::x) 0=some es:=rfl
theorem Store.mapAt_tl {o:Zo}{x:Store}{i:Nat}:Store.mapAt (o::x) (i+1)=Store.mapAt x i:=rfl
theorem Store.iterAt_hd {s:List UInt8}{p:Nat}{x:Store}:Store.iterAt (.iter s p::x) 0=some (s,p):=rfl
theorem Store.iterAt_tl {o:Zo}{x:Store}{i:Nat}:Store.iterAt (o::x) (i+1)=Store.iterAt x i:=rfl
class X8 (b:Bool)(p q:outParam Prop):Prop where
 t:b=true→p
 f:b=false→q
instance (priority := low) boolP_eq (b : Bool) : X8 b (b = true) (b = false) := ⟨id, id⟩
instance boolP_dec (p : Prop) [Decidable p] : X8 (decide p) p (¬ p) := ⟨of_decide_eq_true, of_decide_eq_false⟩
instance boolP_not (b : Bool) (p q : Prop) [h : X8 b p q] : X8 (!b) q p := ⟨fun e => h.f (by simpa using e), fun e => h.t (by simpa using e)⟩
instance boolP_and (a b : Bool) (p q p' q' : Prop) [h : X8 a p q] [h' : X8 b p' q'] : X8 (a && b) (p ∧ p') (q ∨ q') :=
 ⟨fun e=>by simp only[qo] at e; exact⟨h.t e.1,h'.t e.2⟩,fun e=>by
  cases ha:a with
  |false=>exact .inl (h.f ha)
  |true=>rw[ha] at e; exact .inr (h'.f (by simpa using e))⟩
instance boolP_or (a b : Bool) (p q p' q' : Prop) [h : X8 a p q] [h' : X8 b p' q'] : X8 (a || b) (p ∨ p') (q ∧ q') :=
 ⟨fun e=>by
  cases ha:a with
  |true=>exact .inl (h.t ha)
  |false=>rw[ha] at e; exact .inr (h'.t (by simpa using e)),fun e=>by simp only[Bool.or_eq_false_iff] at e; exact⟨h.f e.1,h'.f e.2⟩⟩
instance boolP_beq (a b : Bool) : X8 (a == b) (a = b) (a ≠ b) := ⟨fun e => by simpa using e, fun e => by simpa using e⟩
def AV.isS : AV→Bool
 |.ds ..|.os ..=>true
 |_=>false
section
variable {P:Program} {n k:Nat} {Q:Exit→Fr→Store→Prop} {F:Fr} {σ:Store}
theorem zD {c:Operand}{x y:Code}{b:Bool}{p q:Prop} [hb:X8 b p q](hc:ev F c=.bool b)(ht:p→awp P n k x Q F σ)(hf:q→awp P n k y Q F σ):awp P n k (.cond c x y) Q F σ:=
 zn hc (fun e=>ht (hb.t e)) (fun e=>hf (hb.f e))
theorem yx {ops:Array Oper}{l:List Oper}{b:Bool}{p q:Prop} [hp:X8 b p q](t:Tmp)(hb:F t=.bool b)(h1:p→wL P n k ops l Q (upd F t (.bool true)) σ)(h0:q→wL P n k ops l Q (upd F t (.bool false)) σ):
 wL P n k ops l Q F σ:=zK t hb (fun e=>h1 (hp.t e)) (fun e=>h0 (hp.f e))
def noGotoQ (Q:Exit→Fr→Store→Prop):Exit→Fr→Store→Prop
 |.goto _,_,_=>False
 |e,F,σ=>Q e F σ
theorem noGotoQ_normal {Q:Exit→Fr→Store→Prop}{F:Fr}{σ:Store}:noGotoQ Q .normal F σ=Q .normal F σ:=rfl
theorem noGotoQ_ret {Q:Exit→Fr→Store→Prop}{F:Fr}{σ:Store}:noGotoQ Q .ret F σ=Q .ret F σ:=rfl
theorem noGotoQ_exit {Q:Exit→Fr→Store→Prop}{F:Fr}{σ:Store}{i:Nat}:noGotoQ Q (.exit i) F σ=Q (.exit i) F σ:=rfl
theorem slice_nil {T:TT}(hT:TOK P T){E:Env}{t:TypeId}{i:TI}{e:TypeId}(hi:T t=some i)(hd:i.desc=.slice e){x:AV}{vx:Value}(hx:VR E x vx)(hs:x.isS=true)(ox oy:Operand):
 ∃ b,(do eqGuard .eql t ox oy vx (.slice none 0 0); Go.binOp .eql t vx (.slice none 0 0):Sem Value).run P E.w=.ok (.bool b) E.w∧(b=true→yp x=0):=by
 have key:∀ (a:Option Addr) (l c:Nat),(do eqGuard .eql t ox oy (.slice a l c) (.slice none 0 0); Go.binOp .eql t (.slice a l c) (.slice none 0 0):Sem Value).run P E.w=.ok (.bool a.isNone) E.w:=by
  intro a l c
  have h1:(eqGuard .eql t ox oy (.slice a l c) (.slice none 0 0)).run P E.w=.ok () E.w:=by simp[eqGuard]
  rw[qs,h1,qj]
  have h3:∀ d,(Op.equalIn (d+1) t (.slice a l c) (.slice none 0 0)).run P E.w=.ok a.isNone E.w:=by
   intro d
   cases a with
   |none=>simp only[Op.equalIn,qs,zG _ (hT _ _ hi),qj,hd,qP]
   |some a=>simp only[Op.equalIn,qs,zG _ (hT _ _ hi),qj,hd,qP]; rfl
  have h2:(Op.equal t (.slice a l c) (.slice none 0 0)).run P E.w=.ok a.isNone E.w:=h3 9999;simp only[Go.binOp,qs,h2,qj,qP]
 cases hx with
 |dsn tt=>exact⟨true,key none 0 0,fun _=>rfl⟩
 |ds nl cells len tt a cap vs ha hr h hc ht hB=>exact⟨false,key (some a) len cap,fun h=>by cases h⟩
 |osn sz id ver off tt a hk h=>exact⟨a.isNone,key a 0 0,fun _=>rfl⟩
 |os nl sz id ver off len tt a cap hk hc ht hB h=>exact⟨false,key (some a) len cap,fun h=>by cases h⟩
 |_=>cases hs
theorem vai {T:TT}(hT:TOK P T){ops:Array Oper}{o:Oper}{l:List Oper}{x:Operand}{t yt:TypeId}{i:TI}{e:TypeId}(hg:wX ops F o=some true)(ho:o.op=.binOp .eql t x (.const (.slice none 0 0)) yt)(hi:T t=some i)(hd:i.desc=.slice e)
 (hs:(ev F x).isS=true) (hdst:dstOk n o.dst=true) (h:∀ b,(b=true→yp (ev F x)=0)→wL P n k ops l Q (Yd F o.dst (.bool b)) σ):wL P n k ops (o::l) Q F σ:=by
 intro E a hk hS hF
 unfold wpList;rw[if_pos (wA hF hg)];refine .inl ?_;obtain⟨b,h1,h2⟩:=slice_nil (P:=P) hT hi hd (hF.ev x) hs x (.const (.slice none 0 0));unfold Oper.wp
 have hrun:(execOp a.eval o).run P E.w=.ok (.value (.bool b)) E.w:=by
  obtain⟨dst,op,ty,pos,after,guard⟩:=o;simp only at ho;subst ho
  show (do pure (.value (← (do eqGuard .eql t x (.const (.slice none 0 0)) (a.eval x) (.slice none 0 0); Go.binOp .eql t (a.eval x) (.slice none 0 0):Sem Value))):Sem Next).run P E.w=_
  rw[qs,h1,qj]; rfl
 rw[hrun];exact h b h2 E _ hk hS (hF.put (YR hdst) (.bool b))
theorem zi {T:TT}(hT:TOK P T){f:FuncId}{fn:Func}{c:Code}{n:Nat}{rs:List ResultVar}{args:List AV}{x:AV}(hf:P.funcs[f]?=some fn)(hb:fn.body=some c)
 (hn:fn.ntmps=n) (hr:fn.results.toList=rs) (hent:∀ vs w,(callFunc f vs).run P w=.ok (.enter f vs) w) (hl:args.length≤n) (h:awp P n 0 c (Zv T rs fun r σ'=>tell σ' [] true 12 r=x) (fr args) []):
 ACalls P f args [] fun r _=>r=x:=by
 refine ACalls.told ((w7 (σ:=[]) (R:=fun r σ'=>tell σ' [] true 12 r=x) hT hf hb hn hr hent hl h).mono fun r σ' hx=>?_);exact⟨[],true,12,List.nodup_nil,fun _ h=>(by cases h),rfl,hx⟩
theorem YD {T:TT}(keep:List Nat)(hT:TOK P T){f:FuncId}{fn:Func}{c:Code}{n:Nat}{rs:List ResultVar}{args:List AV}{σ:Store}{R:AV→Store→Prop}(hf:P.funcs[f]?=some fn)(hb:fn.body=some c)
 (hn:fn.ntmps=n) (hr:fn.results.toList=rs) (hent:∀ vs w,(callFunc f vs).run P w=.ok (.enter f vs) w) (hl:args.length≤n) (hk:keep.take σ.length=uy σ.length)
 (h:awp P n σ.length c (Zv T rs fun r σ'=>keep.Nodup∧(∀ id∈keep,id<σ'.length)∧R (tell σ' keep true 12 r) (tellS σ' keep true 12)) (fr args) σ):
 ACalls P f args σ R:=by
 refine ACalls.told ((w7 hT hf hb hn hr hent hl h).mono fun r σ' hx=>?_);exact⟨keep,true,12,hx.1,hx.2.1,hk,hx.2.2⟩
theorem zz {c:Operand}{x y:Code}(hc:ev F c=.bool true)(h:awp P n k x Q F σ):awp P n k (.cond c x y) Q F σ:=zn hc (fun _=>h) (fun e=>by cases e)
theorem zw {c:Operand}{x y:Code}(hc:ev F c=.bool false)(h:awp P n k y Q F σ):awp P n k (.cond c x y) Q F σ:=zn hc (fun e=>by cases e) (fun _=>h)
theorem zj {T:TT}(hT:TOK P T)(m:Nat){ops:Array Oper}{l:List Oper}(h:Run (vaq T n ops (l.take m) F σ) fun l' F' σ'=>l'=[]∧wL P n k ops (l.drop m) Q F' σ'):wL P n k ops l Q F σ:=by
 unfold Run at h
 split at h
 · rename_i l' F' σ' he
   obtain⟨rfl,h⟩:=h
   have key:∀ (a b:List Oper) (F F':Fr) (σ σ':Store),vaq T n ops a F σ=some ([],F',σ')→wL P n k ops b Q F' σ'→wL P n k ops (a++b) Q F σ:=by
    intro a
    induction a with
    |nil=>intro b F F' σ σ' h1 h2; cases h1; exact h2
    |cons o a ih=>
     intro b F F' σ σ' h1 h2
     simp only[vaq] at h1
     split at h1
     · rename_i hg
       cases hc:isCall o with
       |true=>rw[hc] at h1; cases h1
       |false=>
        rw[hc] at h1;simp only[cond_false] at h1
        cases hdk:dstOk n o.dst with
        |false=>rw[hdk] at h1; cases h1
        |true=>
         rw[hdk] at h1;simp only[cond_true] at h1
         split at h1
         · rename_i r σ1 he'
           exact opsWp_op hT hg he' (YR hdk) (ih b _ _ _ _ h1 h2)
         cases h1
     · rename_i hg
       cases hdk:dstOk n o.dst with
       |false=>rw[hdk] at h1; cases h1
       |true=>
        rw[hdk] at h1;exact opsWp_skip hg (YR hdk) (ih b _ _ _ _ h1 h2)
     cases h1
   have:=key (l.take m) (l.drop m) F F' σ σ' he h
   rwa [um] at this
 exact h.elim
theorem DW.if {T:TT}{id:Nat}{ops:List Oper}{es:List EK}{F0:Fr}{σ0:Store}{ex:List (Nat×List Nat)}{l:List Oper}{es':List EK}{Ss:List Store}{rs:List AV}{b:Bool}{p q:Prop} [hp:X8 b p q](t:Tmp)(hb:F t=.bool b)
 (h1:p→DW P n k T id ops es F0 σ0 ex Q l es' (upd F t (.bool true)) Ss rs) (h0:q→DW P n k T id ops es F0 σ0 ex Q l es' (upd F t (.bool false)) Ss rs):DW P n k T id ops es F0 σ0 ex Q l es' F Ss rs:=by
 have e:F=upd F t (.bool b):=by
  funext x; unfold upd; split
  · rename_i h; rw[h,hb]
  rfl
 rw[e]
 cases b with
 |true=>exact h1 (hp.t rfl)
 |false=>exact h0 (hp.f rfl)
theorem DW.at {T:TT}{id:Nat}{ops:List Oper}{es:List EK}{F0:Fr}{σ0:Store}{ex:List (Nat×List Nat)}{l:List Oper}{es':List EK}{Ss:List Store}{rs:List AV}{b:Bool}(t:Tmp)(hb:F t=.bool b)
 (h1:b=true→DW P n k T id ops es F0 σ0 ex Q l es' (upd F t (.bool true)) Ss rs) (h0:b=false→DW P n k T id ops es F0 σ0 ex Q l es' (upd F t (.bool false)) Ss rs):DW P n k T id ops es F0 σ0 ex Q l es' F Ss rs:=by
 have e:F=upd F t (.bool b):=by
  funext x; unfold upd; split
  · rename_i h; rw[h,hb]
  rfl
 rw[e]
 cases b with
 |true=>exact h1 rfl
 |false=>exact h0 rfl
end
theorem evLoad_op {T:TT}{t id ver off:Nat}{σ:Store}:wY T t (.op id ver off) σ=match T t,Store.at σ id ver with
 |some i,some cs=>vaM cs off i.size i.agg
 |_,_=>none:=by
 cases h:T t<;>cases h2:Store.at σ id ver<;>simp[wY,h,h2]
theorem evRd_agg {cs:List AV}{off size:Nat}:vaM cs off size true=if off+size≤cs.length then some (.agg ((cs.drop off).take size)) else none:=rfl
theorem evRd_one {cs:List AV}{off size:Nat}:vaM cs off size false=if off<cs.length then some (gc cs off) else none:=rfl
theorem gc_hd {a:AV}{l:List AV}:gc (a::l) 0=a:=rfl
theorem gc_tl {a:AV}{l:List AV}{i:Nat}:gc (a::l) (i+1)=gc l i:=by simp[gc]
theorem fr_hd {a:AV}{l:List AV}:fr (a::l) 0=a:=rfl
theorem fr_nil {i:Nat}:fr [] i=.u:=rfl
attribute [go_sem] Run_some vaq wX isCall dstOk var ev Yd upd fr_hd fr_nil constAV constCell ZC cond_true cond_false decide_true decide_false if_true if_false uS Option.getD_none qg uE uF List.getElem?_nil u9 true_and and_true qG qx uB Option.map_none uG Bool.true_eq_false qZ qK qC beq_self_eq_true beq_tr beq_fa evBinA evBin evInt evUn evStr evPick evNil XY evIface YP evBox evStore evLoad_op evRd_agg evRd_one TypeDesc.isAgg TI.agg AV.okc AV.one AV.cells gc_hd gc_tl yL Store.at_hd Store.at_tl Store.mapAt_hd Store.mapAt_tl Store.iterAt_hd Store.iterAt_tl qk qn uA uQ qA qz q5 ud qL uK and_self qD List.drop_succ_cons List.take_succ_cons List.take_zero List.take_nil List.drop_nil qt uY ne_eq not_true_eq_false not_false_eq_true Xe vbB foldO evMax2 evMin2 XW evRange exists_eq exists_eq' RunD_some evD memFree stabs agr agrs isAlloc hasN ownL ownA refs XM qM q3 or_true true_or or_false false_or Option.some.injEq Prod.mk.injEq implies_true forall_const noGotoQ_normal noGotoQ_ret noGotoQ_exit zt thenQ_ret thenQ_exit thenQ_goto ZE blockQ_ret blockQ_exit evBuild ZJ Y8 Option.isSome_some List.getElem_toArray List.size_toArray List.getElem_cons_zero List.getElem_cons_succ
end AM
end
section
namespace AM
open Go.RowKit
structure Enc (T:TT)(t e sz:Nat){α:Type}(enc:α→List AV):Prop where
 sl:∃ i,T t=some i∧i.desc=.slice e
 el:∃ j,T e=some j∧j.size=sz
 pos:0<sz
 len:∀ x,(enc x).length=sz
section
variable {T:TT} {t e sz:Nat} {α:Type} {enc:α→List AV}
theorem zA (h:∀ x,(enc x).length=sz)(l:List α):(l.flatMap enc).length=l.length*sz:=by
 induction l with
 |nil=>simp
 |cons x l ih=>rw[qM,qi,ih,h,qk,uX]; omega
theorem enc_drop (h:∀ x,(enc x).length=sz)(l:List α)(i:Nat):(l.flatMap enc).drop (i*sz)=(l.drop i).flatMap enc:=by
 induction l generalizing i with
 |nil=>simp
 |cons x l ih=>
  cases i with
  |zero=>simp
  |succ i=>
   rw[uX,Nat.add_comm,← u6,qM,← h x,List.drop_left,h x,ih,List.drop_succ_cons]
theorem enc_take (h:∀ x,(enc x).length=sz)(l:List α)(i:Nat):(l.flatMap enc).take (i*sz)=(l.take i).flatMap enc:=by
 induction l generalizing i with
 |nil=>simp
 |cons x l ih=>
  cases i with
  |zero=>simp
  |succ i=>
   have e:(i+1)*sz=(enc x).length+i*sz:=by rw[h,uX]; omega
   rw[qM,e,List.take_length_add_append,ih,List.take_succ_cons,qM]
theorem enc_get (h:∀ x,(enc x).length=sz){l:List α}{i:Nat}(hi:i<l.length):((l.flatMap enc).drop (i*sz)).take sz=enc l[i]:=by
 rw[enc_drop h,uT hi,qM,← h l[i],List.take_left]
theorem enc_gc (h:∀ x,(enc x).length=sz){l:List α}{i o:Nat}(hi:i<l.length)(ho:o<sz):gc (l.flatMap enc) (i*sz+o)=gc (enc l[i]) o:=by
 have h1:=enc_get h hi
 have h2:gc (((l.flatMap enc).drop (i*sz)).take sz) o=gc (l.flatMap enc) (i*sz+o):=by
  simp only[gc,qv,List.getElem?_take,List.getElem?_drop,ho,if_true]
 rw[← h2,h1]
theorem Enc.idx (h:Enc T t e sz enc){l:List α}{k:Int}(h0:0≤k)(h1:k<l.length)(nl tt:Bool)(q:IntKind):
 xU T t (.ds nl (l.flatMap enc) l.length tt) (.int q k)=some (.dp (l.flatMap enc) (k.toNat*sz)):=by
 obtain⟨i,hi,hd⟩:=h.sl;obtain⟨j,hj,hs⟩:=h.el
 have h2:k.toNat*sz<(l.flatMap enc).length:=by
  rw[zA h.len]
  have:k.toNat<l.length:=by omega
  exact Nat.mul_lt_mul_of_lt_of_le this (qu _) h.pos
 simp only[xU,hi,hd,hj,hs];rw[if_pos ⟨h0,h1,h2⟩]
theorem Enc.idxo (h:Enc T t e sz enc){len:Nat}{k:Int}(h0:0≤k)(h1:k<len)(nl tt:Bool)(q:IntKind)(sz' id ver off:Nat):
 xU T t (.os nl sz' id ver off len tt) (.int q k)=some (.op id ver (off+k.toNat*sz)):=by
 obtain⟨i,hi,hd⟩:=h.sl;obtain⟨j,hj,hs⟩:=h.el;simp only[xU,hi,hd,hj,hs];rw[if_pos ⟨h0,h1⟩]
theorem evRd_enc (h:∀ x,(enc x).length=sz){l:List α}{i:Nat}(hi:i<l.length):vaM (l.flatMap enc) (i*sz) sz true=some (.agg (enc l[i])):=by
 have:i*sz+sz≤(l.flatMap enc).length:=by
  rw[zA h,← uX]; exact qY _ hi
 simp only[vaM,if_true];rw[if_pos this,enc_get h hi]
theorem evRd_fld (h:∀ x,(enc x).length=sz){l:List α}{i o n:Nat}(hi:i<l.length)(ho:o<sz):vaM (l.flatMap enc) (i*sz+o) n false=some (gc (enc l[i]) o):=by
 have:i*sz+o<(l.flatMap enc).length:=by
  rw[zA h]
  have:i*sz+sz≤l.length*sz:=by rw[← uX]; exact qY _ hi
  omega
 simp only[vaM,qZ,if_false];rw[if_pos this,enc_gc h hi ho]
theorem Enc.load (h:Enc T t e sz enc){j:TI}(hj:T e=some j)(hag:j.agg=true){l:List α}{i:Nat}(hi:i<l.length)(σ:Store):wY T e (.dp (l.flatMap enc) (i*sz)) σ=some (.agg (enc l[i])):=by
 obtain⟨j',hj',hs⟩:=h.el
 rw[hj] at hj'; cases hj'
 simp only[wY,hj,hag,hs];exact evRd_enc h.len hi
theorem Enc.fld (h:Enc T t e sz enc){f:Nat}{j:TI}(hj:T f=some j)(hag:j.agg=false){l:List α}{i o:Nat}(hi:i<l.length)(ho:o<sz)(σ:Store):wY T f (.dp (l.flatMap enc) (i*sz+o)) σ=some (gc (enc l[i]) o):=by
 simp only[wY,hj,hag];exact evRd_fld h.len hi ho
end
theorem xZ {sz:Nat}{α:Type}{enc:α→List AV}(h:∀ x,(enc x).length=sz)(l:List α)(nl tt:Bool)(σ:Store):ya σ sz (.ds nl (l.flatMap enc) l.length tt)=some (l.length,l.flatMap enc):=by
 simp only[ya,zA h,qu,if_true];rw[uh (by rw[zA h]; exact qu _)]
theorem Enc.app {T:TT}{t e sz:Nat}{α:Type}{enc:α→List AV}(h:Enc T t e sz enc)(ho:∀ x,(enc x).all AV.one=true){j:TI}(hj:T e=some j)(hb:0<j.bytes)(l:List α)(s:AV)(hn:(yp s+l.length)*j.bytes≤140737488355328)(nl tt:Bool)(σ:Store):
 ym T t t s (.ds nl (l.flatMap enc) l.length tt) σ=zW sz s l.length (l.flatMap enc) σ:=by
 obtain⟨i,hi,hd⟩:=h.sl;obtain⟨j',hj',hs⟩:=h.el
 rw[hj] at hj'; cases hj'
 have h1:(l.flatMap enc).all AV.one=true:=by
  rw[List.all_flatMap]
  exact ub.2 fun x _=>ho x
 simp only[ym,hi,hd,hj,hs,xZ h.len];rw[if_pos ⟨hn,hb,h.pos,h1⟩]
theorem Enc.fld0 {T:TT}{t e sz:Nat}{α:Type}{enc:α→List AV}(h:Enc T t e sz enc){f:Nat}{j:TI}(hj:T f=some j)(hag:j.agg=false){l:List α}{i:Nat}(hi:i<l.length)(σ:Store):wY T f (.dp (l.flatMap enc) (i*sz)) σ=some (gc (enc l[i]) 0):=by
 have:=h.fld hj hag hi h.pos σ
 rwa [uY] at this
theorem enc_rd0 {sz:Nat}{α:Type}{enc:α→List AV}(h:∀ x,(enc x).length=sz){l:List α}{k n:Nat}(hk:k<l.length)(ho:0<sz):vaM (l.flatMap enc) (k*sz) n false=some (gc (enc l[k]) 0):=by
 have:=evRd_fld (n:=n) h hk ho
 rwa [uY] at this
def encI (n:Int):List AV:=[.int .i64 n]
def encS (s:List UInt8):List AV:=[.str s]
def encB (b:UInt8):List AV:=[.int .u8 b.toNat]
theorem XH (l:List UInt8):bys l=l.flatMap encB:=by
 induction l with
 |nil=>rfl
 |cons b l ih=>rw[qM,← ih]; rfl
theorem yr {x:Int}(h : -9223372036854775808≤x)(h':x<9223372036854775808):IntKind.i64.wrap x=x:=va7 h h'
section
variable {σ:Store} {keep:List Nat} {ls:Bool} {f:Nat}
theorem tell_u : tell σ keep ls (f+1) .u=.u:=rfl
theorem tell_bool {b:Bool}:tell σ keep ls (f+1) (.bool b)=.bool b:=rfl
theorem YH {k:IntKind}{n:Int}:tell σ keep ls (f+1) (.int k n)=.int k n:=rfl
theorem Xj {s:List UInt8}:tell σ keep ls (f+1) (.str s)=.str s:=rfl
theorem tell_nilp : tell σ keep ls (f+1) .nilp=.nilp:=rfl
theorem tell_nilm : tell σ keep ls (f+1) .nilm=.nilm:=rfl
theorem tell_nilI : tell σ keep ls (f+1) .nilI=.nilI:=rfl
theorem tell_nilF : tell σ keep ls (f+1) .nilF=.nilF:=rfl
theorem tell_agg {l:List AV}:tell σ keep ls (f+1) (.agg l)=.agg (l.map (tell σ keep ls f)):=rfl
theorem tell_tup {l:List AV}:tell σ keep ls (f+1) (.tup l)=.tup (l.map (tell σ keep ls f)):=rfl
theorem tell_ifc {t:TypeId}{a:AV}:tell σ keep ls (f+1) (.ifc t a)=.ifc t (tell σ keep ls f a):=rfl
theorem YI {nl:Bool}{cs:List AV}{len:Nat}{t:Bool}:tell σ keep ls (f+1) (.ds nl cs len t)=.ds (nl||ls) (cs.map (tell σ keep ls f)) len (t && !ls):=rfl
theorem tell_dp {cs:List AV}{off:Nat}:tell σ keep ls (f+1) (.dp cs off)=.dp (cs.map (tell σ keep ls f)) off:=rfl
theorem tell_op {id ver off:Nat}:tell σ keep ls (f+1) (.op id ver off)=match Zg keep id 0 with
 |some j=>.op j ver off
 |none=>match Store.at σ id ver with
  |some (c::cs)=>.dp ((c::cs).map (tell σ keep ls f)) off
  |_=>.u:=rfl
theorem wZ {nl:Bool}{sz id ver off len:Nat}{t:Bool}:tell σ keep ls (f+1) (.os nl sz id ver off len t)=match Zg keep id 0 with
 |some j=>.os nl sz j ver off len t
 |none=>match Store.at σ id ver with
  |some cs=>if off+len*sz≤cs.length then .ds true (((cs.drop off).take (len*sz)).map (tell σ keep ls f)) len false else .u
  |none=>.u:=rfl
theorem tell_mp {id:Nat}:tell σ keep ls (f+1) (.mp id)=match Zg keep id 0 with
 |some j=>.mp j
 |none=>.u:=rfl
theorem wP {id j:Nat}:Zg [] id j=none:=rfl
theorem wS {x:Nat}{l:List Nat}{id j:Nat}:Zg (x::l) id j=if x=id then some j else Zg l id (j+1):=rfl
theorem vbd : tellS σ [] ls f=[]:=rfl
theorem Yg {id:Nat}:tellS σ (id::keep) ls f=YZ σ (id::keep) ls f (σ.getD id .dead)::keep.map fun i=>YZ σ (id::keep) ls f (σ.getD i .dead):=rfl
theorem ZF {ver:Nat}{cs:List AV}:YZ σ keep ls f (.cells ver cs)=.cells ver (cs.map (tell σ keep ls f)):=rfl
theorem tellO_map {es:List (AV×AV)}:YZ σ keep ls f (.map es)=.map (es.map fun e=>(tell σ keep ls f e.1,tell σ keep ls f e.2)):=rfl
theorem tellO_iter {s:List UInt8}{p:Nat}:YZ σ keep ls f (.iter s p)=.iter s p:=rfl
theorem tellO_dead : YZ σ keep ls f .dead=.dead:=rfl
theorem Yi {o:Zo}{s:Store}:List.getD (o::s) 0 .dead=o:=rfl
theorem Yh {o:Zo}{s:Store}{i:Nat}:List.getD (o::s) (i+1) Zo.dead=s.getD i .dead:=by simp
end
end AM
end
section
namespace AM
open Go.RowKit
def fs : List (Nat×AV)→Fr
 |[],_=>.u
 |(t,a)::l,s=>if s=t then a else fs l s
def vak (F:Fr)(m:List Nat):List (Nat×AV):=m.map fun t=>(t,F t)
theorem xz {s:Nat}:fs [] s=.u:=rfl
theorem yV {t s:Nat}{a:AV}{l:List (Nat×AV)}:fs ((t,a)::l) s=if s=t then a else fs l s:=rfl
theorem Xa {F:Fr}:vak F []=[]:=rfl
theorem Yp {F:Fr}{t:Nat}{m:List Nat}:vak F (t::m)=(t,F t)::vak F m:=rfl
attribute [go_sem] xz yV Xa Yp
def Fits (F:Fr):List (Nat×AV)→Prop
 |[]=>True
 |(t,a)::l=>F t=a∧Fits F l
theorem FR.fits {E:Env}{n:Nat}{F:Fr}{a:Act}(h:FR E n F a):∀ {L:List (Nat×AV)},Fits F L→FR E n (fs L) a:=by
 intro L hL
 refine⟨h.size,h.defers,fun t=>?_⟩
 induction L with
 |nil=>exact .u _
 |cons p L ih=>
  obtain⟨s,x⟩:=p;obtain⟨h1,h2⟩:=hL;rw[yV]
  split
  · rename_i e; subst e; rw[← h1]; exact h.tmps t
  exact ih h2
theorem fits_keepS (F:Fr)(m:List Nat):Fits F (vak F m):=by
 induction m with
 |nil=>trivial
 |cons t m ih=>exact⟨rfl,ih⟩
def TLS (σ:Store)(keep:List Nat)(ls:Bool)(F:Fr):List (Nat×AV)→Prop
 |[]=>True
 |(t,a)::l=>tell σ keep ls 12 (F t)=a∧TLS σ keep ls F l
inductive TellS (k:Nat)(F:Fr)(σ:Store)(L:List (Nat×AV))(τ:Store):Prop
 |same (h:Fits F L) (e:σ=τ)
 |told (keep:List Nat) (ls:Bool) (h1:keep.Nodup) (h2:∀ id∈keep,id<σ.length) (h3:keep.take k=uy k) (h4:tellS σ keep ls 12=τ) (h5:TLS σ keep ls F L)
theorem FR.tls {E:Env}{n:Nat}{F:Fr}{a:Act}{σ:Store}(hS:SR E σ)(hF:FR E n F a){keep:List Nat}{ls:Bool}{L:List (Nat×AV)}(hL:TLS σ keep ls F L):FR (E.ren keep) n (fs L) a:=by
 refine⟨hF.size,hF.defers,fun t=>?_⟩
 induction L with
 |nil=>exact .u _
 |cons p L ih=>
  obtain⟨s,x⟩:=p;obtain⟨h1,h2⟩:=hL;rw[yV]
  split
  · rename_i e; subst e; rw[← h1]; exact VR.tell hS 12 _ (hF.tmps t)
  exact ih h2
theorem TellS.env {k:Nat}{F:Fr}{σ:Store}{L:List (Nat×AV)}{τ:Store}(h:TellS k F σ L τ){E:Env}{n:Nat}{a:Act}(hk:k≤E.n)(hS:SR E σ)(hF:FR E n F a):
 ∃ E',E'.w=E.w∧SR E' τ∧FR E' n (fs L) a∧Yc k E E':=by
 cases h with
 |same h e=>subst e; exact⟨E,rfl,hS,hF.fits h,Yc.refl E hk⟩
 |told keep ls h1 h2 h3 h4 h5=>
  subst h4;exact⟨E.ren keep,rfl,hS.tell h1 h2 ls 12,hF.tls hS h5,Yc.ren hS.stb h3⟩
theorem upon_mono {P:Program}{ops:Array Oper}{Q1 Q2:Exit→Act→World→Prop}(hq:∀ e a w,e≠.normal→Q1 e a w→Q2 e a w)(o:Oper)(K K':Act→World→Prop)(a:Act)(w:World)(hK:∀ a w,K a w→K' a w)(h:o.wp P a w K Q1):o.wp P a w K' Q2:=by
 unfold Oper.wp at *
 generalize (execOp a.eval o).run P w=r at *
 cases r with
 |ok x w'=>
  cases x<;>simp only[Oper.upon] at h ⊢
  case value v=>exact hK _ _ h
  case skip=>exact hK _ _ h
  case defer d=>exact hK _ _ h
  case enter f args=>
   refine h.mono fun e w'' he=>?_
   cases e with
   |returned v=>exact hK _ _ he
   |panicked c=>exact hq _ _ _ (by simp) he
   |outgrown=>obtain⟨a,w,hp⟩:=he; exact⟨a,w,hq _ _ _ (by simp) hp⟩
  case row row args=>exact h.mono fun v w'' he=>hK _ _ he
 |halt x w'=>
  cases x<;>simp only[Oper.upon] at h ⊢
  case panic v=>exact hq _ _ _ (by simp) h
theorem wpList_app {P:Program}{ops:Array Oper}{Q1 Q2:Exit→Act→World→Prop}(l2:List Oper)(hn:∀ a w,Q1 .normal a w→wpList P ops Q2 l2 a w)(hq:∀ e a w,e≠.normal→Q1 e a w→Q2 e a w):
 ∀ (l1:List Oper) (a:Act) (w:World),wpList P ops Q1 l1 a w→wpList P ops Q2 (l1++l2) a w:=by
 intro l1
 induction l1 with
 |nil=>intro a w h; exact hn a w h
 |cons o l ih=>
  intro a w h
  rw[qA];unfold wpList at h ⊢
  split
  · rename_i hw
    rw[if_pos hw] at h
    rcases h with h|⟨h1,a',w',h2⟩
    · exact .inl (upon_mono (ops:=ops) hq o _ _ a w (fun a w=>ih a w) h)
    exact .inr ⟨h1,a',w',hq _ _ _ (by simp) h2⟩
  rename_i hw
  rw[if_neg hw] at h;exact ih _ _ h
theorem wpList_mono' {P:Program}{ops:Array Oper}{Q1 Q2:Exit→Act→World→Prop}(hq:∀ e a w,Q1 e a w→Q2 e a w)(l:List Oper)(a:Act)(w:World)(h:wpList P ops Q1 l a w):wpList P ops Q2 l a w:=by
 have:=wpList_app (Q2:=Q2) [] (fun a w h=>hq _ _ _ h) (fun e a w _ h=>hq _ _ _ h) l a w h
 rwa [qw] at this
section
variable {P:Program} {n k:Nat} {Q:Exit→Fr→Store→Prop} {F:Fr} {σ:Store}
theorem yc {c:Code}{L:List (Nat×AV)}{τ:Store}(ht:TellS k F σ L τ)(h:awp P n k c Q (fs L) τ):awp P n k c Q F σ:=by
 intro E a hk hS hF
 obtain⟨E',h1,h2,h3,h4⟩:=ht.env hk hS hF;rw[← h1]
 exact wp_mono (h E' a h4.n h2 h3) fun e a w hp=>wR h4 hp
theorem zm {args:List AV}{c:Code}(L:List (Nat×AV))(hL:Fits (fr args) L)(h:awp P n k c Q (fs L) σ):awp P n k c Q (fr args) σ:=yc (.same hL rfl) h
theorem vbO (m:List Nat){c:Code}(h:awp P n k c Q (fs (vak F m)) σ):awp P n k c Q F σ:=yc (.same (fits_keepS F m) rfl) h
theorem rg {T:TT}(hT:TOK P T)(m:List Nat){id:Nat}{l:List Oper}{y:Code}
 (h:∀ K:List (Nat×AV)→Store→Prop,(∀ L σ,awp P n k y Q (fs L) σ→K L σ)→Run (vaq T n l.toArray l F σ) fun l' F' σ'=>l'=[]∧K (vak F' m) σ'):awp P n k (.seq (.region id l.toArray false) y) Q F σ:=by
 refine za fun K hK=>Xm ?_
 have h1:=h (fun L σ'=>awp P n k y Q (fs L) σ') fun _ _ h=>h
 unfold Run at h1
 split at h1
 · rename_i l' F' σ' he
   obtain⟨rfl,h2⟩:=h1;exact opsWp_run hT he (zb (hK _ _ (vbO m h2)))
 exact h1.elim
theorem rc (m:List Nat){id:Nat}{l:List Oper}{y:Code}
 (h:∀ K:List (Nat×AV)→Store→Prop,(∀ L σ,awp P n k y Q (fs L) σ→K L σ)→wL P n k l.toArray l (Xo (fun F σ=>K (vak F m) σ) Q) F σ):awp P n k (.seq (.region id l.toArray false) y) Q F σ:=by
 refine za fun K hK=>Xm ?_
 have h1:=h (fun L σ'=>awp P n k y Q (fs L) σ') fun _ _ h=>h
 intro E a hk hS hF
 have:=h1 E a hk hS hF;refine wpList_mono' (fun e a w hp=>?_) _ _ _ this;obtain⟨E',F',σ',e1,e2,e3,e4,e5⟩:=hp;refine⟨E',F',σ',e1,e2,e3,e4,?_⟩
 cases e with
 |normal=>exact hK _ _ (vbO m e5)
 |_=>exact e5
theorem rd (m:List Nat){c y:Code}(h:∀ K:List (Nat×AV)→Store→Prop,(∀ L σ,awp P n k y Q (fs L) σ→K L σ)→awp P n k c (Xo (fun F σ=>K (vak F m) σ) Q) F σ):awp P n k (.seq c y) Q F σ:=by
 refine za fun K hK=>?_
 refine X4 (h (fun L σ'=>awp P n k y Q (fs L) σ') fun _ _ h=>h) fun e F σ hq=>?_
 cases e with
 |normal=>exact hK _ _ (vbO m hq)
 |_=>exact hq
theorem xG {x y:Code}(I:List (Nat×AV)→Store→Prop)(hx:awp P n k x (Xo (fun F σ=>∃ L τ,I L τ∧TellS k F σ L τ) Q) F σ)(hy:∀ L τ,I L τ→awp P n k y Q (fs L) τ):awp P n k (.seq x y) Q F σ:=by
 refine za fun K hK=>X4 hx fun e F σ hq=>?_
 cases e with
 |normal=>
  obtain⟨L,τ,h1,h2⟩:=hq;exact hK _ _ (yc h2 (hy L τ h1))
 |_=>exact hq
theorem zh {ops:Array Oper}{l:List Oper}(m:Nat)(I:List (Nat×AV)→Store→Prop)(hx:wL P n k ops (l.take m) (fun e F σ=>e=.normal∧∃ L τ,I L τ∧TellS k F σ L τ) F σ)
 (hy:∀ L τ,I L τ→wL P n k ops (l.drop m) Q (fs L) τ):wL P n k ops l Q F σ:=by
 intro E a hk hS hF
 have h1:=hx E a hk hS hF
 have:=wpList_app (Q2:=post n k Q E) (l.drop m) (fun a w h=>by
  obtain⟨E',F',σ',e1,e2,e3,e4,_,L,τ,e5,e6⟩:=h;obtain⟨E2,g1,g2,g3,g4⟩:=e6.env e4.n e2 e3;have:=hy L τ e5 E2 a g4.n g2 g3;rw[g1,e1] at this
  exact YG (e4.trans g4) _ _ _ this) (fun e a w hne h=>by
  obtain⟨_,_,_,_,_,_,_,h,_⟩:=h
  exact absurd h hne) (l.take m) a E.w h1
 rwa [um] at this
theorem zC {c:Code}(I:Nat→List (Nat×AV)→Store→Prop)(m:Nat){L:List (Nat×AV)}{τ:Store}(h0:I m L τ)(ht:TellS k F σ L τ)
 (round:∀ m L τ,I m L τ→awp P n k c (Xo (fun F' σ'=>∃ m' L' τ',m'<m∧I m' L' τ'∧TellS k F' σ' L' τ') Q) (fs L) τ):awp P n k (.loop c) Q F σ:=by
 refine awp_loop (fun m F σ=>∃ L τ,I m L τ∧TellS k F σ L τ) m ⟨L,τ,h0,ht⟩ ?_;rintro m F σ ⟨L,τ,h1,h2⟩;refine yc h2 (X4 (round m L τ h1) fun e F σ hq=>?_)
 cases e with
 |normal=>
  obtain⟨m',L',τ',a,b,c⟩:=hq;exact⟨m',a,L',τ',b,c⟩
 |_=>exact hq
end
def AV.bnd : AV→Prop
 |.ds _ _ len _=>len≤9223372036854775807
 |.os _ _ _ _ _ len _=>len≤9223372036854775807
 |_=>True
theorem VR.bnd {E:Env}{a:AV}{v:Value}(h:VR E a v):a.bnd:=by
 cases h with
 |dsn=>show 0≤_; omega
 |ds _ _ _ _ _ _ _ _ _ _ _ _ hB=>exact hB
 |osn=>show 0≤_; omega
 |os _ _ _ _ _ _ _ _ _ _ _ _ hB=>exact hB
 |_=>trivial
section
variable {P:Program} {n k:Nat} {Q:Exit→Fr→Store→Prop} {F:Fr} {σ:Store}
end
def wV {α:Type}(l:List α)(i:Int):Option α:=if 0≤i then l[i.toNat]? else none
def grd (p:Prop) [Decidable p]:Option Unit:=if p then some () else none
def bnd {α β:Type}(a:α)(f:α→β):β:=f a
def Y5 (n b:Nat):Option Unit:=if n*b≤140737488355328 then some () else none
def setI {α:Type}(l:List α)(i:Int)(x:α):List α:=l.set i.toNat x
theorem yT {σ:Store}{size:Nat}{nl:Bool}{sz id ver off len:Nat}{t:Bool}:ya σ size (.os nl sz id ver off len t)=match Store.at σ id ver with
 |some cs=>if off+len*size≤cs.length then some (len,(cs.drop off).take (len*size)) else none
 |none=>none:=rfl
theorem srcCells_s {σ:Store}{size:Nat}{s:List UInt8}:ya σ size (.str s)=if size=1 then some (s.length,bys s) else none:=rfl
theorem bind_some {α β:Type}{o:Option α}{f:α→Option β}{r:β}(h:o.bind f=some r):∃ x,o=some x∧f x=some r:=by
 cases o with
 |none=>cases h
 |some x=>exact⟨x,rfl,h⟩
theorem zR {α β:Type}{a:α}{f:α→β}{r:β}(h:bnd a f=r):∃ x,a=x∧f x=r:=⟨a,rfl,h⟩
theorem wB {p:Prop} [Decidable p]{u:Unit}(h:grd p=some u):p:=by
 unfold grd at h
 split at h
 · assumption
 cases h
theorem yA {n b:Nat}{u:Unit}(h:Y5 n b=some u):(n*b≤140737488355328)=True:=by
 unfold Y5 at h
 split at h
 · rename_i hb; exact eq_true hb
 cases h
theorem xT {α:Type}{l:List α}{i:Int}{x:α}(h:wV l i=some x):0≤i∧i<l.length∧∃ hi:i.toNat<l.length,l[i.toNat]=x:=by
 unfold wV at h
 split at h
 · obtain⟨hi,e⟩:=q1.1 h;exact⟨by assumption,by omega,hi,e⟩
 cases h
theorem xD {α:Type}{b:Bool}{x y:α}(h:b=false):(if b=true then x else y)=y:=by rw[h]; rfl
theorem yd {α:Type}{l pre post:List α}{y:α}{i:Int}(hE:l=pre++y::post)(hi:i=(pre.length:Int))(hb:l.length≤9223372036854775807):
 (i<(l.length:Int))=True∧IntKind.i64.wrap (i+1)=i+1∧wV l i=some y∧l=(pre++[y])++post∧i+1=((pre++[y]).length:Int):=by
 have hl:l.length=pre.length+(post.length+1):=by rw[hE]; simp
 refine⟨eq_true (by omega),yr (by omega) (by omega),?_,by rw[hE]; simp,by rw[hi]; simp⟩;unfold wV;rw[if_pos (by omega),hi,qW,hE]
 simp
theorem yz {α:Type}{l pre:List α}{i:Int}(hE:l=pre++[])(hi:i=(pre.length:Int)):(i<(l.length:Int))=False:=by
 have hl:l.length=pre.length:=by rw[hE]; simp
 exact eq_false (by omega)
section
variable {T:TT} {t e sz:Nat} {α:Type} {enc:α→List AV}
theorem Enc.idxS (h:Enc T t e sz enc){l:List α}{i:Int}{x:α}(hx:wV l i=some x)(nl tt:Bool)(q:IntKind):xU T t (.ds nl (l.flatMap enc) l.length tt) (.int q i)=some (.dp (l.flatMap enc) (i.toNat*sz)):=by
 obtain⟨h0,h1,_⟩:=xT hx;exact h.idx h0 h1 nl tt q
theorem Enc.loadS (h:Enc T t e sz enc){j:TI}(hj:T e=some j)(hag:j.agg=true){l:List α}{i:Int}{x:α}(hx:wV l i=some x)(σ:Store):wY T e (.dp (l.flatMap enc) (i.toNat*sz)) σ=some (.agg (enc x)):=by
 obtain⟨_,_,h2,h3⟩:=xT hx;rw[h.load hj hag h2,h3]
theorem Enc.fldS (h:Enc T t e sz enc){f:Nat}{j:TI}(hj:T f=some j)(hag:j.agg=false){l:List α}{i:Int}{x:α}(hx:wV l i=some x){o:Nat}(ho:o<sz)(σ:Store):wY T f (.dp (l.flatMap enc) (i.toNat*sz+o)) σ=some (gc (enc x) o):=by
 obtain⟨_,_,h2,h3⟩:=xT hx;rw[h.fld hj hag h2 ho,h3]
theorem Enc.fldS0 (h:Enc T t e sz enc){f:Nat}{j:TI}(hj:T f=some j)(hag:j.agg=false){l:List α}{i:Int}{x:α}(hx:wV l i=some x)(σ:Store):wY T f (.dp (l.flatMap enc) (i.toNat*sz)) σ=some (gc (enc x) 0):=by
 obtain⟨_,_,h2,h3⟩:=xT hx;rw[h.fld0 hj hag h2,h3]
end
end AM
end
section
namespace AM
open Go.RowKit
section
variable {P:Program} {n k:Nat} {Q:Exit→Fr→Store→Prop} {F:Fr} {σ:Store}
theorem rdE (m:List Nat){c:Code}(h:∀ K:List (Nat×AV)→Store→Prop,(∀ L σ,Q .normal (fs L) σ→K L σ)→awp P n k c (Xo (fun F σ=>K (vak F m) σ) Q) F σ):awp P n k c Q F σ:=by
 have h1:=h (fun L σ=>Q .normal (fs L) σ) fun _ _ h=>h
 intro E a hk hS hF
 refine wp_mono (h1 E a hk hS hF) fun e a w hp=>?_
 obtain⟨E',F',σ',e1,e2,e3,e4,e5⟩:=hp
 cases e with
 |normal=>exact⟨E',fs (vak F' m),σ',e1,e2,e3.fits (fits_keepS F' m),e4,e5⟩
 |_=>exact⟨E',F',σ',e1,e2,e3,e4,e5⟩
theorem rgE {T:TT}(hT:TOK P T)(m:List Nat){id:Nat}{l:List Oper}
 (h:∀ K:List (Nat×AV)→Store→Prop,(∀ L σ,Q .normal (fs L) σ→K L σ)→Run (vaq T n l.toArray l F σ) fun l' F' σ'=>l'=[]∧K (vak F' m) σ'):awp P n k (.region id l.toArray false) Q F σ:=
 rdE m fun K hK=>regEnd hT (h K hK)
theorem rcE (m:List Nat){id:Nat}{l:List Oper}
 (h:∀ K:List (Nat×AV)→Store→Prop,(∀ L σ,Q .normal (fs L) σ→K L σ)→wL P n k l.toArray l (Xo (fun F σ=>K (vak F m) σ) Q) F σ):awp P n k (.region id l.toArray false) Q F σ:=
 rdE m fun K hK=>Xm (h K hK)
theorem Zw {c:Code}(t sz:Nat){nl:Bool}{L:List (Nat×AV)}(ht:fs L t=.ds nl [] 0 true)(h:awp P n k c Q (fs ((t,.os true sz σ.length 0 0 0 false)::L)) (σ++[.cells 0 []])):awp P n k c Q (fs L) σ:=
 awp_virt t sz ht h
end
theorem ZM {P:Program}{n k:Nat}{Q:Exit→Fr→Store→Prop}{F:Fr}{σ:Store}{c:Code}(id i sz:Nat){cs:List AV}(hcs:Store.at σ id 0=some cs)(hi:i<cs.length){nl:Bool}(hc:gc cs i=.ds nl [] 0 true)
 {L:List (Nat×AV)} {τ:Store} (ht:TellS k F ((σ.set id (.cells 0 (cs.set i (.os true sz σ.length 0 0 0 false))))++[.cells 0 []]) L τ) (h:awp P n k c Q (fs L) τ):awp P n k c Q F σ:=
 awp_virtIn hcs hi hc sz (yc ht h)
theorem vbu {P:Program}{n k:Nat}{Q:Exit→Fr→Store→Prop}{F:Fr}{σ:Store}{ops:Array Oper}{l:List Oper}{L:List (Nat×AV)}{τ:Store}(ht:TellS k F σ L τ)(h:wL P n k ops l Q (fs L) τ):wL P n k ops l Q F σ:=by
 intro E a hk hS hF
 obtain⟨E',h1,h2,h3,h4⟩:=ht.env hk hS hF;rw[← h1];exact YG h4 _ _ _ (h E' a h4.n h2 h3)
def AV.loose1 : AV→AV
 |.ds _ cs len _=>.ds true cs len false
 |a=>a
def AV.loose : AV→AV
 |.agg cs=>.agg (cs.map AV.loose1)
 |a=>a.loose1
theorem VR.loose1 {E:Env}{a:AV}{v:Value}(h:VR E a v):VR E a.loose1 v:=by
 cases h with
 |dsn t=>exact .dsn _
 |ds nl cells len t a cap vs ha hr hv hc ht hB=>exact .ds _ _ _ _ a cap vs ha hr hv hc (fun e=>by cases e) hB
 |u v=>exact .u _
 |bool b=>exact .bool _
 |int k n=>exact .int _ _
 |str l s h=>exact .str _ _ h
 |agg cs vs hl h=>exact .agg _ _ hl h
 |tup cs vs hl h=>exact .tup _ _ hl h
 |nilp=>exact .nilp
 |op id ver off a hk h=>exact .op _ _ _ _ hk h
 |dp cells off b o vs hr h=>exact .dp _ _ _ _ _ hr h
 |osn sz id ver off t a hk h=>exact .osn _ _ _ _ _ _ hk h
 |os nl sz id ver off len t a cap hk hc ht hB h=>exact .os _ _ _ _ _ _ _ _ _ hk hc ht hB h
 |mp id b hk h=>exact .mp _ _ hk h
 |nilm=>exact .nilm
 |fn f first cap vf vc hf hc h1 h2=>exact .fn _ _ _ _ _ hf hc h1 h2
 |nilF=>exact .nilF
 |ifc t a v h=>exact .ifc _ _ _ h
 |nilI=>exact .nilI
 |it id b hk h=>exact .it _ _ hk h
 |gp g=>exact .gp _
theorem VR.loose' {E:Env}{a:AV}{v:Value}(h:VR E a v):VR E a.loose v:=by
 cases a with
 |agg cs=>
  cases h with|agg _ vs hl hv=>
  refine .agg _ vs (by simp[hl]) fun i hi=>?_
  have hi':i<cs.length:=by simpa using hi
  rw[XD hi'];exact (hv i hi').loose1
 |_=>exact h.loose1
theorem ACalls.loose {P:Program}{f:FuncId}{args:List AV}{σ:Store}{R:AV→Store→Prop}(h:ACalls P f (args.map AV.loose) σ R):ACalls P f args σ R:=
 ⟨h.1,fun E vs hS hl=>h.2 E vs hS ⟨by rw[hl.1,q2],fun i hi=>by
  have hi':i<args.length:=by simpa using hi
  rw[XD hi']
  exact (hl.2 i hi').loose'⟩⟩
mutual
def AV.deep : AV→Prop
 |.ds _ cs len _=>len≤9223372036854775807∧vaP cs
 |.agg cs=>vaP cs
 |.os _ _ _ _ _ len _=>len≤9223372036854775807
 |_=>True
def vaP : List AV→Prop
 |[]=>True
 |a::l=>a.deep∧vaP l
end
theorem deepL_of : ∀ {cs:List AV},(∀ i,i<cs.length→(gc cs i).deep)→vaP cs:=by
 intro cs
 induction cs with
 |nil=>intro _; trivial
 |cons a l ih=>exact fun h=>⟨h 0 (by simp),ih fun i hi=>by simpa [gc] using h (i+1) (by simpa using hi)⟩
theorem VR.deep {E:Env}{a:AV}{v:Value}(h:VR E a v):a.deep:=by
 induction h with
 |ds _ _ _ _ _ _ _ _ _ _ _ _ hB ih=>exact⟨hB,deepL_of ih⟩
 |dsn=>exact⟨by omega,trivial⟩
 |agg cs vs hl _ ih=>exact deepL_of ih
 |os _ _ _ _ _ _ _ _ _ _ _ _ hB=>exact hB
 |osn=>show 0≤_; omega
 |_=>trivial
theorem deepL_append {a b:List AV}:vaP (a++b)→vaP a∧vaP b:=by
 induction a with
 |nil=>exact fun h=>⟨trivial,h⟩
 |cons x a ih=>exact fun h=>⟨⟨h.1,(ih h.2).1⟩,(ih h.2).2⟩
theorem deepL_mem {α:Type}{enc:α→List AV}:∀ {l:List α},vaP (l.flatMap enc)→∀ {y:α},y∈l→vaP (enc y)
 |[],_,y,hm=>by cases hm
 |x::l,h,y,hm=>by
  rw[qM] at h;obtain⟨h1,h2⟩:=deepL_append h
  rcases qJ.1 hm with rfl|hm
  · exact h1
  exact deepL_mem h2 hm
theorem deepL_idx {α:Type}{enc:α→List AV}{l:List α}(h:vaP (l.flatMap enc)){i:Int}{y:α}(hx:wV l i=some y):vaP (enc y):=by
 obtain⟨_,_,hi,he⟩:=xT hx;exact deepL_mem h (he▸List.getElem_mem hi)
theorem xb {P:Program}{n k:Nat}{Q:Exit→Fr→Store→Prop}{F:Fr}{σ:Store}(t:Nat){c:Code}(h:(F t).deep→awp P n k c Q F σ):awp P n k c Q F σ:=fun E a hk hS hF=>h (hF.tmps t).deep E a hk hS hF
theorem xI {P:Program}{n k:Nat}{Q:Exit→Fr→Store→Prop}{F:Fr}{σ:Store}(id:Nat){ver:Nat}{cs:List AV}(hi:σ[id]?=some (.cells ver cs)){c:Code}(h:vaP cs→awp P n k c Q F σ):awp P n k c Q F σ:=fun E a hk hS hF=>by
 refine h ?_ E a hk hS hF;have ho:=hS.obj id;rw[hi] at ho
 rcases ho with ⟨b,_,hb⟩|⟨rfl,_⟩
 · refine deepL_of fun i hi=>?_
   obtain⟨v,_,hv⟩:=hb.cell i hi;exact hv.deep
 trivial
def rounds : Nat:=1000000000000000000000
class wg {α:Type}(enc:α→List AV):Prop where
 h:∀ s x,canonL s (enc x)=true
theorem canon_all {α:Type}(enc:α→List AV) [hc:wg enc](s:Bool)(l:List α):canonL s (l.flatMap enc)=true:=canonL_flatMap s enc (hc.h s) l
theorem zE {α:Type}{enc:α→List AV} [hc:wg enc]{σ:Store}{keep:List Nat}{ls:Bool}{f:Nat}(l:List α):(l.flatMap enc).map (tell σ keep ls f)=l.flatMap enc:=wu σ keep ls _ f (canon_all enc ls l)
def encBo (x:Bool):List AV:=[.bool x]
def vas (k:IntKind)(n:Int):List AV:=[.int k n]
def encSl {α:Type}(enc:α→List AV)(x:List α):List AV:=[.ds true (x.flatMap enc) x.length false]
instance (k : IntKind) : wg (vas k) := ⟨fun _ _ => rfl⟩
instance : wg encI := ⟨fun _ _ => rfl⟩
instance : wg encS := ⟨fun _ _ => rfl⟩
instance : wg encB := ⟨fun _ _ => rfl⟩
instance : wg encBo := ⟨fun _ _ => rfl⟩
instance {α : Type} (enc : α → List AV) [wg enc] : wg (encSl enc) := ⟨fun s x => by simp [encSl, canonL, AV.canon, canon_all]⟩
class vbS {α:Type}(enc:α→List AV)(sz:Nat):Prop where
 h:∀ x,(enc x).length=sz
instance (k : IntKind) : vbS (vas k) 1 := ⟨fun _ => rfl⟩
instance : vbS encI 1 := ⟨fun _ => rfl⟩
instance : vbS encS 1 := ⟨fun _ => rfl⟩
instance : vbS encB 1 := ⟨fun _ => rfl⟩
instance : vbS encBo 1 := ⟨fun _ => rfl⟩
instance {α : Type} (enc : α → List AV) : vbS (encSl enc) 1 := ⟨fun _ => rfl⟩
theorem osE1 {α:Type}{enc:α→List AV}{sz:Nat} [h:vbS enc sz](l:List α):(l.length*sz≤(l.flatMap enc).length)=True:=eq_true (by rw[zA h.h]; exact qu _)
theorem osE2 {α:Type}{enc:α→List AV}{sz:Nat} [h:vbS enc sz](l:List α):(l.flatMap enc).take (l.length*sz)=l.flatMap enc:=uh (by rw[zA h.h]; exact qu _)
class vbR {α:Type}(enc:α→List AV):Prop where
 h:∀ x,(enc x).all AV.one=true
theorem Ze {α:Type}(enc:α→List AV) [hc:vbR enc](l:List α):(l.flatMap enc).all AV.one=true:=by
 induction l with
 |nil=>rfl
 |cons x l ih=>rw[qM,List.all_append,hc.h,ih]; rfl
instance (k : IntKind) : vbR (vas k) := ⟨fun _ => rfl⟩
instance : vbR encI := ⟨fun _ => rfl⟩
instance : vbR encS := ⟨fun _ => rfl⟩
instance : vbR encB := ⟨fun _ => rfl⟩
instance : vbR encBo := ⟨fun _ => rfl⟩
instance {α : Type} (enc : α → List AV) : vbR (encSl enc) := ⟨fun _ => rfl⟩
def Yx {α:Type}(l:List α)(a b:Int):List α:=(l.drop a.toNat).take (b.toNat-a.toNat)
theorem cutL_len {α:Type}{l:List α}{a b:Int}(h:0≤a∧a≤b∧b≤(l.length:Int)):(Yx l a b).length=b.toNat-a.toNat:=by
 unfold Yx; rw[uH,uI]; omega
section
variable {T:TT} {t e sz:Nat} {α:Type} {enc:α→List AV}
theorem cut_enc (h:∀ x,(enc x).length=sz)(l:List α)(a b:Nat):YX (l.flatMap enc) sz a b=((l.drop a).take (b-a)).flatMap enc:=by
 unfold YX; rw[enc_drop h,enc_take h]
theorem Enc.sl_lh (h:Enc T t e sz enc){l:List α}{a b:Int}(hg:0≤a∧a≤b∧b≤(l.length:Int))(q q':IntKind):
 wj T t (.ds true (l.flatMap enc) l.length false) (some (.int q a)) (some (.int q' b)) none=some (.ds true ((Yx l a b).flatMap enc) (Yx l a b).length false):=by
 obtain⟨i,hi,hd⟩:=h.sl;obtain⟨j,hj,hs⟩:=h.el;simp only[wj,hi,hd,hj,vaA,hs];rw[if_pos hg,cutL_len hg,cut_enc h.len]
 simp[Yx]
theorem Enc.sl_hi (h:Enc T t e sz enc){l:List α}{b:Int}(hg:(0:Int)≤0∧0≤b∧b≤(l.length:Int))(q:IntKind):
 wj T t (.ds true (l.flatMap enc) l.length false) none (some (.int q b)) none=some (.ds true ((Yx l 0 b).flatMap enc) (Yx l 0 b).length false):=by
 obtain⟨i,hi,hd⟩:=h.sl;obtain⟨j,hj,hs⟩:=h.el;simp only[wj,hi,hd,hj,vaA,hs];rw[if_pos hg,cutL_len hg,cut_enc h.len]
 simp[Yx]
theorem str_lo {i:TI}(hi:T t=some i)(hd:i.desc=.string){l:List UInt8}{a:Int}(hg:0≤a∧a≤(l.length:Int)∧(l.length:Int)≤(l.length:Int))(q:IntKind):
 wj T t (.str l) (some (.int q a)) none none=some (.str (Yx l a l.length)):=by
 simp only[wj,hi,hd,vaA]
 rw[if_pos hg]; rfl
theorem str_hi {i:TI}(hi:T t=some i)(hd:i.desc=.string){l:List UInt8}{b:Int}(hg:(0:Int)≤0∧0≤b∧b≤(l.length:Int))(q:IntKind):
 wj T t (.str l) none (some (.int q b)) none=some (.str (Yx l 0 b)):=by
 simp only[wj,hi,hd,vaA]
 rw[if_pos hg]; rfl
theorem idx_str {i:TI}(hi:T t=some i)(hd:i.desc=.string){l:List UInt8}{k:Int}{y:UInt8}(hx:wV l k=some y)(q:IntKind):Xd T t (.str l) (.int q k)=some (.int .u8 (y.toNat:Int)):=by
 obtain⟨h0,h1,h2,h3⟩:=xT hx;simp only[Xd,hi,hd]
 rw[if_pos ⟨h0,h1⟩,qv,qV h2,h3]; rfl
theorem va4 {src dst u:Nat}{i k j:TI}(hi:T src=some i)(hk:T dst=some k)(hd:i.desc=.slice u)(hks:k.desc=.string)(hj:T u=some j)(hjd:j.desc=.int .u8)(l:List UInt8)(nl tt:Bool)(σ:Store):
 ZT T src dst (.ds nl (l.flatMap encB) l.length tt) σ=some (.str l,σ):=by
 have h1:=xZ (enc:=encB) (sz:=1) (fun _=>rfl) l nl tt σ;rw[← XH] at h1 ⊢;simp only[ZT,hi,hk,hd,hks,hj,hjd,h1,unbs_bys,uB]
theorem xF {src dst:Nat}{i k:TI}{q:IntKind}(hi:T src=some i)(hk:T dst=some k)(hd:k.desc=.int q)(p:IntKind)(n:Int)(σ:Store):ZT T src dst (.int p n) σ=some (.int q (q.wrap n),σ):=by
 simp only[ZT,hi,hk,hd]
theorem conv_s2b {src dst u:Nat}{i k j:TI}(hi:T src=some i)(hk:T dst=some k)(hd:k.desc=.slice u)(hj:T u=some j)(hjd:j.desc=.int .u8)(hjs:j.size=1){l:List UInt8}(hl:l.length≤9223372036854775807)(σ:Store):
 ZT T src dst (.str l) σ=some (.os true 1 σ.length 0 0 l.length false,σ++[.cells 0 (l.flatMap encB)]):=by
 simp only[ZT,hi,hk,hd,hj,hjd];rw[if_pos ⟨hl,hjs⟩,XH]
end
theorem u8_wrap (x:Int):(((uf (qN (IntKind.u8.wrap x))).toNat:Nat):Int)=IntKind.u8.wrap x:=by
 have h0:0≤IntKind.u8.wrap x∧IntKind.u8.wrap x<256:=by
  simp only[IntKind.wrap,IntKind.signed,IntKind.bits]
  simp
  omega
 rw[UInt8.toNat_ofNat']
 omega
end AM
end
section
namespace AM
open Go.RowKit
structure KeyE {K:Type} [DecidableEq K](T:TT)(kt:TypeId)(ek:K→AV):Prop where
 h:∃ ik l,∃ kc:K→List AV,T kt=some ik∧cellsD T 20 kt=some l∧(∀ k:K,kCells ik (ek k)=some (kc k)∧(kc k).length=ik.size)∧∀ a b:K,ceqL l (kc a) (kc b)=some (decide (a=b))
theorem KeyE.str {T:TT}{kt:TypeId}{ik:TI}(h1:T kt=some ik)(h2:cellsD T 20 kt=some [.string])(h3:ik.agg=false)(h4:ik.size=1):KeyE T kt AV.str:=by
 refine⟨ik,_,fun k=>[.str k],h1,h2,fun k=>⟨by simp[kCells,h3],by simp[h4]⟩,fun a b=>?_⟩
 simp[ceqL,ceq]
theorem KeyE.int {T:TT}{kt:TypeId}{ik:TI}{q:IntKind}(h1:T kt=some ik)(h2:cellsD T 20 kt=some [.int q])(h3:ik.agg=false)(h4:ik.size=1):KeyE T kt (AV.int q):=by
 refine⟨ik,_,fun k=>[.int q k],h1,h2,fun k=>⟨by simp[kCells,h3],by simp[h4]⟩,fun a b=>?_⟩
 simp[ceqL,ceq]
section
variable {K V:Type}
def we (ek:K→AV)(ev:V→AV)(M:List (K×V)):List (AV×AV):=M.map fun p=>(ek p.1,ev p.2)
def vao [DecidableEq K]:List (K×V)→K→Option V
 |[],_=>none
 |(a,v)::l,k=>if k=a then some v else vao l k
def vad [DecidableEq K]:List (K×V)→K→V→List (K×V)
 |[],k,v=>[(k,v)]
 |(a,w)::l,k,v=>if k=a then (k,v)::l else (a,w)::vad l k v
theorem find_M [DecidableEq K]{ek:K→AV}{ev:V→AV}{ik:TI}{l:List TypeDesc}{kc:K→List AV}(h1:∀ k:K,kCells ik (ek k)=some (kc k)∧(kc k).length=ik.size)(h2:∀ a b:K,ceqL l (kc a) (kc b)=some (decide (a=b)))(k:K):∀ (M:List (K×V)) (n:Nat),
 (Zz l ik (kc k) (we ek ev M) n=some none∧vao M k=none∧∀ b,vad M k b=M++[(k,b)]) ∨
 (∃ i v,Zz l ik (kc k) (we ek ev M) n=some (some (n+i,ev v))∧vao M k=some v∧∀ b,vad M k b=M.set i (k,b)):=by
 intro M
 induction M with
 |nil=>intro n; exact .inl ⟨rfl,rfl,fun b=>rfl⟩
 |cons e M ih=>
  intro n
  obtain⟨a,w⟩:=e
  have e1:Zz l ik (kc k) (we ek ev ((a,w)::M)) n=bif decide (k=a) then some (some (n,ev w)) else Zz l ik (kc k) (we ek ev M) (n+1):=by
   simp only[we,qG,Zz,(h1 a).1,h2 k a]
  rw[e1]
  by_cases h:k=a
  · refine .inr ⟨0,w,by simp[h],by simp[vao,h],fun b=>by simp[vad,h]⟩
  simp only[h,decide_false,cond_false,vao,vad,if_false]
  rcases ih (n+1) with ⟨a1,a2,a3⟩|⟨i,v,a1,a2,a3⟩
  · exact .inl ⟨a1,a2,fun b=>by rw[a3]; rfl⟩
  refine .inr ⟨i+1,v,?_,a2,fun b=>by rw[a3]; rfl⟩
  rw[a1]; congr 3; omega
theorem vaX [DecidableEq K]{T:TT}{t kt et:TypeId}{ek:K→AV}{ev:V→AV}{z:V}{i ie:TI}(hk:KeyE T kt ek)(h1:T t=some i)(h2:i.desc=.map kt et)(h3:T et=some ie)(h4:ie.zero=ev z)(M:List (K×V))(k:K)(ok:Bool)(σ:Store)(id:Nat)(hm:Store.mapAt σ id=some (we ek ev M)):
 ZS T t (.mp id) (ek k) ok σ=some (Xu ok (ev ((vao M k).getD z)) (vao M k).isSome):=by
 obtain⟨ik,l,kc,a1,a2,a3,a4⟩:=hk.h;simp only[ZS,h1,h2,a1,h3,a2,(a3 k).1,(a3 k).2,if_true,hm]
 rcases find_M a3 a4 k M 0 with ⟨b1,b2,_⟩|⟨j,v,b1,b2,_⟩
 · rw[b1,b2]; simp[h4]
 rw[b1,b2]; simp
theorem vaR [DecidableEq K]{T:TT}{t kt et:TypeId}{ek:K→AV}{ev:V→AV}{i:TI}(hk:KeyE T kt ek)(h1:T t=some i)(h2:i.desc=.map kt et)(M:List (K×V))(k:K)(v:V)(σ:Store)(id:Nat)(hm:Store.mapAt σ id=some (we ek ev M)):
 Zm T t (.mp id) (ek k) (ev v) σ=some (σ.set id (.map (we ek ev (vad M k v)))):=by
 obtain⟨ik,l,kc,a1,a2,a3,a4⟩:=hk.h;simp only[Zm,h1,h2,a1,a2,(a3 k).1,(a3 k).2,if_true,hm]
 rcases find_M a3 a4 k M 0 with ⟨b1,_,b2⟩|⟨j,w,b1,_,b2⟩
 · rw[b1,b2]; simp[we]
 rw[b1,b2]; simp[we,List.map_set]
class X7 (ev:V→AV):Prop where
 h:∀ s x,(ev x).canon s=true
theorem encM_tell {ek:K→AV}{ev:V→AV} [h1:X7 ek] [h2:X7 ev]{σ:Store}{keep:List Nat}{ls:Bool}{f:Nat}(M:List (K×V)):
 ((we ek ev M).map fun e=>(tell σ keep ls f e.1,tell σ keep ls f e.2))=we ek ev M:=by
 unfold we;rw[List.map_map]
 exact vg fun p _=>by simp only[Function.comp,Yf _ _ _ _ _ (h1.h ls p.1),Yf _ _ _ _ _ (h2.h ls p.2)]
end
instance : X7 AV.str := ⟨fun _ _ => rfl⟩
instance : X7 AV.bool := ⟨fun _ _ => rfl⟩
instance (q : IntKind) : X7 (AV.int q) := ⟨fun _ _ => rfl⟩
def Xy : Zo→Bool
 |.cells _ cs=>canonL true cs
 |.map es=>es.all fun e=>e.1.canon true&&e.2.canon true
 |.iter _ _=>true
 |.dead=>true
theorem canonO_map {K V:Type}{ek:K→AV}{ev:V→AV} [h1:X7 ek] [h2:X7 ev](M:List (K×V)):Xy (.map (we ek ev M))=true:=by
 simp only[Xy,we,List.all_map,ub]
 intro p _
 simp[h1.h true p.1,h2.h true p.2]
theorem renL_E {α:Type}{enc:α→List AV} [hc:wg enc]{g:Nat→Nat}(x:α):renL g (enc x)=enc x:=xX g (s:=true) _ (hc.h true x)
theorem renL_all {α:Type}{enc:α→List AV} [hc:wg enc]{g:Nat→Nat}(l:List α):renL g (l.flatMap enc)=l.flatMap enc:=xX g (s:=true) _ (canon_all enc true l)
theorem vaF {ver:Nat}{cs:List AV}:Xy (.cells ver cs)=canonL true cs:=rfl
theorem renO_canon (g:Nat→Nat):∀ (o:Zo),Xy o=true→renO g o=o
 |.cells v cs,h=>by simp only[renO,xX g cs h]
 |.map es,h=>by
  simp only[Xy,ub,qo] at h;simp only[renO]
  congr 1
  conv=>rhs; rw[← List.map_id es]
  exact vg fun e he=>by rw[Y6 g e.1 (h e he).1,Y6 g e.2 (h e he).2]; rfl
 |.iter _ _,_=>rfl
 |.dead,_=>rfl
def putI : List Nat→Store→Store→Store
 |id::ids,o::l,σ=>putI ids l (σ.set id o)
 |_,_,σ=>σ
theorem vaz (g:Nat→Nat):∀ (ids:List Nat) (l σ:Store),ids.length=l.length→l.all Xy=true→Ym g ids l σ=putI ids l σ
 |[],[],σ,_,_=>by simp[Ym,putI]
 |[],_::_,_,h,_=>by simp at h
 |_::_,[],_,h,_=>by simp at h
 |id::ids,o::l,σ,h,hc=>by
  simp only[q5,qo] at hc;simp only[Ym,putI,renO_canon g o hc.1];exact vaz g ids l _ (by simpa using h) hc.2
theorem ACalls.io {P:Program}{f:FuncId}{args:List AV}{x:AV}{σs τs:Store}(h:ACalls P f args σs fun r' σ'=>r'=x∧σ'=τs){σ:Store}(ids:List Nat)(hn:ids.Nodup)(hlt:∀ id∈ids,id<σ.length)
 (hobj:ids.map (fun id=>σ[id]?)=σs.map some) (hs:σs.all Xy=true) (ht:τs.all Xy=true) (hl:ids.length=τs.length) (hx:x.canon true=true) {args':List AV} (ha:renL (vbN ids σ.length) args=args'):
 ACalls P f args' σ fun r' σ'=>r'=x∧σ'=putI ids τs σ:=by
 refine (h.embed ids hn hlt ?_ ha).mono ?_
 · rw[hobj]
   exact vg fun o ho=>by rw[renO_canon _ o (ub.1 hs o ho)]
 rintro r σ' ⟨r0,τ,⟨rfl,rfl⟩,rfl,rfl⟩;exact⟨Y6 _ _ hx,vaz _ _ _ _ hl ht⟩
theorem ACalls.own0 {P:Program}{f:FuncId}{args:List AV}{sz n:Nat}{cs:List AV}(hc:canonL true cs=true)(h:ACalls P f args [] fun r' σ'=>∃ ver,r'=.os true sz 0 ver 0 n false∧σ'=[.cells ver cs]):
 ACalls P f args [] fun r' σ'=>r'=.os true sz 0 0 0 n false∧σ'=[.cells 0 cs]:=by
 refine⟨h.1,fun E vs hS hl=>(h.2 E vs hS hl).mono ?_⟩;rintro e w ⟨v,r,σ',E1,rfl,rfl,h3,h4,h5,ver,rfl,rfl⟩
 let E2:Env := { w:=E1.w,st:=E1.st,loc:=fun i=>if i=0 then (E1.loc 0).map fun p=>(0,p.2) else E1.loc i,n:=E1.n }
 have hn:E.n=0:=hS.len.symm
 have l1:∀ i v b,E2.loc i=some (v,some b)→∃ v',E1.loc i=some (v',some b):=by
  intro i v b h
  by_cases hi:i=0
  · subst hi;have h':(E1.loc 0).map (fun p=>((0:Nat),p.2))=some (v,some b):=h
    cases h0:E1.loc 0 with
    |none=>rw[h0] at h'; cases h'
    |some p=>
     rw[h0] at h';obtain⟨q,ob⟩:=p;simp only[uB,Option.some.injEq,Prod.mk.injEq] at h';exact⟨q,by rw[h'.2]⟩
  have h':(if i=0 then (E1.loc 0).map (fun p=>((0:Nat),p.2)) else E1.loc i)=some (v,some b):=h;rw[if_neg hi] at h';exact⟨v,h'⟩
 have hok:E2.ok 0 0:=⟨by have:=h4.len; show 0<E1.n; simp at this; omega,fun _ _ _=>ur _⟩
 have l0:∀ ob,E2.loc 0=some (0,ob)→∃ v',E1.loc 0=some (v',ob):=by
  intro ob h
  have h':(E1.loc 0).map (fun p=>((0:Nat),p.2))=some (0,ob):=h
  cases h0:E1.loc 0 with
  |none=>rw[h0] at h'; cases h'
  |some p=>
   rw[h0] at h';obtain⟨q,ob'⟩:=p;simp only[uB,Option.some.injEq,Prod.mk.injEq,true_and] at h';exact⟨q,by rw[h']⟩
 have hobj:=h4.obj 0
 have hver:∀ v' ob,E1.loc 0=some (v',ob)→v'=ver:=by
  intro v' ob h
  rcases hobj with ⟨b,e1,_⟩|⟨_,e1⟩
  · rw[e1] at h; cases h; rfl
  rw[e1] at h; cases h; rfl
 have hx:Ext E E2 := {
  os:=h5.os
  tape:=h5.tape
  output:=h5.output
  size:=h5.size
  shape:=h5.shape
  st:=h5.st
  n:=h5.n
  loc:=fun id hid=>absurd hid (by omega)
  old:=h5.old
  own:=fun id v b hb hlt=>by
   obtain⟨v',h'⟩:=l1 id v b hb;exact h5.own id v' b h' hlt
  stn:=h5.stn }
 refine⟨v,_,_,E2,rfl,rfl,?_,?_,hx,rfl,rfl⟩
 · cases h3 with
   |osn _ _ _ _ _ a hk h=>
    refine .osn _ _ _ _ _ a hok fun ob hob=>?_
    obtain⟨v',h'⟩:=l0 ob hob
    have:=hver _ _ h'; subst this
    exact h ob h'
   |os _ _ _ _ _ _ _ a cap hk hc ht hB h=>
    refine .os _ _ _ _ _ _ _ a cap hok hc ht hB fun ob hob=>?_
    obtain⟨v',h'⟩:=l0 ob hob
    have:=hver _ _ h'; subst this
    exact h ob h'
 refine⟨h4.len,fun i=>?_,fun i i' v v' b h1 h2=>?_,fun i v b h1=>?_,h4.stb,h4.glb⟩
 · match i with
   |0=>
    rcases hobj with ⟨b,e1,conc,t,fr,a1,a2,a3,a4⟩|⟨e0,e1⟩
    · refine .inl ⟨b,by show (E1.loc 0).map _=_; rw[e1]; rfl,conc,t,fr,a1,a2,a3,fun i hi=>?_⟩;exact VR.canonRenL (E:=E1) (E':=E2) rfl (fun _ h=>h) cs hc i hi (a4 i hi)
    exact .inr ⟨e0,by show (E1.loc 0).map _=_; rw[e1]; rfl⟩
   |i+1=>exact h4.obj (i+1)
 · obtain⟨w1,g1⟩:=l1 _ _ _ h1;obtain⟨w2,g2⟩:=l1 _ _ _ h2;exact h4.inj _ _ _ _ _ g1 g2
 obtain⟨w1,g1⟩:=l1 _ _ _ h1;exact h4.blk _ _ _ g1
theorem ACalls.ownData {P:Program}{f:FuncId}{args:List AV}{sz n:Nat}{cs:List AV}(h:ACalls P f args [] fun r' σ'=>r'=.os true sz 0 0 0 n false∧σ'=[.cells 0 cs])(hl:cs.length=n*sz)(hc:canonL true cs=true):
 ACalls P f args [] fun r' _=>r'=.ds true cs n false:=by
 refine ACalls.told (h.mono ?_);rintro r σ' ⟨rfl,rfl⟩;refine⟨[],true,12,List.nodup_nil,(fun _ h=>by cases h),rfl,?_⟩;have h1:cs.map (tell [.cells 0 cs] [] true 11)=cs:=wu _ _ _ _ _ hc;simp only[wZ,wP,Store.at_hd,if_true,qD,← hl,uj,h1,qt,qu]
theorem ACalls.ownAt0 {P:Program}{f:FuncId}{args:List AV}{sz n:Nat}{cs:List AV}(h:ACalls P f args [] fun r' σ'=>r'=.os true sz 0 0 0 n false∧σ'=[.cells 0 cs])(ha:canonL true args=true)(hc:canonL true cs=true)(σ:Store):
 ACalls P f args σ fun r' σ'=>r'=.os true sz σ.length 0 0 n false∧σ'=σ++[.cells 0 cs]:=by
 refine (h.embed (σ:=σ) [] List.nodup_nil (fun _ h=>by cases h) rfl (xX _ _ ha)).mono ?_;rintro r σ' ⟨r0,τ,⟨rfl,rfl⟩,rfl,rfl⟩;exact⟨by simp[AV.ren,vbN],by simp[Ym,renO,xX _ _ hc]⟩
theorem Xn {P:Program}{T:TT}(hT:TOK P T){f:FuncId}{fn:Func}{c:Code}{n:Nat}{rs:List ResultVar}{args:List AV}{sz N:Nat}{cs:List AV}(hf:P.funcs[f]?=some fn)(hb:fn.body=some c)
 (hn:fn.ntmps=n) (hr:fn.results.toList=rs) (hent:∀ vs w,(callFunc f vs).run P w=.ok (.enter f vs) w) (hl:args.length≤n)
 (h:awp P n 0 c (Zv T rs fun r σ'=>∃ id ver,id<σ'.length∧tell σ' [id] true 12 r=.os true sz 0 ver 0 N false∧tellS σ' [id] true 12=[.cells ver cs]) (fr args) []):
 ACalls P f args [] fun r' σ'=>∃ ver,r'=.os true sz 0 ver 0 N false∧σ'=[.cells ver cs]:=by
 refine ACalls.told ((w7 (σ:=[]) hT hf hb hn hr hent hl h).mono ?_);rintro r σ' ⟨id,ver,h1,h2,h3⟩;exact⟨[id],true,12,by simp,by simpa using h1,rfl,ver,h2,h3⟩
section
variable {P:Program} {n k:Nat} {Q:Exit→Fr→Store→Prop} {F:Fr} {σ:Store}
theorem awp_loopS1 {c:Code}(I:Nat→List (Nat×AV)→Store→Prop)(M:Nat)
 (first:awp P n k c (Xo (fun F' σ'=>∃ m' L' τ',m'<M∧I m' L' τ'∧TellS k F' σ' L' τ') Q) F σ)
 (round:∀ m L τ,I m L τ→awp P n k c (Xo (fun F' σ'=>∃ m' L' τ',m'<m∧I m' L' τ'∧TellS k F' σ' L' τ') Q) (fs L) τ):awp P n k (.loop c) Q F σ:=by
 refine awp_loop (fun m F' σ'=>(m=M∧F'=F∧σ'=σ)∨(m<M∧∃ L τ,I m L τ∧TellS k F' σ' L τ)) M (.inl ⟨rfl,rfl,rfl⟩) ?_;rintro m F' σ' (⟨rfl,rfl,rfl⟩|⟨hm,L,τ,h1,h2⟩)
 · refine X4 first fun e F σ hq=>?_
   cases e with
   |normal=>
    obtain⟨m',L',τ',a,b,c⟩:=hq;exact⟨m',a,.inr ⟨a,L',τ',b,c⟩⟩
   |_=>exact hq
 refine yc h2 (X4 (round m L τ h1) fun e F σ hq=>?_)
 cases e with
 |normal=>
  obtain⟨m',L',τ',a,b,c⟩:=hq;exact⟨m',a,.inr ⟨by omega,L',τ',b,c⟩⟩
 |_=>exact hq
end
section
variable {T:TT} {t e sz:Nat} {α:Type} {enc:α→List AV}
theorem Enc.sl_tight (h:Enc T t e sz enc)(l:List α)(q q':IntKind):
 wj T t (.ds true (l.flatMap enc) l.length false) none (some (.int q (l.length:Int))) (some (.int q' (l.length:Int)))=some (.ds true (l.flatMap enc) l.length true):=by
 obtain⟨i,hi,hd⟩:=h.sl;obtain⟨j,hj,hs⟩:=h.el;simp only[wj,hi,hd,hj,vaA,hs];rw[if_pos (by simp)]
 have e1:YX (l.flatMap enc) sz (qN 0) (qN (l.length:Int))=l.flatMap enc:=by
  unfold YX;simp only[Int.toNat_zero,uC,qD,qW,uR];rw[← zA h.len,uj]
 rw[e1]; simp
theorem app_tight (h:∀ x,(enc x).length=sz)(l:List α){m:Nat}(hm:m≠0)(new:List AV)(σ:Store):
 zW sz (.ds true (l.flatMap enc) l.length true) m new σ=some (.os true sz σ.length 0 0 (l.length+m) false,σ++[.cells 0 (l.flatMap enc++new)]):=by
 unfold zW
 by_cases h0:l.length=0
 · have:l=[]:=uZ h0
   subst this; simp
 simp only;rw[if_neg h0,if_neg hm]
 have e1:ya σ sz (.ds true (l.flatMap enc) l.length true)=some (l.length,l.flatMap enc):=by
  simp only[ya];rw[if_pos (by rw[zA h]; exact qu _),← zA h,uj]
 rw[e1]
end
section
variable {T:TT} {t e sz:Nat} {α:Type} {enc:α→List AV}
theorem Enc.idxO (h:Enc T t e sz enc){l:List α}{i:Int}{x:α}(hx:wV l i=some x)(nl tt:Bool)(q:IntKind)(sz' id ver:Nat):
 xU T t (.os nl sz' id ver 0 l.length tt) (.int q i)=some (.op id ver (i.toNat*sz)):=by
 obtain⟨h0,h1,_⟩:=xT hx;rw[h.idxo h0 h1,qt]
theorem Enc.rdO (h:Enc T t e sz enc){l:List α}{i:Int}{x:α}(hx:wV l i=some x):vaM (l.flatMap enc) (i.toNat*sz) sz true=some (.agg (enc x)):=by
 obtain⟨_,_,hi,rfl⟩:=xT hx;unfold vaM
 have h1:i.toNat*sz+sz≤(l.flatMap enc).length:=by
  rw[zA h.len,← uX];exact qY _ hi
 rw[if_pos rfl,if_pos h1,enc_get h.len hi]
theorem Enc.rdfO0 (h:Enc T t e sz enc){l:List α}{i:Int}{x:α}(hx:wV l i=some x)(n:Nat):vaM (l.flatMap enc) (i.toNat*sz) n false=some (gc (enc x) 0):=by
 obtain⟨_,_,hi,rfl⟩:=xT hx;exact enc_rd0 h.len hi h.pos
theorem w9 : ∀ (xs a b c:List AV),b.length=xs.length→yL (a++(b++c)) a.length xs=a++(xs++c):=by
 intro xs
 induction xs with
 |nil=>intro a b c h; rw[qE.1 h]; rfl
 |cons x xs ih=>
  intro a b c h
  cases b with
  |nil=>simp at h
  |cons y b=>
   have e1:(a++(y::b++c)).set a.length x=(a++[x])++(b++c):=by
    rw[List.set_append_right _ _ (qu _),uM]; simp
   have e2:a.length+1=(a++[x]).length:=by simp
   simp only[yL];rw[e1,e2,ih _ _ _ (by simpa using h)]
   simp
theorem setRun_enc' (h:∀ x,(enc x).length=sz):∀ {l:List α} (pre:List AV) {i:Nat} (y:α),i<l.length→yL (pre++l.flatMap enc) (pre.length+i*sz) (enc y)=pre++(l.set i y).flatMap enc:=by
 intro l
 induction l with
 |nil=>intro pre i y hi; simp at hi
 |cons a l ih=>
  intro pre i y hi
  cases i with
  |zero=>
   simp only[uC,uY,qM,uA];exact w9 _ _ _ _ (by rw[h,h])
  |succ i=>
   have:=ih (pre++enc a) (i:=i) y (by simpa using hi);rw[qi,h a] at this;rw[uQ,qM,qM,← qp,← qp,← this]
   congr 1
   rw[uX]; omega
theorem setRun_enc (h:∀ x,(enc x).length=sz){l:List α}{i:Nat}(y:α)(hi:i<l.length):yL (l.flatMap enc) (i*sz) (enc y)=(l.set i y).flatMap enc:=by
 simpa using setRun_enc' h [] y hi
theorem yU {α:Type}{l:List α}{i:Int}{x:α}:(setI l i x).length=l.length:=by simp[setI]
theorem Enc.stOc (h:Enc T t e sz enc){l:List α}{i:Int}{x0:α}(hx:wV l i=some x0):(i.toNat*sz+sz≤(l.flatMap enc).length)=True:=by
 obtain⟨_,_,hi,_⟩:=xT hx;refine eq_true ?_;rw[zA h.len,← uX];exact qY _ hi
theorem Enc.stOr (h:Enc T t e sz enc){l:List α}{i:Int}{x0:α}(hx:wV l i=some x0){y:α}{cs:List AV}(hy:enc y=cs):yL (l.flatMap enc) (i.toNat*sz) cs=(setI l i y).flatMap enc:=by
 obtain⟨_,_,hi,_⟩:=xT hx;subst hy;exact setRun_enc h.len y hi
end
end AM
end
section
namespace AM
open Go.RowKit
section
variable {T:TT} {t e sz:Nat} {α:Type} {enc:α→List AV}
theorem zeroRun_enc (h:∀ x,(enc x).length=sz)(hp:0<sz)(z:α)(n:Nat):z6 (enc z) (n*sz)=(qQ n z).flatMap enc:=by
 have hl:(z6 (enc z) (n*sz)).length=((qQ n z).flatMap enc).length:=by
  rw[zA h]; simp[z6]
 refine List.ext_getElem hl fun i h1 h2=>?_
 have hi:i<n*sz:=by simpa [z6] using h1
 have hk:i / sz<n:=by
  rw[Nat.mul_comm] at hi;exact Nat.div_lt_of_lt_mul hi
 have e1:gc (z6 (enc z) (n*sz)) i=gc (enc z) (i % sz):=by rw[gc_zeroRun _ _ _ hi,h]
 have e2:gc ((qQ n z).flatMap enc) (i / sz*sz+i % sz)=gc (enc z) (i % sz):=by
  rw[enc_gc h (l:=qQ n z) (by simpa using hk) (Nat.mod_lt _ hp)]; simp
 have e3:i / sz*sz+i % sz=i:=by rw[Nat.mul_comm]; exact Nat.div_add_mod i sz
 rw[e3,← e1] at e2
 have g:∀ (l:List AV) (hh:i<l.length),gc l i=l[i]:=fun l hh=>by simp[gc,hh]
 rw[g _ h2,g _ h1] at e2;exact e2.symm
theorem Enc.mk0 (h:Enc T t e sz enc){j:TI}(hj:T e=some j){z:α}(hz:j.zero.cells=enc z)(hok:j.zero.okc=true){n:Int}(hg:0≤n∧(j.bytes:Int)*n≤281474976710656∧n<9223372036854775807)(q q':IntKind)(σ:Store):
 evMake T t (.int q n) (.int q' n) σ=some (.os true sz σ.length 0 0 (qQ n.toNat z).length true,σ++[.cells 0 ((qQ n.toNat z).flatMap enc)]):=by
 obtain⟨i,hi,hd⟩:=h.sl;obtain⟨j',hj',hs⟩:=h.el
 rw[hj] at hj'; cases hj'
 simp only[evMake,hi,hd,hj];rw[if_pos ⟨hg.1,u7 _,hg.2.1,hg.2.2,hok,by rw[hz,h.len,hs],by rw[hs]; exact h.pos⟩];rw[hz,hs,zeroRun_enc h.len h.pos]
 simp
theorem Enc.slO (h:Enc T t e sz enc){len:Nat}{a b:Int}(hg:0≤a∧a≤b∧b≤(len:Int))(q q':IntKind)(id ver:Nat)(tt:Bool):
 wj T t (.os true sz id ver 0 len tt) (some (.int q a)) (some (.int q' b)) none=some (.os true sz id ver (a.toNat*sz) (b.toNat-a.toNat) (tt&&decide (b=(len:Int)))):=by
 obtain⟨i,hi,hd⟩:=h.sl;obtain⟨j,hj,hs⟩:=h.el;simp only[wj,hi,hd,hj,vaA];rw[if_pos ⟨hg.1,hg.2.1,hg.2.2,hs.symm⟩,qt]
def Xp {α:Type}(l:List α)(a c n:Nat):List α:=l.take a++((l.drop c).take n++l.drop (a+n))
theorem copyI_length {l:List α}{a c n:Nat}(h1:a+n≤l.length)(h2:c+n≤l.length):(Xp l a c n).length=l.length:=by
 simp only[Xp,qi,uH,uI]; omega
theorem Enc.cpO (h:Enc T t e sz enc)(ho:∀ x,(enc x).all AV.one=true){l:List α}{a b c d:Int}(hg:0≤a∧a≤b∧b≤(l.length:Int))(hg':0≤c∧c≤d∧d≤(l.length:Int))(t1 t2:Bool)(σ:Store)(id ver:Nat)(hs:Store.at σ id ver=some (l.flatMap enc))(hid:σ[id]?=some (.cells ver (l.flatMap enc))):
 Yt T t (.os true sz id ver (a.toNat*sz) (b.toNat-a.toNat) t1) (.os true sz id ver (c.toNat*sz) (d.toNat-c.toNat) t2) σ=
  some (.int .i64 ((min (d.toNat-c.toNat) (b.toNat-a.toNat):Nat):Int),σ.set id (.cells ver ((Xp l a.toNat c.toNat (min (d.toNat-c.toNat) (b.toNat-a.toNat))).flatMap enc))):=by
 obtain⟨i,hi,hd⟩:=h.sl;obtain⟨j,hj,hz⟩:=h.el
 obtain⟨a,rfl⟩:∃ k:Nat,a=k:=⟨a.toNat,by omega⟩
 obtain⟨b,rfl⟩:∃ k:Nat,b=k:=⟨b.toNat,by omega⟩
 obtain⟨c,rfl⟩:∃ k:Nat,c=k:=⟨c.toNat,by omega⟩
 obtain⟨d,rfl⟩:∃ k:Nat,d=k:=⟨d.toNat,by omega⟩
 simp only[qW]
 have g1:a≤b:=by omega
 have g2:b≤l.length:=by omega
 have g3:c≤d:=by omega
 have g4:d≤l.length:=by omega
 generalize hn:min (d-c) (b-a)=n
 have hb:a+n≤l.length:=by omega
 have hc:c+n≤l.length:=by omega
 have e1:ya σ sz (.os true sz id ver (c*sz) (d-c) t2)=some (d-c,((l.drop c).take (d-c)).flatMap enc):=by
  have hle:c*sz+(d-c)*sz≤(l.flatMap enc).length:=by
   rw[zA h.len,← uW]; exact qY _ (by omega)
  simp only[ya,hs];rw[if_pos hle,enc_drop h.len,enc_take h.len]
 have e2:List.take (n*sz) (((l.drop c).take (d-c)).flatMap enc)=((l.drop c).take n).flatMap enc:=by
  rw[enc_take h.len,List.take_take]; congr 2; omega
 have e3:(((l.drop c).take n).flatMap enc).length=n*sz:=by
  rw[zA h.len]; congr 1; simp; omega
 have e4:yL (l.flatMap enc) (a*sz) (((l.drop c).take n).flatMap enc)=(Xp l a c n).flatMap enc:=by
  have f1:l.flatMap enc=(l.take a).flatMap enc++(((l.drop a).take n).flatMap enc++(l.drop (a+n)).flatMap enc):=by
   rw[← qI,← qI,← u6,um,um]
  have f2:((l.take a).flatMap enc).length=a*sz:=by rw[zA h.len]; congr 1; simp; omega
  rw[f1,← f2,w9 _ _ _ _ (by rw[e3,zA h.len]; congr 1; simp; omega)];simp only[Xp,qI]
 have e5:(((l.drop c).take n).flatMap enc).all AV.one=true:=by
  rw[ub]
  intro x hx
  obtain⟨y,_,hy⟩:=List.mem_flatMap.1 hx;exact ub.1 (ho y) x hy
 simp only[Yt,hi,hd,hj,hz,e1,hn,e2,wN]
 by_cases h0:n=0
 · rw[if_pos (.inl h0)];subst h0
   have:Xp l a c 0=l:=by simp[Xp]
   rw[this]
   have hset:σ.set id (.cells ver (l.flatMap enc))=σ:=by
    apply List.ext_getElem?
    intro k
    by_cases hk:k=id
    · subst hk;have hlt:=(q1.1 hid).1;rw[uu hlt,hid]
    rw[q9 (fun e=>hk e.symm)]
   rw[hset]
 rw[if_neg (by have:=h.pos; omega),hs];simp only;rw[if_pos ⟨trivial,by rw[e3,zA h.len,← uW]; exact qY _ hb,e5⟩,e4]
end
theorem conv_same {T:TT}{s e:TypeId}{i j:TI}(h1:T s=some i)(h2:i.desc=.slice e)(h3:T e=some j)(h4:j.desc=.int .u8){σ:Store}{id ver off len sz:Nat}{nl t:Bool}{cs:List AV}(hs:Store.at σ id ver=some cs)(hl:off<cs.length∧0<len∧sz=1):
 ZT T s s (.os nl sz id ver off len t) σ=some (.os nl sz id ver off len t,σ):=by
 simp only[ZT,h1,h2,h3,h4,hs,if_true];rw[if_pos hl]
theorem XX {T:TT}{t:TypeId}{cells:List AV}{off:Nat}{σ:Store}:wY T t (.dp cells off) σ=match T t with
 |some i=>vaM cells off i.size i.agg
 |none=>none:=by
 cases h:T t<;>simp[wY,h]
theorem VR.loosen {E:Env}{nl:Bool}{sz id ver off len:Nat}{t:Bool}{v:Value}(h:VR E (.os nl sz id ver off len t) v):VR E (.os nl sz id ver off len false) v:=by
 cases h with
 |osn _ _ _ _ _ a hk h=>exact .osn _ _ _ _ _ a hk h
 |os _ _ _ _ _ _ _ a cap hk hc ht hB h=>exact .os _ _ _ _ _ _ _ a cap hk hc (fun h=>by cases h) hB h
theorem vbP {P:Program}{T:TT}(hT:TOK P T){f:FuncId}{fn:Func}{c:Code}{n:Nat}{rs:List ResultVar}{args:List AV}{sz N:Nat}{cs:List AV}(hf:P.funcs[f]?=some fn)(hb:fn.body=some c)
 (hn:fn.ntmps=n) (hr:fn.results.toList=rs) (hent:∀ vs w,(callFunc f vs).run P w=.ok (.enter f vs) w) (hl:args.length≤n)
 (h:awp P n 0 c (Zv T rs fun r σ'=>(∃ id t,id<σ'.length∧tell σ' [id] true 12 r=.os true sz 0 0 0 N t∧tellS σ' [id] true 12=[.cells 0 cs])∨(N=0∧cs=[]∧tell σ' [] false 12 r=.ds true [] 0 true)) (fr args) []):
 ACalls P f args [] fun r' σ'=>r'=.os true sz 0 0 0 N false∧σ'=[.cells 0 cs]:=by
 have h1:ACalls P f args [] fun r' σ'=>(∃ t,r'=.os true sz 0 0 0 N t∧σ'=[.cells 0 cs])∨(N=0∧cs=[]∧r'=.ds true [] 0 true∧σ'=[]):=by
  refine ACalls.told ((w7 (σ:=[]) hT hf hb hn hr hent hl h).mono ?_);rintro r σ' (⟨id,t,a1,a2,a3⟩|⟨a1,a2,a3⟩)
  · exact⟨[id],true,12,by simp,by simpa using a1,rfl,.inl ⟨t,a2,a3⟩⟩
  exact⟨[],false,12,List.nodup_nil,(fun _ h=>by cases h),rfl,.inr ⟨a1,a2,a3,rfl⟩⟩
 refine h1.ghost ?_;rintro r σ' (⟨t,rfl,rfl⟩|⟨rfl,rfl,rfl,rfl⟩) E v hS hv
 · exact⟨E,_,_,rfl,hS,Ext.refl E,hv.loosen,rfl,rfl⟩
 obtain⟨hS',hx⟩:=hS.virt;exact⟨E.new E.w none,_,_,rfl,hS',hx,VR.virt hS hv sz false,rfl,rfl⟩
end AM
end
section
set_option maxRecDepth 8000
open AM
def ti1 : TI:=⟨TypeDesc.func #[] #[] false,1,8,AV.nilF,false⟩
def ti2 : TI:=⟨.int .i64,1,8,.int .i64 0,false⟩
def ti3 : TI:=ti2
def ti4 : TI:=⟨.bool,1,1,AV.bool false,false⟩
def ti5 : TI:=⟨.int .u8,1,1,.int .u8 0,false⟩
def ti9 : TI:=⟨.string,1,16,.str [],false⟩
def ti20 : TI:=⟨TypeDesc.interface #[],1,16,AV.nilI,false⟩
def ti21 : TI:=⟨.int .i32,1,4,.int .i32 0,false⟩
def ti22 : TI:=⟨.slice 49,1,24,.ds true [] 0 true,false⟩
def ti23 : TI:=⟨.slice 84,1,24,.ds true [] 0 true,false⟩
def ti24 : TI:=⟨.slice 75,1,24,.ds true [] 0 true,false⟩
def ti25 : TI:=⟨.struct #[⟨"Name",9,0,false,"","",0⟩,⟨"Messages",22,1,false,"","",16⟩,⟨"Enums",23,2,false,"","",40⟩,⟨"Methods",24,3,false,"","",64⟩],4,88,.agg [.str [],.ds true [] 0 true,.ds true [] 0 true,.ds true [] 0 true],false⟩
def ti26 : TI:=ti25
def ti27 : TI:=⟨.slice 92,1,24,.ds true [] 0 true,false⟩
def ti28 : TI:=⟨.slice 62,1,24,.ds true [] 0 true,false⟩
def ti29 : TI:=⟨.struct #[⟨"Kind",3,0,false,"","",0⟩,⟨"N",3,1,false,"","",8⟩,⟨"S",9,2,false,"","",16⟩,⟨"Entries",27,3,false,"","",32⟩,⟨"Rest",28,4,false,"","",56⟩],5,80,.agg [.int .i64 0,.int .i64 0,.str [],.ds true [] 0 true,.ds true [] 0 true],false⟩
def ti30 : TI:=ti29
def ti34 : TI:=⟨.slice 5,1,24,.ds true [] 0 true,false⟩
def ti35 : TI:=ti2
def ti45 : TI:=⟨.slice 3,1,24,.ds true [] 0 true,false⟩
def ti47 : TI:=⟨.slice 57,1,24,.ds true [] 0 true,false⟩
def ti48 : TI:=⟨.struct #[⟨"Name",9,0,false,"","",0⟩,⟨"Fields",47,1,false,"","",16⟩,⟨"Reserved",45,2,false,"","",40⟩],3,64,.agg [.str [],.ds true [] 0 true,.ds true [] 0 true],false⟩
def ti49 : TI:=ti48
def ti54 : TI:=⟨.struct #[⟨"Kind",3,0,false,"","",0⟩,⟨"Name",9,1,false,"","",8⟩],2,24,.agg [.int .i64 0,.str []],true⟩
def ti55 : TI:=ti54
def ti56 : TI:=⟨.struct #[⟨"Name",9,0,false,"","",0⟩,⟨"Tag",3,1,false,"","",16⟩,⟨"Label",3,2,false,"","",24⟩,⟨"Type",55,3,false,"","",32⟩],5,56,.agg [.str [],.int .i64 0,.int .i64 0,.int .i64 0,.str []],true⟩
def ti57 : TI:=ti56
def ti61 : TI:=⟨.struct #[⟨"Tag",3,0,false,"","",0⟩,⟨"Wire",3,1,false,"","",8⟩,⟨"N",3,2,false,"","",16⟩,⟨"B",9,3,false,"","",24⟩],4,40,.agg [.int .i64 0,.int .i64 0,.int .i64 0,.str []],true⟩
def ti62 : TI:=ti61
def ti65 : TI:=⟨.struct #[⟨"Kind",3,0,false,"","",0⟩,⟨"From",3,1,false,"","",8⟩,⟨"To",3,2,false,"","",16⟩,⟨"ID",3,3,false,"","",24⟩,⟨"Version",3,4,false,"","",32⟩,⟨"Method",9,5,false,"","",40⟩,⟨"Err",3,6,false,"","",56⟩,⟨"Body",9,7,false,"","",64⟩],8,80,.agg [.int .i64 0,.int .i64 0,.int .i64 0,.int .i64 0,.int .i64 0,.str [],.int .i64 0,.str []],true⟩
def ti66 : TI:=ti65
def ti70 : TI:=⟨.slice 26,1,24,.ds true [] 0 true,false⟩
def ti74 : TI:=⟨.struct #[⟨"Name",9,0,false,"","",0⟩,⟨"In",9,1,false,"","",16⟩,⟨"Out",9,2,false,"","",32⟩],3,48,.agg [.str [],.str [],.str []],true⟩
def ti75 : TI:=ti74
def ti82 : TI:=⟨.slice 86,1,24,.ds true [] 0 true,false⟩
def ti83 : TI:=⟨.struct #[⟨"Name",9,0,false,"","",0⟩,⟨"Values",82,1,false,"","",16⟩],2,40,.agg [.str [],.ds true [] 0 true],false⟩
def ti84 : TI:=ti83
def ti85 : TI:=⟨.struct #[⟨"Name",9,0,false,"","",0⟩,⟨"N",3,1,false,"","",16⟩],2,24,.agg [.str [],.int .i64 0],true⟩
def ti86 : TI:=ti85
def ti88 : TI:=⟨TypeDesc.pointer 3,1,8,AV.nilp,false⟩
def ti90 : TI:=⟨.slice 30,1,24,.ds true [] 0 true,false⟩
def ti91 : TI:=⟨.struct #[⟨"Tag",3,0,false,"","",0⟩,⟨"Trees",90,1,false,"","",8⟩],2,32,.agg [.int .i64 0,.ds true [] 0 true],false⟩
def ti92 : TI:=ti91
def ti98 : TI:=⟨.slice 9,1,24,.ds true [] 0 true,false⟩
def ti107 : TI:=⟨TypeDesc.interface #[("concordat/value.kind",228)],1,16,AV.nilI,false⟩
def ti108 : TI:=ti107
def ti109 : TI:=⟨.struct #[⟨"in",108,0,false,"","concordat/value",0⟩],1,16,.agg [AV.nilI],false⟩
def ti110 : TI:=ti109
def ti114 : TI:=⟨TypeDesc.pointer 192,1,8,AV.nilp,false⟩
def ti116 : TI:=⟨TypeDesc.map 9 4,1,8,AV.nilm,false⟩
def ti117 : TI:=ti116
def ti125 : TI:=⟨TypeDesc.pointer 30,1,8,AV.nilp,false⟩
def ti127 : TI:=⟨TypeDesc.func #[92] #[4] false,1,8,AV.nilF,false⟩
def ti130 : TI:=⟨.slice 21,1,24,.ds true [] 0 true,false⟩
def ti140 : TI:=⟨.int .u64,1,8,.int .u64 0,false⟩
def ti142 : TI:=⟨TypeDesc.pointer 146,1,8,AV.nilp,false⟩
def ti143 : TI:=⟨TypeDesc.map 149 4,1,8,AV.nilm,false⟩
def ti144 : TI:=⟨.slice 149,1,24,.ds true [] 0 true,false⟩
def ti145 : TI:=⟨.struct #[⟨"l",144,0,false,"","concordat/compat",0⟩,⟨"seen",143,1,false,"","concordat/compat",24⟩],2,32,.agg [.ds true [] 0 true,AV.nilm],false⟩
def ti146 : TI:=ti145
def ti148 : TI:=⟨.struct #[⟨"old",9,0,false,"","concordat/compat",0⟩,⟨"new",9,1,false,"","concordat/compat",16⟩],2,32,.agg [.str [],.str []],true⟩
def ti149 : TI:=ti148
def ti156 : TI:=⟨.slice 110,1,24,.ds true [] 0 true,false⟩
def ti161 : TI:=⟨TypeDesc.map 3 4,1,8,AV.nilm,false⟩
def ti169 : TI:=⟨TypeDesc.func #[92,3] #[3] false,1,8,AV.nilF,false⟩
def ti171 : TI:=⟨TypeDesc.pointer 92,1,8,AV.nilp,false⟩
def ti181 : TI:=⟨TypeDesc.array 6 3,6,48,.agg [.int .i64 0,.int .i64 0,.int .i64 0,.int .i64 0,.int .i64 0,.int .i64 0],true⟩
def ti184 : TI:=ti140
def ti190 : TI:=⟨.slice 194,1,24,.ds true [] 0 true,false⟩
def ti191 : TI:=⟨.struct #[⟨"entries",190,0,false,"","concordat/value",0⟩,⟨"rest",28,1,false,"","concordat/value",24⟩],2,48,.agg [.ds true [] 0 true,.ds true [] 0 true],false⟩
def ti192 : TI:=ti191
def ti193 : TI:=⟨.struct #[⟨"tag",3,0,false,"","concordat/value",0⟩,⟨"l",156,1,false,"","concordat/value",8⟩],2,32,.agg [.int .i64 0,.ds true [] 0 true],false⟩
def ti194 : TI:=ti193
def ti207 : TI:=⟨TypeDesc.map 3 9,1,8,AV.nilm,false⟩
def ti208 : TI:=ti2
def ti209 : TI:=ti9
def ti219 : TI:=⟨.struct #[⟨"lo",5,0,false,"","unicode/utf8",0⟩,⟨"hi",5,1,false,"","unicode/utf8",1⟩],2,2,.agg [.int .u8 0,.int .u8 0],true⟩
def ti220 : TI:=ti219
def ti221 : TI:=⟨TypeDesc.array 16 220,32,32,.agg [.int .u8 0,.int .u8 0,.int .u8 0,.int .u8 0,.int .u8 0,.int .u8 0,.int .u8 0,.int .u8 0,.int .u8 0,.int .u8 0,.int .u8 0,.int .u8 0,.int .u8 0,.int .u8 0,.int .u8 0,.int .u8 0,.int .u8 0,.int .u8 0,.int .u8 0,.int .u8 0,.int .u8 0,.int .u8 0,.int .u8 0,.int .u8 0,.int .u8 0,.int .u8 0,.int .u8 0,.int .u8 0,.int .u8 0,.int .u8 0,.int .u8 0,.int .u8 0],true⟩
def tabL : List (Option TI):=[none,some ti1,some ti2,some ti3,some ti4,some ti5,none,none,none,some ti9,none,none,none,none,none,none,none,none,none,none,some ti20,some ti21,some ti22,some ti23,some ti24,some ti25,some ti26,some ti27,some ti28,some ti29,some ti30,none,none,none,some ti34,some ti35,none,none,none,none,none,none,none,none,none,some ti45,none,some ti47,some ti48,some ti49,none,none,none,none,some ti54,some ti55,some ti56,some ti57,none,none,none,some ti61,some ti62,none,none,some ti65,some ti66,none,none,none,some ti70,none,none,none,some ti74,some ti75,none,none,none,none,none,none,some ti82,some ti83,some ti84,some ti85,some ti86,none,some ti88,none,some ti90,some ti91,some ti92,none,none,none,none,none,some ti98,none,none,none,none,none,none,none,none,some ti107,some ti108,some ti109,some ti110,none,none,none,some ti114,none,some ti116,some ti117,none,none,none,none,none,none,none,some ti125,none,some ti127,none,none,some ti130,none,none,none,none,none,none,none,none,none,some ti140,none,some ti142,some ti143,some ti144,some ti145,some ti146,none,some ti148,some ti149,none,none,none,none,none,none,some ti156,none,none,none,none,some ti161,none,none,none,none,none,none,none,some ti169,none,some ti171,none,none,none,none,none,none,none,none,none,some ti181,none,none,some ti184,none,none,none,none,none,some ti190,some ti191,some ti192,some ti193,some ti194,none,none,none,none,none,none,none,none,none,none,none,none,some ti207,some ti208,some ti209,none,none,none,none,none,none,none,none,none,some ti219,some ti220,some ti221,none,none,none,none,none,none,none,none,none,none,none,none,none,none,none,none,none]
def tab : TT:=fun t=>(tabL[t]?).getD none
theorem tab_1 : tab 1=some ⟨TypeDesc.func #[] #[] false,1,8,AV.nilF,false⟩:=rfl
theorem tab_2 : tab 2=some ⟨.int .i64,1,8,.int .i64 0,false⟩:=rfl
theorem tab_3 : tab 3=tab 2:=rfl
theorem tab_4 : tab 4=some ⟨.bool,1,1,AV.bool false,false⟩:=rfl
theorem tab_5 : tab 5=some ⟨.int .u8,1,1,.int .u8 0,false⟩:=rfl
theorem tab_9 : tab 9=some ⟨.string,1,16,.str [],false⟩:=rfl
theorem tab_20 : tab 20=some ⟨TypeDesc.interface #[],1,16,AV.nilI,false⟩:=rfl
theorem tab_21 : tab 21=some ⟨.int .i32,1,4,.int .i32 0,false⟩:=rfl
theorem tab_22 : tab 22=some ⟨.slice 49,1,24,.ds true [] 0 true,false⟩:=rfl
theorem tab_23 : tab 23=some ⟨.slice 84,1,24,.ds true [] 0 true,false⟩:=rfl
theorem tab_24 : tab 24=some ⟨.slice 75,1,24,.ds true [] 0 true,false⟩:=rfl
theorem tab_25 : tab 25=some ⟨.struct #[⟨"Name",9,0,false,"","",0⟩,⟨"Messages",22,1,false,"","",16⟩,⟨"Enums",23,2,false,"","",40⟩,⟨"Methods",24,3,false,"","",64⟩],4,88,.agg [.str [],.ds true [] 0 true,.ds true [] 0 true,.ds true [] 0 true],false⟩:=rfl
theorem tab_26 : tab 26=tab 25:=rfl
theorem YT : tab 27=some ⟨.slice 92,1,24,.ds true [] 0 true,false⟩:=rfl
theorem tab_28 : tab 28=some ⟨.slice 62,1,24,.ds true [] 0 true,false⟩:=rfl
theorem tab_29 : tab 29=some ⟨.struct #[⟨"Kind",3,0,false,"","",0⟩,⟨"N",3,1,false,"","",8⟩,⟨"S",9,2,false,"","",16⟩,⟨"Entries",27,3,false,"","",32⟩,⟨"Rest",28,4,false,"","",56⟩],5,80,.agg [.int .i64 0,.int .i64 0,.str [],.ds true [] 0 true,.ds true [] 0 true],false⟩:=rfl
theorem tab_30 : tab 30=some ⟨.struct #[⟨"Kind",3,0,false,"","",0⟩,⟨"N",3,1,false,"","",8⟩,⟨"S",9,2,false,"","",16⟩,⟨"Entries",27,3,false,"","",32⟩,⟨"Rest",28,4,false,"","",56⟩],5,80,.agg [.int .i64 0,.int .i64 0,.str [],.ds true [] 0 true,.ds true [] 0 true],false⟩:=rfl
theorem tab_34 : tab 34=some ⟨.slice 5,1,24,.ds true [] 0 true,false⟩:=rfl
theorem tab_35 : tab 35=tab 2:=rfl
theorem tab_45 : tab 45=some ⟨.slice 3,1,24,.ds true [] 0 true,false⟩:=rfl
theorem tab_47 : tab 47=some ⟨.slice 57,1,24,.ds true [] 0 true,false⟩:=rfl
theorem tab_48 : tab 48=some ⟨.struct #[⟨"Name",9,0,false,"","",0⟩,⟨"Fields",47,1,false,"","",16⟩,⟨"Reserved",45,2,false,"","",40⟩],3,64,.agg [.str [],.ds true [] 0 true,.ds true [] 0 true],false⟩:=rfl
theorem tab_49 : tab 49=tab 48:=rfl
theorem tab_54 : tab 54=some ⟨.struct #[⟨"Kind",3,0,false,"","",0⟩,⟨"Name",9,1,false,"","",8⟩],2,24,.agg [.int .i64 0,.str []],true⟩:=rfl
theorem tab_55 : tab 55=tab 54:=rfl
theorem tab_56 : tab 56=some ⟨.struct #[⟨"Name",9,0,false,"","",0⟩,⟨"Tag",3,1,false,"","",16⟩,⟨"Label",3,2,false,"","",24⟩,⟨"Type",55,3,false,"","",32⟩],5,56,.agg [.str [],.int .i64 0,.int .i64 0,.int .i64 0,.str []],true⟩:=rfl
theorem tab_57 : tab 57=tab 56:=rfl
theorem tab_61 : tab 61=some ⟨.struct #[⟨"Tag",3,0,false,"","",0⟩,⟨"Wire",3,1,false,"","",8⟩,⟨"N",3,2,false,"","",16⟩,⟨"B",9,3,false,"","",24⟩],4,40,.agg [.int .i64 0,.int .i64 0,.int .i64 0,.str []],true⟩:=rfl
theorem tab_62 : tab 62=some ⟨.struct #[⟨"Tag",3,0,false,"","",0⟩,⟨"Wire",3,1,false,"","",8⟩,⟨"N",3,2,false,"","",16⟩,⟨"B",9,3,false,"","",24⟩],4,40,.agg [.int .i64 0,.int .i64 0,.int .i64 0,.str []],true⟩:=rfl
theorem tab_65 : tab 65=some ⟨.struct #[⟨"Kind",3,0,false,"","",0⟩,⟨"From",3,1,false,"","",8⟩,⟨"To",3,2,false,"","",16⟩,⟨"ID",3,3,false,"","",24⟩,⟨"Version",3,4,false,"","",32⟩,⟨"Method",9,5,false,"","",40⟩,⟨"Err",3,6,false,"","",56⟩,⟨"Body",9,7,false,"","",64⟩],8,80,.agg [.int .i64 0,.int .i64 0,.int .i64 0,.int .i64 0,.int .i64 0,.str [],.int .i64 0,.str []],true⟩:=rfl
theorem tab_66 : tab 66=tab 65:=rfl
theorem tab_70 : tab 70=some ⟨.slice 26,1,24,.ds true [] 0 true,false⟩:=rfl
theorem tab_74 : tab 74=some ⟨.struct #[⟨"Name",9,0,false,"","",0⟩,⟨"In",9,1,false,"","",16⟩,⟨"Out",9,2,false,"","",32⟩],3,48,.agg [.str [],.str [],.str []],true⟩:=rfl
theorem tab_75 : tab 75=tab 74:=rfl
theorem tab_82 : tab 82=some ⟨.slice 86,1,24,.ds true [] 0 true,false⟩:=rfl
theorem tab_83 : tab 83=some ⟨.struct #[⟨"Name",9,0,false,"","",0⟩,⟨"Values",82,1,false,"","",16⟩],2,40,.agg [.str [],.ds true [] 0 true],false⟩:=rfl
theorem tab_84 : tab 84=tab 83:=rfl
theorem tab_85 : tab 85=some ⟨.struct #[⟨"Name",9,0,false,"","",0⟩,⟨"N",3,1,false,"","",16⟩],2,24,.agg [.str [],.int .i64 0],true⟩:=rfl
theorem tab_86 : tab 86=tab 85:=rfl
theorem tab_88 : tab 88=some ⟨TypeDesc.pointer 3,1,8,AV.nilp,false⟩:=rfl
theorem tab_90 : tab 90=some ⟨.slice 30,1,24,.ds true [] 0 true,false⟩:=rfl
theorem tab_91 : tab 91=some ⟨.struct #[⟨"Tag",3,0,false,"","",0⟩,⟨"Trees",90,1,false,"","",8⟩],2,32,.agg [.int .i64 0,.ds true [] 0 true],false⟩:=rfl
theorem YS : tab 92=some ⟨.struct #[⟨"Tag",3,0,false,"","",0⟩,⟨"Trees",90,1,false,"","",8⟩],2,32,.agg [.int .i64 0,.ds true [] 0 true],false⟩:=rfl
theorem tab_98 : tab 98=some ⟨.slice 9,1,24,.ds true [] 0 true,false⟩:=rfl
theorem tab_107 : tab 107=some ⟨TypeDesc.interface #[("concordat/value.kind",228)],1,16,AV.nilI,false⟩:=rfl
theorem tab_108 : tab 108=tab 107:=rfl
theorem tab_109 : tab 109=some ⟨.struct #[⟨"in",108,0,false,"","concordat/value",0⟩],1,16,.agg [AV.nilI],false⟩:=rfl
theorem tab_110 : tab 110=tab 109:=rfl
theorem tab_114 : tab 114=some ⟨TypeDesc.pointer 192,1,8,AV.nilp,false⟩:=rfl
theorem tab_116 : tab 116=some ⟨TypeDesc.map 9 4,1,8,AV.nilm,false⟩:=rfl
theorem tab_117 : tab 117=tab 116:=rfl
theorem tab_125 : tab 125=some ⟨TypeDesc.pointer 30,1,8,AV.nilp,false⟩:=rfl
theorem tab_127 : tab 127=some ⟨TypeDesc.func #[92] #[4] false,1,8,AV.nilF,false⟩:=rfl
theorem tab_130 : tab 130=some ⟨.slice 21,1,24,.ds true [] 0 true,false⟩:=rfl
theorem tab_140 : tab 140=some ⟨.int .u64,1,8,.int .u64 0,false⟩:=rfl
theorem tab_142 : tab 142=some ⟨TypeDesc.pointer 146,1,8,AV.nilp,false⟩:=rfl
theorem tab_143 : tab 143=some ⟨TypeDesc.map 149 4,1,8,AV.nilm,false⟩:=rfl
theorem tab_144 : tab 144=some ⟨.slice 149,1,24,.ds true [] 0 true,false⟩:=rfl
theorem tab_145 : tab 145=some ⟨.struct #[⟨"l",144,0,false,"","concordat/compat",0⟩,⟨"seen",143,1,false,"","concordat/compat",24⟩],2,32,.agg [.ds true [] 0 true,AV.nilm],false⟩:=rfl
theorem tab_146 : tab 146=tab 145:=rfl
theorem tab_148 : tab 148=some ⟨.struct #[⟨"old",9,0,false,"","concordat/compat",0⟩,⟨"new",9,1,false,"","concordat/compat",16⟩],2,32,.agg [.str [],.str []],true⟩:=rfl
theorem tab_149 : tab 149=tab 148:=rfl
theorem tab_156 : tab 156=some ⟨.slice 110,1,24,.ds true [] 0 true,false⟩:=rfl
theorem tab_161 : tab 161=some ⟨TypeDesc.map 3 4,1,8,AV.nilm,false⟩:=rfl
theorem tab_169 : tab 169=some ⟨TypeDesc.func #[92,3] #[3] false,1,8,AV.nilF,false⟩:=rfl
theorem tab_171 : tab 171=some ⟨TypeDesc.pointer 92,1,8,AV.nilp,false⟩:=rfl
theorem tab_181 : tab 181=some ⟨TypeDesc.array 6 3,6,48,.agg [.int .i64 0,.int .i64 0,.int .i64 0,.int .i64 0,.int .i64 0,.int .i64 0],true⟩:=rfl
theorem tab_184 : tab 184=tab 140:=rfl
theorem tab_190 : tab 190=some ⟨.slice 194,1,24,.ds true [] 0 true,false⟩:=rfl
theorem tab_191 : tab 191=some ⟨.struct #[⟨"entries",190,0,false,"","concordat/value",0⟩,⟨"rest",28,1,false,"","concordat/value",24⟩],2,48,.agg [.ds true [] 0 true,.ds true [] 0 true],false⟩:=rfl
theorem tab_192 : tab 192=tab 191:=rfl
theorem tab_193 : tab 193=some ⟨.struct #[⟨"tag",3,0,false,"","concordat/value",0⟩,⟨"l",156,1,false,"","concordat/value",8⟩],2,32,.agg [.int .i64 0,.ds true [] 0 true],false⟩:=rfl
theorem tab_194 : tab 194=tab 193:=rfl
theorem tab_207 : tab 207=some ⟨TypeDesc.map 3 9,1,8,AV.nilm,false⟩:=rfl
theorem tab_208 : tab 208=tab 2:=rfl
theorem tab_209 : tab 209=tab 9:=rfl
theorem tab_219 : tab 219=some ⟨.struct #[⟨"lo",5,0,false,"","unicode/utf8",0⟩,⟨"hi",5,1,false,"","unicode/utf8",1⟩],2,2,.agg [.int .u8 0,.int .u8 0],true⟩:=rfl
theorem tab_220 : tab 220=tab 219:=rfl
theorem tab_221 : tab 221=some ⟨TypeDesc.array 16 220,32,32,.agg [.int .u8 0,.int .u8 0,.int .u8 0,.int .u8 0,.int .u8 0,.int .u8 0,.int .u8 0,.int .u8 0,.int .u8 0,.int .u8 0,.int .u8 0,.int .u8 0,.int .u8 0,.int .u8 0,.int .u8 0,.int .u8 0,.int .u8 0,.int .u8 0,.int .u8 0,.int .u8 0,.int .u8 0,.int .u8 0,.int .u8 0,.int .u8 0,.int .u8 0,.int .u8 0,.int .u8 0,.int .u8 0,.int .u8 0,.int .u8 0,.int .u8 0,.int .u8 0],true⟩:=rfl
theorem wy {t:TypeId}{i:TI}{f}{z:Value}(hu:(qh).underlying t=some i.desc)(hf:(qh).info? t=some f)(h3:f.zero=some z)(h1:f.size=i.size:=by rfl)(h2:f.bytes=i.bytes:=by rfl)(h4:z.cells.size=i.size:=by rfl)(h5:AM.constAV z=i.zero:=by rfl)(h6:i.cmp=true→(qh).stoodInHeld t=false∧(qh).eqGuardType (qh).depth t=false:=by first|(intro h; cases h; done)|(intro _; exact⟨by kernel_rfl,by kernel_rfl⟩))(h7:tsize t=i.size:=by rfl):TI.OK qh t i:=⟨hu,⟨f,hf,h1,h2,z,h3,h4,fun E=>h5▸VR.constAV E z⟩,h6,h7⟩
theorem ok_1 : TI.OK qh 1 ti1:=wy Tryz.underlying1 Tryz.type1 rfl
theorem ok_2 : TI.OK qh 2 ti2:=wy Tryz.underlying2 Tryz.type2 rfl
theorem ok_3 : TI.OK qh 3 ti3:=wy Tryz.underlying3 Tryz.type3 rfl
theorem ok_4 : TI.OK qh 4 ti4:=wy Tryz.underlying4 Tryz.type4 rfl
theorem ok_5 : TI.OK qh 5 ti5:=wy Tryz.underlying5 Tryz.type5 rfl
theorem ok_9 : TI.OK qh 9 ti9:=wy Tryz.underlying9 Tryz.type9 rfl
theorem ok_20 : TI.OK qh 20 ti20:=wy Tryz.underlying20 Tryz.type20 rfl
theorem ok_21 : TI.OK qh 21 ti21:=wy Tryz.underlying21 Tryz.type21 rfl
theorem ok_22 : TI.OK qh 22 ti22:=wy Tryz.underlying22 Tryz.type22 rfl
theorem ok_23 : TI.OK qh 23 ti23:=wy Tryz.underlying23 Tryz.type23 rfl
theorem ok_24 : TI.OK qh 24 ti24:=wy Tryz.underlying24 Tryz.type24 rfl
theorem ok_25 : TI.OK qh 25 ti25:=wy Tryz.underlying25 Tryz.type25 rfl
theorem ok_26 : TI.OK qh 26 ti26:=wy Tryz.underlying26 Tryz.type26 rfl
theorem ok_27 : TI.OK qh 27 ti27:=wy Tryz.underlying27 Tryz.type27 rfl
theorem ok_28 : TI.OK qh 28 ti28:=wy Tryz.underlying28 Tryz.type28 rfl
theorem ok_29 : TI.OK qh 29 ti29:=wy Tryz.underlying29 Tryz.type29 rfl
theorem ok_30 : TI.OK qh 30 ti30:=wy Tryz.underlying30 Tryz.type30 rfl
theorem ok_34 : TI.OK qh 34 ti34:=wy Tryz.underlying34 Tryz.type34 rfl
theorem ok_35 : TI.OK qh 35 ti35:=wy Tryz.underlying35 Tryz.type35 rfl
theorem ok_45 : TI.OK qh 45 ti45:=wy Tryz.underlying45 Tryz.type45 rfl
theorem ok_47 : TI.OK qh 47 ti47:=wy Tryz.underlying47 Tryz.type47 rfl
theorem ok_48 : TI.OK qh 48 ti48:=wy Tryz.underlying48 Tryz.type48 rfl
theorem ok_49 : TI.OK qh 49 ti49:=wy Tryz.underlying49 Tryz.type49 rfl
theorem ok_54 : TI.OK qh 54 ti54:=wy Tryz.underlying54 Tryz.type54 rfl
theorem ok_55 : TI.OK qh 55 ti55:=wy Tryz.underlying55 Tryz.type55 rfl
theorem ok_56 : TI.OK qh 56 ti56:=wy Tryz.underlying56 Tryz.type56 rfl
theorem ok_57 : TI.OK qh 57 ti57:=wy Tryz.underlying57 Tryz.type57 rfl
theorem ok_61 : TI.OK qh 61 ti61:=wy Tryz.underlying61 Tryz.type61 rfl
theorem ok_62 : TI.OK qh 62 ti62:=wy Tryz.underlying62 Tryz.type62 rfl
theorem ok_65 : TI.OK qh 65 ti65:=wy Tryz.underlying65 Tryz.type65 rfl
theorem ok_66 : TI.OK qh 66 ti66:=wy Tryz.underlying66 Tryz.type66 rfl
theorem ok_70 : TI.OK qh 70 ti70:=wy Tryz.underlying70 Tryz.type70 rfl
theorem ok_74 : TI.OK qh 74 ti74:=wy Tryz.underlying74 Tryz.type74 rfl
theorem ok_75 : TI.OK qh 75 ti75:=wy Tryz.underlying75 Tryz.type75 rfl
theorem ok_82 : TI.OK qh 82 ti82:=wy Tryz.underlying82 Tryz.type82 rfl
theorem ok_83 : TI.OK qh 83 ti83:=wy Tryz.underlying83 Tryz.type83 rfl
theorem ok_84 : TI.OK qh 84 ti84:=wy Tryz.underlying84 Tryz.type84 rfl
theorem ok_85 : TI.OK qh 85 ti85:=wy Tryz.underlying85 Tryz.type85 rfl
theorem ok_86 : TI.OK qh 86 ti86:=wy Tryz.underlying86 Tryz.type86 rfl
theorem ok_88 : TI.OK qh 88 ti88:=wy Tryz.underlying88 Tryz.type88 rfl
theorem ok_90 : TI.OK qh 90 ti90:=wy Tryz.underlying90 Tryz.type90 rfl
theorem ok_91 : TI.OK qh 91 ti91:=wy Tryz.underlying91 Tryz.type91 rfl
theorem ok_92 : TI.OK qh 92 ti92:=wy Tryz.underlying92 Tryz.type92 rfl
theorem ok_98 : TI.OK qh 98 ti98:=wy Tryz.underlying98 Tryz.type98 rfl
theorem ok_107 : TI.OK qh 107 ti107:=wy Tryz.underlying107 Tryz.type107 rfl
theorem ok_108 : TI.OK qh 108 ti108:=wy Tryz.underlying108 Tryz.type108 rfl
theorem ok_109 : TI.OK qh 109 ti109:=wy Tryz.underlying109 Tryz.type109 rfl
theorem ok_110 : TI.OK qh 110 ti110:=wy Tryz.underlying110 Tryz.type110 rfl
theorem ok_114 : TI.OK qh 114 ti114:=wy Tryz.underlying114 Tryz.type114 rfl
theorem ok_116 : TI.OK qh 116 ti116:=wy Tryz.underlying116 Tryz.type116 rfl
theorem ok_117 : TI.OK qh 117 ti117:=wy Tryz.underlying117 Tryz.type117 rfl
theorem ok_125 : TI.OK qh 125 ti125:=wy Tryz.underlying125 Tryz.type125 rfl
theorem ok_127 : TI.OK qh 127 ti127:=wy Tryz.underlying127 Tryz.type127 rfl
theorem ok_130 : TI.OK qh 130 ti130:=wy Tryz.underlying130 Tryz.type130 rfl
theorem ok_140 : TI.OK qh 140 ti140:=wy Tryz.underlying140 Tryz.type140 rfl
theorem ok_142 : TI.OK qh 142 ti142:=wy Tryz.underlying142 Tryz.type142 rfl
theorem ok_143 : TI.OK qh 143 ti143:=wy Tryz.underlying143 Tryz.type143 rfl
theorem ok_144 : TI.OK qh 144 ti144:=wy Tryz.underlying144 Tryz.type144 rfl
theorem ok_145 : TI.OK qh 145 ti145:=wy Tryz.underlying145 Tryz.type145 rfl
theorem ok_146 : TI.OK qh 146 ti146:=wy Tryz.underlying146 Tryz.type146 rfl
theorem ok_148 : TI.OK qh 148 ti148:=wy Tryz.underlying148 Tryz.type148 rfl
theorem ok_149 : TI.OK qh 149 ti149:=wy Tryz.underlying149 Tryz.type149 rfl
theorem ok_156 : TI.OK qh 156 ti156:=wy Tryz.underlying156 Tryz.type156 rfl
theorem ok_161 : TI.OK qh 161 ti161:=wy Tryz.underlying161 Tryz.type161 rfl
theorem ok_169 : TI.OK qh 169 ti169:=wy Tryz.underlying169 Tryz.type169 rfl
theorem ok_171 : TI.OK qh 171 ti171:=wy Tryz.underlying171 Tryz.type171 rfl
theorem ok_181 : TI.OK qh 181 ti181:=wy Tryz.underlying181 Tryz.type181 rfl
theorem ok_184 : TI.OK qh 184 ti184:=wy Tryz.underlying184 Tryz.type184 rfl
theorem ok_190 : TI.OK qh 190 ti190:=wy Tryz.underlying190 Tryz.type190 rfl
theorem ok_191 : TI.OK qh 191 ti191:=wy Tryz.underlying191 Tryz.type191 rfl
theorem ok_192 : TI.OK qh 192 ti192:=wy Tryz.underlying192 Tryz.type192 rfl
theorem ok_193 : TI.OK qh 193 ti193:=wy Tryz.underlying193 Tryz.type193 rfl
theorem ok_194 : TI.OK qh 194 ti194:=wy Tryz.underlying194 Tryz.type194 rfl
theorem ok_207 : TI.OK qh 207 ti207:=wy Tryz.underlying207 Tryz.type207 rfl
theorem ok_208 : TI.OK qh 208 ti208:=wy Tryz.underlying208 Tryz.type208 rfl
theorem ok_209 : TI.OK qh 209 ti209:=wy Tryz.underlying209 Tryz.type209 rfl
theorem ok_219 : TI.OK qh 219 ti219:=wy Tryz.underlying219 Tryz.type219 rfl
theorem ok_220 : TI.OK qh 220 ti220:=wy Tryz.underlying220 Tryz.type220 rfl
theorem ok_221 : TI.OK qh 221 ti221:=wy Tryz.underlying221 Tryz.type221 rfl
theorem allOK : AllOK qh 0 tabL:=⟨ok_1,ok_2,ok_3,ok_4,ok_5,ok_9,ok_20,ok_21,ok_22,ok_23,ok_24,ok_25,ok_26,ok_27,ok_28,ok_29,ok_30,ok_34,ok_35,ok_45,ok_47,ok_48,ok_49,ok_54,ok_55,ok_56,ok_57,ok_61,ok_62,ok_65,ok_66,ok_70,ok_74,ok_75,ok_82,ok_83,ok_84,ok_85,ok_86,ok_88,ok_90,ok_91,ok_92,ok_98,ok_107,ok_108,ok_109,ok_110,ok_114,ok_116,ok_117,ok_125,ok_127,ok_130,ok_140,ok_142,ok_143,ok_144,ok_145,ok_146,ok_148,ok_149,ok_156,ok_161,ok_169,ok_171,ok_181,ok_184,ok_190,ok_191,ok_192,ok_193,ok_194,ok_207,ok_208,ok_209,ok_219,ok_220,ok_221,trivial⟩
theorem tok : TOK qh tab:=tok_of allOK
abbrev FA (t i o:Nat):Prop:=(∀ a b c:Nat,w6 tab t (.op a b c) i=some (.op a b (c+o)))∧∀ (l:List AV) (c:Nat),w6 tab t (.dp l c) i=some (.dp l (c+o))
theorem xP {t i o:Nat}(h1:∀ a b c:Nat,w6 tab t (.op a b c) i=some (.op a b (c+o)):=by intros; rfl)(h2:∀ (l:List AV) (c:Nat),w6 tab t (.dp l c) i=some (.dp l (c+o)):=by intros; rfl):FA t i o:=⟨h1,h2⟩
abbrev LN (t:Nat):Prop:=(∀ (n:Bool) (l:List AV) (k:Nat) (b:Bool) (σ:Store),vaN tab t (.ds n l k b) σ=some (.int .i64 k))∧∀ (n:Bool) (z i v o k:Nat) (b:Bool) (σ:Store),vaN tab t (.os n z i v o k b) σ=some (.int .i64 k)
theorem mkLN {t:Nat}(h1:∀ (n:Bool) (l:List AV) (k:Nat) (b:Bool) (σ:Store),vaN tab t (.ds n l k b) σ=some (.int .i64 k):=by intros; rfl)(h2:∀ (n:Bool) (z i v o k:Nat) (b:Bool) (σ:Store),vaN tab t (.os n z i v o k b) σ=some (.int .i64 k):=by intros; rfl):LN t:=⟨h1,h2⟩
theorem sz_1 : sized tab 1=true:=rfl
theorem sz_2 : sized tab 2=true:=rfl
theorem cd_2 : cellsD tab 20 2=some [.int .i64]:=rfl
theorem sz_3 : sized tab 3=true:=rfl
theorem cd_3 : cellsD tab 20 3=cellsD tab 20 2:=rfl
theorem sz_4 : sized tab 4=true:=rfl
theorem cd_4 : cellsD tab 20 4=some [.bool]:=rfl
theorem sz_5 : sized tab 5=true:=rfl
theorem cd_5 : cellsD tab 20 5=some [.int .u8]:=rfl
theorem sz_9 : sized tab 9=true:=rfl
theorem cd_9 : cellsD tab 20 9=some [.string]:=rfl
theorem len_9 (s:List UInt8)(σ:Store):vaN tab 9 (.str s) σ=some (.int .i64 s.length):=rfl
theorem sz_20 : sized tab 20=true:=rfl
theorem sz_21 : sized tab 21=true:=rfl
theorem cd_21 : cellsD tab 20 21=some [.int .i32]:=rfl
theorem sz_22 : sized tab 22=true:=rfl
theorem ln_22 : LN 22:=mkLN
theorem sz_23 : sized tab 23=true:=rfl
theorem ln_23 : LN 23:=mkLN
theorem sz_24 : sized tab 24=true:=rfl
theorem ln_24 : LN 24:=mkLN
theorem sz_25 : sized tab 25=true:=rfl
theorem fa_25_0 : FA 25 0 0:=xP
theorem fa_25_1 : FA 25 1 1:=xP
theorem fa_25_2 : FA 25 2 2:=xP
theorem fa_25_3 : FA 25 3 3:=xP
theorem sz_26 : sized tab 26=true:=rfl
theorem fa_26_0 : FA 26 0 0:=xP
theorem fa_26_1 : FA 26 1 1:=xP
theorem fa_26_2 : FA 26 2 2:=xP
theorem fa_26_3 : FA 26 3 3:=xP
theorem sz_27 : sized tab 27=true:=rfl
theorem ln_27 : LN 27:=mkLN
theorem sz_28 : sized tab 28=true:=rfl
theorem ln_28 : LN 28:=mkLN
theorem sz_29 : sized tab 29=true:=rfl
theorem fa_29_0 : FA 29 0 0:=xP
theorem fa_29_1 : FA 29 1 1:=xP
theorem fa_29_2 : FA 29 2 2:=xP
theorem fa_29_3 : FA 29 3 3:=xP
theorem fa_29_4 : FA 29 4 4:=xP
theorem sz_30 : sized tab 30=true:=rfl
theorem fa_30_0 : FA 30 0 0:=xP
theorem fa_30_1 : FA 30 1 1:=xP
theorem fa_30_2 : FA 30 2 2:=xP
theorem fa_30_3 : FA 30 3 3:=xP
theorem fa_30_4 : FA 30 4 4:=xP
theorem sz_34 : sized tab 34=true:=rfl
theorem ln_34 : LN 34:=mkLN
theorem sz_35 : sized tab 35=true:=rfl
theorem cd_35 : cellsD tab 20 35=cellsD tab 20 2:=rfl
theorem sz_45 : sized tab 45=true:=rfl
theorem ln_45 : LN 45:=mkLN
theorem sz_47 : sized tab 47=true:=rfl
theorem ln_47 : LN 47:=mkLN
theorem sz_48 : sized tab 48=true:=rfl
theorem fa_48_0 : FA 48 0 0:=xP
theorem fa_48_1 : FA 48 1 1:=xP
theorem fa_48_2 : FA 48 2 2:=xP
theorem sz_49 : sized tab 49=true:=rfl
theorem fa_49_0 : FA 49 0 0:=xP
theorem fa_49_1 : FA 49 1 1:=xP
theorem fa_49_2 : FA 49 2 2:=xP
theorem sz_54 : sized tab 54=true:=rfl
theorem cd_54 : cellsD tab 20 54=some [.int .i64,.string]:=rfl
theorem fa_54_0 : FA 54 0 0:=xP
theorem fa_54_1 : FA 54 1 1:=xP
theorem sz_55 : sized tab 55=true:=rfl
theorem cd_55 : cellsD tab 20 55=cellsD tab 20 54:=rfl
theorem fa_55_0 : FA 55 0 0:=xP
theorem fa_55_1 : FA 55 1 1:=xP
theorem sz_56 : sized tab 56=true:=rfl
theorem cd_56 : cellsD tab 20 56=some [.string,.int .i64,.int .i64,.int .i64,.string]:=rfl
theorem fa_56_0 : FA 56 0 0:=xP
theorem fa_56_1 : FA 56 1 1:=xP
theorem fa_56_2 : FA 56 2 2:=xP
theorem fa_56_3 : FA 56 3 3:=xP
theorem sz_57 : sized tab 57=true:=rfl
theorem cd_57 : cellsD tab 20 57=cellsD tab 20 56:=rfl
theorem fa_57_0 : FA 57 0 0:=xP
theorem fa_57_1 : FA 57 1 1:=xP
theorem fa_57_2 : FA 57 2 2:=xP
theorem fa_57_3 : FA 57 3 3:=xP
theorem sz_61 : sized tab 61=true:=rfl
theorem cd_61 : cellsD tab 20 61=some [.int .i64,.int .i64,.int .i64,.string]:=rfl
theorem fa_61_0 : FA 61 0 0:=xP
theorem fa_61_1 : FA 61 1 1:=xP
theorem fa_61_2 : FA 61 2 2:=xP
theorem fa_61_3 : FA 61 3 3:=xP
theorem sz_62 : sized tab 62=true:=rfl
theorem cd_62 : cellsD tab 20 62=some [.int .i64,.int .i64,.int .i64,.string]:=rfl
theorem fa_62_0 : FA 62 0 0:=xP
theorem fa_62_1 : FA 62 1 1:=xP
theorem fa_62_2 : FA 62 2 2:=xP
theorem fa_62_3 : FA 62 3 3:=xP
theorem sz_65 : sized tab 65=true:=rfl
theorem cd_65 : cellsD tab 20 65=some [.int .i64,.int .i64,.int .i64,.int .i64,.int .i64,.string,.int .i64,.string]:=rfl
theorem fa_65_0 : FA 65 0 0:=xP
theorem fa_65_1 : FA 65 1 1:=xP
theorem fa_65_2 : FA 65 2 2:=xP
theorem fa_65_3 : FA 65 3 3:=xP
theorem fa_65_4 : FA 65 4 4:=xP
theorem fa_65_5 : FA 65 5 5:=xP
theorem fa_65_6 : FA 65 6 6:=xP
theorem fa_65_7 : FA 65 7 7:=xP
theorem sz_66 : sized tab 66=true:=rfl
theorem cd_66 : cellsD tab 20 66=cellsD tab 20 65:=rfl
theorem fa_66_0 : FA 66 0 0:=xP
theorem fa_66_1 : FA 66 1 1:=xP
theorem fa_66_2 : FA 66 2 2:=xP
theorem fa_66_3 : FA 66 3 3:=xP
theorem fa_66_4 : FA 66 4 4:=xP
theorem fa_66_5 : FA 66 5 5:=xP
theorem fa_66_6 : FA 66 6 6:=xP
theorem fa_66_7 : FA 66 7 7:=xP
theorem sz_70 : sized tab 70=true:=rfl
theorem ln_70 : LN 70:=mkLN
theorem sz_74 : sized tab 74=true:=rfl
theorem cd_74 : cellsD tab 20 74=some [.string,.string,.string]:=rfl
theorem fa_74_0 : FA 74 0 0:=xP
theorem fa_74_1 : FA 74 1 1:=xP
theorem fa_74_2 : FA 74 2 2:=xP
theorem sz_75 : sized tab 75=true:=rfl
theorem cd_75 : cellsD tab 20 75=cellsD tab 20 74:=rfl
theorem fa_75_0 : FA 75 0 0:=xP
theorem fa_75_1 : FA 75 1 1:=xP
theorem fa_75_2 : FA 75 2 2:=xP
theorem sz_82 : sized tab 82=true:=rfl
theorem ln_82 : LN 82:=mkLN
theorem sz_83 : sized tab 83=true:=rfl
theorem fa_83_0 : FA 83 0 0:=xP
theorem fa_83_1 : FA 83 1 1:=xP
theorem sz_84 : sized tab 84=true:=rfl
theorem fa_84_0 : FA 84 0 0:=xP
theorem fa_84_1 : FA 84 1 1:=xP
theorem sz_85 : sized tab 85=true:=rfl
theorem cd_85 : cellsD tab 20 85=some [.string,.int .i64]:=rfl
theorem fa_85_0 : FA 85 0 0:=xP
theorem fa_85_1 : FA 85 1 1:=xP
theorem sz_86 : sized tab 86=true:=rfl
theorem cd_86 : cellsD tab 20 86=cellsD tab 20 85:=rfl
theorem fa_86_0 : FA 86 0 0:=xP
theorem fa_86_1 : FA 86 1 1:=xP
theorem sz_88 : sized tab 88=true:=rfl
theorem sz_90 : sized tab 90=true:=rfl
theorem ln_90 : LN 90:=mkLN
theorem sz_91 : sized tab 91=true:=rfl
theorem fa_91_0 : FA 91 0 0:=xP
theorem fa_91_1 : FA 91 1 1:=xP
theorem sz_92 : sized tab 92=true:=rfl
theorem fa_92_0 : FA 92 0 0:=xP
theorem fa_92_1 : FA 92 1 1:=xP
theorem sz_98 : sized tab 98=true:=rfl
theorem ln_98 : LN 98:=mkLN
theorem sz_107 : sized tab 107=true:=rfl
theorem sz_108 : sized tab 108=true:=rfl
theorem sz_109 : sized tab 109=true:=rfl
theorem fa_109_0 : FA 109 0 0:=xP
theorem sz_110 : sized tab 110=true:=rfl
theorem fa_110_0 : FA 110 0 0:=xP
theorem sz_114 : sized tab 114=true:=rfl
theorem sz_116 : sized tab 116=true:=rfl
theorem sz_117 : sized tab 117=true:=rfl
theorem sz_125 : sized tab 125=true:=rfl
theorem sz_127 : sized tab 127=true:=rfl
theorem sz_130 : sized tab 130=true:=rfl
theorem ln_130 : LN 130:=mkLN
theorem sz_140 : sized tab 140=true:=rfl
theorem cd_140 : cellsD tab 20 140=some [.int .u64]:=rfl
theorem sz_142 : sized tab 142=true:=rfl
theorem sz_143 : sized tab 143=true:=rfl
theorem sz_144 : sized tab 144=true:=rfl
theorem ln_144 : LN 144:=mkLN
theorem sz_145 : sized tab 145=true:=rfl
theorem fa_145_0 : FA 145 0 0:=xP
theorem fa_145_1 : FA 145 1 1:=xP
theorem sz_146 : sized tab 146=true:=rfl
theorem fa_146_0 : FA 146 0 0:=xP
theorem fa_146_1 : FA 146 1 1:=xP
theorem sz_148 : sized tab 148=true:=rfl
theorem cd_148 : cellsD tab 20 148=some [.string,.string]:=rfl
theorem fa_148_0 : FA 148 0 0:=xP
theorem fa_148_1 : FA 148 1 1:=xP
theorem sz_149 : sized tab 149=true:=rfl
theorem cd_149 : cellsD tab 20 149=cellsD tab 20 148:=rfl
theorem fa_149_0 : FA 149 0 0:=xP
theorem fa_149_1 : FA 149 1 1:=xP
theorem sz_156 : sized tab 156=true:=rfl
theorem ln_156 : LN 156:=mkLN
theorem sz_161 : sized tab 161=true:=rfl
theorem sz_169 : sized tab 169=true:=rfl
theorem sz_171 : sized tab 171=true:=rfl
theorem sz_181 : sized tab 181=true:=rfl
theorem cd_181 : cellsD tab 20 181=some [.int .i64,.int .i64,.int .i64,.int .i64,.int .i64,.int .i64]:=rfl
theorem sz_184 : sized tab 184=true:=rfl
theorem cd_184 : cellsD tab 20 184=cellsD tab 20 140:=rfl
theorem sz_190 : sized tab 190=true:=rfl
theorem ln_190 : LN 190:=mkLN
theorem sz_191 : sized tab 191=true:=rfl
theorem fa_191_0 : FA 191 0 0:=xP
theorem fa_191_1 : FA 191 1 1:=xP
theorem sz_192 : sized tab 192=true:=rfl
theorem fa_192_0 : FA 192 0 0:=xP
theorem fa_192_1 : FA 192 1 1:=xP
theorem sz_193 : sized tab 193=true:=rfl
theorem fa_193_0 : FA 193 0 0:=xP
theorem fa_193_1 : FA 193 1 1:=xP
theorem sz_194 : sized tab 194=true:=rfl
theorem fa_194_0 : FA 194 0 0:=xP
theorem fa_194_1 : FA 194 1 1:=xP
theorem sz_207 : sized tab 207=true:=rfl
theorem sz_208 : sized tab 208=true:=rfl
theorem cd_208 : cellsD tab 20 208=cellsD tab 20 2:=rfl
theorem sz_209 : sized tab 209=true:=rfl
theorem cd_209 : cellsD tab 20 209=cellsD tab 20 9:=rfl
theorem len_209 (s:List UInt8)(σ:Store):vaN tab 209 (.str s) σ=some (.int .i64 s.length):=rfl
theorem sz_219 : sized tab 219=true:=rfl
theorem cd_219 : cellsD tab 20 219=some [.int .u8,.int .u8]:=rfl
theorem fa_219_0 : FA 219 0 0:=xP
theorem fa_219_1 : FA 219 1 1:=xP
theorem sz_220 : sized tab 220=true:=rfl
theorem cd_220 : cellsD tab 20 220=cellsD tab 20 219:=rfl
theorem fa_220_0 : FA 220 0 0:=xP
theorem fa_220_1 : FA 220 1 1:=xP
theorem sz_221 : sized tab 221=true:=rfl
theorem cd_221 : cellsD tab 20 221=some [.int .u8,.int .u8,.int .u8,.int .u8,.int .u8,.int .u8,.int .u8,.int .u8,.int .u8,.int .u8,.int .u8,.int .u8,.int .u8,.int .u8,.int .u8,.int .u8,.int .u8,.int .u8,.int .u8,.int .u8,.int .u8,.int .u8,.int .u8,.int .u8,.int .u8,.int .u8,.int .u8,.int .u8,.int .u8,.int .u8,.int .u8,.int .u8]:=rfl
attribute [go_sem] tab_1 tab_2 tab_3 tab_4 tab_5 tab_9 tab_20 tab_21 tab_22 tab_23 tab_24 tab_25 tab_26 YT tab_28 tab_29 tab_30 tab_34 tab_35 tab_45 tab_47 tab_48 tab_49 tab_54 tab_55 tab_56 tab_57 tab_61 tab_62 tab_65 tab_66 tab_70 tab_74 tab_75 tab_82 tab_83 tab_84 tab_85 tab_86 tab_88
attribute [go_sem] tab_90 tab_91 YS tab_98 tab_107 tab_108 tab_109 tab_110 tab_114 tab_116 tab_117 tab_125 tab_127 tab_130 tab_140 tab_142 tab_143 tab_144 tab_145 tab_146 tab_148 tab_149 tab_156 tab_161 tab_169 tab_171 tab_181 tab_184 tab_190 tab_191 tab_192 tab_193 tab_194 tab_207 tab_208 tab_209 tab_219 tab_220 tab_221 sz_1
attribute [go_sem] sz_2 cd_2 sz_3 cd_3 sz_4 cd_4 sz_5 cd_5 sz_9 cd_9 len_9 sz_20 sz_21 cd_21 sz_22 ln_22 sz_23 ln_23 sz_24 ln_24 sz_25 fa_25_0 fa_25_1 fa_25_2 fa_25_3 sz_26 fa_26_0 fa_26_1 fa_26_2 fa_26_3
attribute [go_sem] sz_27 ln_27 sz_28 ln_28 sz_29 fa_29_0 fa_29_1 fa_29_2 fa_29_3 fa_29_4 sz_30 fa_30_0 fa_30_1 fa_30_2 fa_30_3 fa_30_4 sz_34 ln_34 sz_35 cd_35 sz_45 ln_45 sz_47 ln_47
attribute [go_sem] sz_48 fa_48_0 fa_48_1 fa_48_2 sz_49 fa_49_0 fa_49_1 fa_49_2 sz_54 cd_54 fa_54_0 fa_54_1 sz_55 cd_55 fa_55_0 fa_55_1 sz_56 cd_56 fa_56_0 fa_56_1 fa_56_2 fa_56_3 sz_57 cd_57 fa_57_0
attribute [go_sem] fa_57_1 fa_57_2 fa_57_3 sz_61 cd_61 fa_61_0 fa_61_1 fa_61_2 fa_61_3 sz_62 cd_62 fa_62_0 fa_62_1 fa_62_2 fa_62_3 sz_65 cd_65 fa_65_0 fa_65_1 fa_65_2 fa_65_3 fa_65_4 fa_65_5
attribute [go_sem] fa_65_6 fa_65_7 sz_66 cd_66 fa_66_0 fa_66_1 fa_66_2 fa_66_3 fa_66_4 fa_66_5 fa_66_6 fa_66_7 sz_70 ln_70 sz_74 cd_74 fa_74_0 fa_74_1 fa_74_2 sz_75 cd_75 fa_75_0 fa_75_1 fa_75_2
attribute [go_sem] sz_82 ln_82 sz_83 fa_83_0 fa_83_1 sz_84 fa_84_0 fa_84_1 sz_85 cd_85 fa_85_0 fa_85_1 sz_86 cd_86 fa_86_0 fa_86_1 sz_88 sz_90 ln_90 sz_91 fa_91_0 fa_91_1 sz_92 fa_92_0 fa_92_1
attribute [go_sem] sz_98 ln_98 sz_107 sz_108 sz_109 fa_109_0 sz_110 fa_110_0 sz_114 sz_116 sz_117 sz_125 sz_127 sz_130 ln_130 sz_140 cd_140 sz_142 sz_143 sz_144 ln_144 sz_145 fa_145_0 fa_145_1 sz_146 fa_146_0 fa_146_1 sz_148 cd_148 fa_148_0
attribute [go_sem] fa_148_1 sz_149 cd_149 fa_149_0 fa_149_1 sz_156 ln_156 sz_161 sz_169 sz_171 sz_181 cd_181 sz_184 cd_184 sz_190 ln_190 sz_191 fa_191_0 fa_191_1 sz_192 fa_192_0 fa_192_1 sz_193 fa_193_0 fa_193_1 sz_194 fa_194_0 fa_194_1
attribute [go_sem] sz_207 sz_208 cd_208 sz_209 cd_209 len_209 sz_219 cd_219 fa_219_0 fa_219_1 sz_220 cd_220 fa_220_0 fa_220_1 sz_221 cd_221
end
section
open AM
structure GRaw where
 fTag:Int
 fWire:Int
 fN:Int
 fB:List UInt8
 deriving DecidableEq
def encGRaw (x:GRaw):List AV:=[.int .i64 x.fTag,.int .i64 x.fWire,.int .i64 x.fN,.str x.fB]
instance : wg encGRaw := ⟨fun _ _ => rfl⟩
instance : vbR encGRaw := ⟨fun _ => rfl⟩
instance : vbS encGRaw 4 := ⟨fun _ => rfl⟩
mutual
inductive GTree where
 |mk (fKind fN:Int) (fS:List UInt8) (fEntries:List GEntry) (fRest:List GRaw)
inductive GEntry where
 |mk (fTag:Int) (fTrees:List GTree)
end
def GTree.fKind : GTree→Int|.mk a _ _ _ _=>a
def GTree.fN : GTree→Int|.mk _ a _ _ _=>a
def GTree.fS : GTree→List UInt8|.mk _ _ a _ _=>a
def GTree.fEntries : GTree→List GEntry|.mk _ _ _ a _=>a
def GTree.fRest : GTree→List GRaw|.mk _ _ _ _ a=>a
def GEntry.fTag : GEntry→Int|.mk a _=>a
def GEntry.fTrees : GEntry→List GTree|.mk _ a=>a
mutual
def encGTree : GTree→List AV
 |.mk k n s es rs=>[.int .i64 k,.int .i64 n,.str s,.ds true (encGEntryL es) (qb es) false,.ds true (qf encGRaw rs) (qb rs) false]
def encGEntry : GEntry→List AV
 |.mk t ts=>[.int .i64 t,.ds true (encGTreeL ts) (qb ts) false]
def encGEntryL : List GEntry→List AV
 |[]=>[]
 |e::l=>encGEntry e++encGEntryL l
def encGTreeL : List GTree→List AV
 |[]=>[]
 |e::l=>encGTree e++encGTreeL l
end
theorem encGEntryL_eq (l:List GEntry):encGEntryL l=qf encGEntry l:=by
 induction l with
 |nil=>rfl
 |cons e l ih=>rw[encGEntryL,ih]; rfl
theorem encGTreeL_eq (l:List GTree):encGTreeL l=qf encGTree l:=by
 induction l with
 |nil=>rfl
 |cons e l ih=>rw[encGTreeL,ih]; rfl
abbrev cellsGTree (x:GTree):List AV:=[.int .i64 x.fKind,.int .i64 x.fN,.str x.fS,.ds true (qf encGEntry x.fEntries) (qb x.fEntries) false,.ds true (qf encGRaw x.fRest) (qb x.fRest) false]
abbrev cellsGEntry (x:GEntry):List AV:=[.int .i64 x.fTag,.ds true (qf encGTree x.fTrees) (qb x.fTrees) false]
theorem zO (x:GTree):encGTree x=cellsGTree x:=by
 cases x; rw[encGTree,encGEntryL_eq]; rfl
theorem yy (x:GEntry):encGEntry x=cellsGEntry x:=by
 cases x; rw[encGEntry,encGTreeL_eq]; rfl
mutual
theorem vav (s:Bool):∀ x:GTree,canonL s (encGTree x)=true
 |.mk k n t es rs=>by
  simp only[encGTree,canonL,AV.canon,vaG s es,canon_all,qX,qC,qO]
theorem XG (s:Bool):∀ x:GEntry,canonL s (encGEntry x)=true
 |.mk t ts=>by simp only[encGEntry,canonL,AV.canon,vbL s ts,qX,qC,qO]
theorem vaG (s:Bool):∀ l:List GEntry,canonL s (encGEntryL l)=true
 |[]=>rfl
 |e::l=>by rw[encGEntryL,canonL_append,XG s e,vaG s l]; rfl
theorem vbL (s:Bool):∀ l:List GTree,canonL s (encGTreeL l)=true
 |[]=>rfl
 |e::l=>by rw[encGTreeL,canonL_append,vav s e,vbL s l]; rfl
end
instance : wg encGTree := ⟨vav⟩
instance : wg encGEntry := ⟨XG⟩
instance : wg cellsGTree := ⟨fun s x => by rw [← zO]; exact vav s x⟩
instance : wg cellsGEntry := ⟨fun s x => by rw [← yy]; exact XG s x⟩
instance : vbR encGTree := ⟨fun x => by rw [zO]; rfl⟩
instance : vbR encGEntry := ⟨fun x => by rw [yy]; rfl⟩
instance : vbS encGTree 5 := ⟨fun x => by rw [zO]; rfl⟩
instance : vbS encGEntry 2 := ⟨fun x => by rw [yy]; rfl⟩
mutual
inductive GValueValue where
 |nil
 |num (n:Int)
 |str (s:List UInt8)
 |node (es:List GValueEntry) (rs:List GRaw)
inductive GValueEntry where
 |mk (ftag:Int) (fl:List GValueValue)
end
def GValueEntry.ftag : GValueEntry→Int|.mk a _=>a
def GValueEntry.fl : GValueEntry→List GValueValue|.mk _ a=>a
structure GValueNode where
 fentries:List GValueEntry
 frest:List GRaw
mutual
def ifcV : GValueValue→AV
 |.nil=>.nilI
 |.num n=>.ifc 208 (.int .i64 n)
 |.str s=>.ifc 209 (.str s)
 |.node es rs=>.ifc 114 (.dp [.ds true (encGValueEntryL es) (qb es) false,.ds true (qf encGRaw rs) (qb rs) false] 0)
def encGValueEntry : GValueEntry→List AV
 |.mk t l=>[.int .i64 t,.ds true (encGValueValueL l) (qb l) false]
def encGValueEntryL : List GValueEntry→List AV
 |[]=>[]
 |e::l=>encGValueEntry e++encGValueEntryL l
def encGValueValueL : List GValueValue→List AV
 |[]=>[]
 |e::l=>ifcV e::encGValueValueL l
end
def encGValueValue (v:GValueValue):List AV:=[ifcV v]
theorem X1 (l:List GValueEntry):encGValueEntryL l=qf encGValueEntry l:=by
 induction l with
 |nil=>rfl
 |cons e l ih=>rw[encGValueEntryL,ih]; rfl
theorem X0 (l:List GValueValue):encGValueValueL l=qf encGValueValue l:=by
 induction l with
 |nil=>rfl
 |cons e l ih=>rw[encGValueValueL,ih]; rfl
abbrev cellsGValueEntry (x:GValueEntry):List AV:=[.int .i64 x.ftag,.ds true (qf encGValueValue x.fl) (qb x.fl) false]
theorem xB (x:GValueEntry):encGValueEntry x=cellsGValueEntry x:=by
 cases x; rw[encGValueEntry,X0]; rfl
abbrev encGValueNode (x:GValueNode):List AV:=[.ds true (qf encGValueEntry x.fentries) (qb x.fentries) false,.ds true (qf encGRaw x.frest) (qb x.frest) false]
theorem va2 : ifcV .nil=.nilI:=by rw[ifcV]
theorem va1 {n:Int}:ifcV (.num n)=.ifc 208 (.int .i64 n):=by rw[ifcV]
theorem va0 {s:List UInt8}:ifcV (.str s)=.ifc 209 (.str s):=by rw[ifcV]
theorem Xb {es:List GValueEntry}{rs:List GRaw}:ifcV (.node es rs)=.ifc 114 (.dp [.ds true (qf encGValueEntry es) (qb es) false,.ds true (qf encGRaw rs) (qb rs) false] 0):=by
 rw[ifcV,X1]
mutual
theorem YA (s:Bool):∀ x:GValueValue,(ifcV x).canon s=true
 |.nil=>by simp only[ifcV,AV.canon]
 |.num n=>by simp only[ifcV,AV.canon]
 |.str n=>by simp only[ifcV,AV.canon]
 |.node es rs=>by simp only[ifcV,AV.canon,canonL,YC s es,canon_all,qX,qC,qO]
theorem Zy (s:Bool):∀ x:GValueEntry,canonL s (encGValueEntry x)=true
 |.mk t ts=>by simp only[encGValueEntry,canonL,AV.canon,YB s ts,qX,qC,qO]
theorem YC (s:Bool):∀ l:List GValueEntry,canonL s (encGValueEntryL l)=true
 |[]=>rfl
 |e::l=>by rw[encGValueEntryL,canonL_append,Zy s e,YC s l]; rfl
theorem YB (s:Bool):∀ l:List GValueValue,canonL s (encGValueValueL l)=true
 |[]=>rfl
 |e::l=>by rw[encGValueValueL,canonL,YA s e,YB s l]; rfl
end
theorem Zk (x:GValueValue):(ifcV x).one=true:=by cases x<;>simp only[ifcV,AV.one]
instance : X7 ifcV := ⟨YA⟩
theorem tell_ifcV {σ:Store}{keep:List Nat}{ls:Bool}{f:Nat}{x:GValueValue}:tell σ keep ls f (ifcV x)=ifcV x:=Yf _ _ _ _ _ (YA ls x)
instance : wg encGValueValue := ⟨fun s x => by simp only [encGValueValue, canonL, YA, qX]⟩
instance : wg encGValueEntry := ⟨Zy⟩
instance : wg cellsGValueEntry := ⟨fun s x => by rw [← xB]; exact Zy s x⟩
theorem Xg (s:Bool)(x:GValueNode):canonL s (encGValueNode x)=true:=by simp only[encGValueNode,canonL,AV.canon,canon_all,qX,qC,qO]
instance : wg encGValueNode := ⟨Xg⟩
instance : vbR encGValueValue := ⟨fun x => by simp only [encGValueValue, q5, Zk, ud, qX]⟩
instance : vbR encGValueEntry := ⟨fun x => by rw [xB]; rfl⟩
instance : vbR encGValueNode := ⟨fun x => rfl⟩
instance : vbS encGValueValue 1 := ⟨fun x => rfl⟩
instance : vbS encGValueEntry 2 := ⟨fun x => by rw [xB]; rfl⟩
instance : vbS encGValueNode 2 := ⟨fun x => rfl⟩
def anyV : GValueValue→AV
 |.nil=>.nilI
 |.num n=>.ifc 3 (.int .i64 n)
 |.str s=>.ifc 9 (.str s)
 |.node es rs=>ifcV (.node es rs)
theorem anyV_nil : anyV .nil=.nilI:=rfl
theorem anyV_num {n:Int}:anyV (.num n)=.ifc 3 (.int .i64 n):=rfl
theorem anyV_str {s:List UInt8}:anyV (.str s)=.ifc 9 (.str s):=rfl
theorem anyV_node {es:List GValueEntry}{rs:List GRaw}:anyV (.node es rs)=.ifc 114 (.dp [.ds true (qf encGValueEntry es) (qb es) false,.ds true (qf encGRaw rs) (qb rs) false] 0):=Xb
theorem canonAnyV (s:Bool)(x:GValueValue):(anyV x).canon s=true:=by
 cases x with
 |nil=>rfl
 |num n=>rfl
 |str t=>rfl
 |node es rs=>exact YA s (.node es rs)
instance : X7 anyV := ⟨canonAnyV⟩
structure GType where
 fKind:Int
 fName:List UInt8
 deriving DecidableEq
def encGType (x:GType):List AV:=[.int .i64 x.fKind,.str x.fName]
instance : wg encGType := ⟨fun _ _ => rfl⟩
instance : vbR encGType := ⟨fun _ => rfl⟩
instance : vbS encGType 2 := ⟨fun _ => rfl⟩
structure GField where
 fName:List UInt8
 fTag:Int
 fLabel:Int
 fType:GType
 deriving DecidableEq
abbrev encGField (x:GField):List AV:=[.str x.fName,.int .i64 x.fTag,.int .i64 x.fLabel,.int .i64 x.fType.fKind,.str x.fType.fName]
instance : wg encGField := ⟨fun _ _ => rfl⟩
instance : vbR encGField := ⟨fun _ => rfl⟩
instance : vbS encGField 5 := ⟨fun _ => rfl⟩
structure GMessage where
 fName:List UInt8
 fFields:List GField
 fReserved:List Int
 deriving DecidableEq
abbrev encGMessage (x:GMessage):List AV:=[.str x.fName,.ds true (qf encGField x.fFields) (qb x.fFields) false,.ds true (qf encI x.fReserved) (qb x.fReserved) false]
instance : wg encGMessage := ⟨fun s x => by simp only [encGMessage, canonL, AV.canon, canon_all, qX, qC, qO]⟩
instance : vbR encGMessage := ⟨fun _ => rfl⟩
instance : vbS encGMessage 3 := ⟨fun _ => rfl⟩
structure GNamed where
 fName:List UInt8
 fN:Int
 deriving DecidableEq
def encGNamed (x:GNamed):List AV:=[.str x.fName,.int .i64 x.fN]
instance : wg encGNamed := ⟨fun _ _ => rfl⟩
instance : vbR encGNamed := ⟨fun _ => rfl⟩
instance : vbS encGNamed 2 := ⟨fun _ => rfl⟩
structure GEnumeration where
 fName:List UInt8
 fValues:List GNamed
 deriving DecidableEq
abbrev encGEnumeration (x:GEnumeration):List AV:=[.str x.fName,.ds true (qf encGNamed x.fValues) (qb x.fValues) false]
instance : wg encGEnumeration := ⟨fun s x => by simp only [encGEnumeration, canonL, AV.canon, canon_all, qX, qC, qO]⟩
instance : vbR encGEnumeration := ⟨fun _ => rfl⟩
instance : vbS encGEnumeration 2 := ⟨fun _ => rfl⟩
structure GMethod where
 fName:List UInt8
 fIn:List UInt8
 fOut:List UInt8
 deriving DecidableEq
def encGMethod (x:GMethod):List AV:=[.str x.fName,.str x.fIn,.str x.fOut]
instance : wg encGMethod := ⟨fun _ _ => rfl⟩
instance : vbR encGMethod := ⟨fun _ => rfl⟩
instance : vbS encGMethod 3 := ⟨fun _ => rfl⟩
structure GSchema where
 fName:List UInt8
 fMessages:List GMessage
 fEnums:List GEnumeration
 fMethods:List GMethod
 deriving DecidableEq
abbrev encGSchema (x:GSchema):List AV:=[.str x.fName,.ds true (qf encGMessage x.fMessages) (qb x.fMessages) false,.ds true (qf encGEnumeration x.fEnums) (qb x.fEnums) false,.ds true (qf encGMethod x.fMethods) (qb x.fMethods) false]
instance : wg encGSchema := ⟨fun s x => by simp only [encGSchema, canonL, AV.canon, canon_all, qX, qC, qO]⟩
instance : vbR encGSchema := ⟨fun _ => rfl⟩
instance : vbS encGSchema 4 := ⟨fun _ => rfl⟩
structure GPacket where
 fKind:Int
 fFrom:Int
 fTo:Int
 fID:Int
 fVersion:Int
 fMethod:List UInt8
 fErr:Int
 fBody:List UInt8
 deriving DecidableEq
abbrev encGPacket (x:GPacket):List AV:=[.int .i64 x.fKind,.int .i64 x.fFrom,.int .i64 x.fTo,.int .i64 x.fID,.int .i64 x.fVersion,.str x.fMethod,.int .i64 x.fErr,.str x.fBody]
instance : wg encGPacket := ⟨fun _ _ => rfl⟩
instance : vbR encGPacket := ⟨fun _ => rfl⟩
instance : vbS encGPacket 8 := ⟨fun _ => rfl⟩
structure GCompatPair where
 fold:List UInt8
 fnew:List UInt8
 deriving DecidableEq
def encGCompatPair (x:GCompatPair):List AV:=[.str x.fold,.str x.fnew]
instance : wg encGCompatPair := ⟨fun _ _ => rfl⟩
instance : vbR encGCompatPair := ⟨fun _ => rfl⟩
instance : vbS encGCompatPair 2 := ⟨fun _ => rfl⟩
theorem E22 : Enc tab 22 49 3 encGMessage:=⟨⟨_,rfl,rfl⟩,⟨_,rfl,rfl⟩,by decide,fun _=>rfl⟩
theorem E23 : Enc tab 23 84 2 encGEnumeration:=⟨⟨_,rfl,rfl⟩,⟨_,rfl,rfl⟩,by decide,fun _=>rfl⟩
theorem E24 : Enc tab 24 75 3 encGMethod:=⟨⟨_,rfl,rfl⟩,⟨_,rfl,rfl⟩,by decide,fun _=>rfl⟩
theorem E27 : Enc tab 27 92 2 encGEntry:=⟨⟨_,rfl,rfl⟩,⟨_,rfl,rfl⟩,by decide,fun x=>by rw[yy]; rfl⟩
theorem E28 : Enc tab 28 62 4 encGRaw:=⟨⟨_,rfl,rfl⟩,⟨_,rfl,rfl⟩,by decide,fun _=>rfl⟩
theorem E34 : Enc tab 34 5 1 encB:=⟨⟨_,rfl,rfl⟩,⟨_,rfl,rfl⟩,by decide,fun _=>rfl⟩
theorem E45 : Enc tab 45 3 1 encI:=⟨⟨_,rfl,rfl⟩,⟨_,rfl,rfl⟩,by decide,fun _=>rfl⟩
theorem E47 : Enc tab 47 57 5 encGField:=⟨⟨_,rfl,rfl⟩,⟨_,rfl,rfl⟩,by decide,fun _=>rfl⟩
theorem E82 : Enc tab 82 86 2 encGNamed:=⟨⟨_,rfl,rfl⟩,⟨_,rfl,rfl⟩,by decide,fun _=>rfl⟩
theorem E90 : Enc tab 90 30 5 encGTree:=⟨⟨_,rfl,rfl⟩,⟨_,rfl,rfl⟩,by decide,fun x=>by rw[zO]; rfl⟩
theorem E98 : Enc tab 98 9 1 encS:=⟨⟨_,rfl,rfl⟩,⟨_,rfl,rfl⟩,by decide,fun _=>rfl⟩
theorem E130 : Enc tab 130 21 1 (vas .i32):=⟨⟨_,rfl,rfl⟩,⟨_,rfl,rfl⟩,by decide,fun _=>rfl⟩
theorem E156 : Enc tab 156 110 1 encGValueValue:=⟨⟨_,rfl,rfl⟩,⟨_,rfl,rfl⟩,by decide,fun _=>rfl⟩
theorem E190 : Enc tab 190 194 2 encGValueEntry:=⟨⟨_,rfl,rfl⟩,⟨_,rfl,rfl⟩,by decide,fun x=>by rw[xB]; rfl⟩
attribute [push_cast] osE1 osE2 tell_u tell_bool YH Xj tell_nilp tell_nilm tell_nilI tell_nilF tell_agg tell_tup tell_ifc YI tell_dp tell_op wZ tell_mp wP wS vbd Yg ZF tellO_map tellO_iter tellO_dead encM_tell Yi Yh zE TLS AV.canon canonL canon_all qX qL uK qR Bool.false_and qO qU uL u3 qC qK if_true qD qt qG qx qH decide_true decide_false and_self tell_ifcV anyV_nil anyV_num anyV_str anyV_node va2 va1 va0 Xb YA canonAnyV Xg encGRaw encGValueValue encGValueNode encGType encGField encGMessage encGNamed encGEnumeration encGMethod encGSchema encGPacket encGCompatPair cellsGTree cellsGEntry cellsGValueEntry zO yy xB
section
variable {k:Nat} {F:Fr} {σ τ:Store} {L:List (Nat×AV)} {P:Program} {f:FuncId} {args:List AV} {x:AV}
theorem AM.TellS.t (keep:List Nat)(ls:Bool)(h1:keep.Nodup:=by decide)(h2:∀ id∈keep,id<σ.length:=by simp)(h3:keep.take k=uy k:=by first|rfl|simp)(h4:tellS σ keep ls 12=τ:=by first|rfl|(simp only[← qI,← qi]; simp only[go_sem,qc,qe,qa,qd,ql,qm,reduceIte,reduceCtorEq,push_cast]; done)|(simp only[go_sem,qc,qe,qa,qd,ql,qm,reduceIte,reduceCtorEq,push_cast,encB,encI,encS,encBo,vas,yU,qI,qM,q3,qw,qz,qi,qk,qn,qt,qp,qA,uN]<;>first|rfl|(and_intros<;>rfl)))(h5:TLS σ keep ls F L:=by first|rfl|(simp only[← qI,← qi]; simp only[go_sem,qc,qe,qa,qd,ql,qm,reduceIte,reduceCtorEq,push_cast]; done)|(simp only[go_sem,qc,qe,qa,qd,ql,qm,reduceIte,reduceCtorEq,push_cast,encB,encI,encS,encBo,vas,yU,qI,qM,q3,qw,qz,qi,qk,qn,qt,qp,qA,uN]<;>first|rfl|(and_intros<;>rfl))):TellS k F σ L τ:=.told keep ls h1 h2 h3 h4 h5
theorem AM.TellS.s (h:Fits F L:=by first|(and_intros<;>first|rfl|trivial)|simp only[go_sem,qc,qe,qa,qd,ql,qm,reduceIte,reduceCtorEq,Fits,push_cast,yU,qI,qM,q3,qw,qz,qi,qk,qn,qt,qp,qA,uN])(e:σ=τ:=by first|rfl|(simp only[go_sem,qc,qe,qa,qd,ql,qm,reduceIte,reduceCtorEq,push_cast,encB,encI,encS,vas,yU,qI,qM,q3,qw,qz,qi,qk,qn,qt,qp,qA,uN]<;>rfl)):TellS k F σ L τ:=.same h e
theorem AM.TellS.p {p q:Prop}(hp:p=q)(h:p=q→Fits F L:=by intro hp; simp only[go_sem,qc,qe,qa,qd,ql,qm,reduceIte,reduceCtorEq,Fits,hp,decide_true,decide_false,uK,Bool.false_and,u3,uL,qK,qC,and_self]<;>rfl)(e:σ=τ:=by rfl):TellS k F σ L τ:=.same (h hp) e
theorem AM.TellS.b {a b:Bool}(hp:a=b)(h:a=b→Fits F L:=by intro hp; simp only[go_sem,qc,qe,qa,qd,ql,qm,reduceIte,reduceCtorEq,Fits,hp,decide_true,decide_false,uK,Bool.false_and,u3,uL,qK,qC,and_self]<;>rfl)(e:σ=τ:=by rfl):TellS k F σ L τ:=.same (h hp) e
theorem AM.ACalls.c (h:ACalls P f args [] fun r _=>r=x)(σ:Store)(ha:canonL false args=true:=by simp only[push_cast])(hx:x.canon false=true:=by simp only[push_cast]):ACalls P f args σ fun r σ'=>r=x∧σ'=σ:=h.pureAt ha hx σ
theorem AM.ACalls.ld (h:ACalls P f args [] fun r _=>r=x){args':List AV}(hx:x.flat=true:=by rfl)(ha:args'.map (tell σ [] true 12)=args:=by first|(simp only[go_sem,qc,qe,qa,qd,ql,qm,reduceIte,reduceCtorEq,push_cast,qz,qw,uO,uG]; done)|(simp only[← qI,← qi]; simp only[go_sem,qc,qe,qa,qd,ql,qm,reduceIte,reduceCtorEq,push_cast,qz,qw,uO,uG]; done)|(simp only[go_sem,qc,qe,qa,qd,ql,qm,reduceIte,reduceCtorEq,push_cast,encB,encI,encS,encBo,vas,yU,qI,qM,q3,qw,qz,qi,qk,qn,qt,qp,qA,uN,uO,uG]<;>first|rfl|(and_intros<;>rfl))):ACalls P f args' σ fun r σ'=>r=x∧σ'=σ:=h.lend hx true 12 ha
theorem AM.ACalls.i {σs τs:Store}(h:ACalls P f args σs fun r' σ'=>r'=x∧σ'=τs)(ids:List Nat){args':List AV}(hn:ids.Nodup:=by decide)(hlt:∀ id∈ids,id<σ.length:=by simp)(hobj:ids.map (fun id=>σ[id]?)=σs.map some:=by rfl)(hs:σs.all Xy=true:=by simp only[q5,ud,canonO_map,vaF,push_cast])(ht:τs.all Xy=true:=by simp only[q5,ud,canonO_map,vaF,push_cast])(hl:ids.length=τs.length:=by rfl)(hx:x.canon true=true:=by simp only[push_cast])(ha:renL (vbN ids σ.length) args=args':=by first|rfl|(simp only[renL,AV.ren,renL_E,renL_all,vbN]; rfl)):ACalls P f args' σ fun r' σ'=>r'=x∧σ'=putI ids τs σ:=h.io ids hn hlt hobj hs ht hl hx ha
end
section
variable {n k:Nat} {Q:Exit→Fr→Store→Prop} {F F':Fr} {σ σ':Store} {L:List (Nat×AV)} {l l':List Oper} {y:Code}
theorem rgN (m:List Nat){id:Nat}(h:awp qh n k y Q (fs L) σ')(e:∀ K:List (Nat×AV)→Store→Prop,Run (vaq tab n l.toArray l F σ) (fun l' F' τ=>l'=[]∧K (vak F' m) τ)=K L σ':=by intro K; simp only[go_sem,qc,qe,qa,qd,ql,qm,reduceIte,reduceCtorEq]; exact rfl):awp qh n k (.seq (.region id l.toArray false) y) Q F σ:=rg tok m fun K hK=>by rw[e K]; exact hK _ _ h
theorem rnN (N:Nat){ops:Array Oper}(h:wL qh n k ops l' Q F' σ')(e:∀ K:List Oper→Fr→Store→Prop,Run (vaq tab n ops (l.take N) F σ) (fun a F' τ=>a=[]∧K (l.drop N) F' τ)=K l' F' σ':=by intro K; simp only[go_sem,qc,qe,qa,qd,ql,qm,reduceIte,reduceCtorEq]; exact rfl):wL qh n k ops l Q F σ:=zj tok N (by
 have:=e (fun a F' τ=>wL qh n k ops a Q F' τ)
 rw[this]; exact h)
theorem nkN {K A:List (Nat×AV)→Store→Prop}{g:Fr→List (Nat×AV)}{ops:Array Oper}(hK:∀ L σ,A L σ→K L σ)(h:A L σ)(e:g F=L:=by first|(simp only[Yd,upd,qa,reduceIte,yV,xz,Yp,Xa]; exact rfl)|exact rfl):wL qh n k ops [] (Xo (fun F σ=>K (g F) σ) Q) F σ:=zb (by subst e; exact hK _ _ h)
theorem clN {ops:Array Oper}{o:Oper}{f:FuncId}{args:List AV}{x:AV}{τ:Store}(hg:wX ops F o=some true)(hc:callee F o=some (f,args))(hd:dstOk n o.dst=true)(hf:ACalls qh f args σ fun r s=>r=x∧s=τ)(h:wL qh n k ops l Q (Yd F o.dst x) τ):wL qh n k ops (o::l) Q F σ:=ww hg hc hd hf (by rintro _ _ ⟨rfl,rfl⟩; exact h)
theorem rtA (h:Q .ret F σ:=by simp only[Zv,yP,yZ,xJ,exists_eq_left',go_sem,qc,qe,qa,qd,ql,qm,reduceIte,reduceCtorEq,push_cast]<;>first|rfl|(and_intros<;>rfl)):awp qh n k .ret Q F σ:=yw h
end
end
section
open Go.Shelf Go.RowKit
def utf8Ren : Go.Shelf.Ren:=⟨fun|197=>157|260=>160|n=>n,fun|0=>0|3=>3|4=>4|5=>5|9=>9|21=>21|46=>184|105=>213|119=>218|138=>220|139=>221|n=>n,fun|3=>0|4=>1|n=>n⟩
theorem XI : Lays.n197 qh utf8Ren where
 mixed:=by kernel_rfl
 f197:=Tryz.func157.trans (congrArg some (by kernel_rfl))
 f260:=Tryz.func160.trans (congrArg some (by kernel_rfl))
 t0:=Tryz.underlying0
 a0:=Tryz.isAgg0
 z0:=Tryz.sizeOf0
 v0:=Tryz.zeroValue0
 t3:=Tryz.underlying3
 a3:=Tryz.isAgg3
 z3:=Tryz.sizeOf3
 v3:=Tryz.zeroValue3
 t4:=Tryz.underlying4
 a4:=Tryz.isAgg4
 z4:=Tryz.sizeOf4
 v4:=Tryz.zeroValue4
 t5:=Tryz.underlying5
 a5:=Tryz.isAgg5
 z5:=Tryz.sizeOf5
 v5:=Tryz.zeroValue5
 t9:=Tryz.underlying9
 a9:=Tryz.isAgg9
 z9:=Tryz.sizeOf9
 v9:=Tryz.zeroValue9
 t21:=Tryz.underlying21
 a21:=Tryz.isAgg21
 z21:=Tryz.sizeOf21
 v21:=Tryz.zeroValue21
 t46:=Tryz.underlying184
 a46:=Tryz.isAgg184
 z46:=Tryz.sizeOf184
 v46:=Tryz.zeroValue184
 t105:=Tryz.underlying213
 a105:=Tryz.isAgg213
 z105:=Tryz.sizeOf213
 v105:=Tryz.zeroValue213
 t119:=Tryz.underlying218
 a119:=Tryz.isAgg218
 z119:=Tryz.sizeOf218
 t138:=Tryz.underlying220
 a138:=Tryz.isAgg220
 z138:=Tryz.sizeOf220
 v138:=Tryz.zeroValue220
 t139:=Tryz.underlying221
 a139:=Tryz.isAgg221
 z139:=Tryz.sizeOf221
 v139:=Tryz.zeroValue221
 g3:=by kernel_rfl
 g4:=by kernel_rfl
namespace AM
def dec0 (s:List UInt8):Nat×Nat:=if s=[] then (65533,0) else Ye s 0
theorem dec0_eq (s:List UInt8):Lib.decodeGo ⟨s.toArray⟩=dec0 s:=by
 unfold Lib.decodeGo dec0 Ye
 by_cases h:s=[]
 · subst h; rfl
 rw[if_neg h,if_neg]
 intro h0
 exact h (uZ (by simpa [ByteArray.size] using h0))
theorem decode_ev (s:List UInt8)(σ:Store):ACalls qh 157 [.str s] σ (fun r σ'=>r=.tup [.int .i32 ((dec0 s).1:Int),.int .i64 ((dec0 s).2:Int)]∧σ'=σ):=by
 refine⟨Tryz.call157,fun E vs hS hl=>?_⟩
 obtain⟨v,e⟩:∃ v,vs = #[v]:=by
  have h1:vs.toList.length=1:=hl.1
  obtain⟨l⟩:=vs
  match l,h1 with
  |[v],_=>exact⟨v,rfl⟩
 subst e
 have h2:VR E (.str s) v:=hl.2 0 (by simp)
 cases h2 with|str _ b hb=>
 subst hb
 refine (Any.utf8_DecodeRuneInString XI b E.w hS.glb.utf8).mono ?_
 rintro e w' ⟨rfl,hb⟩
 obtain⟨hS',hx⟩:=hS.grew (w':=w') ⟨hb.os,hb.tape,hb.output,hb.size,hb.block⟩
 refine⟨_,.tup [.int .i32 ((dec0 b.data.toList).1:Int),.int .i64 ((dec0 b.data.toList).2:Int)],σ,{ E with w:=w' },rfl,rfl,?_,hS',hx,rfl,rfl⟩
 rw[← dec0_eq]
 refine .tup _ _ rfl fun i hi=>?_
 match i,hi with
 |0,_=>exact .int _ _
 |1,_=>exact .int _ _
def Zj (a0:List UInt8):Int×Int:=(((dec0 a0).1:Int),((dec0 a0).2:Int))
theorem Zj.ev (a0:List UInt8)(r:Int×Int)(h:Zj a0=r)(σ:Store):ACalls qh 157 [.str a0] σ (fun r' σ'=>r'=.tup [.int .i32 r.1,.int .i64 r.2]∧σ'=σ):=by subst h; exact decode_ev a0 σ
end AM
end
section
set_option maxRecDepth 4000
set_option maxHeartbeats 1000000
open AM
def xW (a0:List UInt8)(a1:Int):Option (Int×Int×Bool):=
 (if ((decide (a1<0))||(decide ((qb a0:Int)≤a1)))=true then some (0,0,false) else (grd ((0:Int)≤a1∧a1≤(qb a0:Int)∧(qb a0:Int)≤(qb a0:Int))).bind fun _u5=>bnd (Zj (Yx a0 a1 (qb a0:Int))) fun r7=>(if ((decide (r7.1=65533))&&(decide (r7.2<2)))=true then some (0,0,false) else some (r7.1,r7.2,true)))
theorem xW.ok (a0:List UInt8)(a1:Int)(r:Int×Int×Bool)(h:xW a0 a1=some r):ACalls qh 143 [.str a0,.int .i64 a1] [] (fun r' _=>r'=.tup [.int .i32 r.1,.int .i64 r.2.1,.bool r.2.2]):=by
 refine zi (rs:=[.tmp 4,.tmp 5,.tmp 6]) tok Tryz.func143 rfl Tryz.ntmps143 rfl Tryz.call143 (by simp) ?_;refine zm [(0,.str a0),(1,.int .i64 a1)] ⟨rfl,rfl,trivial⟩ ?_;unfold xW at h;refine rgN [0,1] ?_
 refine za fun Z1 hZ1=>?_
 refine rc [0,1,16] fun K hK=>?_
 refine rnN 3 ?_;refine zh 5 (fun L τ=>L=[(0,.str a0),(1,.int .i64 a1),(16,.bool ((decide (a1<0))||(decide ((qb a0:Int)≤a1))))]∧τ=[]) ?_ ?_
 · refine yx 11 rfl (fun hg11=>?_) (fun hg11=>?_)
   · have t2:=eq_true hg11;refine rnN 5 ?_;refine zb ⟨rfl,_,_,⟨rfl,rfl⟩,.p t2⟩
   have t3:=eq_false hg11;refine rnN 5 ?_;refine zb ⟨rfl,_,_,⟨rfl,rfl⟩,.p t3⟩
 rintro _ _ ⟨rfl,rfl⟩;refine nkN hK ?_;refine zn (b:=((decide (a1<0))||(decide ((qb a0:Int)≤a1)))) rfl (fun hc4=>?_) (fun hc4=>?_)
 · rw[if_pos hc4] at h;refine rgN [4,5,6] ?_;cases h;exact rtA
 rw[xD hc4] at h;apply zd;apply hZ1
 refine rc [7,8] fun K hK=>?_
 obtain⟨_u5,hu5,h⟩:=bind_some h;have gu5:=wB hu5;have f6:=str_lo (T:=tab) (t:=9) rfl rfl gu5;obtain⟨r7,hr7,h⟩:=zR h;refine zj tok 3 ?_;simp only[go_sem,qc,qa,reduceCtorEq,f6];refine clN rfl rfl rfl (Zj.ev (Yx a0 a1 (qb a0:Int)) r7 hr7 _) ?_;refine rnN 5 ?_;refine nkN hK ?_
 refine za fun Z8 hZ8=>?_
 refine rc [7,8,29] fun K hK=>?_
 refine rnN 3 ?_;refine zh 3 (fun L τ=>L=[(7,.int .i32 r7.1),(8,.int .i64 r7.2),(29,.bool ((decide (r7.1=65533))&&(decide (r7.2<2))))]∧τ=[]) ?_ ?_
 · refine yx 26 rfl (fun hg26=>?_) (fun hg26=>?_)
   · have t9:=eq_true hg26;refine rnN 3 ?_;refine zb ⟨rfl,_,_,⟨rfl,rfl⟩,.p t9⟩
   have t10:=eq_false hg26;refine rnN 3 ?_;refine zb ⟨rfl,_,_,⟨rfl,rfl⟩,.p t10⟩
 rintro _ _ ⟨rfl,rfl⟩;refine nkN hK ?_;refine zn (b:=((decide (r7.1=65533))&&(decide (r7.2<2)))) rfl (fun hc11=>?_) (fun hc11=>?_)
 · rw[if_pos hc11] at h;refine rgN [4,5,6] ?_;cases h;exact rtA
 rw[xD hc11] at h;apply zd;apply hZ8;refine rgN [4,5,6] ?_;cases h;exact rtA
theorem xW.ev (a0:List UInt8)(a1:Int)(r:Int×Int×Bool)(h:xW a0 a1=some r)(σ:Store):ACalls qh 143 [.str a0,.int .i64 a1] σ (fun r' σ'=>r'=.tup [.int .i32 r.1,.int .i64 r.2.1,.bool r.2.2]∧σ'=σ):=
 (xW.ok a0 a1 r h).c σ
def yn.l4 (a0:List UInt8):Nat→Nat→Option Bool
 |0,_=>none
 |k4+1,p2=>(if p2<qb a0 then (if ((Ye a0 p2).1:Int)=65533 then (xW a0 ((p2:Nat):Int)).bind fun r12=>(if (!r12.2.2)=true then some false else ((yn.l4 a0 k4) (p2+(Ye a0 p2).2))) else ((yn.l4 a0 k4) (p2+(Ye a0 p2).2))) else some true)
def yn (a0:List UInt8):Option Bool:=
 (yn.l4 a0 rounds 0)
theorem yn.ok (a0:List UInt8)(r:Bool)(h:yn a0=some r):ACalls qh 110 [.str a0] [] (fun r' _=>r'=.bool r):=by
 refine zi (rs:=[.tmp 2]) tok Tryz.func110 rfl Tryz.ntmps110 rfl Tryz.call110 (by simp) ?_;refine zm [(0,.str a0)] ⟨rfl,trivial⟩ ?_;unfold yn at h;refine rgN [0] ?_
 refine za fun Z1 hZ1=>?_
 refine rgN [0,9] ?_;apply ze;refine zC (fun m L τ=>∃ (k4:Nat) (p2:Nat),m=0+k4∧L=[(0,.str a0),(9,.it 0)]∧τ=[.iter a0 p2]∧yn.l4 a0 k4 p2=some r) _ ⟨rounds,0,rfl,rfl,rfl,h⟩ .s ?_;rintro m L τ ⟨k4,p2,rfl,rfl,rfl,h⟩
 rcases k4 with _|k4
 · cases h
 simp only[yn.l4] at h
 by_cases hn5:p2<qb a0
 · rw[if_pos hn5] at h;have t6:=eq_true hn5
   refine rg tok [0,9,10,11] fun K hK=>?_
   simp only[go_sem,qc,qa,qd,reduceCtorEq,XV,if_true,if_false,t6];apply hK
   refine za fun Z7 hZ7=>?_
   refine zz rfl ?_;apply zd;apply hZ7;apply ze;refine rgN [0,3,4,9] ?_
   refine za fun Z8 hZ8=>?_
   refine rgN [0,3,9,15] ?_;refine zD rfl (fun hc9=>?_) (fun hc9=>?_)
   · rw[if_neg hc9] at h;have t10:=eq_false hc9;apply zJ;exact⟨_,_,_,qy (0+k4),⟨k4,p2+(Ye a0 p2).2,rfl,rfl,rfl,h⟩,.s⟩
   rw[if_pos hc9] at h;have t11:=eq_true hc9;apply zd;apply hZ8
   refine rc [0,7,9] fun K hK=>?_
   obtain⟨r12,hr12,h⟩:=bind_some h;refine zj tok 2 ?_;simp only[go_sem,qc,qa,reduceCtorEq,t11];refine clN rfl rfl rfl (xW.ev a0 ((p2:Nat):Int) r12 hr12 _) ?_;refine rnN 7 ?_;refine nkN hK ?_;refine rgN [0,9,24] ?_;refine zn (b:=(!r12.2.2)) rfl (fun hc13=>?_) (fun hc13=>?_)
   · rw[if_pos hc13] at h;refine rgN [2] ?_;cases h;exact rtA
   rw[xD hc13] at h;apply zd;exact⟨_,_,_,qy (0+k4),⟨k4,p2+(Ye a0 p2).2,rfl,rfl,rfl,h⟩,.s⟩
 rw[if_neg hn5] at h;have t14:=eq_false hn5
 refine rg tok [0,9,10,11] fun K hK=>?_
 simp only[go_sem,qc,qa,reduceCtorEq,XV,if_true,if_false,t14];apply hK
 refine za fun Z15 hZ15=>?_
 refine zw rfl ?_;apply zJ;apply hZ1;refine rgN [2] ?_;cases h;exact rtA
theorem yn.ev (a0:List UInt8)(r:Bool)(h:yn a0=some r)(σ:Store):ACalls qh 110 [.str a0] σ (fun r' σ'=>r'=.bool r∧σ'=σ):=
 (yn.ok a0 r h).c σ
def zx.l4 (a1:List UInt8):List GMessage→Int→GMessage×Bool
 |[],x2=>((⟨[],([]:List GField),([]:List Int)⟩:GMessage),false)
 |y4::q4,x2=>(if y4.fName=a1 then (y4,true) else ((zx.l4 a1 q4) (x2+1)))
def zx (a0:GSchema)(a1:List UInt8):GMessage×Bool:=
 (zx.l4 a1 a0.fMessages 0)
theorem zx.ok (a0:GSchema)(a1:List UInt8)(r:GMessage×Bool)(h:zx a0 a1=r):ACalls qh 40 [.agg (encGSchema a0),.str a1] [] (fun r' _=>r'=.tup [.agg (encGMessage r.1),.bool r.2]):=by
 refine zi (rs:=[.cell 4 49,.tmp 5]) tok Tryz.func40 rfl Tryz.ntmps40 rfl Tryz.call40 (by simp) ?_;refine zm [(0,.agg (encGSchema a0)),(1,.str a1)] ⟨rfl,rfl,trivial⟩ ?_;unfold zx at h
 refine rg tok [1,2,4] fun K hK=>?_
 simp only[go_sem,qc,qa,qd,reduceCtorEq,encGSchema];apply hK
 refine za fun Z1 hZ1=>?_
 refine rgN [1,4,9,10,11] ?_;apply ze
 refine xb 9 fun hb4=>?_
 replace hb4:qb a0.fMessages≤9223372036854775807:=hb4.1;refine zC (fun m L τ=>∃ (p4 q4:List GMessage) (x2:Int),m=qb q4∧L=[(1,.str a1),(4,.op 0 0 0),(9,.ds true (qf encGMessage a0.fMessages) (qb a0.fMessages) false),(10,.int .i64 (qb a0.fMessages:Int)),(11,.int .i64 x2)]∧τ=[.cells 0 [.str [],.ds true [] 0 true,.ds true [] 0 true]]∧a0.fMessages=p4++q4∧x2=(qb p4:Int)∧zx.l4 a1 q4 x2=r) _ ⟨[],a0.fMessages,0,rfl,rfl,rfl,rfl,rfl,h⟩ (.t [1] false) ?_;rintro m L τ ⟨p4,q4,x2,rfl,rfl,rfl,hE4,hi4,h⟩
 rcases q4 with _|⟨y4,q4⟩
 · have hz4:=yz hE4 hi4;simp only[zx.l4] at h
   refine rg tok [1,4,9,10,11,12] fun K hK=>?_
   simp only[go_sem,qc,qa,hz4];apply hK
   refine za fun Z5 hZ5=>?_
   refine zw rfl ?_;apply zJ;apply hZ1;refine rgN [4,5] ?_;cases h;exact rtA
 obtain⟨hz4,hw4,hx4,hE'4,hi'4⟩:=yd hE4 hi4 hb4;simp only[zx.l4] at h
 refine rg tok [1,4,9,10,11,12] fun K hK=>?_
 simp only[go_sem,qc,qa,hz4];apply hK
 refine za fun Z6 hZ6=>?_
 refine zz rfl ?_;apply zd;apply hZ6
 refine za fun Z7 hZ7=>?_
 apply ze;have f8:=E22.idxS hx4;have f9:=E22.loadS rfl rfl hx4
 refine rg tok [1,4,7,9,10,11] fun K hK=>?_
 simp only[go_sem,qc,qe,qa,qd,encGMessage,f8,f9];apply hK
 refine rgN [1,4,7,9,10,11,18] ?_;refine zD rfl (fun hc10=>?_) (fun hc10=>?_)
 · rw[if_pos hc10] at h;have t11:=eq_true hc10
   refine rg tok [4,5] fun K hK=>?_
   simp only[go_sem,qc,qe,qa,qd,t11];apply hK
   cases h;exact rtA
 rw[if_neg hc10] at h;have t12:=eq_false hc10;apply zd;apply hZ7
 refine rgE tok [1,4,9,10,11] fun K hK=>?_
 simp only[go_sem,qc,qa,hw4,t12];apply hK
 exact⟨_,_,_,qy q4.length,⟨p4++[y4],q4,x2+1,rfl,rfl,rfl,hE'4,hi'4,h⟩,(.t [0] false)⟩
theorem zx.ev (a0:GSchema)(a1:List UInt8)(r:GMessage×Bool)(h:zx a0 a1=r)(σ:Store):ACalls qh 40 [.agg (encGSchema a0),.str a1] σ (fun r' σ'=>r'=.tup [.agg (encGMessage r.1),.bool r.2]∧σ'=σ):=
 (zx.ok a0 a1 r h).c σ
def xm.l12 (a1:Int):List UInt8→Int→Int→Option (Int×Int×Int)
 |[],x9,x8=>some (0,0,2)
 |y12::q12,x9,x8=>(if ((decide (x9=9))&&(decide (1<(y12.toNat:Int))))=true then some (0,0,3) else (grd (0≤IntKind.i64.wrap (7*x9))).bind fun _u23=>(if 128≤(y12.toNat:Int) then ((xm.l12 a1 q12) (x9+1) (IntKind.u64.wrap ((uk (qB 64 x8 ||| qB 64 (IntKind.u64.wrap ((IntKind.u64.wrap (IntKind.u8.wrap ((uk (qB 8 (y12.toNat:Int) &&& ~~~(qB 8 128)):Nat):Int)))*2^(min (qN (IntKind.i64.wrap (7*x9))) 64)))):Nat):Int))) else (if ((decide ((y12.toNat:Int)=0))&&(decide (0<x9)))=true then some (0,0,3) else some (IntKind.u64.wrap ((uk (qB 64 x8 ||| qB 64 (IntKind.u64.wrap ((IntKind.u64.wrap (IntKind.u8.wrap ((uk (qB 8 (y12.toNat:Int) &&& ~~~(qB 8 128)):Nat):Int)))*2^(min (qN (IntKind.i64.wrap (7*x9))) 64)))):Nat):Int),IntKind.i64.wrap ((IntKind.i64.wrap (a1+x9))+1),0))))
def xm (a0:List UInt8)(a1:Int):Option (Int×Int×Int):=
 (if ((decide (a1<0))||(decide ((qb a0:Int)<a1)))=true then some (0,0,1) else (grd ((0:Int)≤a1∧a1≤IntKind.i64.wrap (a1+(if 10<IntKind.i64.wrap ((qb a0:Int)-a1) then 10 else IntKind.i64.wrap ((qb a0:Int)-a1)))∧IntKind.i64.wrap (a1+(if 10<IntKind.i64.wrap ((qb a0:Int)-a1) then 10 else IntKind.i64.wrap ((qb a0:Int)-a1)))≤(qb a0:Int))).bind fun _u6=>(xm.l12 a1 (Yx a0 a1 (IntKind.i64.wrap (a1+(if 10<IntKind.i64.wrap ((qb a0:Int)-a1) then 10 else IntKind.i64.wrap ((qb a0:Int)-a1))))) 0 0))
theorem xm.ok (a0:List UInt8)(a1:Int)(r:Int×Int×Int)(h:xm a0 a1=some r):ACalls qh 141 [.ds true (qf encB a0) (qb a0) false,.int .i64 a1] [] (fun r' _=>r'=.tup [.int .u64 r.1,.int .i64 r.2.1,.int .i64 r.2.2]):=by
 refine zi (rs:=[.tmp 4,.tmp 5,.tmp 6]) tok Tryz.func141 rfl Tryz.ntmps141 rfl Tryz.call141 (by simp) ?_;refine zm [(0,.ds true (qf encB a0) (qb a0) false),(1,.int .i64 a1)] ⟨rfl,rfl,trivial⟩ ?_;unfold xm at h;refine rgN [0,1] ?_
 refine za fun Z1 hZ1=>?_
 refine rc [0,1,17] fun K hK=>?_
 refine rnN 3 ?_;refine zh 5 (fun L τ=>L=[(0,.ds true (qf encB a0) (qb a0) false),(1,.int .i64 a1),(17,.bool ((decide (a1<0))||(decide ((qb a0:Int)<a1))))]∧τ=[]) ?_ ?_
 · refine yx 12 rfl (fun hg12=>?_) (fun hg12=>?_)
   · have t2:=eq_true hg12;refine rnN 5 ?_;refine zb ⟨rfl,_,_,⟨rfl,rfl⟩,.p t2⟩
   have t3:=eq_false hg12;refine rnN 5 ?_;refine zb ⟨rfl,_,_,⟨rfl,rfl⟩,.p t3⟩
 rintro _ _ ⟨rfl,rfl⟩;refine nkN hK ?_;refine zn (b:=((decide (a1<0))||(decide ((qb a0:Int)<a1)))) rfl (fun hc4=>?_) (fun hc4=>?_)
 · rw[if_pos hc4] at h;refine rgN [4,5,6] ?_;cases h;exact rtA
 rw[xD hc4] at h;apply zd;apply hZ1;refine rgN [0,1,7] ?_
 refine za fun Z5 hZ5=>?_
 obtain⟨_u6,hu6,h⟩:=bind_some h;have gu6:=wB hu6;have f7:=E34.sl_lh gu6
 refine rg tok [1,7,27,28,29] fun K hK=>?_
 simp only[go_sem,qc,qa,reduceCtorEq,vbB,foldO,evMin2,f7];apply hK
 apply ze
 refine xb 27 fun hb12=>?_
 replace hb12:qb (Yx a0 a1 (IntKind.i64.wrap (a1+(if 10<IntKind.i64.wrap ((qb a0:Int)-a1) then 10 else IntKind.i64.wrap ((qb a0:Int)-a1)))))≤9223372036854775807:=hb12.1;refine zC (fun m L τ=>∃ (p12 q12:List UInt8) (x9:Int) (x8:Int),m=qb q12∧L=[(1,.int .i64 a1),(7,.int .u64 x8),(27,.ds true (qf encB (Yx a0 a1 (IntKind.i64.wrap (a1+(if 10<IntKind.i64.wrap ((qb a0:Int)-a1) then 10 else IntKind.i64.wrap ((qb a0:Int)-a1)))))) (qb (Yx a0 a1 (IntKind.i64.wrap (a1+(if 10<IntKind.i64.wrap ((qb a0:Int)-a1) then 10 else IntKind.i64.wrap ((qb a0:Int)-a1)))))) false),(28,.int .i64 (qb (Yx a0 a1 (IntKind.i64.wrap (a1+(if 10<IntKind.i64.wrap ((qb a0:Int)-a1) then 10 else IntKind.i64.wrap ((qb a0:Int)-a1))))):Int)),(29,.int .i64 x9)]∧τ=[]∧Yx a0 a1 (IntKind.i64.wrap (a1+(if 10<IntKind.i64.wrap ((qb a0:Int)-a1) then 10 else IntKind.i64.wrap ((qb a0:Int)-a1))))=p12++q12∧x9=(qb p12:Int)∧xm.l12 a1 q12 x9 x8=some r) _ ⟨[],Yx a0 a1 (IntKind.i64.wrap (a1+(if 10<IntKind.i64.wrap ((qb a0:Int)-a1) then 10 else IntKind.i64.wrap ((qb a0:Int)-a1)))),0,0,rfl,rfl,rfl,rfl,rfl,h⟩ .s ?_;rintro m L τ ⟨p12,q12,x9,x8,rfl,rfl,rfl,hE12,hi12,h⟩
 rcases q12 with _|⟨y12,q12⟩
 · have hz12:=yz hE12 hi12;simp only[xm.l12] at h
   refine rg tok [1,7,27,28,29,30] fun K hK=>?_
   simp only[go_sem,qc,qa,hz12];apply hK
   refine za fun Z13 hZ13=>?_
   refine zw rfl ?_;apply zJ;apply hZ5;refine rgN [4,5,6] ?_;cases h;exact rtA
 obtain⟨hz12,hw12,hx12,hE'12,hi'12⟩:=yd hE12 hi12 hb12;simp only[xm.l12] at h
 refine rg tok [1,7,27,28,29,30] fun K hK=>?_
 simp only[go_sem,qc,qa,hz12];apply hK
 refine za fun Z14 hZ14=>?_
 refine zz rfl ?_;apply zd;apply hZ14
 refine za fun Z15 hZ15=>?_
 apply ze;have f16:=E34.idxS hx12;have f17:=E34.fldS0 (f:=5) rfl rfl hx12
 refine rg tok [1,7,8,9,27,28,29] fun K hK=>?_
 simp only[go_sem,qc,qa,encB,f16,f17];apply hK
 refine za fun Z18 hZ18=>?_
 refine rc [1,7,8,9,27,28,29,39] fun K hK=>?_
 refine rnN 3 ?_;refine zh 3 (fun L τ=>L=[(1,.int .i64 a1),(7,.int .u64 x8),(8,.int .i64 x9),(9,.int .u8 (y12.toNat:Int)),(27,.ds true (qf encB (Yx a0 a1 (IntKind.i64.wrap (a1+(if 10<IntKind.i64.wrap ((qb a0:Int)-a1) then 10 else IntKind.i64.wrap ((qb a0:Int)-a1)))))) (qb (Yx a0 a1 (IntKind.i64.wrap (a1+(if 10<IntKind.i64.wrap ((qb a0:Int)-a1) then 10 else IntKind.i64.wrap ((qb a0:Int)-a1)))))) false),(28,.int .i64 (qb (Yx a0 a1 (IntKind.i64.wrap (a1+(if 10<IntKind.i64.wrap ((qb a0:Int)-a1) then 10 else IntKind.i64.wrap ((qb a0:Int)-a1))))):Int)),(29,.int .i64 x9),(39,.bool ((decide (x9=9))&&(decide (1<(y12.toNat:Int)))))]∧τ=[]) ?_ ?_
 · refine yx 36 rfl (fun hg36=>?_) (fun hg36=>?_)
   · have t19:=eq_true hg36;refine rnN 3 ?_;refine zb ⟨rfl,_,_,⟨rfl,rfl⟩,.p t19⟩
   have t20:=eq_false hg36;refine rnN 3 ?_;refine zb ⟨rfl,_,_,⟨rfl,rfl⟩,.p t20⟩
 rintro _ _ ⟨rfl,rfl⟩;refine nkN hK ?_;refine zn (b:=((decide (x9=9))&&(decide (1<(y12.toNat:Int))))) rfl (fun hc21=>?_) (fun hc21=>?_)
 · rw[if_pos hc21] at h;refine rgN [4,5,6] ?_;cases h;exact rtA
 rw[xD hc21] at h;apply zd;apply hZ18;have f22:=xF (T:=tab) (src:=5) (dst:=140) rfl rfl rfl;obtain⟨_u23,hu23,h⟩:=bind_some h;have gu23:=wB hu23;have gu23n:(IntKind.i64.wrap (7*x9)<0)=False:=eq_false (by omega)
 refine rg tok [1,7,8,9,27,28,29] fun K hK=>?_
 simp only[go_sem,qc,qa,f22,gu23n,Z0];apply hK
 refine za fun Z24 hZ24=>?_
 refine rgN [1,7,8,9,27,28,29,49] ?_;refine zD rfl (fun hc25=>?_) (fun hc25=>?_)
 · rw[if_pos hc25] at h;have t26:=eq_true hc25;apply zJ;apply hZ15
   refine rgE tok [1,7,27,28,29] fun K hK=>?_
   simp only[go_sem,qc,qa,hw12,t26];apply hK
   exact⟨_,_,_,qy q12.length,⟨p12++[y12],q12,x9+1,IntKind.u64.wrap ((uk (qB 64 x8 ||| qB 64 (IntKind.u64.wrap ((IntKind.u64.wrap (IntKind.u8.wrap ((uk (qB 8 (y12.toNat:Int) &&& ~~~(qB 8 128)):Nat):Int)))*2^(min (qN (IntKind.i64.wrap (7*x9))) 64)))):Nat):Int),rfl,rfl,rfl,hE'12,hi'12,h⟩,.s⟩
 rw[if_neg hc25] at h;have t27:=eq_false hc25;apply zd;apply hZ24
 refine za fun Z28 hZ28=>?_
 refine rc [1,7,8,55] fun K hK=>?_
 refine zj tok 3 ?_;simp only[go_sem,qc,qa,t27];refine zh 3 (fun L τ=>L=[(1,.int .i64 a1),(7,.int .u64 (IntKind.u64.wrap ((uk (qB 64 x8 ||| qB 64 (IntKind.u64.wrap ((IntKind.u64.wrap (IntKind.u8.wrap ((uk (qB 8 (y12.toNat:Int) &&& ~~~(qB 8 128)):Nat):Int)))*2^(min (qN (IntKind.i64.wrap (7*x9))) 64)))):Nat):Int))),(8,.int .i64 x9),(55,.bool ((decide ((y12.toNat:Int)=0))&&(decide (0<x9))))]∧τ=[]) ?_ ?_
 · refine yx 52 rfl (fun hg52=>?_) (fun hg52=>?_)
   · have t29:=eq_true hg52;refine rnN 3 ?_;refine zb ⟨rfl,_,_,⟨rfl,rfl⟩,.p t29⟩
   have t30:=eq_false hg52;refine rnN 3 ?_;refine zb ⟨rfl,_,_,⟨rfl,rfl⟩,.p t30⟩
 rintro _ _ ⟨rfl,rfl⟩;refine nkN hK ?_;refine zn (b:=((decide ((y12.toNat:Int)=0))&&(decide (0<x9)))) rfl (fun hc31=>?_) (fun hc31=>?_)
 · rw[if_pos hc31] at h;refine rgN [4,5,6] ?_;cases h;exact rtA
 rw[xD hc31] at h;apply zd;apply hZ28;refine rgN [4,5,6] ?_;cases h;exact rtA
theorem xm.ev (a0:List UInt8)(a1:Int)(r:Int×Int×Int)(h:xm a0 a1=some r)(σ:Store):ACalls qh 141 [.ds true (qf encB a0) (qb a0) false,.int .i64 a1] σ (fun r' σ'=>r'=.tup [.int .u64 r.1,.int .i64 r.2.1,.int .i64 r.2.2]∧σ'=σ):=
 (xm.ok a0 a1 r h).c σ
def Zr (a0:Int):Int:=
 IntKind.i64.wrap ((uk (qB 64 (IntKind.i64.wrap (vj a0 (2^(min (qN 1) 64)))) ^^^ qB 64 (IntKind.i64.wrap (0-(IntKind.i64.wrap (IntKind.u64.wrap ((uk (qB 64 a0 &&& qB 64 1):Nat):Int)))))):Nat):Int)
theorem Zr.ok (a0:Int)(r:Int)(h:Zr a0=r):ACalls qh 142 [.int .u64 a0] [] (fun r' _=>r'=.int .i64 r):=by
 refine zi (rs:=[.tmp 2]) tok Tryz.func142 rfl Tryz.ntmps142 rfl Tryz.call142 (by simp) ?_;refine zm [(0,.int .u64 a0)] ⟨rfl,trivial⟩ ?_;unfold Zr at h;refine rgN [0] ?_;have f1:=xF (T:=tab) (src:=140) (dst:=3) rfl rfl rfl;have f2:=xF (T:=tab) (src:=140) (dst:=3) rfl rfl rfl
 refine rg tok [2] fun K hK=>?_
 simp only[go_sem,qc,qa,reduceCtorEq,f1,Z0,Int.reduceLT];apply hK
 cases h;exact rtA
theorem Zr.ev (a0:Int)(r:Int)(h:Zr a0=r)(σ:Store):ACalls qh 142 [.int .u64 a0] σ (fun r' σ'=>r'=.int .i64 r∧σ'=σ):=
 (Zr.ok a0 r h).c σ
def wt (a0:List UInt8)(a1:Int):Option (GRaw×Int×Int):=
 (xm a0 a1).bind fun r1=>(if r1.2.2=0 then (if ((decide (r1.1<2))||(decide (500<IntKind.u64.wrap ((r1.1).tdiv 2))))=true then some ((⟨0,0,0,[]⟩:GRaw),0,7) else (xm a0 r1.2.1).bind fun r11=>(if r11.2.2=0 then (if IntKind.i64.wrap ((r1.1).tmod 2)=0 then bnd (Zr r11.1) fun r18=>some ((⟨IntKind.i64.wrap (IntKind.u64.wrap ((r1.1).tdiv 2)),IntKind.i64.wrap ((r1.1).tmod 2),r18,[]⟩:GRaw),r11.2.1,0) else (if IntKind.u64.wrap (IntKind.i64.wrap ((qb a0:Int)-r11.2.1))<r11.1 then some ((⟨0,0,0,[]⟩:GRaw),0,2) else (grd ((0:Int)≤r11.2.1∧r11.2.1≤IntKind.i64.wrap (r11.2.1+(IntKind.i64.wrap r11.1))∧IntKind.i64.wrap (r11.2.1+(IntKind.i64.wrap r11.1))≤(qb a0:Int))).bind fun _u25=>some ((⟨IntKind.i64.wrap (IntKind.u64.wrap ((r1.1).tdiv 2)),IntKind.i64.wrap ((r1.1).tmod 2),0,Yx a0 r11.2.1 (IntKind.i64.wrap (r11.2.1+(IntKind.i64.wrap r11.1)))⟩:GRaw),IntKind.i64.wrap (r11.2.1+(IntKind.i64.wrap r11.1)),0))) else some ((⟨0,0,0,[]⟩:GRaw),0,r11.2.2))) else some ((⟨0,0,0,[]⟩:GRaw),0,r1.2.2))
theorem wt.ok (a0:List UInt8)(a1:Int)(r:GRaw×Int×Int)(h:wt a0 a1=some r):ACalls qh 108 [.ds true (qf encB a0) (qb a0) false,.int .i64 a1] [] (fun r' _=>r'=.tup [.agg (encGRaw r.1),.int .i64 r.2.1,.int .i64 r.2.2]):=by
 refine zi (rs:=[.cell 4 62,.tmp 5,.tmp 6]) tok Tryz.func108 rfl Tryz.ntmps108 rfl Tryz.call108 (by simp) ?_;refine zm [(0,.ds true (qf encB a0) (qb a0) false),(1,.int .i64 a1)] ⟨rfl,rfl,trivial⟩ ?_;unfold wt at h;refine rgN [0,1,4] ?_
 refine rc [0,1,4,7,8] fun K hK=>?_
 obtain⟨r1,hr1,h⟩:=bind_some h;refine rnN 2 ?_;refine clN rfl rfl rfl (xm.ev a0 a1 r1 hr1 _) ?_;refine rnN 7 ?_;refine nkN hK ?_
 refine za fun Z2 hZ2=>?_
 apply ze;refine rgN [0,1,4,7,8,19] ?_;refine zD rfl (fun hc3=>?_) (fun hc3=>?_)
 · rw[if_neg hc3] at h;have t4:=eq_false hc3
   refine rg tok [4,5,6] fun K hK=>?_
   simp only[go_sem,qc,qe,qa,qd,reduceCtorEq,t4];apply hK
   cases h;exact rtA
 rw[if_pos hc3] at h;have t5:=eq_true hc3
 refine rc [0,1,4,7,24] fun K hK=>?_
 refine zj tok 3 ?_;simp only[go_sem,qc,qa,reduceCtorEq,t5];refine zh 4 (fun L τ=>L=[(0,.ds true (qf encB a0) (qb a0) false),(1,.int .i64 r1.2.1),(4,.op 0 0 0),(7,.int .u64 r1.1),(31,.bool ((decide (r1.1<2))||(decide (500<IntKind.u64.wrap ((r1.1).tdiv 2)))))]∧τ=[.cells 0 [.int .i64 0,.int .i64 0,.int .i64 0,.str []]]) ?_ ?_
 · refine yx 27 rfl (fun hg27=>?_) (fun hg27=>?_)
   · have t6:=eq_true hg27;refine rnN 4 ?_;refine zb ⟨rfl,_,_,⟨rfl,rfl⟩,.p t6⟩
   have t7:=eq_false hg27;refine zj tok 4 ?_;simp only[go_sem,qc,qa,reduceCtorEq,vo];refine zb ⟨rfl,_,_,⟨rfl,rfl⟩,.p t7⟩
 rintro _ _ ⟨rfl,rfl⟩;refine rnN 1 ?_;refine nkN hK ?_;refine zn (b:=((decide (r1.1<2))||(decide (500<IntKind.u64.wrap ((r1.1).tdiv 2))))) rfl (fun hc8=>?_) (fun hc8=>?_)
 · rw[if_pos hc8] at h;refine rgN [4,5,6] ?_;cases h;exact rtA
 rw[xD hc8] at h;apply zd;apply hZ2;have f9:=xF (T:=tab) (src:=140) (dst:=3) rfl rfl rfl;have f10:=xF (T:=tab) (src:=140) (dst:=3) rfl rfl rfl
 refine rg tok [0,1,4,9] fun K hK=>?_
 simp only[go_sem,qc,qe,qa,qd,reduceCtorEq,f9,vo];apply hK
 refine rc [0,1,4,8,9,10] fun K hK=>?_
 obtain⟨r11,hr11,h⟩:=bind_some h;refine rnN 2 ?_;refine clN rfl rfl rfl (xm.ev a0 r1.2.1 r11 hr11 _) ?_;refine rnN 7 ?_;refine nkN hK ?_
 refine za fun Z12 hZ12=>?_
 apply ze;refine rgN [0,1,4,8,9,10,47] ?_;refine zD rfl (fun hc13=>?_) (fun hc13=>?_)
 · rw[if_neg hc13] at h;have t14:=eq_false hc13
   refine rg tok [4,5,6] fun K hK=>?_
   simp only[go_sem,qc,qe,qa,qd,reduceCtorEq,t14];apply hK
   cases h;exact rtA
 rw[if_pos hc13] at h;have t15:=eq_true hc13
 refine rg tok [0,1,4,9,10,52] fun K hK=>?_
 simp only[go_sem,qc,qa,qd,reduceCtorEq,t15];apply hK
 refine zD rfl (fun hc16=>?_) (fun hc16=>?_)
 · rw[if_pos hc16] at h;have t17:=eq_true hc16
   refine rc [1,4,9] fun K hK=>?_
   obtain⟨r18,hr18,h⟩:=zR h;refine zj tok 1 ?_;simp only[go_sem,qc,qa,reduceCtorEq,t17];refine clN rfl rfl rfl (Zr.ev r11.1 r18 hr18 _) ?_;refine zj tok 2 ?_;simp only[go_sem,qc,qe,qa,qd,reduceCtorEq,encGRaw];refine nkN hK ?_;refine rgN [4,5,6] ?_;cases h;exact rtA
 rw[if_neg hc16] at h;have t19:=eq_false hc16;have f20:=xF (T:=tab) (src:=3) (dst:=140) rfl rfl rfl
 refine rg tok [0,1,4,9,10,61] fun K hK=>?_
 simp only[go_sem,qc,qa,reduceCtorEq,t19,f20];apply hK
 refine zD rfl (fun hc21=>?_) (fun hc21=>?_)
 · rw[if_pos hc21] at h;have t22:=eq_true hc21
   refine rg tok [4,5,6] fun K hK=>?_
   simp only[go_sem,qc,qe,qa,qd,reduceCtorEq,t22];apply hK
   cases h;exact rtA
 rw[if_neg hc21] at h;have t23:=eq_false hc21;apply zd;apply hZ12;have f24:=xF (T:=tab) (src:=140) (dst:=3) rfl rfl rfl
 refine rg tok [0,1,4,9,11] fun K hK=>?_
 simp only[go_sem,qc,qa,reduceCtorEq,t23,f24];apply hK
 obtain⟨_u25,hu25,h⟩:=bind_some h;have gu25:=wB hu25;have f26:=E34.sl_lh gu25;have f27:=va4 (T:=tab) (src:=34) (dst:=9) rfl rfl rfl rfl rfl rfl (Yx a0 r11.2.1 (IntKind.i64.wrap (r11.2.1+(IntKind.i64.wrap r11.1))))
 refine rg tok [4,9,11] fun K hK=>?_
 simp only[go_sem,qc,qe,qa,qd,reduceCtorEq,f26,f27];apply hK
 refine rgN [4,5,6] ?_;cases h;exact rtA
theorem wt.ev (a0:List UInt8)(a1:Int)(r:GRaw×Int×Int)(h:wt a0 a1=some r)(σ:Store):ACalls qh 108 [.ds true (qf encB a0) (qb a0) false,.int .i64 a1] σ (fun r' σ'=>r'=.tup [.agg (encGRaw r.1),.int .i64 r.2.1,.int .i64 r.2.2]∧σ'=σ):=
 (wt.ok a0 a1 r h).c σ
def xh.l12 (a0:List UInt8):Nat→List GRaw→Int→Option (List GRaw×Int)
 |0,_,_=>none
 |k12+1,l6,x8=>(if x8<(qb a0:Int) then (wt a0 x8).bind fun r16=>(if r16.2.2=0 then (Y5 (qb l6+1) 40).bind fun _u21=>((xh.l12 a0 k12) (l6++[r16.1]) r16.2.1) else some (([]:List GRaw),r16.2.2)) else some (l6,0))
def xh (a0:List UInt8):Option (List GRaw×Int):=
 (if 4096<(qb a0:Int) then some (([]:List GRaw),4) else (xh.l12 a0 rounds ([]:List GRaw) 0))
theorem xh.ok (a0:List UInt8)(r:List GRaw×Int)(h:xh a0=some r):ACalls qh 64 [.ds true (qf encB a0) (qb a0) false] [] (fun r' _=>r'=.tup [.ds true (qf encGRaw r.1) (qb r.1) false,.int .i64 r.2]):=by
 refine zi (rs:=[.tmp 2,.tmp 3]) tok Tryz.func64 rfl Tryz.ntmps64 rfl Tryz.call64 (by simp) ?_;refine zm [(0,.ds true (qf encB a0) (qb a0) false)] ⟨rfl,trivial⟩ ?_;unfold xh at h;refine rgN [0] ?_
 refine za fun Z1 hZ1=>?_
 refine rgN [0,11] ?_;refine zD rfl (fun hc2=>?_) (fun hc2=>?_)
 · rw[if_pos hc2] at h;have t3:=eq_true hc2
   refine rg tok [2,3] fun K hK=>?_
   simp only[go_sem,qc,qa,reduceCtorEq,t3];apply hK
   cases h;exact rtA
 rw[if_neg hc2] at h;have t4:=eq_false hc2;apply zd;apply hZ1
 refine rg tok [0,4] fun K hK=>?_
 simp only[go_sem,qc,qa,reduceCtorEq,t4];apply hK
 refine Zw 4 4 rfl ?_;refine yc (L:=[(0,.ds true (qf encB a0) (qb a0) false),(4,.os true 4 0 0 0 (qb ([]:List GRaw)) false)]) (τ:=[.cells 0 (qf encGRaw ([]:List GRaw))]) .s ?_
 refine za fun Z5 hZ5=>?_
 refine rgN [0,4,5] ?_;apply ze;refine zC (fun m L τ=>∃ (k12:Nat) (l6:List GRaw) (x8:Int) (v7:Nat),m=0+k12∧L=[(0,.ds true (qf encB a0) (qb a0) false),(4,.os true 4 0 v7 0 (qb l6) false),(5,.int .i64 x8)]∧τ=[.cells v7 (qf encGRaw l6)]∧xh.l12 a0 k12 l6 x8=some r) _ ⟨rounds,([]:List GRaw),0,0,rfl,rfl,rfl,h⟩ .s ?_;rintro m L τ ⟨k12,l6,x8,v7,rfl,rfl,rfl,h⟩
 rcases k12 with _|k12
 · cases h
 simp only[xh.l12] at h
 refine za fun Z13 hZ13=>?_
 refine rgN [0,4,5,15] ?_;refine zD rfl (fun hc14=>?_) (fun hc14=>?_)
 · rw[if_pos hc14] at h;have t15:=eq_true hc14;apply zd;apply hZ13;apply ze
   refine rc [0,4,6,7,8] fun K hK=>?_
   obtain⟨r16,hr16,h⟩:=bind_some h;refine zj tok 2 ?_;simp only[go_sem,qc,qa,reduceCtorEq,t15];refine clN rfl rfl rfl (wt.ev a0 x8 r16 hr16 _) ?_;refine zj tok 8 ?_;simp only[go_sem,qc,qe,qa,qd,reduceCtorEq,encGRaw];refine nkN hK ?_
   refine za fun Z17 hZ17=>?_
   refine rgN [0,4,6,7,8,24] ?_;refine zD rfl (fun hc18=>?_) (fun hc18=>?_)
   · rw[if_neg hc18] at h;have t19:=eq_false hc18
     refine rg tok [2,3] fun K hK=>?_
     simp only[go_sem,qc,qa,reduceCtorEq,t19];apply hK
     cases h;exact rtA
   rw[if_pos hc18] at h;have t20:=eq_true hc18;apply zd;apply hZ17;obtain⟨_u21,hu21,h⟩:=bind_some h;have gu21:=yA hu21;have f22:=(zA E28.len l6)
   refine rg tok [0,4,7] fun K hK=>?_
   simp only[go_sem,qc,qe,qa,qd,ql,reduceCtorEq,zQ,z6,ug,q7,true_and,ul,ym,zW,yp,t20,gu21,f22,yT,ud,q5,AV.one,qX,qz,qk,qn,qt,qA];apply hK
   refine yc (L:=[(0,.ds true (qf encB a0) (qb a0) false),(4,.os true 4 0 (v7+1) 0 (qb (l6++[r16.1])) false),(7,.int .i64 r16.2.1)]) (τ:=[.cells (v7+1) (qf encGRaw (l6++[r16.1])),.cells 0 [.int .i64 r16.1.fTag,.int .i64 r16.1.fWire,.int .i64 r16.1.fN,.str r16.1.fB],.cells 0 [.int .i64 r16.1.fTag,.int .i64 r16.1.fWire,.int .i64 r16.1.fN,.str r16.1.fB]]) .s ?_
   refine rgE tok [0,4,5] fun K hK=>?_
   simp only[go_sem,qc,qa,reduceCtorEq];apply hK
   exact⟨_,_,_,qy (0+k12),⟨k12,l6++[r16.1],r16.2.1,v7+1,rfl,rfl,rfl,h⟩,(.t [0] false)⟩
 rw[if_neg hc14] at h;have t23:=eq_false hc14;apply zJ;apply hZ5
 refine rg tok [2,3] fun K hK=>?_
 simp only[go_sem,qc,qa,reduceCtorEq,t23];apply hK
 cases h;exact rtA
theorem xh.ev (a0:List UInt8)(r:List GRaw×Int)(h:xh a0=some r)(σ:Store):ACalls qh 64 [.ds true (qf encB a0) (qb a0) false] σ (fun r' σ'=>r'=.tup [.ds true (qf encGRaw r.1) (qb r.1) false,.int .i64 r.2]∧σ'=σ):=
 (xh.ok a0 r h).c σ
def zf.l4 (a1:Int):List GField→Int→GField×Bool
 |[],x2=>((⟨[],0,0,(⟨0,[]⟩:GType)⟩:GField),false)
 |y4::q4,x2=>(if y4.fTag=a1 then (y4,true) else ((zf.l4 a1 q4) (x2+1)))
def zf (a0:GMessage)(a1:Int):GField×Bool:=
 (zf.l4 a1 a0.fFields 0)
theorem zf.ok (a0:GMessage)(a1:Int)(r:GField×Bool)(h:zf a0 a1=r):ACalls qh 65 [.agg (encGMessage a0),.int .i64 a1] [] (fun r' _=>r'=.tup [.agg (encGField r.1),.bool r.2]):=by
 refine zi (rs:=[.cell 4 57,.tmp 5]) tok Tryz.func65 rfl Tryz.ntmps65 rfl Tryz.call65 (by simp) ?_;refine zm [(0,.agg (encGMessage a0)),(1,.int .i64 a1)] ⟨rfl,rfl,trivial⟩ ?_;unfold zf at h
 refine rg tok [1,2,4] fun K hK=>?_
 simp only[go_sem,qc,qa,qd,reduceCtorEq,encGMessage];apply hK
 refine za fun Z1 hZ1=>?_
 refine rgN [1,4,9,10,11] ?_;apply ze
 refine xb 9 fun hb4=>?_
 replace hb4:qb a0.fFields≤9223372036854775807:=hb4.1;refine zC (fun m L τ=>∃ (p4 q4:List GField) (x2:Int),m=qb q4∧L=[(1,.int .i64 a1),(4,.op 0 0 0),(9,.ds true (qf encGField a0.fFields) (qb a0.fFields) false),(10,.int .i64 (qb a0.fFields:Int)),(11,.int .i64 x2)]∧τ=[.cells 0 [.str [],.int .i64 0,.int .i64 0,.int .i64 0,.str []]]∧a0.fFields=p4++q4∧x2=(qb p4:Int)∧zf.l4 a1 q4 x2=r) _ ⟨[],a0.fFields,0,rfl,rfl,rfl,rfl,rfl,h⟩ (.t [1] false) ?_;rintro m L τ ⟨p4,q4,x2,rfl,rfl,rfl,hE4,hi4,h⟩
 rcases q4 with _|⟨y4,q4⟩
 · have hz4:=yz hE4 hi4;simp only[zf.l4] at h
   refine rg tok [1,4,9,10,11,12] fun K hK=>?_
   simp only[go_sem,qc,qa,hz4];apply hK
   refine za fun Z5 hZ5=>?_
   refine zw rfl ?_;apply zJ;apply hZ1;refine rgN [4,5] ?_;cases h;exact rtA
 obtain⟨hz4,hw4,hx4,hE'4,hi'4⟩:=yd hE4 hi4 hb4;simp only[zf.l4] at h
 refine rg tok [1,4,9,10,11,12] fun K hK=>?_
 simp only[go_sem,qc,qa,hz4];apply hK
 refine za fun Z6 hZ6=>?_
 refine zz rfl ?_;apply zd;apply hZ6
 refine za fun Z7 hZ7=>?_
 apply ze;have f8:=E47.idxS hx4;have f9:=E47.loadS rfl rfl hx4
 refine rg tok [1,4,7,9,10,11] fun K hK=>?_
 simp only[go_sem,qc,qe,qa,qd,encGField,f8,f9];apply hK
 refine rgN [1,4,7,9,10,11,18] ?_;refine zD rfl (fun hc10=>?_) (fun hc10=>?_)
 · rw[if_pos hc10] at h;have t11:=eq_true hc10
   refine rg tok [4,5] fun K hK=>?_
   simp only[go_sem,qc,qe,qa,qd,t11];apply hK
   cases h;exact rtA
 rw[if_neg hc10] at h;have t12:=eq_false hc10;apply zd;apply hZ7
 refine rgE tok [1,4,9,10,11] fun K hK=>?_
 simp only[go_sem,qc,qa,hw4,t12];apply hK
 exact⟨_,_,_,qy q4.length,⟨p4++[y4],q4,x2+1,rfl,rfl,rfl,hE'4,hi'4,h⟩,(.t [0] false)⟩
theorem zf.ev (a0:GMessage)(a1:Int)(r:GField×Bool)(h:zf a0 a1=r)(σ:Store):ACalls qh 65 [.agg (encGMessage a0),.int .i64 a1] σ (fun r' σ'=>r'=.tup [.agg (encGField r.1),.bool r.2]∧σ'=σ):=
 (zf.ok a0 a1 r h).c σ
def xf (a0:GType)(a1:Int):Bool:=
 (if a0.fKind=1 then ((decide ((-2147483648)≤a1))&&(decide (a1≤2147483647))) else (if a0.fKind=3 then ((decide (a1=0))||(decide (a1=1))) else (if a0.fKind=6 then ((decide (0≤a1))&&(decide (a1≤2147483647))) else decide (a0.fKind=2))))
theorem xf.ok (a0:GType)(a1:Int)(r:Bool)(h:xf a0 a1=r):ACalls qh 109 [.agg (encGType a0),.int .i64 a1] [] (fun r' _=>r'=.bool r):=by
 refine zi (rs:=[.tmp 4]) tok Tryz.func109 rfl Tryz.ntmps109 rfl Tryz.call109 (by simp) ?_;refine zm [(0,.agg (encGType a0)),(1,.int .i64 a1)] ⟨rfl,rfl,trivial⟩ ?_;unfold xf at h
 refine rg tok [1,2] fun K hK=>?_
 simp only[go_sem,qc,qa,qd,reduceCtorEq,encGType];apply hK
 refine za fun Z1 hZ1=>?_
 refine rgN [1,2,6] ?_;apply ze;refine rgN [1,2,6,7] ?_;refine zD rfl (fun hc2=>?_) (fun hc2=>?_)
 · rw[if_pos hc2] at h;have t3:=eq_true hc2
   refine rc [4] fun K hK=>?_
   refine zj tok 3 ?_;simp only[go_sem,qc,qa,t3];refine zh 3 (fun L τ=>L=[(14,.bool ((decide ((-2147483648)≤a1))&&(decide (a1≤2147483647))))]∧τ=[.cells 0 [.int .i64 a0.fKind,.str a0.fName]]) ?_ ?_
   · refine yx 11 rfl (fun hg11=>?_) (fun hg11=>?_)
     · have t4:=eq_true hg11;refine rnN 3 ?_;refine zb ⟨rfl,_,_,⟨rfl,rfl⟩,.p t4⟩
     have t5:=eq_false hg11;refine rnN 3 ?_;refine zb ⟨rfl,_,_,⟨rfl,rfl⟩,.p t5⟩
   rintro _ _ ⟨rfl,rfl⟩;refine rnN 1 ?_;refine nkN hK ?_;cases h;exact rtA
 rw[if_neg hc2] at h;have t6:=eq_false hc2
 refine rg tok [1,2,6,15] fun K hK=>?_
 simp only[go_sem,qc,qa,t6];apply hK
 refine zD rfl (fun hc7=>?_) (fun hc7=>?_)
 · rw[if_pos hc7] at h;have t8:=eq_true hc7
   refine rc [4] fun K hK=>?_
   refine zj tok 3 ?_;simp only[go_sem,qc,qa,t8];refine zh 3 (fun L τ=>L=[(22,.bool ((decide (a1=0))||(decide (a1=1))))]∧τ=[.cells 0 [.int .i64 a0.fKind,.str a0.fName]]) ?_ ?_
   · refine yx 19 rfl (fun hg19=>?_) (fun hg19=>?_)
     · have t9:=eq_true hg19;refine rnN 3 ?_;refine zb ⟨rfl,_,_,⟨rfl,rfl⟩,.p t9⟩
     have t10:=eq_false hg19;refine rnN 3 ?_;refine zb ⟨rfl,_,_,⟨rfl,rfl⟩,.p t10⟩
   rintro _ _ ⟨rfl,rfl⟩;refine rnN 1 ?_;refine nkN hK ?_;cases h;exact rtA
 rw[if_neg hc7] at h;have t11:=eq_false hc7
 refine rg tok [1,2,23] fun K hK=>?_
 simp only[go_sem,qc,qa,t11];apply hK
 refine zD rfl (fun hc12=>?_) (fun hc12=>?_)
 · rw[if_pos hc12] at h;have t13:=eq_true hc12
   refine rc [4] fun K hK=>?_
   refine zj tok 3 ?_;simp only[go_sem,qc,qa,t13];refine zh 3 (fun L τ=>L=[(30,.bool ((decide (0≤a1))&&(decide (a1≤2147483647))))]∧τ=[.cells 0 [.int .i64 a0.fKind,.str a0.fName]]) ?_ ?_
   · refine yx 27 rfl (fun hg27=>?_) (fun hg27=>?_)
     · have t14:=eq_true hg27;refine rnN 3 ?_;refine zb ⟨rfl,_,_,⟨rfl,rfl⟩,.p t14⟩
     have t15:=eq_false hg27;refine rnN 3 ?_;refine zb ⟨rfl,_,_,⟨rfl,rfl⟩,.p t15⟩
   rintro _ _ ⟨rfl,rfl⟩;refine rnN 1 ?_;refine nkN hK ?_;cases h;exact rtA
 rw[if_neg hc12] at h;have t16:=eq_false hc12;apply zd;apply hZ1
 refine rg tok [4] fun K hK=>?_
 simp only[go_sem,qc,qa,qd,t16];apply hK
 cases h;exact rtA
theorem xf.ev (a0:GType)(a1:Int)(r:Bool)(h:xf a0 a1=r)(σ:Store):ACalls qh 109 [.agg (encGType a0),.int .i64 a1] σ (fun r' σ'=>r'=.bool r∧σ'=σ):=
 (xf.ok a0 a1 r h).c σ
end
end Go.Proofs.YtaddlmlpeghonaaGreatDoor
