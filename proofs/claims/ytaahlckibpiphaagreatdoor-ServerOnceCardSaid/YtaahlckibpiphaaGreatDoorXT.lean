/- Parts of the proof, cut down to what it needs. -/
import Derived.Test.YtaahlckibpiphaaGreatDoorXBq
import Derived.Deep.Slices
import Derived.Deep.Fields
import Derived.ChangeArms
import Derived.ChangeSame
import Derived.Scope
import Derived.Test.YtaahlckibpiphaaGreatDoorProg
import Derived.KernelRfl
set_option linter.constructorNameAsVariable false
set_option linter.unusedSimpArgs false
set_option linter.unusedVariables false
namespace Go.Proofs.YtaahlckibpiphaaGreatDoor
open _root_.List renaming length → qa, flatMap → qb, length_append → qj, length_cons → qp, drop_zero → qq, map_nil → qr, map_append → qs, map_cons → qu, append_assoc → qA, length_nil → qB, getD_eq_getElem?_getD → qC, append_nil → qD, flatMap_cons → qE, nil_append → qG, flatMap_append → qH, cons_append → qI, mem_cons_of_mem → qL, flatMap_nil → qO, mem_cons_self → qP, getElem?_eq_some_iff → qQ, length_eq_zero_iff → qS, replicate → qV, range_zero → qW, getElem?_eq_getElem → qX, getElem?_append_left → qY, all_cons → qZ, mem_cons → q9, all_nil → ua, getElem?_set_ne → ue, range_succ → ug, take_length → uk, length_map → ul, eq_nil_of_length_eq_zero → um, all_eq_true → un, getElem?_append_right → uo, take_of_length_le → uu, getElem?_set_self → uv, getElem?_eq_none → uw, take_append_drop → uA, mem_singleton → uD, mem_map → uH, mem_append → uI, range → uJ, set_cons_zero → uK, getElem?_cons_zero → uL, getElem?_cons_succ → uP, length_take → uR, mem_append_left → uT, length_drop → uU, set_cons_succ → uV, mem_append_right → uW, ext_getElem? → uX, nodup_cons → vg, map_congr_left → vn, drop_drop → vo, getElem?_map → vp
open _root_.Option renaming bind_some → qk, map_some → uN, getD_some → uO
open _root_.Nat renaming reduceEqDiff → qc, reduceLeDiff → qd, reduceAdd → qe, reduceMul → qf, reduceSub → qg, reduceLT → qh, zero_add → qn, le_refl → qx, add_zero → qF, lt_succ_self → qK, zero_le → qU, mul_le_mul_right → ud, lt_of_lt_of_le → ui, reduceMod → uj, add_assoc → ux, zero_mul → uy, le_trans → uB, sub_self → uQ, succ_mul → uY, sub_zero → uZ, add_mul → u6, le_of_not_lt → u7, lt_or_ge → ve
open _root_.Bool renaming not_false → qm, and_true → qo, or_true → qt, not_true → qv, and_false → qw, or_false → qz, and_eq_true → qJ, and_self → qN, false_eq_true → uf, true_and → uh, or_eq_true → ut, true_or → uC, false_or → uF, false_and → u0, not_eq_true' → u9
open _root_.Int renaming toNat → qT, toNat_natCast → uc
open _root_.BitVec renaming ofInt → qM, toNat → uz
open _root_.Array renaming getElem?_setIfInBounds_ne → uS, replicate → u5
open _root_.UInt8 renaming ofNat → ur
open Result renaming andThen_ok → ql
open Sem renaming run_bind → qy, run_pure → qR
open _root_.Go.Proofs.Tryz renaming prog → qi
section
namespace AM
variable {Φ:Ctx}
open Go.RowKit
section
variable {P:Program} {n k:Nat} {Q:Exit→Fr→ze→Prop} {F:Fr} {σ:ze}
theorem zH (K:Fr→ze→Prop)(Q:Exit→Fr→ze→Prop)(F:Fr)(σ:ze):vac K Q .normal F σ=K F σ:=rfl
theorem thenQ_ret (K:Fr→ze→Prop)(Q:Exit→Fr→ze→Prop)(F:Fr)(σ:ze):vac K Q .ret F σ=Q .ret F σ:=rfl
theorem thenQ_exit (K:Fr→ze→Prop)(Q:Exit→Fr→ze→Prop)(i:Nat)(F:Fr)(σ:ze):vac K Q (.exit i) F σ=Q (.exit i) F σ:=rfl
theorem thenQ_goto (K:Fr→ze→Prop)(Q:Exit→Fr→ze→Prop)(i:Nat)(F:Fr)(σ:ze):vac K Q (.goto i) F σ=Q (.goto i) F σ:=rfl
theorem Y7 (i:Nat)(Q:Exit→Fr→ze→Prop)(F:Fr)(σ:ze):vbi i Q .normal F σ=Q .normal F σ:=rfl
theorem blockQ_ret (i:Nat)(Q:Exit→Fr→ze→Prop)(F:Fr)(σ:ze):vbi i Q .ret F σ=Q .ret F σ:=rfl
theorem blockQ_exit (i j:Nat)(Q:Exit→Fr→ze→Prop)(F:Fr)(σ:ze):vbi i Q (.exit j) F σ=if j=i then Q .normal F σ else Q (.exit j) F σ:=rfl
theorem zd {x y:Code}(h:∀ K:Fr→ze→Prop,(∀ F σ,awp Φ P n k y Q F σ→K F σ)→awp Φ P n k x (vac K Q) F σ):awp Φ P n k (.seq x y) Q F σ:=awp_seq (h _ fun _ _ h=>h)
def Run (x:Option (List Oper×Fr×ze))(K:List Oper→Fr→ze→Prop):Prop:=
 match x with
 |some (l,F,σ)=>K l F σ
 |none=>False
theorem Run_some (l:List Oper)(F:Fr)(σ:ze)(K:List Oper→Fr→ze→Prop):Run (some (l,F,σ)) K=K l F σ:=rfl
theorem regEnd {T:TT}(hT:TOK P T){id:Nat}{l:List Oper}(h:Run (vaq T n l.toArray l F σ) fun l' F' σ'=>l'=[]∧Q .normal F' σ'):awp Φ P n k (.region id l.toArray false) Q F σ:=by
 refine vbr ?_;unfold Run at h
 split at h
 · rename_i l' F' σ' he
   obtain⟨rfl,h2⟩:=h;exact vdt hT he (zz h2)
 exact h.elim
theorem wA {ops:Array Oper}{l:List Oper}{b:Bool}(t:Tmp)(hb:F t=.bool b)(h1:b=true→Zg Φ P n k ops l Q (upd F t (.bool true)) σ)(h0:b=false→Zg Φ P n k ops l Q (upd F t (.bool false)) σ):
 Zg Φ P n k ops l Q F σ:=by
 have e:F=upd F t (.bool b):=by
  funext x; unfold upd; split
  · rename_i h; rw[h,hb]
  rfl
 rw[e]
 cases b with
 |true=>exact h1 rfl
 |false=>exact h0 rfl
end
theorem ACalls.ghost {P:Program}{f:FuncId}{args:List AV}{σ:ze}{R R':AV→ze→Prop}(h:ACalls P f args σ R)
 (hg:∀ r σ',R r σ'→∀ E v,SR E σ'→VR E r v→∃ E' r' σ'',E'.w=E.w∧SR E' σ''∧Ext E E'∧VR E' r' v∧R' r' σ''):ACalls P f args σ R':=by
 refine⟨h.1,fun E vs hS hl=>(h.2 E vs hS hl).mono ?_⟩;rintro e w ⟨v,r,σ',E',h1,rfl,h3,h4,h5,h6⟩;obtain⟨E2,r',σ2,e1,e2,e3,e4,e5⟩:=hg r σ' h6 E' v h4 h3;exact⟨v,r',σ2,E2,h1,e1,e4,e2,h5.trans e3,e5⟩
theorem SR.virt {E:Env}{σ:ze}(hS:SR E σ):SR (E.new E.w none) (σ++[.cells 0 []])∧Ext E (E.new E.w none):=
 hS.new (XB.refl E.w) (fun b hb=>by cases hb) (.inr ⟨rfl,by simp[Env.new]⟩)
theorem VR.virt {E:Env}{σ:ze}(hS:SR E σ){nl:Bool}{v:Value}(h:VR E (.ds nl [] 0 true) v)(sz:Nat)(t':Bool):VR (E.new E.w none) (.os true sz σ.length 0 0 0 t') v:=by
 have hv:∃ a,v=.slice a 0 0:=by
  cases h with
  |dsn=>exact⟨none,rfl⟩
  |ds _ _ _ _ a cap vs ha hr hv hc ht hB=>have:=ht rfl; subst this; exact⟨some a,rfl⟩
 obtain⟨a,rfl⟩:=hv
 exact .osn _ _ _ _ _ _ (Env.ok_new hS _ _) fun ob hob=>by rw[Env.loc_new hS] at hob; cases hob; rfl
theorem awp_virt {P:Program}{n k:Nat}{Q:Exit→Fr→ze→Prop}{F:Fr}{σ:ze}{c:Code}(t sz:Nat){nl:Bool}(ht:F t=.ds nl [] 0 true)(h:awp Φ P n k c Q (upd F t (.os true sz σ.length 0 0 0 false)) (σ++[.cells 0 []])):
 awp Φ P n k c Q F σ:=by
 intro E a hk hS hF
 obtain⟨hS',hx⟩:=hS.virt
 have hF':FR Φ (E.new E.w none) n (upd F t (.os true sz σ.length 0 0 0 false)) a:=by
  refine⟨hF.size,hF.defers,fun t'=>?_⟩
  by_cases e:t'=t
  · subst e;simp only[upd,if_true];have:=hF.tmps t';rw[ht] at this;exact this.virt hS sz false
  simp only[upd,e,if_false]; exact (hF.tmps t').ext hx
 exact wpIn_mono (h (E.new E.w none) a (uB hk hx.n) hS' hF') fun e a w hp=>Xd (hx.mono hk) hp
theorem SR.virtIn {E:Env}{σ:ze}(hS:SR E σ){id ver:Nat}{cs:List AV}(hcs:ze.at σ id ver=some cs){i:Nat}(hi:i<cs.length){nl:Bool}(hc:gc cs i=.ds nl [] 0 true)(sz:Nat):
 SR (E.new E.w none) ((σ.set id (.cells ver (cs.set i (.os true sz σ.length 0 0 0 false))))++[.cells 0 []])∧Ext E (E.new E.w none):=by
 obtain⟨hS',hx⟩:=hS.virt;have hlt:=ze.at_lt hcs;refine⟨⟨by simpa using hS'.len,fun j=>?_,hS'.inj,hS'.blk,hS'.stb,hS'.glb,hS'.bas⟩,hx⟩
 by_cases hj:j=id
 · subst hj;rw[qY (by simpa using hlt),uv hlt];have h1:=hS'.obj j;rw[qY hlt,ze.at_some hcs] at h1
   rcases h1 with ⟨b,e1,e2⟩|⟨e1,e2⟩
   · refine .inl ⟨b,e1,?_⟩;obtain⟨conc,t',fr,a1,a2,a3,a4⟩:=e2.blk;refine⟨conc,t',fr,a1,a2,by simpa using a3,fun k hk=>?_⟩;simp only[List.length_set] at hk;rw[gc_set _ _ _ _ hi]
     by_cases hki:k=i
     · subst hki;rw[if_pos rfl];have h2:=a4 k hk;rw[hc] at h2
       generalize conc.getD ((E.new E.w none).base b+k) undef=v at h2 ⊢
       exact (show VR (E.new E.w none) (.os true sz σ.length 0 0 0 false) _ from by
        have hv:∃ a,v=.slice a 0 0:=by
         cases h2 with
         |dsn=>exact⟨none,rfl⟩
         |ds _ _ _ _ a cap vs ha hr hv hc ht hB=>have:=ht rfl; subst this; exact⟨some a,rfl⟩
        obtain⟨a,rfl⟩:=hv
        exact .osn _ _ _ _ _ _ (Env.ok_new hS _ _) fun ob hob=>by rw[Env.loc_new hS] at hob; cases hob; rfl)
     rw[if_neg hki]; exact a4 k hk
   subst e1; simp at hi
 have h1:=hS'.obj j
 by_cases hl:j<σ.length
 · rw[qY (by simpa using hl),ue (fun e=>hj e.symm)];rw[qY hl] at h1;exact h1
 rw[uo (by simpa using u7 hl)];rw[uo (u7 hl)] at h1
 simpa using h1
theorem awp_virtIn {P:Program}{n k:Nat}{Q:Exit→Fr→ze→Prop}{F:Fr}{σ:ze}{c:Code}{id ver:Nat}{cs:List AV}(hcs:ze.at σ id ver=some cs){i:Nat}(hi:i<cs.length){nl:Bool}
 (hc:gc cs i=.ds nl [] 0 true) (sz:Nat) (h:awp Φ P n k c Q F ((σ.set id (.cells ver (cs.set i (.os true sz σ.length 0 0 0 false))))++[.cells 0 []])):awp Φ P n k c Q F σ:=by
 intro E a hk hS hF
 obtain⟨hS',hx⟩:=hS.virtIn hcs hi hc sz
 exact wpIn_mono (h (E.new E.w none) a (uB hk hx.n) hS' (hF.ext hx)) fun e a w hp=>Xd (hx.mono hk) hp
def Env.shift (E:Env)(id ver d:Nat)(ob:Option Nat):Env:=
 { E with loc:=fun i=>if i=id then some (ver+1,ob) else E.loc i,base:=fun x=>if ob=some x then E.base x+d else E.base x }
theorem SR.shift {E:Env}{σ:ze}(hS:SR E σ){id ver:Nat}{cs:List AV}(hcs:ze.at σ id ver=some cs){ob:Option Nat}(hl:E.loc id=some (ver,ob)){d:Nat}(hd:d≤cs.length):
 SR (E.shift id ver d ob) (σ.set id (.cells (ver+1) (cs.drop d)))∧Ext E (E.shift id ver d ob):=by
 have hlt:=ze.at_lt hcs
 have hne:∀ i,i≠id→(E.shift id ver d ob).loc i=E.loc i:=fun i hi=>by simp[Env.shift,hi]
 have hself:(E.shift id ver d ob).loc id=some (ver+1,ob):=by simp[Env.shift]
 have hx:Ext E (E.shift id ver d ob) := {
  os:=rfl
  tape:=rfl
  output:=rfl
  size:=qx _
  shape:=fun _ _ h=>h
  st:=fun _ h=>⟨h,rfl⟩
  n:=qx _
  loc:=fun i _ v o h=>by
   by_cases hi:i=id
   · subst hi;rw[hself] at h;cases h;exact⟨ver,ob,hl,Nat.le_succ _,fun e=>by omega⟩
   rw[hne i hi] at h;exact⟨v,o,h,qx _,fun _=>rfl⟩
  old:=fun _ _ _=>rfl
  own:=fun i v b h _=>by
   by_cases hi:i=id
   · subst hi;rw[hself] at h;cases h;exact⟨i,ver,hl⟩
   rw[hne i hi] at h;exact⟨i,v,h⟩
  stn:=fun _ h=>.inl h
  bas:=fun i _ v b h h'=>by
   have hb:ob≠some b:=by
    intro e
    by_cases hi:i=id
    · subst hi
      rw[hl] at h; rw[hself] at h'
      cases h; cases h'
    exact hi (hS.inj i id v ver b h (e▸hl))
   show (if ob=some b then _ else _)=_
   rw[if_neg hb]
  basO:=fun b _ hn=>by
   show (if ob=some b then _ else _)=_
   rw[if_neg (fun e:ob=some b=>hn id ver (by rw[hl,e]))] }
 refine⟨⟨by simpa [Env.shift] using hS.len,fun i=>?_,fun i i' v v' b h1 h2=>?_,fun i v b h1=>?_,hS.stb,hS.glb,fun b hb=>?_⟩,hx⟩
 · by_cases hi:i=id
   · subst hi;rw[uv hlt]
     rcases hS.at hcs with ⟨b,h1,h2⟩|⟨h1,h2⟩
     · rw[hl] at h1; cases h1
       obtain⟨conc,t,fr,a1,a2,a3,a4⟩:=h2.blk
       have eb:(E.shift i ver d (some b)).base b=E.base b+d:=by simp[Env.shift]
       refine .inl ⟨b,hself,conc,t,fr,a1,a2,by rw[eb,uU]; omega,fun j hj=>?_⟩;rw[uU] at hj
       have hg:gc (cs.drop d) j=gc cs (d+j):=by simp[gc]
       rw[hg,eb,ux];exact (a4 (d+j) (by omega)).ext hx
     rw[hl] at h2; cases h2
     exact .inr ⟨by rw[h1]; simp,hself⟩
   rw[ue (fun e=>hi e.symm)]
   by_cases hin:i<E.n
   · exact (hS.obj i).ext hx (.inl hin) (hne i hi) fun v b hv=>rfl
   have h0:=hS.obj i;rw[uw (by have:=hS.len; omega)] at h0 ⊢;exact (hne i hi).trans h0
 · have to:∀ i v,(E.shift id ver d ob).loc i=some (v,some b)→∃ v',E.loc i=some (v',some b):=fun i v h=>by
    by_cases hi:i=id
    · subst hi;rw[hself] at h;cases h;exact⟨ver,hl⟩
    rw[hne i hi] at h; exact⟨v,h⟩
   obtain⟨w1,g1⟩:=to i v h1;obtain⟨w2,g2⟩:=to i' v' h2;exact hS.inj i i' w1 w2 b g1 g2
 · by_cases hi:i=id
   · subst hi;rw[hself] at h1;cases h1;exact hS.blk i ver b hl
   rw[hne i hi] at h1; exact hS.blk i v b h1
 show (if ob=some b then _ else _)=0
 rw[if_neg]
 · exact hS.bas b hb
 intro e
 have:=(hS.blk id ver b (e▸hl)).1;have:E.w.heap.size≤b:=hb
 omega
theorem VR.shift {E:Env}{σ:ze}(hS:SR E σ){id ver:Nat}{ob:Option Nat}(hl:E.loc id=some (ver,ob)){nl tight:Bool}{sz d len:Nat}{v:Value}(h:VR E (.os nl sz id ver d len tight) v):
 VR (E.shift id ver d ob) (.os nl sz id (ver+1) 0 len tight) v:=by
 have hself:(E.shift id ver d ob).loc id=some (ver+1,ob):=by simp[Env.shift]
 have hok:E.ok id ver→(E.shift id ver d ob).ok id (ver+1):=fun hk=>⟨hk.1,fun v o h=>by rw[hself] at h; cases h; exact qx _⟩
 cases h with
 |osn _ _ _ _ _ a hk hn=>
  refine .osn _ _ _ _ _ _ (hok hk) fun o ho=>?_
  rw[hself] at ho; cases ho
  exact hn _ hl
 |os _ _ _ _ _ _ _ a cap hk hc ht hB hp=>
  refine .os _ _ _ _ _ _ _ _ _ (hok hk) hc ht hB fun o ho=>?_
  rw[hself] at ho; cases ho
  obtain⟨b,e1,e2,t,m,hs,hts,hle⟩:=hp _ hl;subst e1
  have eb:(E.shift id ver d (some b)).base b=E.base b+d:=by simp[Env.shift]
  exact⟨b,rfl,by rw[eb]; exact e2,t,m,hs,hts,by rw[eb]; exact hle⟩
theorem SR.shiftIn {E:Env}{σ:ze}(hS:SR E σ){id ver:Nat}{cs:List AV}(hcs:ze.at σ id ver=some cs){d:Nat}(hd:d≤cs.length){j vj:Nat}{cj:List AV}(hcj:ze.at σ j vj=some cj)
 (hij:j≠id) {i:Nat} (hi:i<cj.length) {nl tight:Bool} {sz len:Nat} (hc:gc cj i=.os nl sz id ver d len tight):
 ∃ E',E'.w=E.w∧SR E' ((σ.set id (.cells (ver+1) (cs.drop d))).set j (.cells vj (cj.set i (.os nl sz id (ver+1) 0 len tight))))∧Ext E E':=by
 obtain⟨ob,hl⟩:∃ ob,E.loc id=some (ver,ob):=by
  rcases hS.at hcs with ⟨b,h1,_⟩|⟨_,h1⟩
  · exact⟨_,h1⟩
  exact⟨_,h1⟩
 obtain⟨hS1,hx⟩:=hS.shift hcs hl hd
 have hcj':ze.at (σ.set id (.cells (ver+1) (cs.drop d))) j vj=some cj:=by
  unfold ze.at;rw[ue (fun e=>hij e.symm)];exact hcj
 -- the cell's value
 have hS2:SR (E.shift id ver d ob) ((σ.set id (.cells (ver+1) (cs.drop d))).set j (.cells vj (cj.set i (.os nl sz id (ver+1) 0 len tight)))):=by
  refine⟨by simpa using hS1.len,fun q=>?_,hS1.inj,hS1.blk,hS1.stb,hS1.glb,hS1.bas⟩
  by_cases hq:q=j
  · subst hq;rw[uv (ze.at_lt hcj')]
    have hne:(E.shift id ver d ob).loc q=E.loc q:=by simp[Env.shift,hij]
    rcases hS.at hcj with ⟨b,h1,h2⟩|⟨h1,_⟩
    · obtain⟨conc,t,fr,a1,a2,a3,a4⟩:=h2.blk
      have hb:ob≠some b:=fun e=>hij (hS.inj q id vj ver b h1 (e▸hl))
      have eb:(E.shift id ver d ob).base b=E.base b:=by
       show (if ob=some b then _ else _)=_
       rw[if_neg hb]
      refine .inl ⟨b,hne.trans h1,conc,t,fr,a1,a2,by rw[eb]; simpa using a3,fun q' hk=>?_⟩;simp only[List.length_set] at hk;rw[gc_set _ _ _ _ hi,eb]
      by_cases hki:q'=i
      · subst hki;rw[if_pos rfl];have:=a4 q' hk;rw[hc] at this;exact this.shift hS hl
      rw[if_neg hki]; exact (a4 q' hk).ext hx
    subst h1; simp at hi
  rw[ue (fun e=>hq e.symm)]; exact hS1.obj q
 exact⟨E.shift id ver d ob,rfl,hS2,hx⟩
end AM
end
section
namespace AM
variable {Φ:Ctx}
open Go.RowKit
def vcR (e:Edge):Bool:=
 match e.ground with
 |.textOnly _|.gcOnly _=>false
 |_=>true
theorem vcQ {e:Edge}(h:vcR e=true)(md:Region.Mode):Region.binds md e=true:=by
 unfold vcR at h;unfold Region.binds
 split at h<;>simp_all
def ancGo : List (List Nat)→List Oper→List (List Nat)
 |acc,[]=>acc
 |acc,o::l=>
  let d:=(o.after.toList.filter vcR).map (·.on)
  ancGo (acc++[d++d.flatMap fun i=>acc.getD i []]) l
def anc (l:List Oper):List (List Nat):=ancGo [] l
def vau : Nat→List Oper→Bool
 |_,[]=>true
 |j,o::l=>o.after.all (fun e => !vcR e||decide (e.on<j))&&vau (j+1) l
def lvls (md:Region.Mode)(ops:List Oper):Nat→List Nat→List Nat
 |0,ls=>ls
 |n+1,ls=>lvls md ops n (ops.map fun o=>(o.after.toList.filter (Region.binds md)).foldl (fun m e=>max m (ls.getD e.on 0+1)) 0)
def topo (md:Region.Mode)(ops:List Oper):Bool:=
 let L:=lvls md ops ops.length (qV ops.length 0)
 ops.zipIdx.all fun (o,j)=>o.after.all fun e => !Region.binds md e||(decide (L.getD e.on 0<L.getD j 0)&&decide (e.on<ops.length))
theorem topo_spec {md:Region.Mode}{ops:List Oper}(h:topo md ops=true):∃ L:Nat→Nat,∀ j o,ops[j]?=some o→∀ e∈o.after,Region.binds md e=true→L e.on<L j∧e.on<ops.length:=by
 refine⟨fun j=>(lvls md ops ops.length (qV ops.length 0)).getD j 0,fun j o ho e he hb=>?_⟩;unfold topo at h;simp only at h
 have h1:=un.1 h (o,j) (by
  rw[List.mem_iff_getElem?]
  exact⟨j,by rw[List.getElem?_zipIdx,ho]; simp⟩)
 have h2:=Array.all_eq_true_iff_forall_mem.1 h1 e he
 simpa [hb] using h2
def Closed (ops:List Oper)(X:Nat→Prop):Prop:=∀ j o,ops[j]?=some o→X j→∀ e∈o.after,vcR e=true→X e.on
theorem anc_closed {ops:List Oper}:∀ (l:List Oper) (acc:List (List Nat)),(∃ pre,ops=pre++l∧pre.length=acc.length)→(∀ j i,i∈acc.getD j []→∀ X,Closed ops X→X j→X i)→
 ∀ j i,i∈(ancGo acc l).getD j []→∀ X,Closed ops X→X j→X i:=by
 intro l
 induction l with
 |nil=>intro acc _ h; exact h
 |cons o l ih=>
  intro acc ⟨pre,hp,hl⟩ h
  simp only[ancGo];refine ih _ ⟨pre++[o],by simp[hp],by simp[hl]⟩ ?_
  intro j i hi X hX hj
  by_cases hlt:j<acc.length
  · rw[qC,qY hlt,← qC] at hi;exact h j i hi X hX hj
  by_cases he:j=acc.length
  · subst he;rw[qC,uo (qx _),uQ,uL,uO] at hi
    have hops:ops[acc.length]?=some o:=by rw[hp,← hl]; simp
    have direct:∀ d,d∈(o.after.toList.filter vcR).map (·.on)→X d:=by
     intro d hd
     obtain⟨e,he,rfl⟩:=uH.1 hd;obtain⟨h1,h2⟩:=List.mem_filter.1 he;exact hX _ o hops hj e (by simpa using h1) h2
    rcases uI.1 hi with hi|hi
    · exact direct i hi
    obtain⟨d,hd,hi⟩:=List.mem_flatMap.1 hi;exact h d i hi X hX (direct d hd)
  rw[qC,uw (by simp; omega)] at hi
  simp at hi
theorem anc_spec {ops:List Oper}{j i:Nat}(hi:i∈(anc ops).getD j []){X:Nat→Prop}(hX:Closed ops X)(hj:X j):X i:=
 anc_closed ops [] ⟨[],by simp,rfl⟩ (fun j i h=>by simp at h) j i hi X hX hj
theorem vbC : ∀ {l:List Oper} {k:Nat},vau k l=true→∀ j o,l[j]?=some o→∀ e∈o.after,vcR e=true→e.on<k+j:=by
 intro l
 induction l with
 |nil=>intro k _ j o h; simp at h
 |cons x l ih=>
  intro k h j o hj e he ha
  simp only[vau,qJ] at h
  cases j with
  |zero=>
   simp at hj; subst hj
   have:=Array.all_eq_true_iff_forall_mem.1 h.1 e he
   simpa [ha] using this
  |succ j=>
   have:=ih h.2 j o (by simpa using hj) e he ha
   omega
theorem anc_lt {ops:List Oper}(hb:vau 0 ops=true){j i:Nat}(hj:j<ops.length)(hi:i∈(anc ops).getD j []):i<j:=by
 -- what stands in front of j is below j: the numbers up to j,without j,and j
 have h:=anc_spec (X:=fun x=>x≤j) hi (fun k o hk hx e he ha=>by
  have h1:=vbC hb k o hk e he ha
  show e.on≤j
  have h2:k≤j:=hx
  omega) (qx j)
 -- j itself is not among them
 rcases ve i j with h1|h1
 · exact h1
 exfalso
 have h2:i≤j:=h
 have hij:i=j:=by omega
 subst hij
 have key:∀ (l:List Oper) (acc:List (List Nat)),(∃ pre,ops=pre++l∧pre.length=acc.length)→(∀ j i,i∈acc.getD j []→i<j)→∀ j i,i∈(ancGo acc l).getD j []→i<j:=by
  intro l
  induction l with
  |nil=>intro acc _ h; exact h
  |cons o l ih=>
   intro acc ⟨pre,hp,hl⟩ h
   simp only[ancGo];refine ih _ ⟨pre++[o],by simp[hp],by simp[hl]⟩ ?_
   intro j i hi
   by_cases hlt:j<acc.length
   · rw[qC,qY hlt,← qC] at hi;exact h j i hi
   by_cases he:j=acc.length
   · subst he;rw[qC,uo (qx _),uQ,uL,uO] at hi
     have hops:ops[acc.length]?=some o:=by rw[hp,← hl]; simp
     have direct:∀ d,d∈(o.after.toList.filter vcR).map (·.on)→d<acc.length:=by
      intro d hd
      obtain⟨e,he,rfl⟩:=uH.1 hd;obtain⟨h1,h2⟩:=List.mem_filter.1 he;have:=vbC hb _ o hops e (by simpa using h1) h2
      omega
     rcases uI.1 hi with hi|hi
     · exact direct i hi
     obtain⟨d,hd,hi⟩:=List.mem_flatMap.1 hi;have:=h d i hi;have:=direct d hd
     omega
   rw[qC,uw (by simp; omega)] at hi
   simp at hi
 have:=key ops [] ⟨[],by simp,rfl⟩ (fun j i h=>by simp at h) i i hi
 omega
def tmpsOf (l:List Operand):List Tmp:=l.filterMap fun|.tmp t=>some t|_=>none
def looks (ops:List Oper)(o:Oper):List Tmp:=
 tmpsOf o.op.operands.toList++(match o.guard with
  |some (g,_)=>((ops[g]?).bind (·.dst)).toList
  |none=>[])
theorem vc5 {F G:Fr}{l:List Operand}(h:∀ t∈tmpsOf l,F t=G t):∀ x∈l,ev F x=ev G x:=by
 intro x hx
 cases x with
 |tmp t=>exact h t (List.mem_filterMap.2 ⟨.tmp t,hx,rfl⟩)
 |_=>rfl
theorem vdr {ρ ρ':Operand→AV}(ps:Array (Nat×Operand))(h:∀ x∈(ps.toList.map (·.2)),ρ x=ρ' x):(ps.toList.map fun p=>(p.1,ρ p.2))=ps.toList.map fun p=>(p.1,ρ' p.2):=
 vn fun p hp=>by rw[h p.2 (uH.2 ⟨p,hp,rfl⟩)]
theorem evOp_congr {T:TT}{op:Op}{ρ ρ':Operand→AV}{σ:ze}(h:∀ x∈op.operands.toList,ρ x=ρ' x):vb8 T op ρ σ=vb8 T op ρ' σ:=by
 cases op<;>simp only[Op.operands] at h<;>simp only[vb8]
 case build t ps=>rw[vdr ps fun x hx=>h x (by simpa using hx)]
 case buildSlice t n ps=>rw[vdr ps fun x hx=>h x (by simpa using hx)]
 case makeFunc f a b=>
  rw[vn (l:=a.toList) fun x hx=>h x (by simp at hx ⊢; exact .inl hx),vn (l:=b.toList) fun x hx=>h x (by simp at hx ⊢; exact .inr hx)]
 case slice t x lo hi mx=>cases lo<;>cases hi<;>cases mx<;>simp_all
 case makeMap t r=>cases r<;>simp_all
 case call c=>
  obtain⟨cal,args,ats⟩:=c
  cases cal<;>simp only[]
  rw[vn (l:=args.toList) fun x hx=>h x (by simp only[Call.operands]; simpa using hx)]
 all_goals (first|rfl|(simp_all; done))
theorem callee_congr {F G:Fr}{o:Oper}(h:∀ x∈o.op.operands.toList,ev F x=ev G x):callee F o=callee G o:=by
 obtain⟨dst,op,ty,pos,after,guard⟩:=o
 cases op<;>simp only[callee]
 rename_i c
 obtain⟨cal,args,ats⟩:=c
 cases cal<;>simp only[]
 rename_i f
 simp only[Op.operands,Call.operands] at h;rw[h f (by simp),vn (l:=args.toList) fun x hx=>h x (by simp at hx ⊢; exact .inr hx)]
theorem vbf {F G:Fr}{ops:List Oper}{o:Oper}(h:∀ t∈looks ops o,F t=G t):Yo ops.toArray F o=Yo ops.toArray G o:=by
 unfold Yo
 split
 · rfl
 rename_i j want hg
 simp only[List.getElem?_toArray]
 cases ht:(ops[j]?).bind (·.dst) with
 |none=>rfl
 |some t=>simp only[]; rw[h t (by simp[looks,hg,ht])]
def only (l:List Tmp)(F:Fr):Fr:=fun t=>if t∈l then F t else .u
theorem vbo {l:List Tmp}{F:Fr}{t:Tmp}(h:t∈l):only l F t=F t:=by simp[only,h]
def SF (Φ:Ctx)(P:Program)(n:Nat)(ops:List Oper)(o:Oper)(F:Fr)(σ:ze)(r:AV)(σ':ze):Prop:=
 ∀ E a,SR E σ→FR Φ E n (only (looks ops o) F) a→∀ (K:Act→World→Prop) (Qc:Exit→Act→World→Prop),(∀ E' cv,SR E' σ'→VR E' r cv→Ext E E'→K (a.put o.dst cv) E'.w)→
  if Region.wanted o (yielded ops.toArray a.tmps) then o.wpIn (fen Φ) 0 P a E.w K Qc else K (a.put o.dst undef) E.w
section
variable {P:Program} {n:Nat} {F:Fr} {σ σ':ze}
theorem op_wp' {T:TT}(hT:TOK P T){o:Oper}{r:AV}(h:vb8 T o.op (ev F) σ=some (r,σ')){E:Env}{a:Act}(hS:SR E σ)(hF:FR Φ E n F a){next:Act→World→Prop}{Qc:Exit→Act→World→Prop}
 (hn:∀ E' cv,SR E' σ'→VR E' r cv→Ext E E'→next (a.put o.dst cv) E'.w):o.wpIn (fen Φ) 0 P a E.w next Qc:=by
 obtain⟨E',h1,h2,h3⟩:=run_evOp hT hS (o:=o) (fun x=>hF.ev x) h;refine vaB (fun c hc=>by rw[hc] at h; simp[vb8] at h) ?_
 rcases h3 with ⟨cv,h4,h5⟩|⟨h4,h5⟩
 · rw[h4]; exact hn E' _ h1 h5 h2
 subst h5
 rw[h4]; exact hn E' _ h1 (.u _) h2
theorem SF.op {T:TT}(hT:TOK P T){ops:List Oper}{o:Oper}{r:AV}(hg:Yo ops.toArray F o=some true)(h:vb8 T o.op (ev F) σ=some (r,σ')):SF Φ P n ops o F σ r σ':=by
 intro E a hS hF K Qc J
 have h1:∀ t∈looks ops o,only (looks ops o) F t=F t:=fun t ht=>vbo ht
 rw[← vbf h1] at hg;rw[if_pos (wY hF hg)];rw[← evOp_congr (ρ:=ev (only (looks ops o) F)) (vc5 fun t ht=>h1 t (uT _ ht))] at h;exact op_wp' hT h hS hF J
theorem SF.skip {ops:List Oper}{o:Oper}(hg:Yo ops.toArray F o=some false):SF Φ P n ops o F σ .u σ:=by
 intro E a hS hF K Qc J
 have h1:∀ t∈looks ops o,only (looks ops o) F t=F t:=fun t ht=>vbo ht
 rw[← vbf h1] at hg;rw[if_neg (by rw[wY hF hg]; simp)];exact J E _ hS (.u _) (Ext.refl E)
theorem SF.call {ops:List Oper}{o:Oper}{f:FuncId}{args:List AV}{r:AV}(hg:Yo ops.toArray F o=some true)(hc:callee F o=some (f,args))(h:ACalls P f args σ fun r' s=>r'=r∧s=σ'):SF Φ P n ops o F σ r σ':=by
 intro E a hS hF K Qc J
 have h1:∀ t∈looks ops o,only (looks ops o) F t=F t:=fun t ht=>vbo ht
 rw[← vbf h1] at hg;rw[if_pos (wY hF hg)];rw[← callee_congr (F:=only (looks ops o) F) (vc5 fun t ht=>h1 t (uT _ ht))] at hc;obtain⟨dst,op,ty,pos,after,guard⟩:=o
 generalize only _ F=G at hF hc
 unfold callee at hc;simp only at hc
 split at hc
 · rename_i fo ao ats
   split at hc
   · rename_i g first cap hfo
     cases hc;have hv:=hF.ev fo;rw[hfo] at hv
     generalize hfv:a.eval fo=fv at hv
     cases hv with|fn _ _ _ vf vc h1 h2 h3 h4=>
     have hargs:=Xy (Xy (vbp h1 h3) (vbK (fun x=>hF.ev x) ao)) (vbp h2 h4);refine vaB (fun c hc=>by cases hc) ?_
     have hrun:(execOp a.eval { dst:=dst,op:=.call { callee:=.value fo,args:=ao,argTypes:=ats },type:=ty,pos:=pos,after:=after,guard:=guard }).run P E.w=.ok (.enter f (vf++ao.map a.eval++vc)) E.w:=by
      simp only[execOp,resolve,hfv,Deferred.ofValue,qy,qR,ql,invoke];exact h.1 _ _
     rw[hrun];refine⟨(fun hh=>by cases hh),Xk.2 ((h.2 E _ hS hargs).mono ?_)⟩;rintro e w' ⟨v,r',s',E',rfl,rfl,h5,h6,h7,rfl,rfl⟩;exact J E' v h6 h5 h7
   cases hc
 cases hc
end
def cnt (eff:Nat→Bool):Nat→Nat
 |0=>0
 |j+1=>cnt eff j+(if eff j then 1 else 0)
theorem vc7 (eff:Nat→Bool){i j:Nat}(h:i≤j):cnt eff i≤cnt eff j:=by
 induction j with
 |zero=>have:i=0:=by omega
        subst this; exact qx _
 |succ j ih=>
  by_cases e:i=j+1
  · subst e; exact qx _
  have:=ih (by omega); simp only[cnt]; omega
theorem cnt_lt (eff:Nat→Bool){i j:Nat}(h:i<j)(hi:eff i=true):cnt eff i<cnt eff j:=by
 have h1:=vc7 eff (show i+1≤j from h);simp only[cnt,hi,if_true] at h1
 omega
def hard (eff flt:Nat→Bool)(i:Nat):Bool:=eff i && !flt i
def vdB (ops:List Oper)(A:List (List Nat))(eff flt:Nat→Bool)(j:Nat)(o:Oper)(i:Nat)(p:Oper):Bool:=
 (match p.dst with
  |some d=>(if i=j then !((looks ops o).contains d) else (!((looks ops o).contains d)||((A.getD j []).contains i&&(!(flt i)||hard eff flt j||(A.getD j []).any fun q=>decide (i<q)&&hard eff flt q))||(A.getD i []).contains j)&&(o.dst != some d))
  |none=>true) &&
 (!(eff i&&hard eff flt j&&decide (i<j))||(A.getD j []).contains i)
def vax (ops:List Oper)(eff flt:Nat→Bool):Bool:=
 vau 0 ops&&(topo .text ops&&(topo .gc ops&&topo .any ops))&&(let A:=anc ops; ops.zipIdx.all fun (o,j)=>(!(flt j)||eff j)&&ops.zipIdx.all fun (p,i)=>vdB ops A eff flt j o i p)
def meets (ops:List Oper)(eff flt:Nat→Bool)(j k:Nat):Bool:=
 let A:=anc ops
 (uJ ops.length).all fun i => !eff i||((flt i || !((A.getD j []).contains i)||decide (cnt eff i<k))&&(!((A.getD i []).contains j)||decide (k≤cnt eff i)))
theorem cnt_congr {p q:Nat→Bool}:∀ {N:Nat},(∀ i,i<N→p i=q i)→cnt p N=cnt q N:=by
 intro N
 induction N with
 |zero=>intro _; rfl
 |succ N ih=>intro h; simp only[cnt]; rw[ih fun i hi=>h i (by omega),h N (by omega)]
theorem cnt_add {p q:Nat→Bool}{j:Nat}:∀ {N:Nat},j<N→(∀ i,i≠j→q i=p i)→p j=false→q j=true→cnt q N=cnt p N+1:=by
 intro N
 induction N with
 |zero=>intro h; omega
 |succ N ih=>
  intro hj h hp hq
  simp only[cnt]
  by_cases e:j=N
  · subst e;rw[cnt_congr (p:=q) (q:=p) fun i hi=>h i (by omega),hp,hq]
    simp
  rw[ih (by omega) h hp hq,h N (fun e'=>e e'.symm)]
  omega
theorem cnt_le (p:Nat→Bool):∀ N,cnt p N≤N
 |0=>qx _
 |N+1=>by have:=cnt_le p N; simp only[cnt]; split<;>omega
theorem cnt_all' {p:Nat→Bool}:∀ {N:Nat},cnt p N=N→∀ i,i<N→p i=true:=by
 intro N
 induction N with
 |zero=>intro _ i hi; omega
 |succ N ih=>
  intro h i hi
  simp only[cnt] at h;have:=cnt_le p N
  by_cases e:i=N
  · subst e
    cases hp:p i with
    |true=>rfl
    |false=>rw[hp] at h; simp at h; omega
  refine ih ?_ i (by omega)
  split at h<;>omega
theorem chk_pair {ops:List Oper}{eff flt:Nat→Bool}(h:vax ops eff flt=true){i j:Nat}{o p:Oper}(hj:ops[j]?=some o)(hi:ops[i]?=some p):vdB ops (anc ops) eff flt j o i p=true:=by
 simp only[vax,qJ] at h;have h1:=un.1 h.2 (o,j) (by rw[List.mem_zipIdx_iff_getElem?]; exact hj);simp only[qJ] at h1;have h2:=un.1 h1.2 (p,i) (by rw[List.mem_zipIdx_iff_getElem?]; exact hi);exact h2
theorem chk_flt {ops:List Oper}{eff flt:Nat→Bool}(h:vax ops eff flt=true){j:Nat}{o:Oper}(hj:ops[j]?=some o)(hf:flt j=true):eff j=true:=by
 simp only[vax,qJ] at h;have h1:=un.1 h.2 (o,j) (by rw[List.mem_zipIdx_iff_getElem?]; exact hj);simp only[qJ,hf,qv,uF] at h1;exact h1.1
theorem vcz {ops:List Oper}{eff flt:Nat→Bool}(h:vax ops eff flt=true){i j:Nat}{o p:Oper}{t:Tmp}(hj:ops[j]?=some o)(hi:ops[i]?=some p)(hne:i≠j)(hp:p.dst=some t):o.dst≠some t:=by
 have:=chk_pair h hj hi;simp only[vdB,hp,if_neg hne,qJ,bne_iff_ne] at this;exact this.1.2
theorem chk_hard {ops:List Oper}{eff flt:Nat→Bool}(h:vax ops eff flt=true){i j:Nat}{o p:Oper}(hj:ops[j]?=some o)(hi:ops[i]?=some p)(he:eff i=true)(hh:hard eff flt j=true)(hlt:i<j):i∈(anc ops).getD j []:=by
 have:=chk_pair h hj hi;simp only[vdB,qJ,ut,u9,List.contains_eq_mem,decide_eq_true_eq] at this
 rcases this.2 with h2|h2
 · simp[he,hh,hlt] at h2
 exact h2
theorem chk_look {ops:List Oper}{eff flt:Nat→Bool}(h:vax ops eff flt=true){i j:Nat}{o p:Oper}{t:Tmp}(hj:ops[j]?=some o)(hi:ops[i]?=some p)(hp:p.dst=some t)(ht:t∈looks ops o):
 i≠j∧(j∈(anc ops).getD i []∨(i∈(anc ops).getD j []∧(flt i=false∨hard eff flt j=true∨∃ q,q∈(anc ops).getD j []∧i<q∧hard eff flt q=true))):=by
 have hc:=chk_pair h hj hi;simp only[vdB,hp,qJ] at hc
 have hij:i≠j:=by
  intro e
  subst e;have:=hc.1;simp only[if_true,u9,List.contains_eq_mem,decide_eq_false_iff_not] at this;exact this ht
 refine⟨hij,?_⟩;have hc1:=hc.1;rw[if_neg hij] at hc1;simp only[qJ,ut,u9,List.contains_eq_mem,decide_eq_false_iff_not,decide_eq_true_eq,List.any_eq_true] at hc1
 rcases hc1.1 with (h|⟨h1,h2⟩)|h
 · exact absurd ht h
 · refine .inr ⟨h1,?_⟩
   rcases h2 with (h2|h2)|⟨q,hq,h3,h4⟩
   · exact .inl h2
   · exact .inr (.inl h2)
   exact .inr (.inr ⟨q,hq,h3,h4⟩)
 exact .inl h
section
variable {P:Program} {n k0:Nat} {Q:Exit→Fr→ze→Prop} {ops:List Oper} {eff flt:Nat→Bool} (F:Nat→Fr) (r:Nat→AV) (S:Nat→ze)
theorem vdv (hF:∀ j o,ops[j]?=some o→F (j+1)=Zn (F j) o.dst (r j))(t:Tmp):∀ j,j≤ops.length→(∀ i o,i<j→ops[i]?=some o→o.dst≠some t)→F j t=F 0 t:=by
 intro j
 induction j with
 |zero=>intro _ _; rfl
 |succ j ih=>
  intro hj h
  obtain⟨o,ho⟩:∃ o,ops[j]?=some o:=⟨_,qX (by omega)⟩
  rw[hF j o ho];have hne:=h j o (by omega) ho;rw[← ih (by omega) fun i o hi=>h i o (by omega)]
  cases hd:o.dst with
  |none=>rfl
  |some d=>
   have:t≠d:=fun e=>hne (by rw[hd,e])
   simp[Zn,upd,this]
theorem frame_new (hF:∀ j o,ops[j]?=some o→F (j+1)=Zn (F j) o.dst (r j)){t:Tmp}{i:Nat}{p:Oper}(hi:ops[i]?=some p)(hp:p.dst=some t)(huniq:∀ k o,ops[k]?=some o→k≠i→o.dst≠some t):
 ∀ j,j≤ops.length→i<j→F j t=r i:=by
 intro j
 induction j with
 |zero=>intro _ h; omega
 |succ j ih=>
  intro hj hij
  obtain⟨o,ho⟩:∃ o,ops[j]?=some o:=⟨_,qX (by omega)⟩
  rw[hF j o ho]
  by_cases e:i=j
  · subst e
    rw[hi] at ho; cases ho
    rw[hp]; simp[Zn,upd]
  have hne:=huniq j o ho (fun h=>e h.symm);rw[← ih (by omega) (by omega)]
  cases hd:o.dst with
  |none=>rfl
  |some d=>
   have:t≠d:=fun h=>hne (by rw[hd,h])
   simp[Zn,upd,this]
def Made (T:TT)(o:Oper)(F:Fr)(σ:ze)(r:AV)(σ':ze):Prop:=
 (∃ e,o.op=.alloc e∧vbQ T e σ=some (r,σ'))∨(∃ e x,o.op=.box e x∧evBox T e (ev F x) σ=some (r,σ'))∨∃ t len ps,o.op=.buildSlice t len ps∧zV T t len (ps.toList.map fun p=>(p.1,ev F p.2)) σ=some (r,σ')
structure Mid (lo:Nat)(E:Env)(listed:Array Bool)(a:Act)(m:Nat)(fb:Nat→Nat):Prop where
 size:listed.size=ops.length
 closed:Closed ops fun j=>listed.getD j false=true
 mle:m≤ops.length
 done:∀ i,i<m→eff i=true→listed.getD i false=true
 none:∀ i,m≤i→hard eff flt i=true→listed.getD i false=false
 store:SR E (S (cnt eff m))
 tsize:a.tmps.size=n
 defers:a.defers=Φ.ds
 new:∀ t j o,ops[j]?=some o→listed.getD j false=true→¬ (flt j=true∧m≤j)→o.dst=some t→VR E (r j) (a.tmps.getD t undef)
 fl:∀ j o,ops[j]?=some o→listed.getD j false=true→flt j=true→m≤j→∃ cs v,S (cnt eff j+1)=S (cnt eff j)++[.cells 0 cs]∧Flt lo E cs (S (cnt eff j)).length (r j) v (fb j)∧∀ t,o.dst=some t→a.tmps.getD t undef=v
 fne:∀ i j,listed.getD i false=true→flt i=true→m≤i→listed.getD j false=true→flt j=true→m≤j→i≠j→fb i≠fb j
 old:∀ t,(∀ j o,ops[j]?=some o→listed.getD j false=true→o.dst≠some t)→VR E (F 0 t) (a.tmps.getD t undef)
theorem ZG {listed:Array Bool}{j i:Nat}(hj:j<listed.size):(listed.setIfInBounds j true).getD i false=(listed.getD i false||decide (i=j)):=by
 by_cases e:i=j
 · subst e; simp[hj]
 simp[uS (show j≠i from fun h=>e h.symm),e]
theorem Mid.advance (hchk:vax ops eff flt=true){E0:Env}{listed:Array Bool}{a:Act}{fb:Nat→Nat}{m':Nat}(hm':m'≤ops.length):
 ∀ (d m:Nat) (E:Env),m+d=m'→Mid (Φ:=Φ) (n:=n) (ops:=ops) (eff:=eff) (flt:=flt) F r S E0.w.heap.size E listed a m fb→XU k0 E0 E→(∀ i,m≤i→i<m'→eff i=true→listed.getD i false=true∧flt i=true)→
  ∃ E',E'.w=E.w∧Mid (Φ:=Φ) (n:=n) (ops:=ops) (eff:=eff) (flt:=flt) F r S E0.w.heap.size E' listed a m' fb∧XU k0 E0 E':=by
 intro d
 induction d with
 |zero=>intro m E e hm hx _; have:m=m':=by omega
        subst this; exact⟨E,rfl,hm,hx⟩
 |succ d ih=>
  intro m E e hm hx h
  obtain⟨o,ho⟩:∃ o,ops[m]?=some o:=⟨_,qX (by omega)⟩
  cases he:eff m with
  |false=>
   have hf:flt m=false:=by
    cases hf:flt m with
    |false=>rfl
    |true=>rw[chk_flt hchk ho hf] at he; cases he
   refine ih (m+1) E (by omega) { hm with mle:=by omega,done:=fun i hi hei=>?_,none:=fun i hi=>hm.none i (by omega),store:=?_,new:=fun t j p hp hl hn=>hm.new t j p hp hl fun hh=>hn ⟨hh.1,?_⟩,fl:=fun j p hp hl hfl hj=>hm.fl j p hp hl hfl (by omega),fne:=fun i j h1 h2 h3 h4 h5 h6=>hm.fne i j h1 h2 (by omega) h4 h5 (by omega) } hx fun i hi hi'=>h i (by omega) hi'
   · by_cases e:i=m
     · subst e; rw[he] at hei; cases hei
     exact hm.done i (by omega) hei
   · have:cnt eff (m+1)=cnt eff m:=by simp[cnt,he]
     rw[this]; exact hm.store
   have:j≠m:=by rintro rfl; rw[hf] at hh; cases hh.1
   omega
  |true=>
   obtain⟨hl,hf⟩:=h m (qx _) (by omega) he;obtain⟨cs,v,e1,e3,e4⟩:=hm.fl m o ho hl hf (qx _);obtain⟨hS,hv⟩:=hm.store.adopt e3
   have hcnt:cnt eff (m+1)=cnt eff m+1:=by simp[cnt,he]
   refine ih (m+1) (E.new E.w (some (fb m))) (by omega) { hm with mle:=by omega,done:=fun i hi hei=>?_,none:=fun i hi=>hm.none i (by omega),store:=by rw[hcnt,e1]; exact hS,new:=fun t j p hp hlj hn hd=>?_,fl:=fun j p hp hlj hfl hj=>?_,fne:=fun i j h1 h2 h3 h4 h5 h6=>hm.fne i j h1 h2 (by omega) h4 h5 (by omega),old:=fun t ht=>(hm.old t ht).extV (ExtV.adopt E _) } (hx.adopt e3.lo) fun i hi hi'=>h i (by omega) hi'
   · by_cases e:i=m
     · subst e; exact hl
     exact hm.done i (by omega) hei
   · by_cases e:j=m
     · subst e
       rw[ho] at hp; cases hp
       rw[e4 t hd]; exact hv
     exact (hm.new t j p hp hlj (fun hh=>hn ⟨hh.1,by omega⟩) hd).extV (ExtV.adopt E _)
   obtain⟨cs',v',f1,f3,f4⟩:=hm.fl j p hp hlj hfl (by omega);exact⟨cs',v',f1,f3.adopt (hm.fne j m hlj hfl (by omega) hl hf (qx _) (by omega)),f4⟩
theorem wpAny_mid {T:TT}(hT:TOK P T){md:Region.Mode}(hchk:vax ops eff flt=true)(hF:∀ j o,ops[j]?=some o→F (j+1)=Zn (F j) o.dst (r j))(hd:∀ o∈ops,∀ t,o.dst=some t→t<n)
 (heff:∀ j o,ops[j]?=some o→hard eff flt j=true→SF Φ P n ops o (F j) (S (cnt eff j)) (r j) (S (cnt eff j+1)))
 (hflt:∀ j o,ops[j]?=some o→flt j=true→o.guard=none∧Made T o (F j) (S (cnt eff j)) (r j) (S (cnt eff j+1)))
 (hpure:∀ j o,ops[j]?=some o→eff j=false→∀ k,k≤cnt eff ops.length→meets ops eff flt j k=true→SF Φ P n ops o (F j) (S k) (r j) (S k))
 (hQ:Q .normal (F ops.length) (S (cnt eff ops.length))) (E0:Env):
 ∀ (fuel:Nat) (listed:Array Bool) (E:Env) (a:Act) (m:Nat) (fb:Nat→Nat),XU k0 E0 E→Mid (Φ:=Φ) (n:=n) (ops:=ops) (eff:=eff) (flt:=flt) F r S E0.w.heap.size E listed a m fb→ops.length≤cnt (fun i=>listed.getD i false) ops.length+fuel→
  wpAnyIn (fen Φ) 0 P md ops.toArray (post Φ n k0 Q E0) fuel listed a E.w:=by
 have hback:vau 0 ops=true:=by simp only[vax,qJ] at hchk; exact hchk.1.1
 have htopo:topo md ops=true:=by
  simp only[vax,qJ] at hchk
  cases md with
  |text=>exact hchk.1.2.1
  |gc=>exact hchk.1.2.2.1
  |any=>exact hchk.1.2.2.2
 -- the end
 have fin:∀ listed E a m fb,XU k0 E0 E→Mid (Φ:=Φ) (n:=n) (ops:=ops) (eff:=eff) (flt:=flt) F r S E0.w.heap.size E listed a m fb→(∀ j,j<ops.length→listed.getD j false=true)→post Φ n k0 Q E0 .normal a E.w:=by
  intro listed E1 a m fb hx1 hm1 hall
  obtain⟨E,hw,hm,hx⟩:=Mid.advance F r S hchk (qx _) (ops.length-m) m E1 (by have:=hm1.mle; omega) hm1 hx1 fun i h1 h2 he=>by
   refine⟨hall i h2,?_⟩
   cases hf:flt i with
   |true=>rfl
   |false=>have:=hm1.none i h1 (by simp[hard,he,hf]); rw[hall i h2] at this; cases this
  rw[← hw];refine⟨E,F ops.length,S (cnt eff ops.length),rfl,hm.store,⟨hm.tsize,hm.defers,fun t=>?_⟩,hx,hQ⟩
  by_cases hw:∃ (i:Nat) (p:Oper),ops[i]?=some p∧p.dst=some t
  · obtain⟨i,p,hi,hp⟩:=hw;have hilt:i<ops.length:=(qQ.1 hi).1;rw[frame_new F r hF hi hp (fun k o hk hki=>vcz hchk hk hi (Ne.symm hki) hp) _ (qx _) hilt];exact hm.new t i p hi (hall i hilt) (fun hh=>by omega) hp
  have hno:∀ (i:Nat) (o:Oper),ops[i]?=some o→o.dst≠some t:=fun i o hi ho=>hw ⟨i,o,hi,ho⟩
  rw[vdv F r hF t _ (qx _) fun i o _ hi=>hno i o hi]
  exact hm.old t fun j o hj _=>hno j o hj
 -- nothing is ready only when all is done
 have full:∀ listed E a m fb,Mid (Φ:=Φ) (n:=n) (ops:=ops) (eff:=eff) (flt:=flt) F r S E0.w.heap.size E listed a m fb→Region.ready md ops.toArray listed=[]→∀ j,j<ops.length→listed.getD j false=true:=by
  intro listed E a m fb hm hr
  obtain⟨L,hL⟩:=topo_spec htopo
  suffices h:∀ q j,L j=q→j<ops.length→listed.getD j false=true from fun j=>h _ j rfl
  intro q
  induction q using Nat.strongRecOn with
  |_ q ih=>
   intro j hq hj
   cases hc:listed.getD j false with
   |true=>rfl
   |false=>
    exfalso
    obtain⟨o,ho⟩:∃ o,ops[j]?=some o:=⟨_,qX hj⟩
    have:j∈Region.ready md ops.toArray listed:=mem_ready.2 ⟨by
     have:j<listed.size:=by rw[hm.size]; exact hj
     simpa [this] using hc,o,by simpa using ho,fun e he hb=>by
     obtain⟨h1,h2⟩:=hL j o ho e he hb
     exact ih (L e.on) (by omega) e.on rfl h2⟩
    rw[hr] at this;cases this
 intro fuel
 induction fuel with
 |zero=>
  intro listed E a m fb hx hm hcnt
  have hall:=cnt_all' (p:=fun i=>listed.getD i false) (N:=ops.length) (by have:=cnt_le (fun i=>listed.getD i false) ops.length; omega);refine⟨?_,fin listed E a m fb hx hm hall⟩
  cases hr:Region.ready md ops.toArray listed with
  |nil=>rfl
  |cons i l=>
   exfalso
   have:i∈Region.ready md ops.toArray listed:=by rw[hr]; simp
   obtain⟨h1,o,h2,_⟩:=mem_ready.1 this
   have hlt:i<ops.length:=by simpa using (Array.getElem?_eq_some_iff.1 h2).1
   have:=hall i hlt
   have hl:i<listed.size:=by rw[hm.size]; exact hlt
   simp[hl] at h1 this
   rw[h1] at this; cases this
 |succ fuel ih=>
  intro listed E1 a m1 fb hx1 hm1 hcnt
  refine⟨fun hr=>fin listed E1 a m1 fb hx1 hm1 (full listed E1 a m1 fb hm1 hr),fun j hj=>?_⟩;obtain⟨hnl,o,ho',hafter⟩:=mem_ready.1 hj
  have ho:ops[j]?=some o:=by simpa using ho'
  have hjlt:j<ops.length:=(qQ.1 ho).1
  have hjl:j<listed.size:=by rw[hm1.size]; exact hjlt
  have hjf:listed.getD j false=false:=by simpa [hjl] using hnl
  -- the listed ones and j
  have hclosed':Closed ops fun i=>listed.getD i false=true∨i=j:=by
   intro k p hk hx e he ha
   rcases hx with hx|hx
   · exact .inl (hm1.closed k p hk hx e he ha)
   subst hx
   rw[ho] at hk; cases hk
   exact .inl (hafter e he (vcQ ha md))
  have before:∀ i,i∈(anc ops).getD j []→listed.getD i false=true:=by
   intro i hi
   rcases anc_spec hi hclosed' (.inr rfl) with h|h
   · exact h
   exact absurd (anc_lt hback hjlt hi) (by omega)
  have behind:∀ i,i<ops.length→j∈(anc ops).getD i []→listed.getD i false=false:=by
   intro i hil hi
   cases hc:listed.getD i false with
   |false=>rfl
   |true=>
    have:=anc_spec hi hm1.closed hc
    rw[hjf] at this; cases this
  have hclosed2:Closed ops fun i=>(listed.setIfInBounds j true).getD i false=true:=by
   intro k p hk hl e he ha
   simp only[ZG hjl,ut,decide_eq_true_eq] at hl ⊢;refine .inl ?_
   rcases hl with hl|hl
   · exact hm1.closed k p hk hl e he ha
   subst hl
   rw[ho] at hk; cases hk
   exact hafter e he (vcQ ha md)
  have hcnt2:ops.length≤cnt (fun i=>(listed.setIfInBounds j true).getD i false) ops.length+fuel:=by
   have:=cnt_add (p:=fun i=>listed.getD i false) (q:=fun i=>(listed.setIfInBounds j true).getD i false) hjlt (fun i hi=>by simp[ZG hjl,hi]) hjf (by simp[ZG hjl])
   omega
  -- effects at m and behind it that are listed are cells
  have soft:∀ i,m1≤i→eff i=true→listed.getD i false=true→flt i=true:=by
   intro i h1 he hl
   cases hf:flt i with
   |true=>rfl
   |false=>have:=hm1.none i h1 (by simp[hard,he,hf]); rw[hl] at this; cases this
  -- a hard effect that is listed is ahead of m
  have hardlt:∀ i,hard eff flt i=true→listed.getD i false=true→i<m1:=by
   intro i h1 hl
   rcases ve i m1 with h|h
   · exact h
   rw[hm1.none i h h1] at hl; cases hl
  have mlej:eff j=true→m1≤j:=by
   intro he
   rcases ve j m1 with h|h
   · rw[hm1.done j h he] at hjf; cases hjf
   exact h
  -- the frame that it looks at
  have look:∀ E m,Mid (Φ:=Φ) (n:=n) (ops:=ops) (eff:=eff) (flt:=flt) F r S E0.w.heap.size E listed a m fb→m1≤m→(hard eff flt j=true→m=j)→FR Φ E n (only (looks ops o) (F j)) a:=by
   intro E m hm hmm hmj
   refine⟨hm.tsize,hm.defers,fun t=>?_⟩
   by_cases ht:t∈looks ops o
   · rw[vbo ht]
     by_cases hw:∃ (i:Nat) (p:Oper),ops[i]?=some p∧p.dst=some t
     · obtain⟨i,p,hi,hp⟩:=hw;have hilt:i<ops.length:=(qQ.1 hi).1
       have huniq:∀ (k:Nat) (q:Oper),ops[k]?=some q→k≠i→q.dst≠some t:=fun k q hk hki=>vcz hchk hk hi (Ne.symm hki) hp
       obtain⟨hij,h|⟨h,h'⟩⟩:=chk_look hchk ho hi hp ht
       · have hlt:=anc_lt hback hilt h
         rw[vdv F r hF t j (by omega) fun k q hk hq hqt=>by
          by_cases e:k=i
          · omega
          exact huniq k q hq e hqt]
         refine hm.old t fun k q hq hl hqt=>?_
         by_cases e:k=i
         · subst e
           rw[behind k hilt h] at hl; cases hl
         exact huniq k q hq e hqt
       have hlt:=anc_lt hback hjlt h;rw[frame_new F r hF hi hp huniq j (by omega) hlt];refine hm.new t i p hi (before i h) (fun hh=>?_) hp
       rcases h' with h'|h'|⟨q,h1,h2,h3⟩
       · rw[h'] at hh; cases hh.1
       · have:=hmj h'; omega
       have:=hardlt q h3 (before q h1); omega
     have hno:∀ (i:Nat) (q:Oper),ops[i]?=some q→q.dst≠some t:=fun i q hi hq=>hw ⟨i,q,hi,hq⟩
     rw[vdv F r hF t j (by omega) fun i q _ hi=>hno i q hi]
     exact hm.old t fun k q hk _=>hno k q hk
   simp only[only,ht,if_false]; exact .u _
  -- one step of an operation that has its fact
  have step:∀ (E:Env) (m m':Nat) (s':ze),XU k0 E0 E→Mid (Φ:=Φ) (n:=n) (ops:=ops) (eff:=eff) (flt:=flt) F r S E0.w.heap.size E listed a m fb→FR Φ E n (only (looks ops o) (F j)) a→flt j=false→SF Φ P n ops o (F j) (S (cnt eff m)) (r j) s'→s'=S (cnt eff m')→m≤m'→m'≤ops.length→
   (∀ i,i<m'→eff i=true→i<m∨i=j)→(∀ i,m'≤i→hard eff flt i=true→i≠j)→
   wpOpIn (fen Φ) 0 P ops.toArray (post Φ n k0 Q E0) j (wpAnyIn (fen Φ) 0 P md ops.toArray (post Φ n k0 Q E0) fuel (listed.setIfInBounds j true)) a E.w:=by
   intro E m m' s' hx hm hlook hfj hsf hs' hmm hm' hdone hnone
   have:=hsf E a hm.store hlook (wpAnyIn (fen Φ) 0 P md ops.toArray (post Φ n k0 Q E0) fuel (listed.setIfInBounds j true)) (post Φ n k0 Q E0) fun E' cv h1 h2 h3=>by
    refine ih _ E' _ m' fb (hx.trans (h3.mono hx.n)) { size:=by simpa using hm.size,closed:=hclosed2,mle:=hm',done:=fun i hi he=>?_,none:=fun i hi he=>?_,store:=by rw[← hs']; exact h1,tsize:=by cases o.dst<;>simp[Act.put,hm.tsize],defers:=by cases o.dst<;>simp[Act.put,hm.defers],new:=?_,fl:=?_,fne:=?_,old:=?_ } hcnt2
    · simp only[ZG hjl,ut,decide_eq_true_eq]
      rcases hdone i hi he with h|h
      · exact .inl (hm.done i h he)
      exact .inr h
    · simp only[ZG hjl,Bool.or_eq_false_iff,decide_eq_false_iff_not];exact⟨hm.none i (by omega) he,hnone i hi he⟩
    · intro t k p hk hl hnf hp
      simp only[ZG hjl,ut,decide_eq_true_eq] at hl
      by_cases e:k=j
      · subst e
        rw[ho] at hk; cases hk
        have htn:=hd o (List.mem_of_getElem? ho) t hp
        have:(a.put o.dst cv).tmps.getD t undef=cv:=by rw[hp]; simp[Act.put,hm.tsize,htn]
        rw[this]; exact h2
      have hne:o.dst≠some t:=vcz hchk ho hk e hp
      have:(a.put o.dst cv).tmps.getD t undef=a.tmps.getD t undef:=by
       cases hdst:o.dst with
       |none=>rfl
       |some d=>
        have:d≠t:=fun h=>hne (by rw[hdst,h])
        simp[Act.put,uS this]
      rw[this];refine (hm.new t k p hk (hl.resolve_right e) (fun hh=>?_) hp).ext h3;have hke:=chk_flt hchk hk hh.1
      have:¬ m'≤k:=fun h=>hnf ⟨hh.1,h⟩
      rcases hdone k (by omega) hke with h|h
      · omega
      exact e h
    · intro k p hk hl hf hmk
      have hkj:k≠j:=by intro e; rw[e,hfj] at hf; cases hf
      simp only[ZG hjl,ut,decide_eq_true_eq,hkj,or_false] at hl;obtain⟨cs,v,e1,e3,e4⟩:=hm.fl k p hk hl hf (by omega);refine⟨cs,v,e1,e3.ext h3,fun t ht=>?_⟩;have hne:o.dst≠some t:=vcz hchk ho hk hkj ht
      have:(a.put o.dst cv).tmps.getD t undef=a.tmps.getD t undef:=by
       cases hdst:o.dst with
       |none=>rfl
       |some d=>
        have:d≠t:=fun h=>hne (by rw[hdst,h])
        simp[Act.put,uS this]
      rw[this]; exact e4 t ht
    · intro i k g1 g2 g3 g4 g5 g6 hik
      have hij:i≠j:=by intro e; rw[e,hfj] at g2; cases g2
      have hkj:k≠j:=by intro e; rw[e,hfj] at g5; cases g5
      simp only[ZG hjl,ut,decide_eq_true_eq,hij,hkj,or_false] at g1 g4;exact hm.fne i k g1 g2 (by omega) g4 g5 (by omega) hik
    intro t hno
    have hot:o.dst≠some t:=hno j o ho (by simp[ZG hjl])
    have:(a.put o.dst cv).tmps.getD t undef=a.tmps.getD t undef:=by
     cases hdst:o.dst with
     |none=>rfl
     |some d=>
      have:d≠t:=fun h=>hot (by rw[hdst,h])
      simp[Act.put,uS this]
    rw[this];exact (hm.old t fun k p hk hl=>hno k p hk (by simp[ZG hjl,hl])).ext h3
   unfold wpOpIn;simp only[ho']
   split
   · rename_i hw; rw[if_pos hw] at this; exact this
   rename_i hw; rw[if_neg hw] at this; exact⟨fun _ _=>trivial,this⟩
  cases hh:hard eff flt j with
  |true=>
   have he:eff j=true:=by simp only[hard,qJ] at hh; exact hh.1
   have hfj:flt j=false:=by simp only[hard,qJ,u9] at hh; exact hh.2
   have hmj:=mlej he
   obtain⟨E,hw,hm,hx⟩:=Mid.advance F r S hchk (show j≤ops.length by omega) (j-m1) m1 E1 (by omega) hm1 hx1 fun i h1 h2 hei=>by
    obtain⟨q,hq⟩:∃ q,ops[i]?=some q:=⟨_,qX (by omega)⟩
    have hl:=before i (chk_hard hchk ho hq hei hh h2);exact⟨hl,soft i h1 hei hl⟩
   rw[← hw]
   have hcj:cnt eff (j+1)=cnt eff j+1:=by simp[cnt,he]
   exact step E j (j+1) _ hx hm (look E j hm hmj fun _=>rfl) hfj (heff j o ho hh) (by rw[hcj]) (by omega) (by omega) (fun i hi _=>by omega) (fun i hi _=>by omega)
  |false=>
  cases hf:flt j with
  |true=>
   obtain⟨hg,hal⟩:=hflt j o ho hf;have he:=chk_flt hchk ho hf;have hmj:=mlej he
   obtain⟨cs,w',v,g2,g3,g4,g5,g6⟩:∃ cs w' v,S (cnt eff j+1)=S (cnt eff j)++[.cells 0 cs]∧(execOp a.eval o).run P E1.w=.ok (.value v) w'∧XB E1.w w'∧E1.w.heap.size<w'.heap.size∧Flt E1.w.heap.size { E1 with w:=w' } cs (S (cnt eff j)).length (r j) v E1.w.heap.size:=by
    rcases hal with ⟨e,hop,hal⟩|⟨e,x,hop,hal⟩|⟨t,len,ps,hop,hal⟩
    · obtain⟨cs,w',v,g2,g3,g4,g5,g6⟩:=run_float (P:=P) hT hm1.store hal;refine⟨cs,w',v,g2,?_,g4,g5,g6⟩;obtain⟨dst,op,ty,pos,after,guard⟩:=o;simp only at hop;subst hop;simp only[execOp,qy,g3,ql,qR]
    · have hlk:=(look E1 m1 hm1 (qx _) fun h=>by rw[hh] at h; cases h).ev x
      have hmem:x∈o.op.operands.toList:=by rw[hop]; simp[Op.operands]
      have hev:ev (only (looks ops o) (F j)) x=ev (F j) x:=vc5 (fun t ht=>vbo (uT _ ht)) x hmem;rw[hev] at hlk;obtain⟨cs,w',v,g2,g3,g4,g5,g6⟩:=run_floatB (P:=P) hm1.store hlk hal;refine⟨cs,w',v,g2,?_,g4,g5,g6⟩;obtain⟨dst,op,ty,pos,after,guard⟩:=o;simp only at hop;subst hop;simp only[execOp,qy,g3,ql,qR]
    have hlk:=fun x=>(look E1 m1 hm1 (qx _) fun h=>by rw[hh] at h; cases h).ev x
    have hps:=parts_ev hlk ps
    have hev:(ps.toList.map fun p=>(p.1,ev (only (looks ops o) (F j)) p.2))=ps.toList.map fun p=>(p.1,ev (F j) p.2):=by
     refine vn fun p hp=>?_
     have hmem:p.2∈o.op.operands.toList:=by
      rw[hop];have:p.2∈ps.toList.map (·.2):=List.mem_map_of_mem hp
      simpa [Op.operands] using this
     rw[vc5 (F:=only (looks ops o) (F j)) (G:=F j) (fun t ht=>vbo (uT _ ht)) p.2 hmem]
    rw[hev] at hps;obtain⟨cs,w',v,g2,g3,g4,g5,g6⟩:=run_floatS (P:=P) hT hm1.store hps hal;refine⟨cs,w',v,g2,?_,g4,g5,g6⟩;obtain⟨dst,op,ty,pos,after,guard⟩:=o;simp only at hop;subst hop;simp only[execOp,qy,g3,ql,qR]
   obtain⟨hS',hx'⟩:=hm1.store.grew g4
   have hput:∀ t,(a.put o.dst v).tmps.getD t undef=if o.dst=some t then v else a.tmps.getD t undef:=by
    intro t
    split
    · rename_i hp
      have htn:=hd o (List.mem_of_getElem? ho) t hp
      rw[hp]; simp[Act.put,hm1.tsize,htn]
    rename_i hne
    cases hdst:o.dst with
    |none=>rfl
    |some d=>
     have:d≠t:=fun h=>hne (by rw[hdst,h])
     simp[Act.put,uS this]
   have key:wpAnyIn (fen Φ) 0 P md ops.toArray (post Φ n k0 Q E0) fuel (listed.setIfInBounds j true) (a.put o.dst v) w':=by
    refine ih _ { E1 with w:=w' } _ m1 (fun i=>if i=j then E1.w.heap.size else fb i) (hx1.trans (hx'.mono hx1.n)) { size:=by simpa using hm1.size,closed:=hclosed2,mle:=hm1.mle,done:=fun i hi he'=>?_,none:=fun i hi he'=>?_,store:=hS',tsize:=by cases o.dst<;>simp[Act.put,hm1.tsize],defers:=by cases o.dst<;>simp[Act.put,hm1.defers],new:=?_,fl:=?_,fne:=?_,old:=?_ } hcnt2
    · simp only[ZG hjl,ut,decide_eq_true_eq];exact .inl (hm1.done i hi he')
    · simp only[ZG hjl,Bool.or_eq_false_iff,decide_eq_false_iff_not];exact⟨hm1.none i hi he',by rintro rfl; rw[hh] at he'; cases he'⟩
    · intro t k p hk hl hnf hp
      simp only[ZG hjl,ut,decide_eq_true_eq] at hl
      have hkj:k≠j:=by rintro rfl; exact hnf ⟨hf,hmj⟩
      rw[hput,if_neg (vcz hchk ho hk hkj hp)];exact (hm1.new t k p hk (hl.resolve_right hkj) hnf hp).ext hx'
    · intro k p hk hl hfk hmk
      simp only[ZG hjl,ut,decide_eq_true_eq] at hl
      by_cases e:k=j
      · subst e
        rw[ho] at hk; cases hk
        exact⟨cs,v,g2,by simp only[if_true]; exact { g6 with lo:=hx1.size },fun t ht=>by rw[hput,if_pos ht]⟩
      obtain⟨cs',v',e1,e3,e4⟩:=hm1.fl k p hk (hl.resolve_right e) hfk hmk;exact⟨cs',v',e1,by simp only[e,if_false]; exact e3.ext hx',fun t ht=>by rw[hput,if_neg (vcz hchk ho hk e ht)]; exact e4 t ht⟩
    · intro i k h1 h2 h3 h4 h5 h6 hik
      simp only[ZG hjl,ut,decide_eq_true_eq] at h1 h4
      have lt:∀ q,q≠j→listed.getD q false=true→flt q=true→m1≤q→fb q<E1.w.heap.size:=by
       intro q hq hl hfq hmq
       have hql:q<ops.length:=by
        rcases ve q ops.length with h|h
        · exact h
        rw[show listed.getD q false=false by simp[show ¬ q<listed.size by have:=hm1.size; omega]] at hl; cases hl
       obtain⟨p,hp⟩:∃ p,ops[q]?=some p:=⟨_,qX hql⟩
       obtain⟨_,_,_,e3,_⟩:=hm1.fl q p hp hl hfq hmq;exact e3.hi
      by_cases ei:i=j
      · have ek:k≠j:=by rintro rfl; exact hik ei
        have:=lt k ek (h4.resolve_right ek) h5 h6
        simp only[ei,ek,if_true,if_false]; omega
      by_cases ek:k=j
      · have:=lt i ei (h1.resolve_right ei) h2 h3
        simp only[ei,ek,if_true,if_false]; omega
      simp only[ei,ek,if_false];exact hm1.fne i k (h1.resolve_right ei) h2 h3 (h4.resolve_right ek) h5 h6 hik
    intro t hno
    have hot:o.dst≠some t:=hno j o ho (by simp[ZG hjl]);rw[hput,if_neg hot];exact (hm1.old t fun k p hk hl=>hno k p hk (by simp[ZG hjl,hl])).ext hx'
   have hwant:Region.wanted o (yielded ops.toArray a.tmps)=true:=by simp[Region.wanted,hg]
   unfold wpOpIn;simp only[ho'];rw[if_pos hwant];refine vaB (fun c hc=>by rcases hal with ⟨e,hop,_⟩|⟨e,x,hop,_⟩|⟨t,len,ps,hop,_⟩<;>rw[hop] at hc<;>cases hc) ?_;rw[g3];exact key
  |false=>
   have he:eff j=false:=by simpa [hard,hf] using hh
   refine step E1 m1 m1 _ hx1 hm1 (look E1 m1 hm1 (qx _) fun h=>by rw[hh] at h; cases h) hf (hpure j o ho he _ ?_ ?_) rfl (qx _) hm1.mle (fun i hi _=>.inl hi) (fun i hi h1 h2=>by subst h2; rw[hh] at h1; cases h1)
   · exact vc7 eff hm1.mle
   simp only[meets]
   refine un.2 fun i hi=>?_
   have hil:i<ops.length:=by simpa using hi
   cases hei:eff i with
   |false=>simp
   |true=>
    simp only[qv,uF,qJ,ut,u9,List.contains_eq_mem,decide_eq_false_iff_not,decide_eq_true_eq]
    constructor
    · by_cases h:i∈(anc ops).getD j []
      · cases hfi:flt i with
        |true=>exact .inl (.inl rfl)
        |false=>exact .inr (cnt_lt eff (hardlt i (by simp[hard,hei,hfi]) (before i h)) hei)
      exact .inl (.inr h)
    by_cases h:j∈(anc ops).getD i []
    · refine .inr (vc7 eff ?_)
      rcases ve i m1 with h1|h1
      · have:=hm1.done i h1 hei
        rw[behind i hil h] at this; cases this
      exact h1
    exact .inl h
def AnyW (Φ:Ctx)(P:Program)(n k0:Nat)(ops:List Oper)(Q:Exit→Fr→ze→Prop)(F:Fr)(σ:ze):Prop:=
 ∀ E a,k0≤E.n→SR E σ→FR Φ E n F a→∀ md,wpAnyIn (fen Φ) 0 P md ops.toArray (post Φ n k0 Q E) ops.toArray.size (u5 ops.toArray.size false) a E.w.drew
theorem awp_of_any {F0:Fr}{σ0:ze}{id:Nat}(h:AnyW Φ P n k0 ops Q F0 σ0):awp Φ P n k0 (.region id ops.toArray true) Q F0 σ0:=by
 intro E a hk0 hS hF0
 refine wpIn_region_draw fun t=>?_
 have lin:∀ md t,wpOpsIn (fen Φ) 0 P ops.toArray (post Φ n k0 Q E) (Region.linearise md ops.toArray t) a E.w.drew:=fun md t=>wpAnyIn_sound ops.toArray.size t _ a _ (h E a hk0 hS hF0 md)
 unfold Region.schedule
 split
 · exact lin _ _
 exact lin _ _
theorem any_drawn {T:TT}(hT:TOK P T)(hchk:vax ops eff flt=true)(hF:∀ j o,ops[j]?=some o→F (j+1)=Zn (F j) o.dst (r j))(hd:∀ o∈ops,∀ t,o.dst=some t→t<n)
 (heff:∀ j o,ops[j]?=some o→hard eff flt j=true→SF Φ P n ops o (F j) (S (cnt eff j)) (r j) (S (cnt eff j+1)))
 (hflt:∀ j o,ops[j]?=some o→flt j=true→o.guard=none∧Made T o (F j) (S (cnt eff j)) (r j) (S (cnt eff j+1)))
 (hpure:∀ j o,ops[j]?=some o→eff j=false→∀ k,k≤cnt eff ops.length→meets ops eff flt j k=true→SF Φ P n ops o (F j) (S k) (r j) (S k))
 (hQ:Q .normal (F ops.length) (S (cnt eff ops.length))):AnyW Φ P n k0 ops Q (F 0) (S 0):=by
 intro E a hk0 hS hF0 md
 obtain⟨hS1,hx1⟩:=hS.grew (XB.drew E.w)
 have hfalse:∀ i,(u5 ops.toArray.size false).getD i false=false:=by
  intro i; by_cases h:i<ops.length<;>simp[h]
 have mid:Mid (Φ:=Φ) (n:=n) (ops:=ops) (eff:=eff) (flt:=flt) F r S E.w.heap.size { E with w:=E.w.drew } (u5 ops.toArray.size false) a 0 (fun _=>0):=
  { size:=by simp
    closed:=fun j o _ h=>by simp only[hfalse] at h; cases h
    mle:=qU _
    done:=fun i h=>by omega
    none:=fun i _ _=>hfalse i
    store:=hS1
    tsize:=hF0.size
    defers:=hF0.defers
    new:=fun t j o _ h=>by simp only[hfalse] at h; cases h
    fl:=fun j o _ h=>by simp only[hfalse] at h; cases h
    fne:=fun i j h=>by simp only[hfalse] at h; cases h
    old:=fun t _=>(hF0.tmps t).ext hx1 }
 exact wpAny_mid F r S hT hchk hF hd heff hflt hpure hQ E ops.toArray.size _ { E with w:=E.w.drew } a 0 _ (hx1.mono hk0) mid (by simp)
end
end AM
end
section
namespace AM
variable {Φ:Ctx}
open Go.RowKit
def memFree (o:Op):Bool:=
 match o with
 |.move _|.assign _|.pick ..|.build ..|.nilCheck _|.binOp ..|.unOp ..|.makeInterface ..|.makeFunc ..|.slice ..|.fieldAddr ..|.field ..|.indexAddr ..|.index ..|.typeAssert ..|.extract ..=>true
 |_=>false
theorem memFree_any {T:TT}{o:Op}{ρ:Operand→AV}{σ σ':ze}{r:AV}(h:vb8 T o ρ σ=some (r,σ'))(hm:memFree o=true)(τ:ze):vb8 T o ρ τ=some (r,τ):=by
 have key:∀ x:Option AV,XI σ x=some (r,σ')→XI τ x=some (r,τ):=by
  intro x hx; rw[(wr hx).1]; rfl
 cases o<;>simp only[memFree,uf] at hm<;>simp only[vb8,Option.some.injEq,Prod.mk.injEq] at h ⊢
 all_goals first
  |exact key _ h
  |exact⟨h.1,trivial⟩
inductive EK where
 |eff
 |flt
 |any
 |own (m:Nat) (x:List Nat)
 |at (bs:List Nat)
def stabs (T:TT)(o:Op)(ρ:Operand→AV)(r:AV)(Ss:List ze):List Nat→Prop
 |[]=>True
 |b::bs=>(∃ τ,Ss[b]?=some τ∧vb8 T o ρ τ=some (r,τ))∧stabs T o ρ r Ss bs
def refs : AV→List Nat
 |.op a _ _=>[a]
 |.os _ _ a _ _ _ _=>[a]
 |.mp a=>[a]
 |_=>[]
def vb5 (o:Op)(ρ:Operand→AV):Option (List Nat):=
 match o with
 |.load _ a=>some (refs (ρ a))
 |.lookup _ m _ _=>some (refs (ρ m))
 |.convert _ _ x=>some (refs (ρ x))
 |.call { callee:=.builtin .len,args:=args,.. }=>some ((args.toList.map ρ).flatMap refs)
 |_=>none
def hasN : List Nat→Nat→Bool
 |[],_=>false
 |b::l,a=>bif decide (a=b) then true else hasN l a
def ownA (N:Nat)(ex:List Nat):List Nat→Prop
 |[]=>True
 |a::l=>(a<N∧hasN ex a=false)∧ownA N ex l
def ownL (N:Nat)(ex:List Nat):Option (List Nat)→Prop
 |none=>False
 |some l=>ownA N ex l
theorem ownA_spec {N:Nat}{ex:List Nat}:∀ {l:List Nat},ownA N ex l→∀ id∈l,id<N∧hasN ex id=false:=by
 intro l
 induction l with
 |nil=>intro _ id h; cases h
 |cons a l ih=>
  intro h id hid
  have h':(a<N∧hasN ex a=false)∧ownA N ex l:=h
  rcases q9.1 hid with rfl|hid
  · exact h'.1
  exact ih h'.2 id hid
theorem ownL_spec {N:Nat}{ex:List Nat}{x:Option (List Nat)}(h:ownL N ex x):∃ l,x=some l∧∀ id∈l,id<N∧hasN ex id=false:=by
 cases x with
 |none=>exact False.elim h
 |some l=>exact⟨l,rfl,ownA_spec h⟩
def agr (ex:List Nat):Nat→ze→ze→ze→Prop
 |_,[],_,_=>True
 |i,_::z,a::s,b::s'=>(hasN ex i=true∨b=a)∧agr ex (i+1) z s s'
 |_,_::_,_,_=>False
def Agr (ex:List Nat)(N:Nat)(σ σ':ze):Prop:=∀ id,id<N→hasN ex id=false→σ'[id]?=σ[id]?
theorem agr_spec {ex:List Nat}:∀ {z s s':ze} {i:Nat},agr ex i z s s'→∀ id,id<z.length→hasN ex (i+id)=false→s'[id]?=s[id]?:=by
 intro z
 induction z with
 |nil=>intro s s' i _ id h; simp at h
 |cons o z ih=>
  intro s s' i h id hid hx
  cases s with
  |nil=>simp[agr] at h
  |cons a s=>
  cases s' with
  |nil=>simp[agr] at h
  |cons b s'=>
  cases id with
  |zero=>
   rcases h.1 with h1|h1
   · rw[qF] at hx; rw[hx] at h1; cases h1
   simp[h1]
  |succ id=>
   simp only[uP];exact ih h.2 id (by simpa using hid) (by rw[← hx]; congr 1; omega)
theorem agr_Agr {ex:List Nat}{z s s':ze}(h:agr ex 0 z s s'):Agr ex z.length s s':=fun id h1 h2=>agr_spec h id h1 (by rw[qn]; exact h2)
def agrs (k:Nat)(z s s':ze):List (Nat×List Nat)→Prop
 |[]=>True
 |(m,x)::l=>(if k≤m then agr x 0 z s s' else True)∧agrs k z s s' l
def Agrs (ex:List (Nat×List Nat))(k N:Nat)(s s':ze):Prop:=∀ m x,(m,x)∈ex→k≤m→Agr x N s s'
theorem X0 {k:Nat}{z s s':ze}:∀ {ex:List (Nat×List Nat)},agrs k z s s' ex→Agrs ex k z.length s s':=by
 intro ex
 induction ex with
 |nil=>intro _ m x h; cases h
 |cons p ex ih=>
  intro h m x hm hk
  obtain⟨q,y⟩:=p
  rcases q9.1 hm with e|hm
  · cases e;have:=h.1;rw[if_pos hk] at this;exact agr_Agr this
  exact ih h.2 m x hm hk
def inEx : List (Nat×List Nat)→Nat→List Nat→Bool
 |[],_,_=>false
 |(m,x)::l,q,y=>(m==q&&x==y)||inEx l q y
theorem inEx_mem : ∀ {ex:List (Nat×List Nat)} {q:Nat} {y:List Nat},inEx ex q y=true→(q,y)∈ex:=by
 intro ex
 induction ex with
 |nil=>intro q y h; cases h
 |cons p ex ih=>
  intro q y h
  obtain⟨m,x⟩:=p;simp only[inEx,ut,qJ,beq_iff_eq] at h
  rcases h with ⟨rfl,rfl⟩|h
  · exact qP ..
  exact qL _ (ih h)
theorem ze.at_eq {σ τ:ze}{id ver:Nat}(h:τ[id]?=σ[id]?):ze.at τ id ver=ze.at σ id ver:=by unfold ze.at; rw[h]
theorem ze.mapAt_eq {σ τ:ze}{id:Nat}(h:τ[id]?=σ[id]?):ze.mapAt τ id=ze.mapAt σ id:=by unfold ze.mapAt; rw[h]
theorem vdf {σ τ:ze}{n:Nat}{x:AV}(ha:∀ id∈refs x,τ[id]?=σ[id]?):y1 τ n x=y1 σ n x:=by
 cases x<;>try rfl
 simp only[y1,ze.at_eq (ha _ (uD.2 rfl))]
theorem evLoad_own {T:TT}{t:TypeId}{x:AV}{σ τ:ze}(ha:∀ id∈refs x,τ[id]?=σ[id]?):YL T t x τ=YL T t x σ:=by
 unfold YL
 cases T t with
 |none=>rfl
 |some i=>
  cases x<;>try rfl
  simp only[ze.at_eq (ha _ (uD.2 rfl))]
theorem evLen_own {T:TT}{t:TypeId}{x:AV}{σ τ:ze}(ha:∀ id∈refs x,τ[id]?=σ[id]?):vcY T t x τ=vcY T t x σ:=by
 unfold vcY
 cases T t with
 |none=>rfl
 |some i=>
  simp only
  cases i.desc<;>cases x<;>try rfl
  simp only[ha _ (uD.2 rfl)]
theorem evLookup_own {T:TT}{t:TypeId}{x k:AV}{ok:Bool}{σ τ:ze}(ha:∀ id∈refs x,τ[id]?=σ[id]?):X9 T t x k ok τ=X9 T t x k ok σ:=by
 unfold X9
 cases x<;>try rfl
 simp only[ze.mapAt_eq (ha _ (uD.2 rfl))]
theorem evConv_own {T:TT}{s d:TypeId}{x:AV}{σ τ:ze}{r:AV}(h:vaX T s d x σ=some (r,σ))(ha:∀ id∈refs x,τ[id]?=σ[id]?):vaX T s d x τ=some (r,τ):=by
 unfold vaX at h ⊢
 cases h1:T s with
 |none=>simp only[h1] at h; cases h
 |some i=>
 cases h2:T d with
 |none=>simp only[h1,h2] at h; cases h
 |some k=>
 simp only[h1,h2] at h ⊢
 split at h
 · cases h; rfl
 · cases h; rfl
 · split at h
   · split at h
     · split at h
       · simp only[Option.some.injEq,Prod.mk.injEq,List.append_right_eq_self] at h;cases h.2
       cases h
     cases h
   cases h
 · rename_i nl cells len t hk
   split at h
   · rename_i e he
     split at h
     · rename_i j hj
       split at h
       · rename_i q cs hd hs
         have hs':y1 τ 1 (.ds nl cells len t)=some (q,cs):=(vdf ha).trans hs;simp only[he,hj,hd,hs']
         cases hu:unbs cs with
         |none=>rw[hu] at h; cases h
         |some l=>rw[hu] at h; simp only[uN,Option.some.injEq,Prod.mk.injEq] at h ⊢; exact⟨h.1,trivial⟩
       cases h
     cases h
   cases h
 · rename_i nl sz id ver off len t hk
   split at h
   · rename_i e he
     split at h
     · rename_i j hj
       split at h
       · rename_i q cs hd hs
         have hs':y1 τ 1 (.os nl sz id ver off len t)=some (q,cs):=(vdf ha).trans hs;simp only[he,hj,hd,hs']
         cases hu:unbs cs with
         |none=>rw[hu] at h; cases h
         |some l=>rw[hu] at h; simp only[uN,Option.some.injEq,Prod.mk.injEq] at h ⊢; exact⟨h.1,trivial⟩
       cases h
     cases h
   cases h
 · rename_i e nl sz id ver off len t hk
   split at h
   · rename_i e' he
     split at h
     · rename_i hsd
       rw[if_pos hsd]
       split at h
       · rename_i j hj
         split at h
         · rename_i cs hd hs
           have hs':ze.at τ id ver=some cs:=(ze.at_eq (ha _ (by simp[refs]))).trans hs;simp only[he,hj,hd,hs']
           split at h
           · rename_i hq
             rw[if_pos hq];simp only[Option.some.injEq,Prod.mk.injEq] at h ⊢;exact⟨h.1,trivial⟩
           cases h
         cases h
       cases h
     cases h
   cases h
 cases h
theorem evOp_own {T:TT}{o:Op}{ρ:Operand→AV}{σ τ:ze}{r:AV}{l:List Nat}(hl:vb5 o ρ=some l)(h:vb8 T o ρ σ=some (r,σ))(ha:∀ id∈l,τ[id]?=σ[id]?):vb8 T o ρ τ=some (r,τ):=by
 have key:∀ x y:Option AV,y=x→XI σ x=some (r,σ)→XI τ y=some (r,τ):=by
  rintro x _ rfl hx; rw[(wr hx).1]; rfl
 unfold vb5 at hl
 split at hl
 · rename_i t a
   cases hl;simp only[vb8] at h ⊢
   split
   · rename_i hs
     rw[if_pos hs] at h;exact key _ _ (evLoad_own ha) h
   rename_i hs; rw[if_neg hs] at h; cases h
 · rename_i t m k ok
   cases hl;simp only[vb8] at h ⊢;exact key _ _ (evLookup_own ha) h
 · rename_i s d x
   cases hl;simp only[vb8] at h ⊢;exact evConv_own h ha
 · rename_i args ats
   cases hl;simp only[vb8] at h ⊢;unfold vbh at h ⊢
   revert ha h
   generalize args.toList.map ρ=l
   generalize ats.toList=m
   intro h ha
   match m,l with
   |[t],[x]=>
    exact key _ _ (evLen_own fun id hid=>ha id (by simpa using hid)) h
   |[],_=>cases h
   |_::_::_,_=>cases h
   |[_],[]=>cases h
   |[_],_::_::_=>cases h
 cases hl
def isAlloc (o:Oper):Bool:=
 match o.op,o.guard with
 |.alloc _,none=>true
 |.box _ _,none=>true
 |.buildSlice _ _ _,none=>true
 |_,_=>false
theorem isAlloc_spec {o:Oper}(h:isAlloc o=true):o.guard=none∧((∃ e,o.op=.alloc e)∨(∃ e x,o.op=.box e x)∨∃ t n ps,o.op=.buildSlice t n ps):=by
 unfold isAlloc at h
 split at h
 · rename_i e h1 h2; exact⟨h2,.inl ⟨e,h1⟩⟩
 · rename_i e x h1 h2; exact⟨h2,.inr (.inl ⟨e,x,h1⟩)⟩
 · rename_i e n ps h1 h2; exact⟨h2,.inr (.inr ⟨e,n,ps,h1⟩)⟩
 cases h
def evD (T:TT)(n:Nat)(ops:Array Oper)(z:ze)(ex:List (Nat×List Nat)):List Oper→List EK→Fr→List ze→List AV→Prop→Option (List Oper×List EK×Fr×List ze×List AV×Prop)
 |[],es,F,Ss,rs,C=>some ([],es,F,Ss,rs,C)
 |o::l,e::es,F,σ::Ss,rs,C=>
  match Yo ops F o with
  |some true=>bif isCall o then some (o::l,e::es,F,σ::Ss,rs,C) else
   bif X4 n o.dst then
    match vb8 T o.op (ev F) σ with
    |some (r,σ')=>match e with
     |.eff=>evD T n ops z ex l es (Zn F o.dst r) (σ'::σ::Ss) (r::rs) (C∧agrs (Ss.length+1) z σ σ' ex)
     |.flt=>bif isAlloc o then evD T n ops z ex l es (Zn F o.dst r) (σ'::σ::Ss) (r::rs) (C∧agrs (Ss.length+1) z σ σ' ex) else none
     |.own _ x=>evD T n ops z ex l es (Zn F o.dst r) (σ::Ss) (r::rs) (C∧σ'=σ∧ownL z.length x (vb5 o.op (ev F)))
     |.any=>bif memFree o.op then evD T n ops z ex l es (Zn F o.dst r) (σ::Ss) (r::rs) C else evD T n ops z ex l es (Zn F o.dst r) (σ::Ss) (r::rs) (C∧∀ τ,vb8 T o.op (ev F) τ=some (r,τ))
     |.at bs=>evD T n ops z ex l es (Zn F o.dst r) (σ::Ss) (r::rs) (C∧σ'=σ∧stabs T o.op (ev F) r (σ::Ss) bs)
    |none=>none
   else none
  |some false=>bif X4 n o.dst then
   match e with
   |.eff=>evD T n ops z ex l es (Zn F o.dst .u) (σ::σ::Ss) (.u::rs) C
   |.flt=>none
   |_=>evD T n ops z ex l es (Zn F o.dst .u) (σ::Ss) (.u::rs) C
   else none
  |none=>none
 |_::_,_,_,_,_,_=>none
def foldU : List Oper→List AV→Fr→Fr
 |o::l,r::rs,F=>foldU l rs (Zn F o.dst r)
 |_,_,F=>F
def kOf (es:List EK)(i:Nat):EK:=es.getD i .any
def isE (es:List EK)(i:Nat):Bool:=
 match kOf es i with
 |.eff=>true
 |.flt=>true
 |_=>false
def isF (es:List EK)(i:Nat):Bool:=
 match kOf es i with
 |.flt=>true
 |_=>false
def EffFact (Φ:Ctx)(P:Program)(n:Nat)(T:TT)(ops:List Oper)(es:List EK)(i:Nat)(o:Oper)(F:Fr)(σ:ze)(r:AV)(σ':ze):Prop:=
 (isF es i=false∧SF Φ P n ops o F σ r σ')∨(isF es i=true∧o.guard=none∧Made T o F σ r σ')
def chkD (ops:List Oper)(es:List EK)(ex:List (Nat×List Nat)):Bool:=
 vax ops (isE es) (isF es)&&(uJ ops.length).all fun j=>match kOf es j with
  |.at bs=>(uJ (cnt (isE es) ops.length+1)).all fun k => !meets ops (isE es) (isF es) j k||k==cnt (isE es) j||bs.any fun b=>k+b==cnt (isE es) j
  |.own m x=>inEx ex m x&&Nat.ble (cnt (isE es) j) m&&(uJ (cnt (isE es) ops.length+1)).all fun k => !meets ops (isE es) (isF es) j k||Nat.ble k m
  |_=>true
section
variable {P:Program} {n k0:Nat} {Q:Exit→Fr→ze→Prop}
def vbs (T:TT)(z:ze)(ex:List (Nat×List Nat))(ops:List Oper)(es:List EK)(i:Nat)(o:Oper)(F:Fr)(r:AV)(S:Nat→ze):Prop:=
 (Yo ops.toArray F o=some false∧r=.u) ∨
 (Yo ops.toArray F o=some true∧match kOf es i with
  |.at bs=>∀ k,(k=cnt (isE es) i∨∃ b∈bs,k+b=cnt (isE es) i)→vb8 T o.op (ev F) (S k)=some (r,S k)
  |.own m x=>(m,x)∈ex→cnt (isE es) i≤m→∃ l,vb5 o.op (ev F)=some l∧(∀ id∈l,id<z.length∧hasN x id=false)∧vb8 T o.op (ev F) z=some (r,z)
  |_=>∀ τ,vb8 T o.op (ev F) τ=some (r,τ))
theorem vbs.congr {T:TT}{z:ze}{ex:List (Nat×List Nat)}{ops:List Oper}{es:List EK}{i:Nat}{o:Oper}{F:Fr}{r:AV}{S S':Nat→ze}(h:vbs T z ex ops es i o F r S)(hS:∀ k,k≤cnt (isE es) i→S' k=S k):vbs T z ex ops es i o F r S':=by
 rcases h with h|⟨h1,h2⟩
 · exact .inl h
 refine .inr ⟨h1,?_⟩
 generalize kOf es i=q at h2
 cases q with
 |eff=>exact h2
 |flt=>exact h2
 |any=>exact h2
 |own m x=>exact h2
 | «at» bs=>
  intro k hk
  rw[hS k (by rcases hk with h|⟨b,_,h⟩<;>omega)];exact h2 k hk
def stk (Ss:List ze)(k:Nat):ze:=Ss.reverse.getD k []
theorem stk_cons {Ss:List ze}{σ:ze}{k:Nat}(h:k<Ss.length):stk (σ::Ss) k=stk Ss k:=by
 unfold stk;rw[List.reverse_cons,qC,qY (by rw[List.length_reverse]; exact h),← qC]
theorem vbG {Ss:List ze}{σ:ze}{k:Nat}(h:k=Ss.length):stk (σ::Ss) k=σ:=by
 unfold stk;rw[List.reverse_cons,qC,uo (by simp[h])]
 subst h; simp
theorem stk_back {Ss:List ze}{b k:Nat}{τ:ze}(h:Ss[b]?=some τ)(hk:k+b+1=Ss.length):stk Ss k=τ:=by
 unfold stk
 rw[qC,List.getElem?_reverse (by omega),show Ss.length-1-k=b by omega,h]; rfl
def nth (rs:List AV)(i:Nat):AV:=rs.reverse.getD i .u
theorem nth_cons {rs:List AV}{r:AV}{i:Nat}(h:i<rs.length):nth (r::rs) i=nth rs i:=by
 unfold nth;rw[List.reverse_cons,qC,qY (by rw[List.length_reverse]; exact h),← qC]
theorem nth_top {rs:List AV}{r:AV}{i:Nat}(h:i=rs.length):nth (r::rs) i=r:=by
 unfold nth;rw[List.reverse_cons,qC,uo (by simp[h])]
 subst h; simp
def frs (ops:List Oper)(rs:List AV)(F:Fr)(i:Nat):Fr:=foldU (ops.take i) (rs.reverse.take i) F
theorem vc4 {ops:List Oper}{rs:List AV}{F:Fr}{r:AV}{i:Nat}(h:i≤rs.length):frs ops (r::rs) F i=frs ops rs F i:=by
 unfold frs;rw[List.reverse_cons,List.take_append_of_le_length (by simpa using h)]
theorem foldU_snoc : ∀ (l:List Oper) (rs:List AV) (F:Fr) (o:Oper) (r:AV),rs.length=l.length→foldU (l++[o]) (rs++[r]) F=Zn (foldU l rs F) o.dst r:=by
 intro l
 induction l with
 |nil=>intro rs F o r h; have:rs=[]:=qS.1 h; subst this; rfl
 |cons x l ih=>
  intro rs F o r h
  cases rs with
  |nil=>simp at h
  |cons y rs=>exact ih rs _ o r (by simpa using h)
theorem vcp {α:Type}{l:List α}{j:Nat}{x:α}(h:l[j]?=some x):l.take (j+1)=l.take j++[x]:=by
 rw[List.take_add_one,h]; rfl
theorem frs_step {ops:List Oper}{rs:List AV}{F:Fr}{o:Oper}(ho:ops[rs.length]?=some o)(r:AV):frs ops (r::rs) F (rs.length+1)=Zn (frs ops rs F rs.length) o.dst r:=by
 have hjl:rs.length<ops.length:=(qQ.1 ho).1;unfold frs;have e1:(rs.reverse++[r]).take (rs.length+1)=rs.reverse++[r]:=uu (by simp);have e2:rs.reverse.take rs.length=rs.reverse:=uu (by simp);rw[vcp ho,List.reverse_cons,e1,e2];exact foldU_snoc _ _ _ _ _ (by simp; omega)
structure Past (Φ:Ctx)(P:Program)(n:Nat)(T:TT)(ops:List Oper)(es:List EK)(F0:Fr)(σ0:ze)(ex:List (Nat×List Nat))(j:Nat)(F:Fr)(Ss:List ze)(rs:List AV):Prop where
 len:rs.length=j
 lenS:Ss.length=cnt (isE es) j+1
 first:stk Ss 0=σ0
 frame:F=frs ops rs F0 j
 dst:∀ i o,i<j→ops[i]?=some o→X4 n o.dst=true
 eff:∀ i o,i<j→ops[i]?=some o→isE es i=true→EffFact Φ P n T ops es i o (frs ops rs F0 i) (stk Ss (cnt (isE es) i)) (nth rs i) (stk Ss (cnt (isE es) i+1))
 pure:∀ i o,i<j→ops[i]?=some o→isE es i=false→vbs T σ0 ex ops es i o (frs ops rs F0 i) (nth rs i) (stk Ss)
 agree:∀ k,k<Ss.length→Agrs ex k σ0.length σ0 (stk Ss k)
theorem Past.start (T:TT)(ops:List Oper)(es:List EK)(F0:Fr)(σ0:ze)(ex:List (Nat×List Nat)):Past Φ P n T ops es F0 σ0 ex 0 F0 [σ0] [] where
 len:=rfl
 lenS:=rfl
 first:=rfl
 frame:=rfl
 dst:=fun i o h=>by omega
 eff:=fun i o h=>by omega
 pure:=fun i o h=>by omega
 agree:=fun k h=>by
  have:k=0:=by simpa using h
  subst this; exact fun _ _ _ _ _ _ _=>rfl
theorem Past.step {T:TT}{ops:List Oper}{es:List EK}{F0:Fr}{σ0:ze}{ex:List (Nat×List Nat)}{j:Nat}{F:Fr}{σ:ze}{Ss:List ze}{rs:List AV}(h:Past Φ P n T ops es F0 σ0 ex j F (σ::Ss) rs){o:Oper}(ho:ops[j]?=some o)(hd:X4 n o.dst=true){r:AV}{Ss':List ze}
 (he:isE es j=true→∃ σ',Ss'=σ'::σ::Ss∧Agrs ex (Ss.length+1) σ0.length σ σ'∧EffFact Φ P n T ops es j o F σ r σ')
 (hp:isE es j=false→Ss'=σ::Ss∧vbs T σ0 ex ops es j o F r (stk (σ::Ss))):
 Past Φ P n T ops es F0 σ0 ex (j+1) (Zn F o.dst r) Ss' (r::rs):=by
 have hlen:=h.len;have hlS:=h.lenS;simp only[qp] at hlS;have hcur:stk (σ::Ss) (cnt (isE es) j)=σ:=vbG (by omega)
 have hS:∀ k,k≤cnt (isE es) j→stk Ss' k=stk (σ::Ss) k:=by
  intro k hk
  cases hej:isE es j with
  |true=>
   obtain⟨σ',e1,_⟩:=he hej
   rw[e1]; exact stk_cons (by simp; omega)
  |false=>rw[(hp hej).1]
 subst hlen;refine⟨rfl,?_,?_,?_,fun i p hi hpp=>?_,fun i p hi hpp hei=>?_,fun i p hi hpp hei=>?_,fun k hk=>?_⟩
 · cases hej:isE es rs.length with
   |true=>obtain⟨σ',e1,_⟩:=he hej; rw[e1]; simp only[cnt,hej,if_true,qp]; omega
   |false=>rw[(hp hej).1]; simp only[cnt,hej,qp]; simp; omega
 · rw[hS 0 (qU _)]; exact h.first
 · rw[frs_step ho,← h.frame]
 · by_cases e:i=rs.length
   · subst e; rw[ho] at hpp; cases hpp; exact hd
   exact h.dst i p (by omega) hpp
 · by_cases e:i=rs.length
   · subst e
     rw[ho] at hpp; cases hpp
     obtain⟨σ',e1,_,e2⟩:=he hei;rw[vc4 (qx _),← h.frame,nth_top rfl,hS _ (qx _),hcur]
     have:stk Ss' (cnt (isE es) rs.length+1)=σ':=by
      rw[e1]; exact vbG (by simp; omega)
     rw[this]; exact e2
   have h1:=h.eff i p (by omega) hpp hei
   have hc:cnt (isE es) i+1≤cnt (isE es) rs.length:=by
    have:=cnt_lt (isE es) (show i<rs.length by omega) hei; omega
   rw[vc4 (by omega),nth_cons (by omega),hS _ (by omega),hS _ hc];exact h1
 · by_cases e:i=rs.length
   · subst e
     rw[ho] at hpp; cases hpp
     obtain⟨e1,e2⟩:=hp hei;rw[vc4 (qx _),← h.frame,nth_top rfl];exact e2.congr hS
   have h1:=h.pure i p (by omega) hpp hei;have hc:=vc7 (isE es) (show i≤rs.length by omega);rw[vc4 (by omega),nth_cons (by omega)]
   exact h1.congr fun k hk=>hS k (by omega)
 cases hej:isE es rs.length with
 |true=>
  obtain⟨σ',e1,e2,_⟩:=he hej;rw[e1] at hk ⊢
  by_cases hkk:k=Ss.length+1
  · intro m x hm hle id h1 h2
    rw[vbG (by simpa using hkk)];have h3:=h.agree Ss.length (by simp) m x hm (by omega) id h1 h2;rw[vbG rfl] at h3;exact (e2 m x hm (by omega) id h1 h2).trans h3
  have hk':k<(σ::Ss).length:=by simp only[qp] at hk ⊢; omega
  rw[stk_cons hk']; exact h.agree k hk'
 |false=>rw[(hp hej).1] at hk ⊢; exact h.agree k hk
def DW (Φ:Ctx)(P:Program)(n k0:Nat)(T:TT)(id:Nat)(ops:List Oper)(es:List EK)(F0:Fr)(σ0:ze)(ex:List (Nat×List Nat))(Q:Exit→Fr→ze→Prop)(l:List Oper)(es':List EK)(F:Fr)(Ss:List ze)(rs:List AV):Prop:=
 (∃ j,ops.drop j=l∧es.drop j=es'∧Past Φ P n T ops es F0 σ0 ex j F Ss rs)→AnyW Φ P n k0 ops Q F0 σ0
theorem DW.start {T:TT}{id:Nat}{ops:List Oper}(es:List EK)(ex:List (Nat×List Nat)){F0:Fr}{σ0:ze}(h:DW Φ P n k0 T id ops es F0 σ0 ex Q ops es F0 [σ0] []):awp Φ P n k0 (.region id ops.toArray true) Q F0 σ0:=
 awp_of_any (h ⟨0,rfl,rfl,Past.start T ops es F0 σ0 ex⟩)
theorem XX {α:Type}{l:List α}{j:Nat}{x:α}{m:List α}(h:l.drop j=x::m):l[j]?=some x∧l.drop (j+1)=m:=by
 constructor
 · have:=List.getElem?_drop (xs:=l) (i:=j) (j:=0)
   rw[h] at this; simpa using this.symm
 have:=vo (i:=1) (j:=j) (l:=l)
 rw[h] at this; simpa using this.symm
theorem vb7 {es es':List EK}{j:Nat}{e:EK}(h:es.drop j=e::es'):kOf es j=e:=by
 have:=(XX h).1
 simp[kOf,qC,this]
theorem stabs_spec {T:TT}{o:Op}{ρ:Operand→AV}{r:AV}{Ss:List ze}:∀ {bs:List Nat},stabs T o ρ r Ss bs→∀ b∈bs,∃ τ,Ss[b]?=some τ∧vb8 T o ρ τ=some (r,τ):=by
 intro bs
 induction bs with
 |nil=>intro _ b hb; cases hb
 |cons c bs ih=>
  intro h b hb
  rcases q9.1 hb with rfl|hb
  · exact h.1
  exact ih h.2 b hb
def RunD (x:Option (List Oper×List EK×Fr×List ze×List AV×Prop))(K:List Oper→List EK→Fr→List ze→List AV→Prop):Prop:=
 match x with
 |some (l,es,F,Ss,rs,C)=>C∧K l es F Ss rs
 |none=>False
theorem RunD_some (l:List Oper)(es:List EK)(F:Fr)(Ss:List ze)(rs:List AV)(C:Prop)(K:List Oper→List EK→Fr→List ze→List AV→Prop):RunD (some (l,es,F,Ss,rs,C)) K=(C∧K l es F Ss rs):=rfl
theorem evD_past {T:TT}(hT:TOK P T){ops:List Oper}{es:List EK}{F0:Fr}{σ0:ze}{ex:List (Nat×List Nat)}(tl:List Oper):∀ (l:List Oper) (es':List EK) (F:Fr) (Ss:List ze) (rs:List AV) (C:Prop) (l':List Oper) (es'':List EK) (F':Fr) (Ss':List ze) (rs':List AV) (C':Prop),
 evD T n ops.toArray σ0 ex l es' F Ss rs C=some (l',es'',F',Ss',rs',C')→C'→C∧((∃ j,ops.drop j=l++tl∧es.drop j=es'∧Past Φ P n T ops es F0 σ0 ex j F Ss rs)→∃ j,ops.drop j=l'++tl∧es.drop j=es''∧Past Φ P n T ops es F0 σ0 ex j F' Ss' rs'):=by
 intro l
 induction l with
 |nil=>intro es' F Ss rs C l' es'' F' Ss' rs' C' h hC; simp only[evD] at h; cases h; exact⟨hC,id⟩
 |cons o l ih=>
  intro es' F Ss rs C l' es'' F' Ss' rs' C' h hC
  cases es' with
  |nil=>simp[evD] at h
  |cons e es'=>
  cases Ss with
  |nil=>simp[evD] at h
  |cons σ Ss=>
  simp only[evD] at h
  have next:∀ (r:AV) (Ss1:List ze),X4 n o.dst=true→(e=.eff∨e=.flt→∃ σ',Ss1=σ'::σ::Ss∧Agrs ex (Ss.length+1) σ0.length σ σ'∧∀ j,es.drop j=e::es'→EffFact Φ P n T ops es j o F σ r σ')→(e≠.eff∧e≠.flt→Ss1=σ::Ss∧∀ j,es.drop j=e::es'→cnt (isE es) j=Ss.length→Agrs ex Ss.length σ0.length σ0 σ→vbs T σ0 ex ops es j o F r (stk (σ::Ss)))→
   (∃ j,ops.drop j=o::(l++tl)∧es.drop j=e::es'∧Past Φ P n T ops es F0 σ0 ex j F (σ::Ss) rs)→∃ j,ops.drop j=l++tl∧es.drop j=es'∧Past Φ P n T ops es F0 σ0 ex j (Zn F o.dst r) Ss1 (r::rs):=by
   rintro r Ss1 hd h1 h2 ⟨j,e1,e2,e3⟩;have hk:=vb7 e2;refine⟨j+1,(XX e1).2,(XX e2).2,e3.step (XX e1).1 hd (fun hE=>?_) (fun hE=>?_)⟩
   · have he:e=.eff∨e=.flt:=by
      simp only[isE,hk] at hE
      split at hE
      · exact .inl rfl
      · exact .inr rfl
      cases hE
     obtain⟨σ',a1,a2,a3⟩:=h1 he;exact⟨σ',a1,a2,a3 j e2⟩
   have hne:e≠.eff∧e≠.flt:=⟨by rintro rfl; simp[isE,hk] at hE,by rintro rfl; simp[isE,hk] at hE⟩;have:=e3.lenS;simp only[qp] at this;have ha:=e3.agree Ss.length (by simp);rw[vbG rfl] at ha;exact⟨(h2 hne).1,(h2 hne).2 j e2 (by omega) ha⟩
  split at h
  · rename_i hg
    rw[Bool.cond_eq_ite] at h
    split at h
    · cases h; exact⟨hC,id⟩
    rw[Bool.cond_eq_ite] at h
    split at h
    case isFalse=>cases h
    rename_i hd
    split at h
    case h_2=>cases h
    rename_i r σ' hr
    split at h
    · obtain⟨⟨h1,h3⟩,h2⟩:=ih _ _ _ _ _ _ _ _ _ _ _ h hC;exact⟨h1,fun hj=>h2 (next r _ hd (fun _=>⟨σ',rfl,X0 h3,fun j hj=>.inl ⟨by simp[isF,vb7 hj],SF.op hT hg hr⟩⟩) (fun hne=>absurd rfl hne.1) hj)⟩
    · rw[Bool.cond_eq_ite] at h
      split at h
      case isFalse=>cases h
      rename_i hal
      obtain⟨⟨h1,h3⟩,h2⟩:=ih _ _ _ _ _ _ _ _ _ _ _ h hC;obtain⟨g1,g2⟩:=isAlloc_spec hal;refine⟨h1,fun hj=>h2 (next r _ hd (fun _=>⟨σ',rfl,X0 h3,fun j hj=>.inr ⟨by simp[isF,vb7 hj],g1,?_⟩⟩) (fun hne=>absurd rfl hne.2) hj)⟩
      rcases g2 with ⟨x,g2⟩|⟨x,y,g2⟩|⟨x,y,z,g2⟩
      · exact .inl ⟨x,g2,by rw[g2] at hr; exact hr⟩
      · exact .inr (.inl ⟨x,y,g2,by rw[g2] at hr; exact hr⟩)
      exact .inr (.inr ⟨x,y,z,g2,by rw[g2] at hr; exact hr⟩)
    · obtain⟨⟨h1,h3,h4⟩,h2⟩:=ih _ _ _ _ _ _ _ _ _ _ _ h hC;refine⟨h1,fun hj=>h2 (next r _ hd (fun e=>by rcases e with e|e<;>cases e) (fun _=>⟨rfl,fun j hj hc ha=>.inr ⟨hg,?_⟩⟩) hj)⟩;rw[vb7 hj];subst h3;obtain⟨l0,e1,e2⟩:=ownL_spec h4
      exact fun hm hle=>⟨l0,e1,e2,evOp_own e1 hr fun id hid=>(ha _ _ hm (by omega) id (e2 id hid).1 (e2 id hid).2).symm⟩
    · rw[Bool.cond_eq_ite] at h
      split at h
      · rename_i hm
        obtain⟨h1,h2⟩:=ih _ _ _ _ _ _ _ _ _ _ _ h hC;refine⟨h1,fun hj=>h2 (next r _ hd (fun e=>by rcases e with e|e<;>cases e) (fun _=>⟨rfl,fun j hj _ _=>.inr ⟨hg,?_⟩⟩) hj)⟩;rw[vb7 hj]
        exact fun τ=>memFree_any hr hm τ
      obtain⟨⟨h1,h3⟩,h2⟩:=ih _ _ _ _ _ _ _ _ _ _ _ h hC;refine⟨h1,fun hj=>h2 (next r _ hd (fun e=>by rcases e with e|e<;>cases e) (fun _=>⟨rfl,fun j hj _ _=>.inr ⟨hg,?_⟩⟩) hj)⟩;rw[vb7 hj];exact h3
    rename_i bs
    obtain⟨⟨h1,h3,h4⟩,h2⟩:=ih _ _ _ _ _ _ _ _ _ _ _ h hC;refine⟨h1,fun hj=>h2 (next r _ hd (fun e=>by rcases e with e|e<;>cases e) (fun _=>⟨rfl,fun j hj hc _=>.inr ⟨hg,?_⟩⟩) hj)⟩;rw[vb7 hj];rintro k (hk|⟨b,hb,hk⟩)
    · rw[vbG (by omega)]; rw[h3] at hr; exact hr
    obtain⟨τ,e1,e2⟩:=stabs_spec h4 b hb
    rw[stk_back e1 (by simp; omega)]; exact e2
  · rename_i hg
    rw[Bool.cond_eq_ite] at h
    split at h
    case isFalse=>cases h
    rename_i hd
    split at h
    · obtain⟨h1,h2⟩:=ih _ _ _ _ _ _ _ _ _ _ _ h hC;exact⟨h1,fun hj=>h2 (next .u _ hd (fun _=>⟨σ,rfl,fun _ _ _ _ _ _ _=>rfl,fun j hj=>.inl ⟨by simp[isF,vb7 hj],SF.skip hg⟩⟩) (fun hne=>absurd rfl hne.1) hj)⟩
    · cases h
    rename_i hne hnf
    obtain⟨h1,h2⟩:=ih _ _ _ _ _ _ _ _ _ _ _ h hC;exact⟨h1,fun hj=>h2 (next .u _ hd (fun e=>e.elim (fun e=>absurd e hne) (fun e=>absurd e hnf)) (fun _=>⟨rfl,fun j hj _ _=>.inl ⟨hg,rfl⟩⟩) hj)⟩
  cases h
theorem DW.run {T:TT}(hT:TOK P T){id:Nat}{ops:List Oper}{es:List EK}{F0:Fr}{σ0:ze}{ex:List (Nat×List Nat)}{l:List Oper}{es':List EK}{F:Fr}{Ss:List ze}{rs:List AV}
 (h:RunD (evD T n ops.toArray σ0 ex l es' F Ss rs True) fun l' es'' F' Ss' rs'=>DW Φ P n k0 T id ops es F0 σ0 ex Q l' es'' F' Ss' rs'):DW Φ P n k0 T id ops es F0 σ0 ex Q l es' F Ss rs:=by
 intro hp
 unfold RunD at h
 split at h
 · rename_i l' es'' F' Ss' rs' C he
   refine h.2 ?_;have:=(evD_past hT [] _ _ _ _ _ _ _ _ _ _ _ _ he h.1).2 (by simpa using hp)
   simpa using this
 exact h.elim
theorem DW.runN {T:TT}(hT:TOK P T)(m:Nat){id:Nat}{ops:List Oper}{es:List EK}{F0:Fr}{σ0:ze}{ex:List (Nat×List Nat)}{l:List Oper}{es':List EK}{F:Fr}{Ss:List ze}{rs:List AV}
 (h:RunD (evD T n ops.toArray σ0 ex (l.take m) es' F Ss rs True) fun l' es'' F' Ss' rs'=>l'=[]∧DW Φ P n k0 T id ops es F0 σ0 ex Q (l.drop m) es'' F' Ss' rs'):DW Φ P n k0 T id ops es F0 σ0 ex Q l es' F Ss rs:=by
 intro hp
 unfold RunD at h
 split at h
 · rename_i l' es'' F' Ss' rs' C he
   obtain⟨hC,rfl,h⟩:=h;refine h ?_;have:=(evD_past hT (l.drop m) _ _ _ _ _ _ _ _ _ _ _ _ he hC).2 (by simpa [uA] using hp)
   simpa using this
 exact h.elim
theorem DW.callS {T:TT}{id:Nat}{ops:List Oper}{es:List EK}{F0:Fr}{σ0:ze}{ex:List (Nat×List Nat)}{o:Oper}{l:List Oper}{es':List EK}{F:Fr}{σ:ze}{Ss:List ze}{rs:List AV}{f:FuncId}{args:List AV}{r:AV}{σ':ze}
 (hg:Yo ops.toArray F o=some true) (hc:callee F o=some (f,args)) (hd:X4 n o.dst=true) (hf:ACalls P f args σ fun r' s=>r'=r∧s=σ') (ha:Agrs ex (Ss.length+1) σ0.length σ σ') (h:DW Φ P n k0 T id ops es F0 σ0 ex Q l es' (Zn F o.dst r) (σ'::σ::Ss) (r::rs)):
 DW Φ P n k0 T id ops es F0 σ0 ex Q (o::l) (.eff::es') F (σ::Ss) rs:=by
 rintro ⟨j,e1,e2,e3⟩;have hk:=vb7 e2;exact h ⟨j+1,(XX e1).2,(XX e2).2,e3.step (XX e1).1 hd (fun _=>⟨σ',rfl,ha,.inl ⟨by simp[isF,hk],SF.call hg hc hf⟩⟩) (fun hE=>by simp[isE,hk] at hE)⟩
theorem DW.call {T:TT}{id:Nat}{ops:List Oper}{es:List EK}{F0:Fr}{σ0:ze}{ex:List (Nat×List Nat)}{o:Oper}{l:List Oper}{es':List EK}{F:Fr}{σ:ze}{Ss:List ze}{rs:List AV}{f:FuncId}{args:List AV}{r:AV}
 (hg:Yo ops.toArray F o=some true) (hc:callee F o=some (f,args)) (hd:X4 n o.dst=true) (hf:ACalls P f args σ fun r' s=>r'=r∧s=σ) (h:DW Φ P n k0 T id ops es F0 σ0 ex Q l es' (Zn F o.dst r) (σ::σ::Ss) (r::rs)):
 DW Φ P n k0 T id ops es F0 σ0 ex Q (o::l) (.eff::es') F (σ::Ss) rs:=DW.callS hg hc hd hf (fun _ _ _ _ _ _ _=>rfl) h
theorem DW.fin {T:TT}(hT:TOK P T){id:Nat}{ops:List Oper}{es:List EK}{F0:Fr}{σ0:ze}{ex:List (Nat×List Nat)}(hchk:chkD ops es ex=true){es':List EK}{F:Fr}{σ:ze}{Ss:List ze}{rs:List AV}(hl:rs.length=ops.length)(h:Q .normal F σ):
 DW Φ P n k0 T id ops es F0 σ0 ex Q [] es' F (σ::Ss) rs:=by
 rintro ⟨j,e1,e2,e3⟩
 have hj:j=ops.length:=by rw[← e3.len,hl]
 subst hj;simp only[chkD,qJ] at hchk;have hlS:=e3.lenS;simp only[qp] at hlS
 have h0:frs ops rs F0 0=F0:=by simp[frs,foldU]
 have:=any_drawn (Φ:=Φ) (P:=P) (n:=n) (k0:=k0) (Q:=Q) (ops:=ops) (eff:=isE es) (flt:=isF es) (F:=fun j=>frs ops rs F0 j) (r:=nth rs) (S:=stk (σ::Ss)) hT hchk.1 (fun j o ho=>?_) (fun o ho t ht=>?_) (fun j o ho he=>?_) (fun j o ho hf=>?_) (fun j o ho he k hk hm=>?_) ?_
 · rw[e3.first,h0] at this; exact this
 · -- the frames
   have hjl:j<ops.length:=(qQ.1 ho).1
   show foldU (ops.take (j+1)) (rs.reverse.take (j+1)) F0=Zn (foldU (ops.take j) (rs.reverse.take j) F0) o.dst (nth rs j)
   have hr:rs.reverse[j]?=some (nth rs j):=by
    unfold nth
    rw[qC,qX (by simp; omega)]; rfl
   rw[vcp ho,vcp hr,foldU_snoc _ _ _ _ _ (by simp; omega)]
 · obtain⟨i,hi,rfl⟩:=List.getElem_of_mem ho;exact Xt (e3.dst i _ hi (qX hi)) t ht
 · simp only[hard,qJ,u9] at he
   rcases e3.eff j o (qQ.1 ho).1 ho he.1 with ⟨_,h1⟩|⟨h1,_⟩
   · exact h1
   rw[he.2] at h1; cases h1
 · rcases e3.eff j o (qQ.1 ho).1 ho (chk_flt hchk.1 ho hf) with ⟨h1,_⟩|⟨_,h1⟩
   · rw[hf] at h1; cases h1
   exact h1
 · rcases e3.pure j o (qQ.1 ho).1 ho he with ⟨h1,h2⟩|⟨h1,h2⟩
   · rw[h2]; exact SF.skip h1
   refine SF.op hT h1 ?_;have h3:=un.1 hchk.2 j (by simpa using (qQ.1 ho).1)
   generalize kOf es j=q at h2 h3
   cases q with
   |eff=>exact h2 _
   |flt=>exact h2 _
   |any=>exact h2 _
   |own m x=>
    simp only[qJ] at h3;obtain⟨l0,g1,g2,g3⟩:=h2 (inEx_mem h3.1.1) (Nat.le_of_ble_eq_true h3.1.2);have hkl:k≤cnt (isE es) ops.length:=hk;have h4:=un.1 h3.2 k (by simp; omega);simp only[hm,qv,uF] at h4
    exact evOp_own g1 g3 fun id hid=>e3.agree k (by simp; omega) m x (inEx_mem h3.1.1) (Nat.le_of_ble_eq_true h4) id (g2 id hid).1 (g2 id hid).2
   | «at» bs=>
    have h4:=un.1 h3 k (by simp; omega);simp only[hm,qv,uF,ut,beq_iff_eq,List.any_eq_true] at h4;exact h2 k h4
 show Q .normal (frs ops rs F0 ops.length) (stk (σ::Ss) (cnt (isE es) ops.length))
 rw[vbG (by omega),← e3.frame]; exact h
end
end AM
end
section
namespace AM
variable {Φ:Ctx}
open Go.RowKit
theorem ze.at_hd {x:ze}{v v':Nat}{cs:List AV}:ze.at (.cells v cs::x) 0 v'=if v=v' then some cs else none:=rfl
theorem beq_tr (b:Bool):(b==true)=b:=by cases b<;>rfl
theorem beq_fa (b:Bool):(b==false) = !b:=by cases b<;>rfl
theorem VR.loose {E:Env}{nl:Bool}{sz id ver off len:Nat}{t:Bool}{v:Value}(h:VR E (.os nl sz id ver off len t) v):VR E (.os nl sz id ver off len false) v:=by
 cases h with
 |osn _ _ _ _ _ _ hk h=>exact .osn _ _ _ _ _ _ hk h
 |os _ _ _ _ _ _ _ a cap hk hc ht hB h=>exact .os _ _ _ _ _ _ _ a cap hk hc (fun e=>by cases e) hB h
theorem SR.cell {E:Env}{σ:ze}(hS:SR E σ){id ver:Nat}{cs:List AV}(hcs:ze.at σ id ver=some cs){i:Nat}(hi:i<cs.length){x:AV}(hc:∀ v,VR E (gc cs i) v→VR E x v):
 SR E (σ.set id (.cells ver (cs.set i x))):=by
 have hlt:=ze.at_lt hcs;refine⟨by simpa using hS.len,fun j=>?_,hS.inj,hS.blk,hS.stb,hS.glb,hS.bas⟩
 by_cases hj:j=id
 · subst hj;rw[uv hlt];have h1:=hS.obj j;rw[ze.at_some hcs] at h1
   rcases h1 with ⟨b,e1,e2⟩|⟨e1,e2⟩
   · refine .inl ⟨b,e1,?_⟩;obtain⟨conc,t',fr,a1,a2,a3,a4⟩:=e2.blk;refine⟨conc,t',fr,a1,a2,by simpa using a3,fun k hk=>?_⟩;simp only[List.length_set] at hk;rw[gc_set _ _ _ _ hi]
     by_cases hki:k=i
     · subst hki;rw[if_pos rfl];exact hc _ (a4 k hk)
     rw[if_neg hki]; exact a4 k hk
   subst e1; simp at hi
 rw[ue (fun e=>hj e.symm)];exact hS.obj j
end AM
end
section
namespace AM
variable {Φ:Ctx}
open Go.RowKit Go.ChangeShapes Go.WideShapes Go.Deep
def Env.start (w:World):Env := { w:=w,st:=fun b=>b<w.heap.size,loc:=fun _=>none,n:=0 }
theorem SR.start (w:World)(hg:Glb w fun b=>b<w.heap.size):SR (Env.start w) [] where
 len:=rfl
 obj:=fun id=>by simp[ObjR,Env.start]
 inj:=fun _ _ _ _ _ h=>by simp[Env.start] at h
 blk:=fun _ _ _ h=>by simp[Env.start] at h
 stb:=fun b hb=>hb
 glb:=hg
 bas:=fun _ _=>rfl
theorem cell_lt {w:World}{a:Addr}{v:Value}(h:w.cell? a=some v):a.block<w.heap.size:=by
 unfold World.cell? at h
 rcases ve a.block w.heap.size with h1|h1
 · exact h1
 rw[Array.getElem?_eq_none h1] at h; simp at h
theorem add_spot {a:Addr}(h:a.spot=none)(n:Nat):a.add n=⟨a.block,a.off+n,none⟩:=by
 obtain⟨b,o,s⟩:=a
 simp only at h; subst h
 unfold Addr.add
 split
 · rename_i e; subst e; rfl
 rfl
section
variable {H:Type} {enc:TypeId×Value→H} {P:Program} {w:World} {base:Nat} {spare:Nat→Bool} {held:Bool}
def Opens (enc:TypeId×Value→H)(P:Program)(w:World)(base:Nat)(spare:Nat→Bool)(held:Bool)(t:TypeId)(A:List AV→Prop):Prop:=
 ∀ n cs y,DataW.trod enc P w base spare held n t cs=some y→∃ avs,avs.length=cs.length∧A avs∧∀ i,i<avs.length→VR (Env.start w) (gc avs i) (cs.getD i undef)
theorem Opens.mono {t:TypeId}{A B:List AV→Prop}(h:Opens enc P w base spare held t A)(k:∀ l,A l→B l):Opens enc P w base spare held t B:=fun n cs y hy=>by
 obtain⟨avs,h1,h2,h3⟩:=h n cs y hy;exact⟨avs,h1,k _ h2,h3⟩
theorem opens_int {t:TypeId}{k:IntKind}(ht:P.underlying t=some (.int k)):Opens enc P w base spare held t fun l=>∃ n,l=[.int k n]∧(Lit.int k n).wf=true:=by
 intro n cs y hy
 obtain⟨m,rfl,_,hw⟩:=DataW.trod_int ht hy;exact⟨[.int k m],rfl,⟨m,rfl,hw⟩,fun i hi=>by simp at hi; subst hi; exact .int _ _⟩
theorem gc_flat {sz:Nat}:∀ {es:List (List AV)} (_:∀ x∈es,x.length=sz) (i j:Nat) (_:j<sz) (hi:i<es.length),gc es.flatten (i*sz+j)=gc (es[i]'hi) j:=by
 intro es
 induction es with
 |nil=>intro _ i j _ hi; simp at hi
 |cons x es ih=>
  intro h i j hj hi
  have hx:=h x (by simp)
  cases i with
  |zero=>
   simp only[List.flatten_cons,uy,qn,List.getElem_cons_zero]
   simp[gc,qY (show j<x.length by omega)]
  |succ i=>
   have:=ih (fun y hy=>h y (by simp[hy])) i j hj (by simpa using hi)
   have e:(i+1)*sz+j=x.length+(i*sz+j):=by rw[uY,hx]; omega
   simp only[List.flatten_cons,List.getElem_cons_succ];rw[← this,e];simp only[gc,qC,uo (Nat.le_add_right _ _),Nat.add_sub_cancel_left]
theorem length_flat {sz:Nat}:∀ {es:List (List AV)} (_:∀ x∈es,x.length=sz),es.flatten.length=es.length*sz:=by
 intro es
 induction es with
 |nil=>intro _; simp
 |cons x es ih=>intro h; simp only[List.flatten_cons,qj,ih fun y hy=>h y (by simp[hy]),h x (by simp),qp]; rw[uY]; omega
theorem Opens.arg {t:TypeId}{A:List AV→Prop}(h:Opens enc P w base spare held t A){v:Value}{d:DataW H}{p:List MemPlace}(hv:DataW.Trod enc P w base spare held t v d p)(h1:v.cells.toList=[v]):∃ a,A [a]∧VR (Env.start w) a v:=by
 obtain⟨n,hn⟩:=hv;obtain⟨avs,e1,e2,e3⟩:=h _ _ _ hn;rw[h1] at e1 e3
 match avs,e1 with
 |[a],_=>exact⟨a,e2,by simpa [gc] using e3 0 (by simp)⟩
end
theorem walk_of {P:Program}{f:FuncId}{avs:List AV}{x:AV}{v:Value}(h:ACalls P f avs [] fun r σ'=>r=x){w:World}{vs:Array Value}(hg:Glb w fun b=>b<w.heap.size)(hvs:X1 (Env.start w) avs vs.toList)(hx:∀ E u,VR E x u→u=v):
 Calls P f vs w fun e w'=>e=.returned v∧Below w.heap.size w w':=by
 refine (h.2 (Env.start w) vs (SR.start w hg) hvs).mono ?_;rintro e w' ⟨u,r,σ',E',rfl,rfl,h3,_,h5,rfl⟩;refine⟨by rw[hx _ _ h3],h5.os,h5.tape,h5.output,h5.size,fun k hk=>(h5.st k hk).2⟩
theorem listR_one {E:Env}{a:AV}{v:Value}(h:VR E a v):X1 E [a] [v]:=⟨rfl,fun i hi=>by simp at hi; subst hi; exact h⟩
theorem listR_cons {E:Env}{a:AV}{v:Value}{l:List AV}{m:List Value}(h:VR E a v)(k:X1 E l m):X1 E (a::l) (v::m):=by
 refine⟨by simp[k.1],fun i hi=>?_⟩
 cases i with
 |zero=>exact h
 |succ i=>exact k.2 i (by simpa using hi)
theorem VR.true_of {E:Env}{u:Value}(h:VR E (.bool true) u):u=.bool true:=by cases h; rfl
end AM
end
section
namespace AM
variable {Φ:Ctx}
open Go.RowKit
theorem listR_canon {E E':Env}{s:Bool}(hw:E'.w=E.w)(hst:∀ b,E.st b→E'.st b){l:List AV}{vs:List Value}(hc:xl s l=true)(h:X1 E l vs):X1 E' l vs:=
 ⟨h.1,fun i hi=>VR.canonRenL hw hst l hc i hi (h.2 i hi)⟩
theorem ACalls.pureAt {P:Program}{f:FuncId}{args:List AV}{x:AV}(h:ACalls P f args [] fun r _=>r=x)(ha:xl false args=true)(hx:x.canon false=true)(σ:ze):
 ACalls P f args σ fun r σ'=>r=x∧σ'=σ:=by
 refine⟨h.1,fun E vs hS hl=>?_⟩
 let Es:Env := { w:=E.w,st:=E.st,loc:=fun _=>none,n:=0,base:=E.base }
 have hSs:SR Es []:=⟨rfl,(fun id=>by simp[ObjR,Es]),(fun id id' v v' b h=>by cases h),(fun id v b h=>by cases h),hS.stb,hS.glb,hS.bas⟩;refine (h.2 Es vs hSs (listR_canon (E:=E) (E':=Es) rfl (fun _ h=>h) ha hl)).mono ?_;rintro e w ⟨v,r,σ',E1,rfl,rfl,h3,h4,h5,rfl⟩
 let E2:Env := { w:=E1.w,st:=E1.st,loc:=E.loc,n:=E.n,base:=E1.base }
 have hown:∀ b,b<E.w.heap.size→E1.w.heap[b]?=E.w.heap[b]?:=fun b hb=>h5.old b hb fun id v h=>by cases h
 have hext:Ext E E2 := {
  os:=h5.os
  tape:=h5.tape
  output:=h5.output
  size:=h5.size
  shape:=h5.shape
  st:=fun b hb=>h5.st b hb
  n:=qx _
  loc:=fun _ _ v o h=>⟨v,o,h,qx _,fun _=>rfl⟩
  old:=fun b hb _=>hown b hb
  own:=fun id v _ h _=>⟨id,v,h⟩
  stn:=fun b hb=>by
   rcases h5.stn b hb with h|h|⟨_,_,h⟩
   · exact .inl h
   · exact .inr (.inl h)
   cases h
  bas:=fun id _ ver b hl _=>h5.basO b (hS.blk id ver b hl).1 fun _ _ h=>by cases h
  basO:=fun b hb _=>h5.basO b hb fun _ _ h=>by cases h }
 refine⟨v,r,σ,E2,rfl,rfl,?_,?_,hext,rfl,rfl⟩
 · exact VR.canonRen (E:=E1) (E':=E2) rfl (fun _ h=>h) _ hx h3
 refine⟨hS.len,fun id=>if hid:id<E.n then (hS.obj id).ext hext (.inl hid) rfl fun v b hb=>hown b (hS.blk id v b hb).1 else hS.out (E':=E2) hid rfl,hS.inj,fun id v b hb=>?_,fun b hb=>h4.stb b hb,h4.glb,h4.bas⟩;refine⟨ui (hS.blk id v b hb).1 h5.size,fun hs=>?_⟩
 rcases h5.stn b hs with h|h|⟨_,_,h⟩
 · exact (hS.blk id v b hb).2 h
 · have:=(hS.blk id v b hb).1; exact Nat.lt_irrefl _ (ui this h)
 cases h
mutual
theorem VR.flatRen {E E':Env}:∀ (a:AV) {v:Value},a.flat=true→VR E a v→VR E' a v
 |.u,_,_,h=>.u _
 |.bool _,_,_,h=>by cases h; exact .bool _
 |.int _ _,_,_,h=>by cases h; exact .int _ _
 |.str _,_,_,h=>by cases h with|str _ s h=>exact .str _ _ h
 |.nilp,_,_,h=>by cases h; exact .nilp
 |.nilm,_,_,h=>by cases h; exact .nilm
 |.nilF,_,_,h=>by cases h; exact .nilF
 |.nilI,_,_,h=>by cases h; exact .nilI
 |.gp _,_,_,h=>by cases h; exact .gp _
 |.agg cs,_,hc,h=>by
  cases h with|agg _ vs hl hv=>exact .agg _ vs hl fun i hi=>VR.flatRenL cs (by simpa [AV.flat] using hc) i hi (hv i hi)
 |.tup cs,_,hc,h=>by
  cases h with|tup _ vs hl hv=>exact .tup _ vs hl fun i hi=>VR.flatRenL cs (by simpa [AV.flat] using hc) i hi (hv i hi)
 |.ifc t a,_,hc,h=>by
  cases h with|ifc _ _ v h=>exact .ifc t a v (VR.flatRen a (by simpa [AV.flat] using hc) h)
 |.dp _ _,_,hc,_=>by simp[AV.flat] at hc
 |.ds _ _ _ _,_,hc,_=>by simp[AV.flat] at hc
 |.fn _ _ _,_,hc,_=>by simp[AV.flat] at hc
 |.op _ _ _,_,hc,_=>by simp[AV.flat] at hc
 |.os _ _ _ _ _ _ _,_,hc,_=>by simp[AV.flat] at hc
 |.mp _,_,hc,_=>by simp[AV.flat] at hc
 |.it _,_,hc,_=>by simp[AV.flat] at hc
theorem VR.flatRenL {E E':Env}:∀ (cs:List AV) (hc:flatL cs=true) (i:Nat) (hi:i<cs.length) {v:Value},VR E (gc cs i) v→VR E' (gc cs i) v
 |[],_,_,hi,_,_=>absurd hi (by simp)
 |a::cs,hc,0,_,_,h=>by
  simp only[flatL,qJ] at hc;exact VR.flatRen a hc.1 h
 |a::cs,hc,i+1,hi,_,h=>by
  simp only[flatL,qJ] at hc
  have e:gc (a::cs) (i+1)=gc cs i:=by simp[gc]
  rw[e] at h ⊢;exact VR.flatRenL cs hc.2 i (by simpa using hi) h
end
theorem ACalls.lend {P:Program}{f:FuncId}{args:List AV}{x:AV}(h:ACalls P f args [] fun r _=>r=x)(hx:x.flat=true){σ:ze}{args':List AV}(ls:Bool)(g:Nat)(ha:args'.map (tell σ [] ls g)=args):
 ACalls P f args' σ fun r σ'=>r=x∧σ'=σ:=by
 refine⟨h.1,fun E vs hS hl=>?_⟩;have hSs:SR (E.ren []) []:=hS.tell (keep:=[]) List.nodup_nil (fun _ h=>by cases h) ls g
 have hls:X1 (E.ren []) args vs.toList:=by
  rw[← ha];refine⟨by simpa using hl.1,fun i hi=>?_⟩;rw[ul] at hi
  rw[vbO hi]; exact VR.tell hS g _ (hl.2 i hi)
 refine (h.2 _ vs hSs hls).mono ?_;rintro e w ⟨v,r,σ',E1,rfl,rfl,h3,h4,h5,rfl⟩
 let E2:Env := { w:=E1.w,st:=E.st,loc:=E.loc,n:=E.n,base:=E1.base }
 have hown:∀ b,b<E.w.heap.size→E1.w.heap[b]?=E.w.heap[b]?:=fun b hb=>h5.old b hb fun id v h=>by simp[Env.ren] at h
 have hext:Ext E E2 := {
  os:=h5.os
  tape:=h5.tape
  output:=h5.output
  size:=h5.size
  shape:=h5.shape
  st:=fun b hb=>⟨hb,hown b (hS.stb b hb)⟩
  n:=qx _
  loc:=fun _ _ v o h=>⟨v,o,h,qx _,fun _=>rfl⟩
  old:=fun b hb _=>hown b hb
  own:=fun id v _ h _=>⟨id,v,h⟩
  stn:=fun b hb=>.inl hb
  bas:=fun id _ ver b hl _=>h5.basO b (hS.blk id ver b hl).1 fun _ _ h=>by simp[Env.ren] at h
  basO:=fun b hb _=>h5.basO b hb fun _ _ h=>by simp[Env.ren] at h }
 refine⟨v,r,σ,E2,rfl,rfl,VR.flatRen _ hx h3,?_,hext,rfl,rfl⟩;exact⟨hS.len,fun id=>if hid:id<E.n then (hS.obj id).ext hext (.inl hid) rfl fun v b hb=>hown b (hS.blk id v b hb).1 else hS.out (E':=E2) hid rfl,hS.inj,fun id v b hb=>⟨ui (hS.blk id v b hb).1 h5.size,(hS.blk id v b hb).2⟩,fun b hb=>ui (hS.stb b hb) h5.size,hS.glb.mono hext.st,h4.bas⟩
mutual
def AV.ren (g:Nat→Nat):AV→AV
 |.u=>.u
 |.bool b=>.bool b
 |.int k n=>.int k n
 |.str s=>.str s
 |.nilp=>.nilp
 |.nilm=>.nilm
 |.nilF=>.nilF
 |.nilI=>.nilI
 |.gp n=>.gp n
 |.agg cs=>.agg (vbx g cs)
 |.tup cs=>.tup (vbx g cs)
 |.op id ver off=>.op (g id) ver off
 |.os nl sz id ver off len t=>.os nl sz (g id) ver off len t
 |.dp cs off=>.dp (vbx g cs) off
 |.ds nl cs len t=>.ds nl (vbx g cs) len t
 |.fn f a b=>.fn f (vbx g a) (vbx g b)
 |.ifc t a=>.ifc t (a.ren g)
 |.mp id=>.mp (g id)
 |.it id=>.it (g id)
def vbx (g:Nat→Nat):List AV→List AV
 |[]=>[]
 |a::l=>a.ren g::vbx g l
end
theorem renL_map (g:Nat→Nat)(l:List AV):vbx g l=l.map (AV.ren g):=by
 induction l with
 |nil=>rfl
 |cons a l ih=>simp[vbx,ih]
theorem yZ (g:Nat→Nat)(l:List AV):(vbx g l).length=l.length:=by rw[renL_map]; simp
theorem Yu (g:Nat→Nat){l:List AV}{i:Nat}(h:i<l.length):gc (vbx g l) i=(gc l i).ren g:=by
 rw[renL_map,vbO h]
mutual
theorem vba (g:Nat→Nat){s:Bool}:∀ (a:AV),a.canon s=true→a.ren g=a
 |.u,_|.bool _,_|.int _ _,_|.str _,_|.nilp,_|.nilm,_|.nilF,_|.nilI,_|.gp _,_=>rfl
 |.agg cs,h=>by simp only[AV.canon] at h; simp only[AV.ren,Zd g cs h]
 |.tup cs,h=>by simp only[AV.canon] at h; simp only[AV.ren,Zd g cs h]
 |.dp cs _,h=>by simp only[AV.canon] at h; simp only[AV.ren,Zd g cs h]
 |.ds nl cs _ t,h=>by simp only[AV.canon,qJ] at h; simp only[AV.ren,Zd g cs h.2]
 |.fn _ a b,h=>by simp only[AV.canon,qJ] at h; simp only[AV.ren,Zd g a h.1,Zd g b h.2]
 |.ifc _ a,h=>by simp only[AV.canon] at h; simp only[AV.ren,vba g a h]
 |.op _ _ _,h|.os _ _ _ _ _ _ _,h|.mp _,h|.it _,h=>by simp[AV.canon] at h
theorem Zd (g:Nat→Nat){s:Bool}:∀ (l:List AV),xl s l=true→vbx g l=l
 |[],_=>rfl
 |a::l,h=>by
  simp only[xl,qJ] at h;simp only[vbx,vba g a h.1,Zd g l h.2]
end
theorem VR.renum {E E':Env}{g:Nat→Nat}(hw:E'.w=E.w)(hst:∀ b,E.st b→E'.st b)(hok:∀ id ver,E.ok id ver→E'.ok (g id) ver)(hloc:∀ id,id<E.n→∀ p,E'.loc (g id)=some p→E.loc id=some p)(hbs:E'.base=E.base:=by rfl):
 ∀ {a:AV} {v:Value},VR E a v→VR E' (a.ren g) v:=by
 intro a v h
 have row:∀ {b o m:Nat} {vs:Nat→Value},Row E.w E.st b o m vs→Row E'.w E'.st b o m vs:=fun h=>by
  rcases h with h|⟨h1,h2⟩
  · exact .inl h
  exact .inr ⟨hst _ h1,by rw[hw]; exact h2⟩
 induction h with
 |u v=>exact .u _
 |bool b=>exact .bool _
 |int k n=>exact .int _ _
 |str l s h=>exact .str _ _ h
 |agg cs vs hl _ ih=>exact .agg _ vs (by rw[yZ]; exact hl) fun i hi=>by rw[yZ] at hi; rw[Yu g hi]; exact ih i hi
 |tup cs vs hl _ ih=>exact .tup _ vs (by rw[yZ]; exact hl) fun i hi=>by rw[yZ] at hi; rw[Yu g hi]; exact ih i hi
 |nilp=>exact .nilp
 |op id ver off a hk h=>exact .op _ _ _ _ (hok _ _ hk) fun b hb=>by rw[hbs]; exact h b (hloc id hk.1 _ hb)
 |dp cells off b o vs hr _ ih=>exact .dp _ off b o vs (by rw[yZ]; exact row hr) fun i hi=>by rw[yZ] at hi; rw[Yu g hi]; exact ih i hi
 |dsn t=>exact .dsn _
 |ds nl cells len t a cap vs ha hr _ hc ht hB ih=>
  exact .ds _ _ _ _ a cap vs (by rcases ha with h|h; exact .inl (by rw[h]; rfl); exact .inr h) (by rw[yZ]; exact row hr) (fun i hi=>by rw[yZ] at hi; rw[Yu g hi]; exact ih i hi) hc ht hB
 |osn sz id ver off t a hk h=>exact .osn _ _ _ _ _ _ (hok _ _ hk) fun ob hb=>h ob (hloc id hk.1 _ hb)
 |os nl sz id ver off len t a cap hk hc ht hB h=>
  refine .os _ _ _ _ _ _ _ a cap (hok _ _ hk) hc ht hB fun ob hb=>?_
  obtain⟨b,e1,e2,t',m,hs,hm⟩:=h ob (hloc id hk.1 _ hb);exact⟨b,e1,by rw[hbs]; exact e2,t',m,by rw[hw]; exact hs,by rw[hbs]; exact hm⟩
 |mp id b hk h=>exact .mp _ b (hok _ _ hk) fun ob hb=>h ob (hloc id hk.1 _ hb)
 |nilm=>exact .nilm
 |fn f first cap vf vc hf hc _ _ i1 i2=>
  exact .fn f _ _ vf vc (by rw[yZ]; exact hf) (by rw[yZ]; exact hc) (fun i hi=>by rw[yZ] at hi; rw[Yu g hi]; exact i1 i hi) (fun i hi=>by rw[yZ] at hi; rw[Yu g hi]; exact i2 i hi)
 |nilF=>exact .nilF
 |ifc t a v _ ih=>exact .ifc t _ v ih
 |nilI=>exact .nilI
 |it id b hk h=>exact .it _ b (hok _ _ hk) fun ob hb=>h ob (hloc id hk.1 _ hb)
 |gp n=>exact .gp _
theorem VR.unren {E E':Env}{g:Nat→Nat}(hw:E.w=E'.w)(hst:∀ b,E'.st b→E.st b)(hok:∀ id ver,E'.ok (g id) ver→E.ok id ver)(hloc:∀ id,id<E.n→∀ p,E.loc id=some p→E'.loc (g id)=some p)(hbs:E.base=E'.base:=by rfl):
 ∀ {x:AV} {v:Value},VR E' x v→∀ a:AV,x=a.ren g→VR E a v:=by
 have row:∀ {b o m:Nat} {vs:Nat→Value},Row E'.w E'.st b o m vs→Row E.w E.st b o m vs:=fun h=>by
  rcases h with h|⟨h1,h2⟩
  · exact .inl h
  exact .inr ⟨hst _ h1,by rw[hw]; exact h2⟩
 intro x v h
 induction h with
 |u v=>intro a e; cases a<;>simp only[AV.ren,reduceCtorEq] at e; exact .u _
 |bool b=>intro a e; cases a<;>simp only[AV.ren,reduceCtorEq,AV.bool.injEq] at e; subst e; exact .bool _
 |int k n=>intro a e; cases a<;>simp only[AV.ren,reduceCtorEq,AV.int.injEq] at e; obtain⟨rfl,rfl⟩:=e; exact .int _ _
 |str l s h=>intro a e; cases a<;>simp only[AV.ren,reduceCtorEq,AV.str.injEq] at e; subst e; exact .str _ _ h
 |agg cs vs hl _ ih=>
  intro a e; cases a<;>simp only[AV.ren,reduceCtorEq,AV.agg.injEq] at e
  subst e;rw[yZ] at hl
  exact .agg _ vs hl fun i hi=>ih i (by rw[yZ]; exact hi) _ (Yu g hi)
 |tup cs vs hl _ ih=>
  intro a e; cases a<;>simp only[AV.ren,reduceCtorEq,AV.tup.injEq] at e
  subst e;rw[yZ] at hl
  exact .tup _ vs hl fun i hi=>ih i (by rw[yZ]; exact hi) _ (Yu g hi)
 |nilp=>intro a e; cases a<;>simp only[AV.ren,reduceCtorEq] at e; exact .nilp
 |op id ver off ad hk h=>
  intro a e; cases a<;>simp only[AV.ren,reduceCtorEq,AV.op.injEq] at e
  obtain⟨rfl,rfl,rfl⟩:=e;have:=hok _ _ hk
  exact .op _ _ _ _ this fun b hb=>by rw[hbs]; exact h b (hloc _ this.1 _ hb)
 |dp cells off b o vs hr _ ih=>
  intro a e; cases a<;>simp only[AV.ren,reduceCtorEq,AV.dp.injEq] at e
  obtain⟨rfl,rfl⟩:=e;rw[yZ] at hr
  exact .dp _ _ b o vs (row hr) fun i hi=>ih i (by rw[yZ]; exact hi) _ (Yu g hi)
 |dsn t=>
  intro a e; cases a<;>simp only[AV.ren,reduceCtorEq,AV.ds.injEq] at e
  obtain⟨rfl,e2,rfl,rfl⟩:=e
  rename_i cs
  have:cs=[]:=qS.1 (by rw[← yZ g,← e2]; rfl)
  subst this; exact .dsn _
 |ds nl cells len t ad cap vs ha hr _ hc ht hB ih=>
  intro a e; cases a<;>simp only[AV.ren,reduceCtorEq,AV.ds.injEq] at e
  obtain⟨rfl,rfl,rfl,rfl⟩:=e;rw[yZ] at hr;exact .ds _ _ _ _ ad cap vs (by rcases ha with h|h; exact .inl (qS.1 (by rw[← yZ g,h]; rfl)); exact .inr h) (row hr) (fun i hi=>ih i (by rw[yZ]; exact hi) _ (Yu g hi)) hc ht hB
 |osn sz id ver off t ad hk h=>
  intro a e; cases a<;>simp only[AV.ren,reduceCtorEq,AV.os.injEq] at e
  obtain⟨rfl,rfl,rfl,rfl,rfl,rfl,rfl⟩:=e;have:=hok _ _ hk
  exact .osn _ _ _ _ _ _ this fun ob hb=>h ob (hloc _ this.1 _ hb)
 |os nl sz id ver off len t ad cap hk hc ht hB h=>
  intro a e; cases a<;>simp only[AV.ren,reduceCtorEq,AV.os.injEq] at e
  obtain⟨rfl,rfl,rfl,rfl,rfl,rfl,rfl⟩:=e;have:=hok _ _ hk
  refine .os _ _ _ _ _ _ _ ad cap this hc ht hB fun ob hb=>?_
  obtain⟨b,e1,e2,t',m,hs,hm⟩:=h ob (hloc _ this.1 _ hb);exact⟨b,e1,by rw[hbs]; exact e2,t',m,by rw[hw]; exact hs,by rw[hbs]; exact hm⟩
 |mp id b hk h=>
  intro a e; cases a<;>simp only[AV.ren,reduceCtorEq,AV.mp.injEq] at e
  subst e;have:=hok _ _ hk
  exact .mp _ b this fun ob hb=>h ob (hloc _ this.1 _ hb)
 |nilm=>intro a e; cases a<;>simp only[AV.ren,reduceCtorEq] at e; exact .nilm
 |fn f first cap vf vc hf hc _ _ i1 i2=>
  intro a e; cases a<;>simp only[AV.ren,reduceCtorEq,AV.fn.injEq] at e
  obtain⟨rfl,rfl,rfl⟩:=e;rw[yZ] at hf hc;exact .fn _ _ _ vf vc hf hc (fun i hi=>i1 i (by rw[yZ]; exact hi) _ (Yu g hi)) (fun i hi=>i2 i (by rw[yZ]; exact hi) _ (Yu g hi))
 |nilF=>intro a e; cases a<;>simp only[AV.ren,reduceCtorEq] at e; exact .nilF
 |ifc t x v _ ih=>
  intro a e; cases a<;>simp only[AV.ren,reduceCtorEq,AV.ifc.injEq] at e
  obtain⟨rfl,e⟩:=e;exact .ifc _ _ v (ih _ e)
 |nilI=>intro a e; cases a<;>simp only[AV.ren,reduceCtorEq] at e; exact .nilI
 |it id b hk h=>
  intro a e; cases a<;>simp only[AV.ren,reduceCtorEq,AV.it.injEq] at e
  subst e;have:=hok _ _ hk
  exact .it _ b this fun ob hb=>h ob (hloc _ this.1 _ hb)
 |gp n=>intro a e; cases a<;>simp only[AV.ren,reduceCtorEq,AV.gp.injEq] at e; subst e; exact .gp _
def vdo (g:Nat→Nat):Yq→Yq
 |.cells ver cs=>.cells ver (vbx g cs)
 |.map es gh=>.map (es.map fun e=>(e.1.ren g,e.2.ren g)) gh
 |.iter s p=>.iter s p
 |.loop l r tm=>.loop l r (vbx g tm)
 |.mark b=>.mark b
 |.dead=>.dead
def vbj (ids:List Nat)(base:Nat)(i:Nat):Nat:=(ids[i]?).getD (base+(i-ids.length))
def YZ (g:Nat→Nat):List Nat→ze→ze→ze
 |id::ids,o::l,σ=>YZ g ids l (σ.set id (vdo g o))
 |_,l,σ=>σ++l.map (vdo g)
theorem putAll_spec (g:Nat→Nat):∀ (ids:List Nat) (l σ:ze),ids.length≤l.length→ids.Nodup→(∀ id∈ids,id<σ.length)→
 (YZ g ids l σ).length=σ.length+(l.length-ids.length)∧(∀ (i id:Nat),ids[i]?=some id→(YZ g ids l σ)[id]?=(l[i]?).map (vdo g))∧
  (∀ (id:Nat),id<σ.length→id∉ids→(YZ g ids l σ)[id]?=σ[id]?)∧(∀ (j:Nat),(YZ g ids l σ)[σ.length+j]?=(l[ids.length+j]?).map (vdo g)):=by
 intro ids
 induction ids with
 |nil=>
  intro l σ _ _ _
  have e:YZ g [] l σ=σ++l.map (vdo g):=by cases l<;>rfl
  rw[e];refine⟨by simp,fun i id h=>by simp at h,fun id h _=>by rw[qY h],fun j=>?_⟩;rw[uo (by omega)]
  simp
 |cons x ids ih=>
  intro l σ hl hn hlt
  cases l with
  |nil=>simp at hl
  |cons o l=>
   obtain⟨hn1,hn2⟩:=vg.1 hn;have hx:=hlt x (by simp);obtain⟨h1,h2,h3,h4⟩:=ih l (σ.set x (vdo g o)) (by simpa using hl) hn2 (fun id hid=>by simpa using hlt id (by simp[hid]));simp only[YZ];simp only[List.length_set] at h1 h3 h4;refine⟨by simp only[qp]; omega,fun i id h=>?_,fun id h hm=>?_,fun j=>?_⟩
   · cases i with
     |zero=>
      simp only[uL,Option.some.injEq] at h;subst h
      rw[h3 x hx hn1,uv hx]; simp
     |succ i=>
      rw[uP] at h
      rw[h2 i id h]; simp
   · rw[h3 id h (fun e=>hm (by simp[e])),ue (fun e=>hm (by simp[e]))]
   rw[h4 j]
   have:(x::ids).length+j=(ids.length+j)+1:=by simp; omega
   rw[this,uP]
theorem ObjR.renum {E E':Env}{g:Nat→Nat}(hw:E'.w=E.w)(hst:∀ b,E.st b→E'.st b)(hok:∀ id ver,E.ok id ver→E'.ok (g id) ver)(hloc:∀ id,id<E.n→∀ p,E'.loc (g id)=some p→E.loc id=some p)(hbs:E'.base=E.base:=by rfl)
 {i:Nat} {o:Yq} (hl:E'.loc (g i)=E.loc i) (h:ObjR E i (some o)):ObjR E' (g i) (some (vdo g o)):=by
 cases o with
 |cells ver cs=>
  rcases h with ⟨b,h1,h2⟩|⟨h1,h2⟩
  · refine .inl ⟨b,hl.trans h1,?_⟩;obtain⟨conc,t,fr,a1,a2,a3,a4⟩:=h2.blk;exact⟨conc,t,fr,by rw[hw]; exact a1,a2,by rw[yZ,hbs]; exact a3,fun j hj=>by rw[yZ] at hj; rw[Yu g hj,hbs]; exact VR.renum hw hst hok hloc hbs (a4 j hj)⟩
  exact .inr ⟨by rw[h1]; rfl,hl.trans h2⟩
 |map es gh=>
  obtain⟨b,ents,clock,h1,h2,h3,h4,h5⟩:=h;refine⟨b,ents,clock,hl.trans h1,by rw[hw]; exact h2,by rw[ul]; exact h3,fun j h h'=>?_,h5⟩;rw[ul] at h;simp only[List.getElem_map];exact⟨VR.renum hw hst hok hloc hbs (h4 j h h').1,VR.renum hw hst hok hloc hbs (h4 j h h').2⟩
 |iter s p=>obtain⟨b,h1,h2⟩:=h; exact⟨b,hl.trans h1,by rw[hw]; exact h2⟩
 |loop l r tm=>exact⟨hl.trans h.1,by rw[hw]; exact h.2.1,by rw[yZ]; exact h.2.2.1,fun j hj=>by rw[yZ] at hj; rw[Yu g hj]; exact VR.renum hw hst hok hloc hbs (h.2.2.2 j hj)⟩
 |mark b=>exact⟨hl.trans h.1,by rw[hw]; exact h.2⟩
 |dead=>exact hl.trans h
theorem ObjR.unren {E E':Env}{g:Nat→Nat}(hw:E.w=E'.w)(hst:∀ b,E'.st b→E.st b)(hok:∀ id ver,E'.ok (g id) ver→E.ok id ver)(hloc:∀ id,id<E.n→∀ p,E.loc id=some p→E'.loc (g id)=some p)(hbs:E.base=E'.base:=by rfl)
 {i:Nat} {o:Yq} (hl:E.loc i=E'.loc (g i)) (h:ObjR E' (g i) (some (vdo g o))):ObjR E i (some o):=by
 cases o with
 |cells ver cs=>
  rcases h with ⟨b,h1,h2⟩|⟨h1,h2⟩
  · refine .inl ⟨b,hl.trans h1,?_⟩;obtain⟨conc,t,fr,a1,a2,a3,a4⟩:=h2.blk;rw[yZ] at a3 a4;exact⟨conc,t,fr,by rw[hw]; exact a1,a2,by rw[hbs]; exact a3,fun j hj=>by rw[hbs]; exact VR.unren hw hst hok hloc hbs (a4 j hj) _ (Yu g hj)⟩
  exact .inr ⟨qS.1 (by rw[← yZ g,h1]; rfl),hl.trans h2⟩
 |map es gh=>
  obtain⟨b,ents,clock,h1,h2,h3,h4,h5⟩:=h;rw[ul] at h3;refine⟨b,ents,clock,hl.trans h1,by rw[hw]; exact h2,h3,fun j h h'=>?_,h5⟩;have:=h4 j (by simpa using h) h';simp only[List.getElem_map] at this;exact⟨VR.unren hw hst hok hloc hbs this.1 _ rfl,VR.unren hw hst hok hloc hbs this.2 _ rfl⟩
 |iter s p=>obtain⟨b,h1,h2⟩:=h; exact⟨b,hl.trans h1,by rw[hw]; exact h2⟩
 |loop l r tm=>
  obtain⟨h1,h2,h3,h4⟩:=h;rw[yZ] at h3 h4;exact⟨hl.trans h1,by rw[hw]; exact h2,h3,fun j hj=>VR.unren hw hst hok hloc hbs (h4 j hj) _ (Yu g hj)⟩
 |mark b=>exact⟨hl.trans h.1,by rw[hw]; exact h.2⟩
 |dead=>exact hl.trans h
theorem ACalls.embed {P:Program}{f:FuncId}{args:List AV}{σs:ze}{R:AV→ze→Prop}(h:ACalls P f args σs R){σ:ze}(ids:List Nat)(hn:ids.Nodup)(hlt:∀ id∈ids,id<σ.length)
 (hobj:ids.map (fun id=>σ[id]?)=σs.map fun o=>some (vdo (vbj ids σ.length) o)) {args':List AV} (ha:vbx (vbj ids σ.length) args=args'):
 ACalls P f args' σ fun r' σ'=>∃ r τ,R r τ∧r'=r.ren (vbj ids σ.length)∧σ'=YZ (vbj ids σ.length) ids τ σ:=by
 refine⟨h.1,fun E vs hS hl=>?_⟩
 have hlen:σs.length=ids.length:=by have:=congrArg qa hobj; simpa using this.symm
 generalize hg:vbj ids σ.length=g at *
 have g1:∀ i id,ids[i]?=some id→g i=id:=fun i id h=>by rw[← hg]; simp[vbj,h]
 have g2:∀ i,ids.length≤i→g i=σ.length+(i-ids.length):=fun i h=>by rw[← hg]; simp[vbj,h]
 have g3:∀ i,i<ids.length→ids[i]?=some (g i):=fun i h=>by
  have:ids[i]?=some ids[i]:=qX h;rw[this,g1 i _ this]
 have gin:∀ i,i<ids.length→g i∈ids:=fun i h=>List.mem_of_getElem? (g3 i h)
 let Es:Env := { w:=E.w,st:=E.st,loc:=fun i=>if i<ids.length then E.loc (g i) else none,n:=ids.length,base:=E.base }
 have hok:∀ id ver,E.ok (g id) ver→Es.ok id ver:=fun id ver h=>by
  have hid:id<ids.length:=by
   rcases ve id ids.length with h1|h1
   · exact h1
   have:=g2 id h1; have h2:=h.1; have:=hS.len; omega
  exact⟨hid,fun v ob hb=>h.2 v ob (by simpa [Es,hid] using hb)⟩
 have hloc:∀ id,id<Es.n→∀ p,Es.loc id=some p→E.loc (g id)=some p:=fun id hid p hp=>by
  have hid':id<ids.length:=hid
  simpa [Es,hid'] using hp
 have hSs:SR Es σs:=by
  refine⟨hlen,fun i=>?_,fun i i' v v' b h1 h2=>?_,fun i v b h1=>?_,hS.stb,hS.glb,hS.bas⟩
  · by_cases hi:i<ids.length
    · have hsi:σs[i]?=some (σs[i]'(by omega)):=qX (by omega);rw[hsi]
      have h1:(ids.map fun id=>σ[id]?)[i]?=(σs.map fun o=>some (vdo g o))[i]?:=by rw[hobj]
      rw[vp,vp,g3 i hi,hsi] at h1;simp only[uN,Option.some.injEq] at h1;have h2:=hS.obj (g i);rw[h1] at h2;exact ObjR.unren (E:=Es) (E':=E) rfl (fun _ h=>h) hok hloc rfl (by simp[Es,hi]) h2
    rw[uw (by omega)]
    show Es.loc i=none
    simp[Es,hi]
  · have h1':i<ids.length∧E.loc (g i)=some (v,some b):=by
     by_cases hi:i<ids.length
     · exact⟨hi,by simpa [Es,hi] using h1⟩
     simp[Es,hi] at h1
    have h2':i'<ids.length∧E.loc (g i')=some (v',some b):=by
     by_cases hi:i'<ids.length
     · exact⟨hi,by simpa [Es,hi] using h2⟩
     simp[Es,hi] at h2
    have:=hS.inj _ _ _ _ _ h1'.2 h2'.2;have e1:=g3 i h1'.1;have e2:=g3 i' h2'.1;rw[this] at e1;exact (List.getElem?_inj h1'.1 hn).1 (e1.trans e2.symm)
  by_cases hi:i<ids.length
  · exact hS.blk (g i) v b (by simpa [Es,hi] using h1)
  simp[Es,hi] at h1
 have hls:X1 Es args vs.toList:=by
  have h1:args'.length=args.length:=by rw[← ha,yZ]
  refine⟨by rw[hl.1,h1],fun i hi=>?_⟩;have:=hl.2 i (by omega);exact VR.unren (E:=Es) (E':=E) rfl (fun _ h=>h) hok hloc rfl this _ (by rw[← ha,Yu g hi])
 refine (h.2 Es vs hSs hls).mono ?_;rintro e w ⟨v,r,τ,E1,rfl,rfl,h3,h4,h5,hR⟩;have hn1:ids.length≤E1.n:=h5.n;have hτ:τ.length=E1.n:=h4.len;obtain⟨p1,p2,p3,p4⟩:=putAll_spec g ids τ σ (by omega) hn hlt
 let loc2:Nat→Option (Nat×Option Nat):=fun id=>
  match Y2 ids id 0 with
  |some i=>E1.loc i
  |none=>if id<E.n then E.loc id else E1.loc (ids.length+(id-E.n))
 let E2:Env := { w:=E1.w,st:=E1.st,loc:=loc2,n:=E.n+(E1.n-ids.length),base:=E1.base }
 have idx:∀ i,i<ids.length→Y2 ids (g i) 0=some i:=fun i hi=>idxOf_get hn (g3 i hi)
 have noidx:∀ id,id∉ids→Y2 ids id 0=none:=fun id h=>by
  cases hq:Y2 ids id 0 with
  |none=>rfl
  |some j=>
   obtain⟨_,h2⟩:=Xf ids id 0 j hq;rw[uZ] at h2;exact absurd (List.mem_of_getElem? h2) h
 have l1:∀ i,E2.loc (g i)=E1.loc i:=fun i=>by
  rcases ve i ids.length with hi|hi
  · simp only[E2,loc2,idx i hi]
  have e:=g2 i hi
  have hnot:g i∉ids:=fun hm=>by have:=hlt _ hm; omega
  have hge:¬ g i<E.n:=by have:=hS.len; omega
  simp only[E2,loc2,noidx _ hnot,if_neg hge]
  congr 1
  have:=hS.len; omega
 have l2:∀ id,id<E.n→id∉ids→E2.loc id=E.loc id:=fun id h1 h2=>by simp only[E2,loc2,noidx _ h2,if_pos h1]
 have rev:∀ id,(id<E.n∧id∉ids)∨(∃ i,id=g i):=fun id=>by
  by_cases hm:id∈ids
  · obtain⟨i,hi,rfl⟩:=List.getElem_of_mem hm;exact .inr ⟨i,(g1 i _ (qX hi)).symm⟩
  by_cases hlt':id<E.n
  · exact .inl ⟨hlt',hm⟩
  refine .inr ⟨ids.length+(id-E.n),?_⟩
  rw[g2 _ (by omega)]; have:=hS.len; omega
 have grange:∀ i,i<E1.n→g i<E2.n:=fun i hi=>by
  show g i<E.n+(E1.n-ids.length)
  rcases ve i ids.length with h|h
  · have:=hlt _ (gin i h); have:=hS.len; omega
  have:=g2 i h; have:=hS.len; omega
 have hok2:∀ id ver,E1.ok id ver→E2.ok (g id) ver:=fun id ver h=>⟨grange id h.1,fun v ob hb=>h.2 v ob (by rw[← l1 id]; exact hb)⟩
 have hloc2:∀ id,id<E1.n→∀ p,E2.loc (g id)=some p→E1.loc id=some p:=fun id _ p hp=>by rw[← l1 id]; exact hp
 -- what the call was not lent
 have esown:∀ i v b,Es.loc i=some (v,some b)→i<ids.length∧E.loc (g i)=some (v,some b):=fun i v b h=>by
  by_cases hi:i<ids.length
  · exact⟨hi,by simpa [Es,hi] using h⟩
  simp[Es,hi] at h
 have kept:∀ b,b<E.w.heap.size→(∀ i v,i<ids.length→E.loc (g i)≠some (v,some b))→E1.w.heap[b]?=E.w.heap[b]?:=fun b hb hno=>
  h5.old b hb fun i v h=>(hno i v (esown i v b h).1) (esown i v b h).2
 have notlent:∀ id v b,id<E.n→id∉ids→E.loc id=some (v,some b)→∀ i v',i<ids.length→E.loc (g i)≠some (v',some b):=fun id v b h1 h2 hl i v' hi hc=>by
  have:=hS.inj _ _ _ _ _ hl hc;subst this;exact h2 (gin i hi)
 have hext:Ext E E2 := {
  os:=h5.os
  tape:=h5.tape
  output:=h5.output
  size:=h5.size
  shape:=h5.shape
  st:=fun b hb=>h5.st b hb
  n:=Nat.le_add_right _ _
  loc:=fun id hid ver ob hl=>by
   by_cases hm:id∈ids
   · obtain⟨i,hi,rfl⟩:=List.getElem_of_mem hm;have hgi:=g1 i _ (qX hi);rw[← hgi,l1] at hl;obtain⟨v0,o0,e1,e2,e3⟩:=h5.loc i hi ver ob hl;refine⟨v0,o0,?_,e2,e3⟩
     rw[← hgi]; simpa [Es,hi] using e1
   rw[l2 id hid hm] at hl;exact⟨ver,ob,hl,qx _,fun _=>rfl⟩
  old:=fun b hb hno=>kept b hb fun i v _=>hno (g i) v
  own:=fun id v b hl hb=>by
   rcases rev id with ⟨h1,h2⟩|⟨i,rfl⟩
   · rw[l2 id h1 h2] at hl; exact⟨id,v,hl⟩
   rw[l1] at hl;obtain⟨i',v',e1⟩:=h5.own i v b hl hb;exact⟨g i',v',(esown i' v' b e1).2⟩
  stn:=fun b hb=>by
   rcases h5.stn b hb with h|h|⟨i,v,h⟩
   · exact .inl h
   · exact .inr (.inl h)
   exact .inr (.inr ⟨g i,v,(esown i v b h).2⟩)
  bas:=fun id hid ver b hl hl'=>by
   by_cases hm:id∈ids
   · obtain⟨i,hi,rfl⟩:=List.getElem_of_mem hm;have hgi:=g1 i _ (qX hi);rw[← hgi,l1] at hl';exact h5.bas i hi ver b (by rw[← hgi] at hl; simpa [Es,hi] using hl) hl'
   exact h5.basO b (hS.blk id ver b hl).1 fun i v h=>notlent id ver b hid hm hl i v (esown i v b h).1 (esown i v b h).2
  basO:=fun b hb hno=>h5.basO b hb fun i v h=>hno (g i) v (esown i v b h).2 }
 refine⟨v,_,_,E2,rfl,rfl,VR.renum (E:=E1) (E':=E2) rfl (fun _ h=>h) hok2 hloc2 rfl h3,?_,hext,r,τ,hR,rfl,rfl⟩;refine⟨by rw[p1,hτ,hS.len],fun id=>?_,fun id id' v v' b h1 h2=>?_,fun id v b h1=>?_,fun b hb=>h4.stb b hb,h4.glb,h4.bas⟩
 · rcases rev id with ⟨h1,h2⟩|⟨i,rfl⟩
   · rw[p3 id (by rw[hS.len]; exact h1) h2]
     exact (hS.obj id).ext hext (.inl h1) (l2 id h1 h2) fun v b hb=>kept b (hS.blk id v b hb).1 (notlent id v b h1 h2 hb)
   have hg':(YZ g ids τ σ)[g i]?=(τ[i]?).map (vdo g):=by
    rcases ve i ids.length with hi|hi
    · exact p2 i _ (g3 i hi)
    rw[g2 i hi,p4]
    congr 2; omega
   rw[hg']
   cases ht:τ[i]? with
   |none=>
    have:=h4.obj i;rw[ht] at this
    show E2.loc (g i)=none
    rw[l1]; exact this
   |some o=>
    have:=h4.obj i;rw[ht] at this;exact ObjR.renum (E:=E1) (E':=E2) rfl (fun _ h=>h) hok2 hloc2 rfl (l1 i) this
 · have mixed:∀ id i v v' b,id<E.n→id∉ids→E.loc id=some (v,some b)→E1.loc i=some (v',some b)→False:=fun id i v v' b h1 h2 hl hi=>by
    have hb:=(hS.blk id v b hl).1;obtain⟨i',v2,e1⟩:=h5.own i v' b hi hb;obtain⟨e2,e3⟩:=esown i' v2 b e1;exact notlent id v b h1 h2 hl i' v2 e2 e3
   rcases rev id with ⟨a1,a2⟩|⟨i,rfl⟩
   · rw[l2 id a1 a2] at h1
     rcases rev id' with ⟨b1,b2⟩|⟨i',rfl⟩
     · rw[l2 id' b1 b2] at h2; exact hS.inj _ _ _ _ _ h1 h2
     rw[l1] at h2; exact (mixed _ _ _ _ _ a1 a2 h1 h2).elim
   rw[l1] at h1
   rcases rev id' with ⟨b1,b2⟩|⟨i',rfl⟩
   · rw[l2 id' b1 b2] at h2; exact (mixed _ _ _ _ _ b1 b2 h2 h1).elim
   rw[l1] at h2; rw[h4.inj _ _ _ _ _ h1 h2]
 rcases rev id with ⟨a1,a2⟩|⟨i,rfl⟩
 · rw[l2 id a1 a2] at h1;refine⟨ui (hS.blk id v b h1).1 h5.size,fun hs=>?_⟩
   rcases h5.stn b hs with h|h|⟨i,v',h⟩
   · exact (hS.blk id v b h1).2 h
   · exact Nat.lt_irrefl _ (ui (hS.blk id v b h1).1 h)
   exact notlent id v b a1 a2 h1 i v' (esown i v' b h).1 (esown i v' b h).2
 rw[l1] at h1;exact h4.blk i v b h1
def vcl (P:Program)(t:TypeId)(name:String)(f:FuncId):Prop:=∀ v w,(method (P.types.size+Made.depth) t v name).run P w=.ok (f,v) w
section
variable {P:Program} {n k:Nat} {Q:Exit→Fr→ze→Prop} {F:Fr} {σ:ze}
theorem vbd {ops:Array Oper}{o:Oper}{l:List Oper}{f:FuncId}{rv:Operand}{name:String}{args:Array Operand}{ats:Array TypeId}{t:TypeId}{x:AV}{R:AV→ze→Prop}
 (hg:Yo ops F o=some true) (ho:o.op=.call { callee:=.invoke rv name,args:=args,argTypes:=ats }) (hx:ev F rv=.ifc t x) (hm:vcl P t name f) (hd:X4 n o.dst=true)
 (h:ACalls P f (x::args.toList.map (ev F)) σ R) (kk:∀ r σ',R r σ'→Zg Φ P n k ops l Q (Zn F o.dst r) σ'):Zg Φ P n k ops (o::l) Q F σ:=by
 intro E a hk hS hF
 unfold wpListIn;rw[if_pos (wY hF hg)];obtain⟨dst,op,ty,pos,after,guard⟩:=o;simp only at ho;subst ho;have hv:=hF.ev rv;rw[hx] at hv
 generalize hfv:a.eval rv=fv at hv
 cases hv with|ifc _ _ v hv=>
 have hargs:X1 E (x::args.toList.map (ev F)) (#[v]++args.map a.eval).toList:=by
  have h1:=vbK (fun x=>hF.ev x) args
  have e:(#[v]++args.map a.eval).toList=v::(args.map a.eval).toList:=by simp
  rw[e];exact listR_cons hv h1
 refine vaB (fun c hc=>by cases hc) ?_
 have hrun:(execOp a.eval { dst:=dst,op:=.call { callee:=.invoke rv name,args:=args,argTypes:=ats },type:=ty,pos:=pos,after:=after,guard:=guard }).run P E.w=.ok (.enter f (#[v]++args.map a.eval)) E.w:=by
  simp only[execOp,resolve,hfv,qy,qR,ql,invoke]
  have e1:(#[Value.iface t v]++Array.map a.eval args)[0]?=some (.iface t v):=by rw[Array.getElem?_append_left (by simp)]; rfl
  have e2:(#[Value.iface t v]++Array.map a.eval args).extract 1 (#[Value.iface t v]++Array.map a.eval args).size=Array.map a.eval args:=by
   apply Array.ext'; simp; exact uu (by simp)
  simp only[e1,e2,callMethod,qy,run_program,ql,hm v E.w];exact h.1 _ _
 rw[hrun];refine⟨(fun hh=>by cases hh),Xk.2 ((h.2 E _ hS hargs).mono ?_)⟩;rintro e w' ⟨v',r,σ',E',rfl,rfl,h5,h6,h7,h8⟩;exact Y9 (h7.mono hk) l _ E'.w (kk r σ' h8 E' _ (uB hk h7.n) h6 ((hF.ext h7).put (Xt hd) h5))
end
end AM
end
section
namespace AM
variable {Φ:Ctx}
open Go.RowKit
theorem ze.at_tl {o:Yq}{x:ze}{i v:Nat}:ze.at (o::x) (i+1) v=ze.at x i v:=rfl
theorem ze.mapAt_hd {es:List (AV×AV)}{gh:Option (List Nat×Nat)}{x:ze}:ze.mapAt (.map es gh::x) 0=some es:=rfl
theorem ze.ghAt_hd {es:List (AV×AV)}{gh:Option (List Nat×Nat)}{x:ze}:ze.ghAt (.map es gh::x) 0=gh:=rfl
theorem ze.ghAt_tl {o:Yq}{x:ze}{i:Nat}:ze.ghAt (o::x) (i+1)=ze.ghAt x i:=rfl
theorem ze.mapAt_tl {o:Yq}{x:ze}{i:Nat}:ze.mapAt (o::x) (i+1)=ze.mapAt x i:=rfl
theorem ze.iterAt_hd {s:List UInt8}{p:Nat}{x:ze}:ze.iterAt (.iter s p::x) 0=some (s,p):=rfl
theorem ze.iterAt_tl {o:Yq}{x:ze}{i:Nat}:ze.iterAt (o::x) (i+1)=ze.iterAt x i:=rfl
class vbv (b:Bool)(p q:outParam Prop):Prop where
 t:b=true→p
 f:b=false→q
instance (priority := low) boolP_eq (b : Bool) : vbv b (b = true) (b = false) := ⟨id, id⟩
instance boolP_dec (p : Prop) [Decidable p] : vbv (decide p) p (¬ p) := ⟨of_decide_eq_true, of_decide_eq_false⟩
instance boolP_not (b : Bool) (p q : Prop) [h : vbv b p q] : vbv (!b) q p := ⟨fun e => h.f (by simpa using e), fun e => h.t (by simpa using e)⟩
instance boolP_and (a b : Bool) (p q p' q' : Prop) [h : vbv a p q] [h' : vbv b p' q'] : vbv (a && b) (p ∧ p') (q ∨ q') :=
 ⟨fun e=>by simp only[qJ] at e; exact⟨h.t e.1,h'.t e.2⟩,fun e=>by
  cases ha:a with
  |false=>exact .inl (h.f ha)
  |true=>rw[ha] at e; exact .inr (h'.f (by simpa using e))⟩
instance boolP_or (a b : Bool) (p q p' q' : Prop) [h : vbv a p q] [h' : vbv b p' q'] : vbv (a || b) (p ∨ p') (q ∧ q') :=
 ⟨fun e=>by
  cases ha:a with
  |true=>exact .inl (h.t ha)
  |false=>rw[ha] at e; exact .inr (h'.t (by simpa using e)),fun e=>by simp only[Bool.or_eq_false_iff] at e; exact⟨h.f e.1,h'.f e.2⟩⟩
instance boolP_beq (a b : Bool) : vbv (a == b) (a = b) (a ≠ b) := ⟨fun e => by simpa using e, fun e => by simpa using e⟩
def AV.isS : AV→Bool
 |.ds ..|.os ..=>true
 |_=>false
section
variable {P:Program} {n k:Nat} {Q:Exit→Fr→ze→Prop} {F:Fr} {σ:ze}
theorem yv {c:Operand}{x y:Code}{b:Bool}{p q:Prop} [hb:vbv b p q](hc:ev F c=.bool b)(ht:p→awp Φ P n k x Q F σ)(hf:q→awp Φ P n k y Q F σ):awp Φ P n k (.cond c x y) Q F σ:=
 zY hc (fun e=>ht (hb.t e)) (fun e=>hf (hb.f e))
theorem Yw {ops:Array Oper}{l:List Oper}{b:Bool}{p q:Prop} [hp:vbv b p q](t:Tmp)(hb:F t=.bool b)(h1:p→Zg Φ P n k ops l Q (upd F t (.bool true)) σ)(h0:q→Zg Φ P n k ops l Q (upd F t (.bool false)) σ):
 Zg Φ P n k ops l Q F σ:=wA t hb (fun e=>h1 (hp.t e)) (fun e=>h0 (hp.f e))
def noGotoQ (Q:Exit→Fr→ze→Prop):Exit→Fr→ze→Prop
 |.goto _,_,_=>False
 |e,F,σ=>Q e F σ
theorem noGotoQ_normal {Q:Exit→Fr→ze→Prop}{F:Fr}{σ:ze}:noGotoQ Q .normal F σ=Q .normal F σ:=rfl
theorem noGotoQ_ret {Q:Exit→Fr→ze→Prop}{F:Fr}{σ:ze}:noGotoQ Q .ret F σ=Q .ret F σ:=rfl
theorem noGotoQ_exit {Q:Exit→Fr→ze→Prop}{F:Fr}{σ:ze}{i:Nat}:noGotoQ Q (.exit i) F σ=Q (.exit i) F σ:=rfl
theorem slice_nil {T:TT}(hT:TOK P T){E:Env}{t:TypeId}{i:TI}{e:TypeId}(hi:T t=some i)(hd:i.desc=.slice e){x:AV}{vx:Value}(hx:VR E x vx)(hs:x.isS=true)(ox oy:Operand):
 ∃ b,(do eqGuard .eql t ox oy vx (.slice none 0 0); Go.binOp .eql t vx (.slice none 0 0):Sem Value).run P E.w=.ok (.bool b) E.w∧(b=true→xg x=0):=by
 have key:∀ (a:Option Addr) (l c:Nat),(do eqGuard .eql t ox oy (.slice a l c) (.slice none 0 0); Go.binOp .eql t (.slice a l c) (.slice none 0 0):Sem Value).run P E.w=.ok (.bool a.isNone) E.w:=by
  intro a l c
  have h1:(eqGuard .eql t ox oy (.slice a l c) (.slice none 0 0)).run P E.w=.ok () E.w:=by simp[eqGuard]
  rw[qy,h1,ql]
  have h3:∀ d,(Op.equalIn (d+1) t (.slice a l c) (.slice none 0 0)).run P E.w=.ok a.isNone E.w:=by
   intro d
   cases a with
   |none=>simp only[Op.equalIn,qy,yk _ (hT _ _ hi),ql,hd,qR]
   |some a=>simp only[Op.equalIn,qy,yk _ (hT _ _ hi),ql,hd,qR]; rfl
  have h2:(Op.equal t (.slice a l c) (.slice none 0 0)).run P E.w=.ok a.isNone E.w:=h3 9999;simp only[Go.binOp,qy,h2,ql,qR]
 cases hx with
 |dsn tt=>exact⟨true,key none 0 0,fun _=>rfl⟩
 |ds nl cells len tt a cap vs ha hr h hc ht hB=>exact⟨false,key (some a) len cap,fun h=>by cases h⟩
 |osn sz id ver off tt a hk h=>exact⟨a.isNone,key a 0 0,fun _=>rfl⟩
 |os nl sz id ver off len tt a cap hk hc ht hB h=>exact⟨false,key (some a) len cap,fun h=>by cases h⟩
 |_=>cases hs
theorem Xe {T:TT}(hT:TOK P T){ops:Array Oper}{o:Oper}{l:List Oper}{x:Operand}{t yt:TypeId}{i:TI}{e:TypeId}(hg:Yo ops F o=some true)(ho:o.op=.binOp .eql t x (.const (.slice none 0 0)) yt)(hi:T t=some i)(hd:i.desc=.slice e)
 (hs:(ev F x).isS=true) (hdst:X4 n o.dst=true) (h:∀ b,(b=true→xg (ev F x)=0)→Zg Φ P n k ops l Q (Zn F o.dst (.bool b)) σ):Zg Φ P n k ops (o::l) Q F σ:=by
 intro E a hk hS hF
 unfold wpListIn;rw[if_pos (wY hF hg)];obtain⟨b,h1,h2⟩:=slice_nil (P:=P) hT hi hd (hF.ev x) hs x (.const (.slice none 0 0));refine vaB (fun c hc=>by rw[ho] at hc; cases hc) ?_
 have hrun:(execOp a.eval o).run P E.w=.ok (.value (.bool b)) E.w:=by
  obtain⟨dst,op,ty,pos,after,guard⟩:=o;simp only at ho;subst ho
  show (do pure (.value (← (do eqGuard .eql t x (.const (.slice none 0 0)) (a.eval x) (.slice none 0 0); Go.binOp .eql t (a.eval x) (.slice none 0 0):Sem Value))):Sem Next).run P E.w=_
  rw[qy,h1,ql]; rfl
 rw[hrun];exact h b h2 E _ hk hS (hF.put (Xt hdst) (.bool b))
theorem zx {T:TT}(hT:TOK P T){f:FuncId}{fn:Func}{c:Code}{n:Nat}{rs:List ResultVar}{args:List AV}{x:AV}(hf:P.funcs[f]?=some fn)(hb:fn.body=some c)
 (hn:fn.ntmps=n) (hr:fn.results.toList=rs) (hent:∀ vs w,(callFunc f vs).run P w=.ok (.enter f vs) w) (hl:args.length≤n) (h:awp own0 P n 0 c (ZA T rs fun r σ'=>tell σ' [] true 12 r=x) (fr args) []):
 ACalls P f args [] fun r _=>r=x:=by
 refine ACalls.told ((ZO (σ:=[]) (R:=fun r σ'=>tell σ' [] true 12 r=x) hT hf hb hn hr hent hl h).mono fun r σ' hx=>?_);exact⟨[],true,12,List.nodup_nil,fun _ h=>(by cases h),rfl,hx⟩
theorem Zx {T:TT}(keep:List Nat)(hT:TOK P T){f:FuncId}{fn:Func}{c:Code}{n:Nat}{rs:List ResultVar}{args:List AV}{σ:ze}{R:AV→ze→Prop}(hf:P.funcs[f]?=some fn)(hb:fn.body=some c)
 (hn:fn.ntmps=n) (hr:fn.results.toList=rs) (hent:∀ vs w,(callFunc f vs).run P w=.ok (.enter f vs) w) (hl:args.length≤n) (hk:keep.take σ.length=uJ σ.length)
 (h:awp own0 P n σ.length c (ZA T rs fun r σ'=>keep.Nodup∧(∀ id∈keep,id<σ'.length)∧R (tell σ' keep true 12 r) (vbF σ' keep true 12)) (fr args) σ):
 ACalls P f args σ R:=by
 refine ACalls.told ((ZO hT hf hb hn hr hent hl h).mono fun r σ' hx=>?_);exact⟨keep,true,12,hx.1,hx.2.1,hk,hx.2.2⟩
theorem zS {c:Operand}{x y:Code}(hc:ev F c=.bool true)(h:awp Φ P n k x Q F σ):awp Φ P n k (.cond c x y) Q F σ:=zY hc (fun _=>h) (fun e=>by cases e)
theorem zQ {c:Operand}{x y:Code}(hc:ev F c=.bool false)(h:awp Φ P n k y Q F σ):awp Φ P n k (.cond c x y) Q F σ:=zY hc (fun e=>by cases e) (fun _=>h)
theorem xE {T:TT}(hT:TOK P T)(m:Nat){ops:Array Oper}{l:List Oper}(h:Run (vaq T n ops (l.take m) F σ) fun l' F' σ'=>l'=[]∧Zg Φ P n k ops (l.drop m) Q F' σ'):Zg Φ P n k ops l Q F σ:=by
 unfold Run at h
 split at h
 · rename_i l' F' σ' he
   obtain⟨rfl,h⟩:=h
   have key:∀ (a b:List Oper) (F F':Fr) (σ σ':ze),vaq T n ops a F σ=some ([],F',σ')→Zg Φ P n k ops b Q F' σ'→Zg Φ P n k ops (a++b) Q F σ:=by
    intro a
    induction a with
    |nil=>intro b F F' σ σ' h1 h2; cases h1; exact h2
    |cons o a ih=>
     intro b F F' σ σ' h1 h2
     simp only[vaq] at h1
     split at h1
     · rename_i hg
       cases hc:isCall o with
       |true=>rw[hc] at h1; cases h1
       |false=>
        rw[hc] at h1;simp only[cond_false] at h1
        cases hdk:X4 n o.dst with
        |false=>rw[hdk] at h1; cases h1
        |true=>
         rw[hdk] at h1;simp only[cond_true] at h1
         split at h1
         · rename_i r σ1 he'
           exact opsWp_op hT hg he' (Xt hdk) (ih b _ _ _ _ h1 h2)
         cases h1
     · rename_i hg
       cases hdk:X4 n o.dst with
       |false=>rw[hdk] at h1; cases h1
       |true=>
        rw[hdk] at h1;exact opsWp_skip hg (Xt hdk) (ih b _ _ _ _ h1 h2)
     cases h1
   have:=key (l.take m) (l.drop m) F F' σ σ' he h
   rwa [uA] at this
 exact h.elim
theorem DW.if {T:TT}{id:Nat}{ops:List Oper}{es:List EK}{F0:Fr}{σ0:ze}{ex:List (Nat×List Nat)}{l:List Oper}{es':List EK}{Ss:List ze}{rs:List AV}{b:Bool}{p q:Prop} [hp:vbv b p q](t:Tmp)(hb:F t=.bool b)
 (h1:p→DW Φ P n k T id ops es F0 σ0 ex Q l es' (upd F t (.bool true)) Ss rs) (h0:q→DW Φ P n k T id ops es F0 σ0 ex Q l es' (upd F t (.bool false)) Ss rs):DW Φ P n k T id ops es F0 σ0 ex Q l es' F Ss rs:=by
 have e:F=upd F t (.bool b):=by
  funext x; unfold upd; split
  · rename_i h; rw[h,hb]
  rfl
 rw[e]
 cases b with
 |true=>exact h1 (hp.t rfl)
 |false=>exact h0 (hp.f rfl)
theorem DW.at {T:TT}{id:Nat}{ops:List Oper}{es:List EK}{F0:Fr}{σ0:ze}{ex:List (Nat×List Nat)}{l:List Oper}{es':List EK}{Ss:List ze}{rs:List AV}{b:Bool}(t:Tmp)(hb:F t=.bool b)
 (h1:b=true→DW Φ P n k T id ops es F0 σ0 ex Q l es' (upd F t (.bool true)) Ss rs) (h0:b=false→DW Φ P n k T id ops es F0 σ0 ex Q l es' (upd F t (.bool false)) Ss rs):DW Φ P n k T id ops es F0 σ0 ex Q l es' F Ss rs:=by
 have e:F=upd F t (.bool b):=by
  funext x; unfold upd; split
  · rename_i h; rw[h,hb]
  rfl
 rw[e]
 cases b with
 |true=>exact h1 rfl
 |false=>exact h0 rfl
end
theorem evLoad_op {T:TT}{t id ver off:Nat}{σ:ze}:YL T t (.op id ver off) σ=match T t,ze.at σ id ver with
 |some i,some cs=>vcL cs off i.size i.agg
 |_,_=>none:=by
 cases h:T t<;>cases h2:ze.at σ id ver<;>simp[YL,h,h2]
theorem evRd_agg {cs:List AV}{off size:Nat}:vcL cs off size true=if off+size≤cs.length then some (.agg ((cs.drop off).take size)) else none:=rfl
theorem evRd_one {cs:List AV}{off size:Nat}:vcL cs off size false=if off<cs.length then some (gc cs off) else none:=rfl
theorem gc_hd {a:AV}{l:List AV}:gc (a::l) 0=a:=rfl
theorem gc_tl {a:AV}{l:List AV}{i:Nat}:gc (a::l) (i+1)=gc l i:=by simp[gc]
theorem fr_hd {a:AV}{l:List AV}:fr (a::l) 0=a:=rfl
theorem fr_nil {i:Nat}:fr [] i=.u:=rfl
attribute [go_sem] Run_some vaq Yo isCall X4 vb8 ev Zn upd fr_hd fr_nil constAV constCell XI cond_true cond_false decide_true decide_false if_true if_false uO Option.getD_none qk uL uP List.getElem?_nil List.getElem?_toArray true_and and_true qu qr uN Option.map_none List.toList_toArray Bool.true_eq_false uf qv qm beq_self_eq_true beq_tr beq_fa evBinA evBin evInt evUn evStr evPick evNil vcc evIface vbQ evBox evStore evLoad_op evRd_agg evRd_one TypeDesc.isAgg TI.agg AV.okc AV.one AV.cells gc_hd gc_tl wk ze.at_hd ze.at_tl ze.mapAt_hd ze.mapAt_tl ze.ghAt_hd ze.ghAt_tl Option.map_none uN ze.iterAt_hd ze.iterAt_tl qp qB uK uV qI qG qZ ua qo uh and_self qq List.drop_succ_cons List.take_succ_cons List.take_zero List.take_nil List.drop_nil qn qF ne_eq not_true_eq_false not_false_eq_true vbh vcb foldO vcN vcM vca evRange exists_eq exists_eq' RunD_some evD memFree stabs agr agrs isAlloc hasN ownL ownA refs vb5 qE qO or_true true_or or_false false_or Option.some.injEq Prod.mk.injEq implies_true forall_const noGotoQ_normal noGotoQ_ret noGotoQ_exit zH thenQ_ret thenQ_exit thenQ_goto Y7 blockQ_ret blockQ_exit evBuild Xg vbb Option.isSome_some List.getElem_toArray List.size_toArray List.getElem_cons_zero List.getElem_cons_succ
end AM
end
section
namespace AM
variable {Φ:Ctx}
open Go.RowKit
structure Enc (T:TT)(t e sz:Nat){α:Type}(enc:α→List AV):Prop where
 sl:∃ i,T t=some i∧i.desc=.slice e
 el:∃ j,T e=some j∧j.size=sz
 pos:0<sz
 len:∀ x,(enc x).length=sz
section
variable {T:TT} {t e sz:Nat} {α:Type} {enc:α→List AV}
theorem yf (h:∀ x,(enc x).length=sz)(l:List α):(l.flatMap enc).length=l.length*sz:=by
 induction l with
 |nil=>simp
 |cons x l ih=>rw[qE,qj,ih,h,qp,uY]; omega
theorem enc_drop (h:∀ x,(enc x).length=sz)(l:List α)(i:Nat):(l.flatMap enc).drop (i*sz)=(l.drop i).flatMap enc:=by
 induction l generalizing i with
 |nil=>simp
 |cons x l ih=>
  cases i with
  |zero=>simp
  |succ i=>
   rw[uY,Nat.add_comm,← vo,qE,← h x,List.drop_left,h x,ih,List.drop_succ_cons]
theorem enc_take (h:∀ x,(enc x).length=sz)(l:List α)(i:Nat):(l.flatMap enc).take (i*sz)=(l.take i).flatMap enc:=by
 induction l generalizing i with
 |nil=>simp
 |cons x l ih=>
  cases i with
  |zero=>simp
  |succ i=>
   have e:(i+1)*sz=(enc x).length+i*sz:=by rw[h,uY]; omega
   rw[qE,e,List.take_length_add_append,ih,List.take_succ_cons,qE]
theorem enc_get (h:∀ x,(enc x).length=sz){l:List α}{i:Nat}(hi:i<l.length):((l.flatMap enc).drop (i*sz)).take sz=enc l[i]:=by
 rw[enc_drop h,List.drop_eq_getElem_cons hi,qE,← h l[i],List.take_left]
theorem enc_gc (h:∀ x,(enc x).length=sz){l:List α}{i o:Nat}(hi:i<l.length)(ho:o<sz):gc (l.flatMap enc) (i*sz+o)=gc (enc l[i]) o:=by
 have h1:=enc_get h hi
 have h2:gc (((l.flatMap enc).drop (i*sz)).take sz) o=gc (l.flatMap enc) (i*sz+o):=by
  simp only[gc,qC,List.getElem?_take,List.getElem?_drop,ho,if_true]
 rw[← h2,h1]
theorem Enc.idx (h:Enc T t e sz enc){l:List α}{k:Int}(h0:0≤k)(h1:k<l.length)(nl tt:Bool)(q:IntKind):
 Zu T t (.ds nl (l.flatMap enc) l.length tt) (.int q k)=some (.dp (l.flatMap enc) (k.toNat*sz)):=by
 obtain⟨i,hi,hd⟩:=h.sl;obtain⟨j,hj,hs⟩:=h.el
 have h2:k.toNat*sz<(l.flatMap enc).length:=by
  rw[yf h.len]
  have:k.toNat<l.length:=by omega
  exact Nat.mul_lt_mul_of_lt_of_le this (qx _) h.pos
 simp only[Zu,hi,hd,hj,hs];rw[if_pos ⟨h0,h1,h2⟩]
theorem Enc.idxo (h:Enc T t e sz enc){len:Nat}{k:Int}(h0:0≤k)(h1:k<len)(nl tt:Bool)(q:IntKind)(sz' id ver off:Nat):
 Zu T t (.os nl sz' id ver off len tt) (.int q k)=some (.op id ver (off+k.toNat*sz)):=by
 obtain⟨i,hi,hd⟩:=h.sl;obtain⟨j,hj,hs⟩:=h.el;simp only[Zu,hi,hd,hj,hs];rw[if_pos ⟨h0,h1⟩]
theorem evRd_enc (h:∀ x,(enc x).length=sz){l:List α}{i:Nat}(hi:i<l.length):vcL (l.flatMap enc) (i*sz) sz true=some (.agg (enc l[i])):=by
 have:i*sz+sz≤(l.flatMap enc).length:=by
  rw[yf h,← uY]; exact ud _ hi
 simp only[vcL,if_true];rw[if_pos this,enc_get h hi]
theorem evRd_fld (h:∀ x,(enc x).length=sz){l:List α}{i o n:Nat}(hi:i<l.length)(ho:o<sz):vcL (l.flatMap enc) (i*sz+o) n false=some (gc (enc l[i]) o):=by
 have:i*sz+o<(l.flatMap enc).length:=by
  rw[yf h]
  have:i*sz+sz≤l.length*sz:=by rw[← uY]; exact ud _ hi
  omega
 simp only[vcL,uf,if_false];rw[if_pos this,enc_gc h hi ho]
theorem Enc.load (h:Enc T t e sz enc){j:TI}(hj:T e=some j)(hag:j.agg=true){l:List α}{i:Nat}(hi:i<l.length)(σ:ze):YL T e (.dp (l.flatMap enc) (i*sz)) σ=some (.agg (enc l[i])):=by
 obtain⟨j',hj',hs⟩:=h.el
 rw[hj] at hj'; cases hj'
 simp only[YL,hj,hag,hs];exact evRd_enc h.len hi
theorem Enc.fld (h:Enc T t e sz enc){f:Nat}{j:TI}(hj:T f=some j)(hag:j.agg=false){l:List α}{i o:Nat}(hi:i<l.length)(ho:o<sz)(σ:ze):YL T f (.dp (l.flatMap enc) (i*sz+o)) σ=some (gc (enc l[i]) o):=by
 simp only[YL,hj,hag];exact evRd_fld h.len hi ho
end
theorem Z0 {sz:Nat}{α:Type}{enc:α→List AV}(h:∀ x,(enc x).length=sz)(l:List α)(nl tt:Bool)(σ:ze):y1 σ sz (.ds nl (l.flatMap enc) l.length tt)=some (l.length,l.flatMap enc):=by
 simp only[y1,yf h,qx,if_true];rw[uu (by rw[yf h]; exact qx _)]
theorem Enc.app {T:TT}{t e sz:Nat}{α:Type}{enc:α→List AV}(h:Enc T t e sz enc)(ho:∀ x,(enc x).all AV.one=true){j:TI}(hj:T e=some j)(hb:0<j.bytes)(l:List α)(s:AV)(hn:(xg s+l.length)*j.bytes≤140737488355328)(nl tt:Bool)(σ:ze):
 xj T t t s (.ds nl (l.flatMap enc) l.length tt) σ=yG sz s l.length (l.flatMap enc) σ:=by
 obtain⟨i,hi,hd⟩:=h.sl;obtain⟨j',hj',hs⟩:=h.el
 rw[hj] at hj'; cases hj'
 have h1:(l.flatMap enc).all AV.one=true:=by
  rw[List.all_flatMap]
  exact un.2 fun x _=>ho x
 simp only[xj,hi,hd,hj,hs,Z0 h.len];rw[if_pos ⟨hn,hb,h.pos,h1⟩]
theorem enc_rd {sz:Nat}{α:Type}{enc:α→List AV}(h:∀ x,(enc x).length=sz){l:List α}{k o n:Nat}(hk:k<l.length)(ho:o<sz):vcL (l.flatMap enc) (k*sz+o) n false=some (gc (enc l[k]) o):=evRd_fld h hk ho
theorem Enc.fld0 {T:TT}{t e sz:Nat}{α:Type}{enc:α→List AV}(h:Enc T t e sz enc){f:Nat}{j:TI}(hj:T f=some j)(hag:j.agg=false){l:List α}{i:Nat}(hi:i<l.length)(σ:ze):YL T f (.dp (l.flatMap enc) (i*sz)) σ=some (gc (enc l[i]) 0):=by
 have:=h.fld hj hag hi h.pos σ
 rwa [qF] at this
theorem enc_rd0 {sz:Nat}{α:Type}{enc:α→List AV}(h:∀ x,(enc x).length=sz){l:List α}{k n:Nat}(hk:k<l.length)(ho:0<sz):vcL (l.flatMap enc) (k*sz) n false=some (gc (enc l[k]) 0):=by
 have:=evRd_fld (n:=n) h hk ho
 rwa [qF] at this
def wJ (n:Int):List AV:=[.int .i64 n]
def encS (s:List UInt8):List AV:=[.str s]
def Ym (b:UInt8):List AV:=[.int .u8 b.toNat]
theorem vaR (l:List UInt8):bys l=l.flatMap Ym:=by
 induction l with
 |nil=>rfl
 |cons b l ih=>rw[qE,← ih]; rfl
theorem Za {x:Int}(h : -9223372036854775808≤x)(h':x<9223372036854775808):IntKind.i64.wrap x=x:=vda h h'
section
variable {σ:ze} {keep:List Nat} {ls:Bool} {f:Nat}
theorem tell_u : tell σ keep ls (f+1) .u=.u:=rfl
theorem tell_bool {b:Bool}:tell σ keep ls (f+1) (.bool b)=.bool b:=rfl
theorem vbn {k:IntKind}{n:Int}:tell σ keep ls (f+1) (.int k n)=.int k n:=rfl
theorem vbm {s:List UInt8}:tell σ keep ls (f+1) (.str s)=.str s:=rfl
theorem tell_nilp : tell σ keep ls (f+1) .nilp=.nilp:=rfl
theorem tell_nilm : tell σ keep ls (f+1) .nilm=.nilm:=rfl
theorem tell_nilI : tell σ keep ls (f+1) .nilI=.nilI:=rfl
theorem tell_nilF : tell σ keep ls (f+1) .nilF=.nilF:=rfl
theorem tell_agg {l:List AV}:tell σ keep ls (f+1) (.agg l)=.agg (l.map (tell σ keep ls f)):=rfl
theorem tell_tup {l:List AV}:tell σ keep ls (f+1) (.tup l)=.tup (l.map (tell σ keep ls f)):=rfl
theorem tell_ifc {t:TypeId}{a:AV}:tell σ keep ls (f+1) (.ifc t a)=.ifc t (tell σ keep ls f a):=rfl
theorem Xa {nl:Bool}{cs:List AV}{len:Nat}{t:Bool}:tell σ keep ls (f+1) (.ds nl cs len t)=.ds (nl||ls) (cs.map (tell σ keep ls f)) len (t && !ls):=rfl
theorem tell_dp {cs:List AV}{off:Nat}:tell σ keep ls (f+1) (.dp cs off)=.dp (cs.map (tell σ keep ls f)) off:=rfl
theorem tell_op {id ver off:Nat}:tell σ keep ls (f+1) (.op id ver off)=match Y2 keep id 0 with
 |some j=>.op j ver off
 |none=>match ze.at σ id ver with
  |some (c::cs)=>.dp ((c::cs).map (tell σ keep ls f)) off
  |_=>.u:=rfl
theorem ZC {nl:Bool}{sz id ver off len:Nat}{t:Bool}:tell σ keep ls (f+1) (.os nl sz id ver off len t)=match Y2 keep id 0 with
 |some j=>.os nl sz j ver off len t
 |none=>match ze.at σ id ver with
  |some cs=>if off+len*sz≤cs.length then .ds true (((cs.drop off).take (len*sz)).map (tell σ keep ls f)) len false else .u
  |none=>.u:=rfl
theorem tell_mp {id:Nat}:tell σ keep ls (f+1) (.mp id)=match Y2 keep id 0 with
 |some j=>.mp j
 |none=>.u:=rfl
theorem wU {id j:Nat}:Y2 [] id j=none:=rfl
theorem Yl {x:Nat}{l:List Nat}{id j:Nat}:Y2 (x::l) id j=if x=id then some j else Y2 l id (j+1):=rfl
theorem Xu : vbF σ [] ls f=[]:=rfl
theorem YR {id:Nat}:vbF σ (id::keep) ls f=va4 σ (id::keep) ls f (σ.getD id .dead)::keep.map fun i=>va4 σ (id::keep) ls f (σ.getD i .dead):=rfl
theorem Yr {ver:Nat}{cs:List AV}:va4 σ keep ls f (.cells ver cs)=.cells ver (cs.map (tell σ keep ls f)):=rfl
theorem tellO_map {es:List (AV×AV)}{gh:Option (List Nat×Nat)}:va4 σ keep ls f (.map es gh)=.map (es.map fun e=>(tell σ keep ls f e.1,tell σ keep ls f e.2)) gh:=rfl
theorem tellO_iter {s:List UInt8}{p:Nat}:va4 σ keep ls f (.iter s p)=.iter s p:=rfl
theorem tellO_dead : va4 σ keep ls f .dead=.dead:=rfl
theorem YT {o:Yq}{s:ze}:List.getD (o::s) 0 .dead=o:=rfl
theorem YS {o:Yq}{s:ze}{i:Nat}:List.getD (o::s) (i+1) Yq.dead=s.getD i .dead:=by simp
end
end AM
end
section
namespace AM
variable {Φ:Ctx}
open Go.RowKit
def fs : List (Nat×AV)→Fr
 |[],_=>.u
 |(t,a)::l,s=>if s=t then a else fs l s
def vbL (F:Fr)(m:List Nat):List (Nat×AV):=m.map fun t=>(t,F t)
theorem xO {s:Nat}:fs [] s=.u:=rfl
theorem xh {t s:Nat}{a:AV}{l:List (Nat×AV)}:fs ((t,a)::l) s=if s=t then a else fs l s:=rfl
theorem yx {F:Fr}:vbL F []=[]:=rfl
theorem ye {F:Fr}{t:Nat}{m:List Nat}:vbL F (t::m)=(t,F t)::vbL F m:=rfl
attribute [go_sem] xO xh yx ye
def vbt (F:Fr):List (Nat×AV)→Prop
 |[]=>True
 |(t,a)::l=>F t=a∧vbt F l
theorem FR.fits {E:Env}{n:Nat}{F:Fr}{a:Act}(h:FR Φ E n F a):∀ {L:List (Nat×AV)},vbt F L→FR Φ E n (fs L) a:=by
 intro L hL
 refine⟨h.size,h.defers,fun t=>?_⟩
 induction L with
 |nil=>exact .u _
 |cons p L ih=>
  obtain⟨s,x⟩:=p;obtain⟨h1,h2⟩:=hL;rw[xh]
  split
  · rename_i e; subst e; rw[← h1]; exact h.tmps t
  exact ih h2
theorem fits_keepS (F:Fr)(m:List Nat):vbt F (vbL F m):=by
 induction m with
 |nil=>trivial
 |cons t m ih=>exact⟨rfl,ih⟩
def TLS (σ:ze)(keep:List Nat)(ls:Bool)(F:Fr):List (Nat×AV)→Prop
 |[]=>True
 |(t,a)::l=>tell σ keep ls 12 (F t)=a∧TLS σ keep ls F l
inductive TellS (k:Nat)(F:Fr)(σ:ze)(L:List (Nat×AV))(τ:ze):Prop
 |same (h:vbt F L) (e:σ=τ)
 |told (keep:List Nat) (ls:Bool) (h1:keep.Nodup) (h2:∀ id∈keep,id<σ.length) (h3:keep.take k=uJ k) (h4:vbF σ keep ls 12=τ) (h5:TLS σ keep ls F L)
 |any (h:∀ {Φ:Ctx} {E:Env} {n:Nat} {a:Act},k≤E.n→SR E σ→FR Φ E n F a→∃ E',E'.w=E.w∧SR E' τ∧FR Φ E' n (fs L) a∧XU k E E')
theorem FR.tls {E:Env}{n:Nat}{F:Fr}{a:Act}{σ:ze}(hS:SR E σ)(hF:FR Φ E n F a){keep:List Nat}{ls:Bool}{L:List (Nat×AV)}(hL:TLS σ keep ls F L):FR Φ (E.ren keep) n (fs L) a:=by
 refine⟨hF.size,hF.defers,fun t=>?_⟩
 induction L with
 |nil=>exact .u _
 |cons p L ih=>
  obtain⟨s,x⟩:=p;obtain⟨h1,h2⟩:=hL;rw[xh]
  split
  · rename_i e; subst e; rw[← h1]; exact VR.tell hS 12 _ (hF.tmps t)
  exact ih h2
theorem TellS.env {k:Nat}{F:Fr}{σ:ze}{L:List (Nat×AV)}{τ:ze}(h:TellS k F σ L τ){E:Env}{n:Nat}{a:Act}(hk:k≤E.n)(hS:SR E σ)(hF:FR Φ E n F a):
 ∃ E',E'.w=E.w∧SR E' τ∧FR Φ E' n (fs L) a∧XU k E E':=by
 cases h with
 |same h e=>subst e; exact⟨E,rfl,hS,hF.fits h,XU.refl E hk⟩
 |told keep ls h1 h2 h3 h4 h5=>
  subst h4;exact⟨E.ren keep,rfl,hS.tell h1 h2 ls 12,hF.tls hS h5,XU.ren hS.stb h3⟩
 |any h=>exact h hk hS hF
theorem wpList_app {P:Program}{ops:Array Oper}{Q1 Q2:Exit→Act→World→Prop}(l2:List Oper)(hn:∀ a w,Q1 .normal a w→wpListIn (fen Φ) 0 P ops Q2 l2 a w)(hq:∀ e a w,e≠.normal→Q1 e a w→Q2 e a w):
 ∀ (l1:List Oper) (a:Act) (w:World),wpListIn (fen Φ) 0 P ops Q1 l1 a w→wpListIn (fen Φ) 0 P ops Q2 (l1++l2) a w:=by
 intro l1
 induction l1 with
 |nil=>intro a w h; exact hn a w h
 |cons o l ih=>
  intro a w h
  rw[qI];unfold wpListIn at h ⊢
  split
  · rename_i hw
    rw[if_pos hw] at h;exact upon_mono (ops:=ops) hq o _ _ a w (fun a w=>ih a w) h
  rename_i hw
  rw[if_neg hw] at h;exact⟨h.1,ih _ _ h.2⟩
theorem wpList_mono' {P:Program}{ops:Array Oper}{Q1 Q2:Exit→Act→World→Prop}(hq:∀ e a w,Q1 e a w→Q2 e a w)(l:List Oper)(a:Act)(w:World)(h:wpListIn (fen Φ) 0 P ops Q1 l a w):wpListIn (fen Φ) 0 P ops Q2 l a w:=by
 have:=wpList_app (Q2:=Q2) [] (fun a w h=>hq _ _ _ h) (fun e a w _ h=>hq _ _ _ h) l a w h
 rwa [qD] at this
section
variable {P:Program} {n k:Nat} {Q:Exit→Fr→ze→Prop} {F:Fr} {σ:ze}
theorem xB {c:Code}{L:List (Nat×AV)}{τ:ze}(ht:TellS k F σ L τ)(h:awp Φ P n k c Q (fs L) τ):awp Φ P n k c Q F σ:=by
 intro E a hk hS hF
 obtain⟨E',h1,h2,h3,h4⟩:=ht.env hk hS hF;rw[← h1]
 exact wpIn_mono (h E' a h4.n h2 h3) fun e a w hp=>Xd h4 hp
theorem Xl {c:Code}(id:Nat){es:List (AV×AV)}{gh:Option (List Nat×Nat)}(h0:σ[id]?=some (.map es gh)){τ:ze}(hτ:σ.set id (.map es)=τ)(h:awp Φ P n k c Q F τ):awp Φ P n k c Q F σ:=by
 subst hτ
 intro E a hk hS hF
 refine h E a hk ⟨by simpa using hS.len,fun i=>?_,hS.inj,hS.blk,hS.stb,hS.glb,hS.bas⟩ hF
 by_cases hi:i=id
 · subst hi;have hlt:=(qQ.1 h0).1;rw[uv hlt];have:=hS.obj i;rw[h0] at this;obtain⟨b,ents,clock,h1,h2,h3,h4,_⟩:=this;exact⟨b,ents,clock,h1,h2,h3,h4,fun g hg=>by cases hg⟩
 rw[ue (fun e=>hi e.symm)];exact hS.obj i
theorem zK {args:List AV}{c:Code}(L:List (Nat×AV))(hL:vbt (fr args) L)(h:awp Φ P n k c Q (fs L) σ):awp Φ P n k c Q (fr args) σ:=xB (.same hL rfl) h
theorem vdF (m:List Nat){c:Code}(h:awp Φ P n k c Q (fs (vbL F m)) σ):awp Φ P n k c Q F σ:=xB (.same (fits_keepS F m) rfl) h
theorem rg {T:TT}(hT:TOK P T)(m:List Nat){id:Nat}{l:List Oper}{y:Code}
 (h:∀ K:List (Nat×AV)→ze→Prop,(∀ L σ,awp Φ P n k y Q (fs L) σ→K L σ)→Run (vaq T n l.toArray l F σ) fun l' F' σ'=>l'=[]∧K (vbL F' m) σ'):awp Φ P n k (.seq (.region id l.toArray false) y) Q F σ:=by
 refine zd fun K J=>vbr ?_
 have h1:=h (fun L σ'=>awp Φ P n k y Q (fs L) σ') fun _ _ h=>h
 unfold Run at h1
 split at h1
 · rename_i l' F' σ' he
   obtain⟨rfl,h2⟩:=h1;exact vdt hT he (zz (J _ _ (vdF m h2)))
 exact h1.elim
theorem rc (m:List Nat){id:Nat}{l:List Oper}{y:Code}
 (h:∀ K:List (Nat×AV)→ze→Prop,(∀ L σ,awp Φ P n k y Q (fs L) σ→K L σ)→Zg Φ P n k l.toArray l (vac (fun F σ=>K (vbL F m) σ) Q) F σ):awp Φ P n k (.seq (.region id l.toArray false) y) Q F σ:=by
 refine zd fun K J=>vbr ?_
 have h1:=h (fun L σ'=>awp Φ P n k y Q (fs L) σ') fun _ _ h=>h
 intro E a hk hS hF
 have:=h1 E a hk hS hF;refine wpList_mono' (fun e a w hp=>?_) _ _ _ this;obtain⟨E',F',σ',e1,e2,e3,e4,e5⟩:=hp;refine⟨E',F',σ',e1,e2,e3,e4,?_⟩
 cases e with
 |normal=>exact J _ _ (vdF m e5)
 |_=>exact e5
theorem rd (m:List Nat){c y:Code}(h:∀ K:List (Nat×AV)→ze→Prop,(∀ L σ,awp Φ P n k y Q (fs L) σ→K L σ)→awp Φ P n k c (vac (fun F σ=>K (vbL F m) σ) Q) F σ):awp Φ P n k (.seq c y) Q F σ:=by
 refine zd fun K J=>?_
 refine vcj (h (fun L σ'=>awp Φ P n k y Q (fs L) σ') fun _ _ h=>h) fun e F σ hq=>?_
 cases e with
 |normal=>exact J _ _ (vdF m hq)
 |_=>exact hq
theorem xV {x y:Code}(I:List (Nat×AV)→ze→Prop)(hx:awp Φ P n k x (vac (fun F σ=>∃ L τ,I L τ∧TellS k F σ L τ) Q) F σ)(hy:∀ L τ,I L τ→awp Φ P n k y Q (fs L) τ):awp Φ P n k (.seq x y) Q F σ:=by
 refine zd fun K J=>vcj hx fun e F σ hq=>?_
 cases e with
 |normal=>
  obtain⟨L,τ,h1,h2⟩:=hq;exact J _ _ (xB h2 (hy L τ h1))
 |_=>exact hq
theorem xi {ops:Array Oper}{l:List Oper}(m:Nat)(I:List (Nat×AV)→ze→Prop)(hx:Zg Φ P n k ops (l.take m) (fun e F σ=>e=.normal∧∃ L τ,I L τ∧TellS k F σ L τ) F σ)
 (hy:∀ L τ,I L τ→Zg Φ P n k ops (l.drop m) Q (fs L) τ):Zg Φ P n k ops l Q F σ:=by
 intro E a hk hS hF
 have h1:=hx E a hk hS hF
 have:=wpList_app (Q2:=post Φ n k Q E) (l.drop m) (fun a w h=>by
  obtain⟨E',F',σ',e1,e2,e3,e4,_,L,τ,e5,e6⟩:=h;obtain⟨E2,g1,g2,g3,g4⟩:=e6.env e4.n e2 e3;have:=hy L τ e5 E2 a g4.n g2 g3;rw[g1,e1] at this
  exact Y9 (e4.trans g4) _ _ _ this) (fun e a w hne h=>by
  obtain⟨_,_,_,_,_,_,_,h,_⟩:=h
  exact absurd h hne) (l.take m) a E.w h1
 rwa [uA] at this
theorem ops_cut {T:TT}(hT:TOK P T){ops:Array Oper}{l:List Oper}(N t:Nat)(L:List (Nat×AV)){b:Bool}{p q:Prop} [hb:vbv b p q](ht:F t=.bool b)
 (h1:p→Run (vaq T n ops (l.take N) (upd F t (.bool true)) σ) fun l' F' τ=>l'=[]∧τ=σ∧vbt F' L)
 (h0:q→Run (vaq T n ops (l.take N) (upd F t (.bool false)) σ) fun l' F' τ=>l'=[]∧τ=σ∧vbt F' L)
 (h:Zg Φ P n k ops (l.drop N) Q (fs L) σ):Zg Φ P n k ops l Q F σ:=by
 have go:∀ {F:Fr},(Run (vaq T n ops (l.take N) F σ) fun l' F' τ=>l'=[]∧τ=σ∧vbt F' L)→Zg Φ P n k ops (l.take N) (fun e F τ=>e=.normal∧∃ L' τ',(L'=L∧τ'=σ)∧TellS k F τ L' τ') F σ:=by
  intro F h
  unfold Run at h
  split at h
  · rename_i l' F' σ' he
    obtain⟨rfl,rfl,hf⟩:=h;exact vdt hT he (zz ⟨rfl,L,_,⟨rfl,rfl⟩,.same hf rfl⟩)
  exact h.elim
 refine xi N (fun L' τ=>L'=L∧τ=σ) (Yw t ht (fun hp=>go (h1 hp)) fun hq=>go (h0 hq)) ?_;rintro _ _ ⟨rfl,rfl⟩;exact h
theorem yp {c:Code}(I:Nat→List (Nat×AV)→ze→Prop)(m:Nat){L:List (Nat×AV)}{τ:ze}(h0:I m L τ)(ht:TellS k F σ L τ)
 (round:∀ m L τ,I m L τ→awp Φ P n k c (vac (fun F' σ'=>∃ m' L' τ',m'<m∧I m' L' τ'∧TellS k F' σ' L' τ') Q) (fs L) τ):awp Φ P n k (.loop c) Q F σ:=by
 refine awp_loop (fun m F σ=>∃ L τ,I m L τ∧TellS k F σ L τ) m ⟨L,τ,h0,ht⟩ ?_;rintro m F σ ⟨L,τ,h1,h2⟩;refine xB h2 (vcj (round m L τ h1) fun e F σ hq=>?_)
 cases e with
 |normal=>
  obtain⟨m',L',τ',a,b,c⟩:=hq;exact⟨m',a,L',τ',b,c⟩
 |_=>exact hq
end
def AV.bnd : AV→Prop
 |.ds _ _ len _=>len≤9223372036854775807
 |.os _ _ _ _ _ len _=>len≤9223372036854775807
 |_=>True
theorem VR.bnd {E:Env}{a:AV}{v:Value}(h:VR E a v):a.bnd:=by
 cases h with
 |dsn=>show 0≤_; omega
 |ds _ _ _ _ _ _ _ _ _ _ _ _ hB=>exact hB
 |osn=>show 0≤_; omega
 |os _ _ _ _ _ _ _ _ _ _ _ _ hB=>exact hB
 |_=>trivial
section
variable {P:Program} {n k:Nat} {Q:Exit→Fr→ze→Prop} {F:Fr} {σ:ze}
end
def YI {α:Type}(l:List α)(i:Int):Option α:=if 0≤i then l[i.toNat]? else none
def grd (p:Prop) [Decidable p]:Option Unit:=if p then some () else none
def bnd {α β:Type}(a:α)(f:α→β):β:=f a
def vaV (n b:Nat):Option Unit:=if n*b≤140737488355328 then some () else none
def setI {α:Type}(l:List α)(i:Int)(x:α):List α:=l.set i.toNat x
theorem yW {σ:ze}{size:Nat}{nl:Bool}{sz id ver off len:Nat}{t:Bool}:y1 σ size (.os nl sz id ver off len t)=match ze.at σ id ver with
 |some cs=>if off+len*size≤cs.length then some (len,(cs.drop off).take (len*size)) else none
 |none=>none:=rfl
theorem srcCells_s {σ:ze}{size:Nat}{s:List UInt8}:y1 σ size (.str s)=if size=1 then some (s.length,bys s) else none:=rfl
theorem bind_some {α β:Type}{o:Option α}{f:α→Option β}{r:β}(h:o.bind f=some r):∃ x,o=some x∧f x=some r:=by
 cases o with
 |none=>cases h
 |some x=>exact⟨x,rfl,h⟩
theorem yq {α β:Type}{a:α}{f:α→β}{r:β}(h:bnd a f=r):∃ x,a=x∧f x=r:=⟨a,rfl,h⟩
theorem ZP {p:Prop} [Decidable p]{u:Unit}(h:grd p=some u):p:=by
 unfold grd at h
 split at h
 · assumption
 cases h
theorem xF {n b:Nat}{u:Unit}(h:vaV n b=some u):(n*b≤140737488355328)=True:=by
 unfold vaV at h
 split at h
 · rename_i hb; exact eq_true hb
 cases h
theorem ZF {α:Type}{l:List α}{i:Int}{x:α}(h:YI l i=some x):0≤i∧i<l.length∧∃ hi:i.toNat<l.length,l[i.toNat]=x:=by
 unfold YI at h
 split at h
 · obtain⟨hi,e⟩:=qQ.1 h;exact⟨by assumption,by omega,hi,e⟩
 cases h
theorem Zc {α:Type}{b:Bool}{x y:α}(h:b=false):(if b=true then x else y)=y:=by rw[h]; rfl
theorem xq {α:Type}{l pre post:List α}{y:α}{i:Int}(hE:l=pre++y::post)(hi:i=(pre.length:Int))(hb:l.length≤9223372036854775807):
 (i<(l.length:Int))=True∧IntKind.i64.wrap (i+1)=i+1∧YI l i=some y∧l=(pre++[y])++post∧i+1=((pre++[y]).length:Int):=by
 have hl:l.length=pre.length+(post.length+1):=by rw[hE]; simp
 refine⟨eq_true (by omega),Za (by omega) (by omega),?_,by rw[hE]; simp,by rw[hi]; simp⟩;unfold YI;rw[if_pos (by omega),hi,uc,hE]
 simp
theorem xM {α:Type}{l pre:List α}{i:Int}(hE:l=pre++[])(hi:i=(pre.length:Int)):(i<(l.length:Int))=False:=by
 have hl:l.length=pre.length:=by rw[hE]; simp
 exact eq_false (by omega)
section
variable {T:TT} {t e sz:Nat} {α:Type} {enc:α→List AV}
theorem Enc.idxS (h:Enc T t e sz enc){l:List α}{i:Int}{x:α}(hx:YI l i=some x)(nl tt:Bool)(q:IntKind):Zu T t (.ds nl (l.flatMap enc) l.length tt) (.int q i)=some (.dp (l.flatMap enc) (i.toNat*sz)):=by
 obtain⟨h0,h1,_⟩:=ZF hx;exact h.idx h0 h1 nl tt q
theorem Enc.loadS (h:Enc T t e sz enc){j:TI}(hj:T e=some j)(hag:j.agg=true){l:List α}{i:Int}{x:α}(hx:YI l i=some x)(σ:ze):YL T e (.dp (l.flatMap enc) (i.toNat*sz)) σ=some (.agg (enc x)):=by
 obtain⟨_,_,h2,h3⟩:=ZF hx;rw[h.load hj hag h2,h3]
theorem Enc.fldS (h:Enc T t e sz enc){f:Nat}{j:TI}(hj:T f=some j)(hag:j.agg=false){l:List α}{i:Int}{x:α}(hx:YI l i=some x){o:Nat}(ho:o<sz)(σ:ze):YL T f (.dp (l.flatMap enc) (i.toNat*sz+o)) σ=some (gc (enc x) o):=by
 obtain⟨_,_,h2,h3⟩:=ZF hx;rw[h.fld hj hag h2 ho,h3]
theorem Enc.fldS0 (h:Enc T t e sz enc){f:Nat}{j:TI}(hj:T f=some j)(hag:j.agg=false){l:List α}{i:Int}{x:α}(hx:YI l i=some x)(σ:ze):YL T f (.dp (l.flatMap enc) (i.toNat*sz)) σ=some (gc (enc x) 0):=by
 obtain⟨_,_,h2,h3⟩:=ZF hx;rw[h.fld0 hj hag h2,h3]
end
end AM
end
section
namespace AM
variable {Φ:Ctx}
open Go.RowKit
section
variable {P:Program} {n k:Nat} {Q:Exit→Fr→ze→Prop} {F:Fr} {σ:ze}
theorem rdE (m:List Nat){c:Code}(h:∀ K:List (Nat×AV)→ze→Prop,(∀ L σ,Q .normal (fs L) σ→K L σ)→awp Φ P n k c (vac (fun F σ=>K (vbL F m) σ) Q) F σ):awp Φ P n k c Q F σ:=by
 have h1:=h (fun L σ=>Q .normal (fs L) σ) fun _ _ h=>h
 intro E a hk hS hF
 refine wpIn_mono (h1 E a hk hS hF) fun e a w hp=>?_
 obtain⟨E',F',σ',e1,e2,e3,e4,e5⟩:=hp
 cases e with
 |normal=>exact⟨E',fs (vbL F' m),σ',e1,e2,e3.fits (fits_keepS F' m),e4,e5⟩
 |_=>exact⟨E',F',σ',e1,e2,e3,e4,e5⟩
theorem rgE {T:TT}(hT:TOK P T)(m:List Nat){id:Nat}{l:List Oper}
 (h:∀ K:List (Nat×AV)→ze→Prop,(∀ L σ,Q .normal (fs L) σ→K L σ)→Run (vaq T n l.toArray l F σ) fun l' F' σ'=>l'=[]∧K (vbL F' m) σ'):awp Φ P n k (.region id l.toArray false) Q F σ:=
 rdE m fun K J=>regEnd hT (h K J)
theorem rcE (m:List Nat){id:Nat}{l:List Oper}
 (h:∀ K:List (Nat×AV)→ze→Prop,(∀ L σ,Q .normal (fs L) σ→K L σ)→Zg Φ P n k l.toArray l (vac (fun F σ=>K (vbL F m) σ) Q) F σ):awp Φ P n k (.region id l.toArray false) Q F σ:=
 rdE m fun K J=>vbr (h K J)
theorem vaA {c:Code}(t sz:Nat){nl:Bool}{L:List (Nat×AV)}(ht:fs L t=.ds nl [] 0 true)(h:awp Φ P n k c Q (fs ((t,.os true sz σ.length 0 0 0 false)::L)) (σ++[.cells 0 []])):awp Φ P n k c Q (fs L) σ:=
 awp_virt t sz ht h
end
theorem Zw {P:Program}{n k:Nat}{Q:Exit→Fr→ze→Prop}{F:Fr}{σ:ze}{c:Code}(id i sz:Nat){cs:List AV}(hcs:ze.at σ id 0=some cs)(hi:i<cs.length){nl:Bool}(hc:gc cs i=.ds nl [] 0 true)
 {L:List (Nat×AV)} {τ:ze} (ht:TellS k F ((σ.set id (.cells 0 (cs.set i (.os true sz σ.length 0 0 0 false))))++[.cells 0 []]) L τ) (h:awp Φ P n k c Q (fs L) τ):awp Φ P n k c Q F σ:=
 awp_virtIn hcs hi hc sz (xB ht h)
theorem vbc {P:Program}{n k:Nat}{Q:Exit→Fr→ze→Prop}{F:Fr}{σ:ze}{ops:Array Oper}{l:List Oper}{L:List (Nat×AV)}{τ:ze}(ht:TellS k F σ L τ)(h:Zg Φ P n k ops l Q (fs L) τ):Zg Φ P n k ops l Q F σ:=by
 intro E a hk hS hF
 obtain⟨E',h1,h2,h3,h4⟩:=ht.env hk hS hF;rw[← h1];exact Y9 h4 _ _ _ (h E' a h4.n h2 h3)
def AV.loose1 : AV→AV
 |.ds _ cs len _=>.ds true cs len false
 |a=>a
def AV.loose : AV→AV
 |.agg cs=>.agg (cs.map AV.loose1)
 |a=>a.loose1
theorem VR.loose1 {E:Env}{a:AV}{v:Value}(h:VR E a v):VR E a.loose1 v:=by
 cases h with
 |dsn t=>exact .dsn _
 |ds nl cells len t a cap vs ha hr hv hc ht hB=>exact .ds _ _ _ _ a cap vs ha hr hv hc (fun e=>by cases e) hB
 |u v=>exact .u _
 |bool b=>exact .bool _
 |int k n=>exact .int _ _
 |str l s h=>exact .str _ _ h
 |agg cs vs hl h=>exact .agg _ _ hl h
 |tup cs vs hl h=>exact .tup _ _ hl h
 |nilp=>exact .nilp
 |op id ver off a hk h=>exact .op _ _ _ _ hk h
 |dp cells off b o vs hr h=>exact .dp _ _ _ _ _ hr h
 |osn sz id ver off t a hk h=>exact .osn _ _ _ _ _ _ hk h
 |os nl sz id ver off len t a cap hk hc ht hB h=>exact .os _ _ _ _ _ _ _ _ _ hk hc ht hB h
 |mp id b hk h=>exact .mp _ _ hk h
 |nilm=>exact .nilm
 |fn f first cap vf vc hf hc h1 h2=>exact .fn _ _ _ _ _ hf hc h1 h2
 |nilF=>exact .nilF
 |ifc t a v h=>exact .ifc _ _ _ h
 |nilI=>exact .nilI
 |it id b hk h=>exact .it _ _ hk h
 |gp g=>exact .gp _
theorem VR.loose' {E:Env}{a:AV}{v:Value}(h:VR E a v):VR E a.loose v:=by
 cases a with
 |agg cs=>
  cases h with|agg _ vs hl hv=>
  refine .agg _ vs (by simp[hl]) fun i hi=>?_
  have hi':i<cs.length:=by simpa using hi
  rw[vbO hi'];exact (hv i hi').loose1
 |_=>exact h.loose1
theorem ACalls.loose {P:Program}{f:FuncId}{args:List AV}{σ:ze}{R:AV→ze→Prop}(h:ACalls P f (args.map AV.loose) σ R):ACalls P f args σ R:=
 ⟨h.1,fun E vs hS hl=>h.2 E vs hS ⟨by rw[hl.1,ul],fun i hi=>by
  have hi':i<args.length:=by simpa using hi
  rw[vbO hi']
  exact (hl.2 i hi').loose'⟩⟩
mutual
def AV.deep : AV→Prop
 |.ds _ cs len _=>len≤9223372036854775807∧deepL cs
 |.agg cs=>deepL cs
 |.os _ _ _ _ _ len _=>len≤9223372036854775807
 |_=>True
def deepL : List AV→Prop
 |[]=>True
 |a::l=>a.deep∧deepL l
end
theorem deepL_of : ∀ {cs:List AV},(∀ i,i<cs.length→(gc cs i).deep)→deepL cs:=by
 intro cs
 induction cs with
 |nil=>intro _; trivial
 |cons a l ih=>exact fun h=>⟨h 0 (by simp),ih fun i hi=>by simpa [gc] using h (i+1) (by simpa using hi)⟩
theorem VR.deep {E:Env}{a:AV}{v:Value}(h:VR E a v):a.deep:=by
 induction h with
 |ds _ _ _ _ _ _ _ _ _ _ _ _ hB ih=>exact⟨hB,deepL_of ih⟩
 |dsn=>exact⟨by omega,trivial⟩
 |agg cs vs hl _ ih=>exact deepL_of ih
 |os _ _ _ _ _ _ _ _ _ _ _ _ hB=>exact hB
 |osn=>show 0≤_; omega
 |_=>trivial
theorem xr {P:Program}{n k:Nat}{Q:Exit→Fr→ze→Prop}{F:Fr}{σ:ze}(t:Nat){c:Code}(h:(F t).deep→awp Φ P n k c Q F σ):awp Φ P n k c Q F σ:=fun E a hk hS hF=>h (hF.tmps t).deep E a hk hS hF
theorem awp_deepS {P:Program}{n k:Nat}{Q:Exit→Fr→ze→Prop}{F:Fr}{σ:ze}(id:Nat){ver:Nat}{cs:List AV}(hi:σ[id]?=some (.cells ver cs)){c:Code}(h:deepL cs→awp Φ P n k c Q F σ):awp Φ P n k c Q F σ:=fun E a hk hS hF=>by
 refine h ?_ E a hk hS hF;have ho:=hS.obj id;rw[hi] at ho
 rcases ho with ⟨b,_,hb⟩|⟨rfl,_⟩
 · refine deepL_of fun i hi=>?_
   obtain⟨v,_,hv⟩:=hb.cell i hi;exact hv.deep
 trivial
def xz : Nat:=1000000000000000000000
class wj {α:Type}(enc:α→List AV):Prop where
 h:∀ s x,xl s (enc x)=true
theorem xv {α:Type}(enc:α→List AV) [hc:wj enc](s:Bool)(l:List α):xl s (l.flatMap enc)=true:=canonL_flatMap s enc (hc.h s) l
theorem zw {α:Type}{enc:α→List AV} [hc:wj enc]{σ:ze}{keep:List Nat}{ls:Bool}{f:Nat}(l:List α):(l.flatMap enc).map (tell σ keep ls f)=l.flatMap enc:=Yc σ keep ls _ f (xv enc ls l)
def encBo (x:Bool):List AV:=[.bool x]
def encK (k:IntKind)(n:Int):List AV:=[.int k n]
def XW {α:Type}(enc:α→List AV)(x:List α):List AV:=[.ds true (x.flatMap enc) x.length false]
instance (k : IntKind) : wj (encK k) := ⟨fun _ _ => rfl⟩
instance : wj wJ := ⟨fun _ _ => rfl⟩
instance : wj encS := ⟨fun _ _ => rfl⟩
instance : wj Ym := ⟨fun _ _ => rfl⟩
instance : wj encBo := ⟨fun _ _ => rfl⟩
instance {α : Type} (enc : α → List AV) [wj enc] : wj (XW enc) := ⟨fun s x => by simp [XW, xl, AV.canon, xv]⟩
class X2 {α:Type}(enc:α→List AV)(sz:Nat):Prop where
 h:∀ x,(enc x).length=sz
instance (k : IntKind) : X2 (encK k) 1 := ⟨fun _ => rfl⟩
instance : X2 wJ 1 := ⟨fun _ => rfl⟩
instance : X2 encS 1 := ⟨fun _ => rfl⟩
instance : X2 Ym 1 := ⟨fun _ => rfl⟩
instance : X2 encBo 1 := ⟨fun _ => rfl⟩
instance {α : Type} (enc : α → List AV) : X2 (XW enc) 1 := ⟨fun _ => rfl⟩
theorem osE1 {α:Type}{enc:α→List AV}{sz:Nat} [h:X2 enc sz](l:List α):(l.length*sz≤(l.flatMap enc).length)=True:=eq_true (by rw[yf h.h]; exact qx _)
theorem osE2 {α:Type}{enc:α→List AV}{sz:Nat} [h:X2 enc sz](l:List α):(l.flatMap enc).take (l.length*sz)=l.flatMap enc:=uu (by rw[yf h.h]; exact qx _)
class vah {α:Type}(enc:α→List AV):Prop where
 h:∀ x,(enc x).all AV.one=true
theorem XJ {α:Type}(enc:α→List AV) [hc:vah enc](l:List α):(l.flatMap enc).all AV.one=true:=by
 induction l with
 |nil=>rfl
 |cons x l ih=>rw[qE,List.all_append,hc.h,ih]; rfl
instance (k : IntKind) : vah (encK k) := ⟨fun _ => rfl⟩
instance : vah wJ := ⟨fun _ => rfl⟩
instance : vah encS := ⟨fun _ => rfl⟩
instance : vah Ym := ⟨fun _ => rfl⟩
instance : vah encBo := ⟨fun _ => rfl⟩
instance {α : Type} (enc : α → List AV) : vah (XW enc) := ⟨fun _ => rfl⟩
def vbV {α:Type}(l:List α)(a b:Int):List α:=(l.drop a.toNat).take (b.toNat-a.toNat)
theorem cutL_len {α:Type}{l:List α}{a b:Int}(h:0≤a∧a≤b∧b≤(l.length:Int)):(vbV l a b).length=b.toNat-a.toNat:=by
 unfold vbV; rw[uR,uU]; omega
section
variable {T:TT} {t e sz:Nat} {α:Type} {enc:α→List AV}
theorem cut_enc (h:∀ x,(enc x).length=sz)(l:List α)(a b:Nat):va0 (l.flatMap enc) sz a b=((l.drop a).take (b-a)).flatMap enc:=by
 unfold va0; rw[enc_drop h,enc_take h]
theorem Enc.sl_lh (h:Enc T t e sz enc){l:List α}{a b:Int}(hg:0≤a∧a≤b∧b≤(l.length:Int))(q q':IntKind):
 ZN T t (.ds true (l.flatMap enc) l.length false) (some (.int q a)) (some (.int q' b)) none=some (.ds true ((vbV l a b).flatMap enc) (vbV l a b).length false):=by
 obtain⟨i,hi,hd⟩:=h.sl;obtain⟨j,hj,hs⟩:=h.el;simp only[ZN,hi,hd,hj,vcI,hs];rw[if_pos hg,cutL_len hg,cut_enc h.len]
 simp[vbV]
theorem Enc.sl_lo (h:Enc T t e sz enc){l:List α}{a:Int}(hg:0≤a∧a≤(l.length:Int)∧(l.length:Int)≤(l.length:Int))(q:IntKind):
 ZN T t (.ds true (l.flatMap enc) l.length false) (some (.int q a)) none none=some (.ds true ((vbV l a l.length).flatMap enc) (vbV l a l.length).length false):=by
 obtain⟨i,hi,hd⟩:=h.sl;obtain⟨j,hj,hs⟩:=h.el;simp only[ZN,hi,hd,hj,vcI,hs];rw[if_pos hg,cutL_len hg,cut_enc h.len]
 simp[vbV]
theorem str_lo {i:TI}(hi:T t=some i)(hd:i.desc=.string){l:List UInt8}{a:Int}(hg:0≤a∧a≤(l.length:Int)∧(l.length:Int)≤(l.length:Int))(q:IntKind):
 ZN T t (.str l) (some (.int q a)) none none=some (.str (vbV l a l.length)):=by
 simp only[ZN,hi,hd,vcI]
 rw[if_pos hg]; rfl
theorem idx_str {i:TI}(hi:T t=some i)(hd:i.desc=.string){l:List UInt8}{k:Int}{y:UInt8}(hx:YI l k=some y)(q:IntKind):vdw T t (.str l) (.int q k)=some (.int .u8 (y.toNat:Int)):=by
 obtain⟨h0,h1,h2,h3⟩:=ZF hx;simp only[vdw,hi,hd]
 rw[if_pos ⟨h0,h1⟩,qC,qX h2,h3]; rfl
theorem conv_b2s {src dst u:Nat}{i k j:TI}(hi:T src=some i)(hk:T dst=some k)(hd:i.desc=.slice u)(hks:k.desc=.string)(hj:T u=some j)(hjd:j.desc=.int .u8)(l:List UInt8)(nl tt:Bool)(σ:ze):
 vaX T src dst (.ds nl (l.flatMap Ym) l.length tt) σ=some (.str l,σ):=by
 have h1:=Z0 (enc:=Ym) (sz:=1) (fun _=>rfl) l nl tt σ;rw[← vaR] at h1 ⊢;simp only[vaX,hi,hk,hd,hks,hj,hjd,h1,unbs_bys,uN]
theorem Zz {src dst:Nat}{i k:TI}{q:IntKind}(hi:T src=some i)(hk:T dst=some k)(hd:k.desc=.int q)(p:IntKind)(n:Int)(σ:ze):vaX T src dst (.int p n) σ=some (.int q (q.wrap n),σ):=by
 simp only[vaX,hi,hk,hd]
theorem conv_s2b {src dst u:Nat}{i k j:TI}(hi:T src=some i)(hk:T dst=some k)(hd:k.desc=.slice u)(hj:T u=some j)(hjd:j.desc=.int .u8)(hjs:j.size=1){l:List UInt8}(hl:l.length≤9223372036854775807)(σ:ze):
 vaX T src dst (.str l) σ=some (.os true 1 σ.length 0 0 l.length false,σ++[.cells 0 (l.flatMap Ym)]):=by
 simp only[vaX,hi,hk,hd,hj,hjd];rw[if_pos ⟨hl,hjs⟩,vaR]
end
theorem vaH (x:Int):(((ur (qT (IntKind.u8.wrap x))).toNat:Nat):Int)=IntKind.u8.wrap x:=by
 have h0:0≤IntKind.u8.wrap x∧IntKind.u8.wrap x<256:=by
  simp only[IntKind.wrap,IntKind.signed,IntKind.bits]
  simp
  omega
 rw[UInt8.toNat_ofNat']
 omega
theorem bys_length (l:List UInt8):(bys l).length=l.length:=by simp[bys]
end AM
end
section
namespace AM
variable {Φ:Ctx}
open Go.RowKit
structure vc8 {K:Type} [DecidableEq K](T:TT)(kt:TypeId)(ek:K→AV):Prop where
 h:∃ ik l,∃ kc:K→List AV,T kt=some ik∧xG T 20 kt=some l∧(∀ k:K,Xz ik (ek k)=some (kc k)∧(kc k).length=ik.size)∧∀ a b:K,vab l (kc a) (kc b)=some (decide (a=b))
theorem vc8.str {T:TT}{kt:TypeId}{ik:TI}(h1:T kt=some ik)(h2:xG T 20 kt=some [.string])(h3:ik.agg=false)(h4:ik.size=1):vc8 T kt AV.str:=by
 refine⟨ik,_,fun k=>[.str k],h1,h2,fun k=>⟨by simp[Xz,h3],by simp[h4]⟩,fun a b=>?_⟩
 simp[vab,ceq]
theorem vc8.int {T:TT}{kt:TypeId}{ik:TI}{q:IntKind}(h1:T kt=some ik)(h2:xG T 20 kt=some [.int q])(h3:ik.agg=false)(h4:ik.size=1):vc8 T kt (AV.int q):=by
 refine⟨ik,_,fun k=>[.int q k],h1,h2,fun k=>⟨by simp[Xz,h3],by simp[h4]⟩,fun a b=>?_⟩
 simp[vab,ceq]
theorem vc8.agg {K:Type} [DecidableEq K]{enc:K→List AV}{T:TT}{kt:TypeId}{ik:TI}{l:List TypeDesc}(h1:T kt=some ik)(h2:xG T 20 kt=some l)(h3:ik.agg=true)(h4:∀ k,(enc k).length=ik.size)(h5:∀ a b,vab l (enc a) (enc b)=some (decide (a=b))):vc8 T kt (fun k=>AV.agg (enc k)):=
 ⟨ik,l,enc,h1,h2,fun k=>⟨by simp[Xz,h3],h4 k⟩,h5⟩
section
variable {K V:Type}
def y0 (ek:K→AV)(ev:V→AV)(M:List (K×V)):List (AV×AV):=M.map fun p=>(ek p.1,ev p.2)
def XE [DecidableEq K]:List (K×V)→K→Option V
 |[],_=>none
 |(a,v)::l,k=>if k=a then some v else XE l k
def vcn [DecidableEq K]:List (K×V)→K→V→List (K×V)
 |[],k,v=>[(k,v)]
 |(a,w)::l,k,v=>if k=a then (k,v)::l else (a,w)::vcn l k v
theorem find_M [DecidableEq K]{ek:K→AV}{ev:V→AV}{ik:TI}{l:List TypeDesc}{kc:K→List AV}(h1:∀ k:K,Xz ik (ek k)=some (kc k)∧(kc k).length=ik.size)(h2:∀ a b:K,vab l (kc a) (kc b)=some (decide (a=b)))(k:K):∀ (M:List (K×V)) (n:Nat),
 (Yp l ik (kc k) (y0 ek ev M) n=some none∧XE M k=none∧∀ b,vcn M k b=M++[(k,b)]) ∨
 (∃ i v,Yp l ik (kc k) (y0 ek ev M) n=some (some (n+i,ev v))∧XE M k=some v∧∀ b,vcn M k b=M.set i (k,b)):=by
 intro M
 induction M with
 |nil=>intro n; exact .inl ⟨rfl,rfl,fun b=>rfl⟩
 |cons e M ih=>
  intro n
  obtain⟨a,w⟩:=e
  have e1:Yp l ik (kc k) (y0 ek ev ((a,w)::M)) n=bif decide (k=a) then some (some (n,ev w)) else Yp l ik (kc k) (y0 ek ev M) (n+1):=by
   simp only[y0,qu,Yp,(h1 a).1,h2 k a]
  rw[e1]
  by_cases h:k=a
  · refine .inr ⟨0,w,by simp[h],by simp[XE,h],fun b=>by simp[vcn,h]⟩
  simp only[h,decide_false,cond_false,XE,vcn,if_false]
  rcases ih (n+1) with ⟨a1,a2,a3⟩|⟨i,v,a1,a2,a3⟩
  · exact .inl ⟨a1,a2,fun b=>by rw[a3]; rfl⟩
  refine .inr ⟨i+1,v,?_,a2,fun b=>by rw[a3]; rfl⟩
  rw[a1]; congr 3; omega
theorem vaL [DecidableEq K]{T:TT}{t kt et:TypeId}{ek:K→AV}{ev:V→AV}{z:V}{i ie:TI}(hk:vc8 T kt ek)(h1:T t=some i)(h2:i.desc=.map kt et)(h3:T et=some ie)(h4:ie.zero=ev z)(M:List (K×V))(k:K)(ok:Bool)(σ:ze)(id:Nat)(hm:ze.mapAt σ id=some (y0 ek ev M)):
 X9 T t (.mp id) (ek k) ok σ=some (Xv ok (ev ((XE M k).getD z)) (XE M k).isSome):=by
 obtain⟨ik,l,kc,a1,a2,a3,a4⟩:=hk.h;simp only[X9,h1,h2,a1,h3,a2,(a3 k).1,(a3 k).2,if_true,hm]
 rcases find_M a3 a4 k M 0 with ⟨b1,b2,_⟩|⟨j,v,b1,b2,_⟩
 · rw[b1,b2]; simp[h4]
 rw[b1,b2]; simp
theorem vbY [DecidableEq K]{T:TT}{t kt et:TypeId}{ek:K→AV}{ev:V→AV}{i:TI}(hk:vc8 T kt ek)(h1:T t=some i)(h2:i.desc=.map kt et)(M:List (K×V))(k:K)(v:V)(σ:ze)(id:Nat)(hm:ze.mapAt σ id=some (y0 ek ev M))(hg:ze.ghAt σ id=none:=by rfl):
 Xh T t (.mp id) (ek k) (ev v) σ=some (σ.set id (.map (y0 ek ev (vcn M k v)))):=by
 obtain⟨ik,l,kc,a1,a2,a3,a4⟩:=hk.h;simp only[Xh,h1,h2,a1,a2,(a3 k).1,(a3 k).2,if_true,hm,hg,Option.map_none]
 rcases find_M a3 a4 k M 0 with ⟨b1,_,b2⟩|⟨j,w,b1,_,b2⟩
 · rw[b1,b2]; simp[y0]
 rw[b1,b2]; simp[y0,List.map_set]
def idxK [DecidableEq K]:List (K×V)→K→Option Nat
 |[],_=>none
 |(a,_)::l,k=>if k=a then some 0 else (idxK l k).map (·+1)
structure YJ (K V:Type) where
 l:List (K×V)
 bs:List Nat
 ck:Nat
def YJ.ent [DecidableEq K](z:V)(m:YJ K V)(k:K):YJ K V:=match idxK m.l k with
 |some _=>m
 |none=>⟨m.l++[(k,z)],m.bs++[m.ck],m.ck+1⟩
def YJ.stamp [DecidableEq K](m:YJ K V)(k:K):Int:=match idxK m.l k with
 |some i=>((m.bs.getD i 0:Nat):Int)
 |none=>(m.ck:Int)
def YJ.sto (m:YJ K V)(s:Int)(v:V):Option (YJ K V):=
 (m.bs.findIdx? fun b:Nat=>((b:Int)==s)).bind fun j=>(m.l[j]?).map fun e=>⟨m.l.set j (e.1,v),m.bs,m.ck⟩
def YJ.del [DecidableEq K](m:YJ K V)(k:K):YJ K V:=match idxK m.l k with
 |some i=>⟨m.l.eraseIdx i,m.bs.eraseIdx i,m.ck⟩
 |none=>m
def vaZ (ek:K→AV)(ev:V→AV)(m:YJ K V):Yq:=.map (y0 ek ev m.l) (some (m.bs,m.ck))
theorem find_I [DecidableEq K]{ek:K→AV}{ev:V→AV}{ik:TI}{l:List TypeDesc}{kc:K→List AV}(h1:∀ k:K,Xz ik (ek k)=some (kc k)∧(kc k).length=ik.size)(h2:∀ a b:K,vab l (kc a) (kc b)=some (decide (a=b)))(k:K):∀ (M:List (K×V)) (n:Nat),
 (Yp l ik (kc k) (y0 ek ev M) n=some none∧XE M k=none∧idxK M k=none) ∨
 (∃ i v,Yp l ik (kc k) (y0 ek ev M) n=some (some (n+i,ev v))∧XE M k=some v∧idxK M k=some i∧M[i]?=some (k,v)):=by
 intro M
 induction M with
 |nil=>intro n; exact .inl ⟨rfl,rfl,rfl⟩
 |cons e M ih=>
  intro n
  obtain⟨a,w⟩:=e
  have e1:Yp l ik (kc k) (y0 ek ev ((a,w)::M)) n=bif decide (k=a) then some (some (n,ev w)) else Yp l ik (kc k) (y0 ek ev M) (n+1):=by
   simp only[y0,qu,Yp,(h1 a).1,h2 k a]
  rw[e1]
  by_cases h:k=a
  · refine .inr ⟨0,w,by simp[h],by simp[XE,h],by simp[idxK,h],by simp[h]⟩
  simp only[h,decide_false,cond_false,XE,idxK,if_false]
  rcases ih (n+1) with ⟨a1,a2,a3⟩|⟨i,v,a1,a2,a3,a4⟩
  · exact .inl ⟨a1,a2,by rw[a3]; rfl⟩
  refine .inr ⟨i+1,v,?_,a2,by rw[a3]; rfl,by simpa using a4⟩
  rw[a1]; congr 3; omega
theorem entry_B [DecidableEq K]{T:TT}{t kt et:TypeId}{ek:K→AV}{ev:V→AV}{z:V}{i ie:TI}(hk:vc8 T kt ek)(h1:T t=some i)(h2:i.desc=.map kt et)(h3:T et=some ie)(h4:ie.zero=ev z)(m:YJ K V)(k:K)(σ:ze)(id:Nat)(hm:ze.mapAt σ id=some (y0 ek ev m.l))(hg:ze.ghAt σ id=some (m.bs,m.ck)):
 var T t (.mp id) (ek k) σ=some (.tup [ev ((XE m.l k).getD z),.int .i64 (m.stamp k)],σ.set id (vaZ ek ev (m.ent z k))):=by
 obtain⟨ik,l,kc,a1,a2,a3,a4⟩:=hk.h;simp only[var,h1,h2,a1,h3,a2,(a3 k).1,(a3 k).2,if_true,hm,hg]
 rcases find_I a3 a4 k m.l 0 with ⟨b1,b2,b3⟩|⟨j,v,b1,b2,b3,b4⟩
 · rw[b1,b2]; simp[YJ.stamp,YJ.ent,b3,h4,vaZ,y0]
 rw[b1,b2]
 have:(y0 ek ev m.l).set j (ek k,ev v)=y0 ek ev m.l:=by
  apply uX
  intro q
  rw[List.getElem?_set]
  by_cases hq:j=q
  · subst hq;have hlt:=(qQ.1 b4).1;have e2:m.l[j]=(k,v):=(qQ.1 b4).2
    simp[y0,hlt,e2]
  simp[hq]
 simp[YJ.stamp,YJ.ent,b3,vaZ,this]
theorem store_B {ek:K→AV}{ev:V→AV}{m m':YJ K V}{s:Int}{v:V}(h:m.sto s v=some m')(σ:ze)(id:Nat)(hm:ze.mapAt σ id=some (y0 ek ev m.l))(hg:ze.ghAt σ id=some (m.bs,m.ck))(q:IntKind):
 XA (.mp id) (.int q s) (ev v) σ=some (σ.set id (vaZ ek ev m')):=by
 unfold YJ.sto at h
 cases hj:m.bs.findIdx? fun b:Nat=>((b:Int)==s) with
 |none=>rw[hj] at h; cases h
 |some j=>
  rw[hj,qk] at h
  cases he:m.l[j]? with
  |none=>rw[he] at h; cases h
  |some e=>
   rw[he] at h;cases h
   have e1:(y0 ek ev m.l)[j]?=some (ek e.1,ev e.2):=by simp[y0,he]
   simp only[XA,hm,hg,hj,e1,vaZ]
   simp[y0,List.map_set]
theorem delete_B [DecidableEq K]{T:TT}{t kt et:TypeId}{ek:K→AV}{ev:V→AV}{i:TI}(hk:vc8 T kt ek)(h1:T t=some i)(h2:i.desc=.map kt et)(m:YJ K V)(k:K)(σ:ze)(id:Nat)(hm:ze.mapAt σ id=some (y0 ek ev m.l))(hg:ze.ghAt σ id=some (m.bs,m.ck))(hs:σ[id]?=some (vaZ ek ev m)):
 vcd T t (.mp id) (ek k) σ=some (.tup [],σ.set id (vaZ ek ev (m.del k))):=by
 obtain⟨ik,l,kc,a1,a2,a3,a4⟩:=hk.h;simp only[vcd,h1,h2,a1,a2,(a3 k).1,(a3 k).2,if_true,hm,hg]
 rcases find_I a3 a4 k m.l 0 with ⟨b1,b2,b3⟩|⟨j,v,b1,b2,b3,b4⟩
 · rw[b1]
   have:σ.set id (vaZ ek ev m)=σ:=by
    apply uX
    intro q
    rw[List.getElem?_set]
    by_cases hq:id=q
    · subst hq;have hlt:=(qQ.1 hs).1
      rw[hs]; simp[hlt]
    simp[hq]
   simp[YJ.del,b3,this]
 rw[b1]
 simp[YJ.del,b3,vaZ,y0,vaK]
class X3 (ev:V→AV):Prop where
 h:∀ s x,(ev x).canon s=true
instance {K : Type} (enc : K → List AV) [wj enc] : X3 (fun k => AV.agg (enc k)) := ⟨fun s k => wj.h s k⟩
theorem encM_tell {ek:K→AV}{ev:V→AV} [h1:X3 ek] [h2:X3 ev]{σ:ze}{keep:List Nat}{ls:Bool}{f:Nat}(M:List (K×V)):
 ((y0 ek ev M).map fun e=>(tell σ keep ls f e.1,tell σ keep ls f e.2))=y0 ek ev M:=by
 unfold y0;rw[List.map_map]
 exact vn fun p _=>by simp only[Function.comp,XR _ _ _ _ _ (h1.h ls p.1),XR _ _ _ _ _ (h2.h ls p.2)]
end
instance : X3 AV.str := ⟨fun _ _ => rfl⟩
instance : X3 AV.bool := ⟨fun _ _ => rfl⟩
instance (q : IntKind) : X3 (AV.int q) := ⟨fun _ _ => rfl⟩
def vbD : Yq→Bool
 |.cells _ cs=>xl true cs
 |.map es _=>es.all fun e=>e.1.canon true&&e.2.canon true
 |.iter _ _=>true
 |.loop _ _ tm=>xl true tm
 |.mark _=>true
 |.dead=>true
theorem vcC {K V:Type}{ek:K→AV}{ev:V→AV} [h1:X3 ek] [h2:X3 ev](M:List (K×V)){gh:Option (List Nat×Nat)}:vbD (.map (y0 ek ev M) gh)=true:=by
 simp only[vbD,y0,List.all_map,un]
 intro p _
 simp[h1.h true p.1,h2.h true p.2]
theorem vb4 {α:Type}{enc:α→List AV} [hc:wj enc]{g:Nat→Nat}(x:α):vbx g (enc x)=enc x:=Zd g (s:=true) _ (hc.h true x)
theorem XH {α:Type}{enc:α→List AV} [hc:wj enc]{g:Nat→Nat}(l:List α):vbx g (l.flatMap enc)=l.flatMap enc:=Zd g (s:=true) _ (xv enc true l)
theorem vcO {ver:Nat}{cs:List AV}:vbD (.cells ver cs)=xl true cs:=rfl
theorem vcs (g:Nat→Nat):∀ (o:Yq),vbD o=true→vdo g o=o
 |.cells v cs,h=>by simp only[vdo,Zd g cs h]
 |.map es gh,h=>by
  simp only[vbD,un,qJ] at h;simp only[vdo]
  congr 1
  conv=>rhs; rw[← List.map_id es]
  exact vn fun e he=>by rw[vba g e.1 (h e he).1,vba g e.2 (h e he).2]; rfl
 |.iter _ _,_=>rfl
 |.loop l r tm,h=>by simp only[vdo,Zd g tm h]
 |.mark _,_=>rfl
 |.dead,_=>rfl
def putI : List Nat→ze→ze→ze
 |id::ids,o::l,σ=>putI ids l (σ.set id o)
 |_,_,σ=>σ
theorem vcH (g:Nat→Nat):∀ (ids:List Nat) (l σ:ze),ids.length=l.length→l.all vbD=true→YZ g ids l σ=putI ids l σ
 |[],[],σ,_,_=>by simp[YZ,putI]
 |[],_::_,_,h,_=>by simp at h
 |_::_,[],_,h,_=>by simp at h
 |id::ids,o::l,σ,h,hc=>by
  simp only[qZ,qJ] at hc;simp only[YZ,putI,vcs g o hc.1];exact vcH g ids l _ (by simpa using h) hc.2
theorem ACalls.io {P:Program}{f:FuncId}{args:List AV}{x:AV}{σs τs:ze}(h:ACalls P f args σs fun r' σ'=>r'=x∧σ'=τs){σ:ze}(ids:List Nat)(hn:ids.Nodup)(hlt:∀ id∈ids,id<σ.length)
 (hobj:ids.map (fun id=>σ[id]?)=σs.map some) (hs:σs.all vbD=true) (ht:τs.all vbD=true) (hl:ids.length=τs.length) (hx:x.canon true=true) {args':List AV} (ha:vbx (vbj ids σ.length) args=args'):
 ACalls P f args' σ fun r' σ'=>r'=x∧σ'=putI ids τs σ:=by
 refine (h.embed ids hn hlt ?_ ha).mono ?_
 · rw[hobj]
   exact vn fun o ho=>by rw[vcs _ o (un.1 hs o ho)]
 rintro r σ' ⟨r0,τ,⟨rfl,rfl⟩,rfl,rfl⟩;exact⟨vba _ _ hx,vcH _ _ _ _ hl ht⟩
theorem ACalls.own0 {P:Program}{f:FuncId}{args:List AV}{sz n:Nat}{cs:List AV}(hc:xl true cs=true)(h:ACalls P f args [] fun r' σ'=>∃ ver,r'=.os true sz 0 ver 0 n false∧σ'=[.cells ver cs]):
 ACalls P f args [] fun r' σ'=>r'=.os true sz 0 0 0 n false∧σ'=[.cells 0 cs]:=by
 refine⟨h.1,fun E vs hS hl=>(h.2 E vs hS hl).mono ?_⟩;rintro e w ⟨v,r,σ',E1,rfl,rfl,h3,h4,h5,ver,rfl,rfl⟩
 let E2:Env := { w:=E1.w,st:=E1.st,loc:=fun i=>if i=0 then (E1.loc 0).map fun p=>(0,p.2) else E1.loc i,n:=E1.n,base:=E1.base }
 have hn:E.n=0:=hS.len.symm
 have l1:∀ i v b,E2.loc i=some (v,some b)→∃ v',E1.loc i=some (v',some b):=by
  intro i v b h
  by_cases hi:i=0
  · subst hi;have h':(E1.loc 0).map (fun p=>((0:Nat),p.2))=some (v,some b):=h
    cases h0:E1.loc 0 with
    |none=>rw[h0] at h'; cases h'
    |some p=>
     rw[h0] at h';obtain⟨q,ob⟩:=p;simp only[uN,Option.some.injEq,Prod.mk.injEq] at h';exact⟨q,by rw[h'.2]⟩
  have h':(if i=0 then (E1.loc 0).map (fun p=>((0:Nat),p.2)) else E1.loc i)=some (v,some b):=h;rw[if_neg hi] at h';exact⟨v,h'⟩
 have hok:E2.ok 0 0:=⟨by have:=h4.len; show 0<E1.n; simp at this; omega,fun _ _ _=>qU _⟩
 have l0:∀ ob,E2.loc 0=some (0,ob)→∃ v',E1.loc 0=some (v',ob):=by
  intro ob h
  have h':(E1.loc 0).map (fun p=>((0:Nat),p.2))=some (0,ob):=h
  cases h0:E1.loc 0 with
  |none=>rw[h0] at h'; cases h'
  |some p=>
   rw[h0] at h';obtain⟨q,ob'⟩:=p;simp only[uN,Option.some.injEq,Prod.mk.injEq,true_and] at h';exact⟨q,by rw[h']⟩
 have hobj:=h4.obj 0
 have hver:∀ v' ob,E1.loc 0=some (v',ob)→v'=ver:=by
  intro v' ob h
  rcases hobj with ⟨b,e1,_⟩|⟨_,e1⟩
  · rw[e1] at h; cases h; rfl
  rw[e1] at h; cases h; rfl
 have hx:Ext E E2 := {
  os:=h5.os
  tape:=h5.tape
  output:=h5.output
  size:=h5.size
  shape:=h5.shape
  st:=h5.st
  n:=h5.n
  loc:=fun id hid=>absurd hid (by omega)
  old:=h5.old
  own:=fun id v b hb hlt=>by
   obtain⟨v',h'⟩:=l1 id v b hb;exact h5.own id v' b h' hlt
  stn:=h5.stn
  bas:=fun id hid=>absurd hid (by omega)
  basO:=h5.basO }
 refine⟨v,_,_,E2,rfl,rfl,?_,?_,hx,rfl,rfl⟩
 · cases h3 with
   |osn _ _ _ _ _ a hk h=>
    refine .osn _ _ _ _ _ a hok fun ob hob=>?_
    obtain⟨v',h'⟩:=l0 ob hob
    have:=hver _ _ h'; subst this
    exact h ob h'
   |os _ _ _ _ _ _ _ a cap hk hc ht hB h=>
    refine .os _ _ _ _ _ _ _ a cap hok hc ht hB fun ob hob=>?_
    obtain⟨v',h'⟩:=l0 ob hob
    have:=hver _ _ h'; subst this
    exact h ob h'
 refine⟨h4.len,fun i=>?_,fun i i' v v' b h1 h2=>?_,fun i v b h1=>?_,h4.stb,h4.glb,h4.bas⟩
 · match i with
   |0=>
    rcases hobj with ⟨b,e1,conc,t,fr,a1,a2,a3,a4⟩|⟨e0,e1⟩
    · refine .inl ⟨b,by show (E1.loc 0).map _=_; rw[e1]; rfl,conc,t,fr,a1,a2,a3,fun i hi=>?_⟩;exact VR.canonRenL (E:=E1) (E':=E2) rfl (fun _ h=>h) cs hc i hi (a4 i hi)
    exact .inr ⟨e0,by show (E1.loc 0).map _=_; rw[e1]; rfl⟩
   |i+1=>exact h4.obj (i+1)
 · obtain⟨w1,g1⟩:=l1 _ _ _ h1;obtain⟨w2,g2⟩:=l1 _ _ _ h2;exact h4.inj _ _ _ _ _ g1 g2
 obtain⟨w1,g1⟩:=l1 _ _ _ h1;exact h4.blk _ _ _ g1
theorem ACalls.ownData {P:Program}{f:FuncId}{args:List AV}{sz n:Nat}{cs:List AV}(h:ACalls P f args [] fun r' σ'=>r'=.os true sz 0 0 0 n false∧σ'=[.cells 0 cs])(hl:cs.length=n*sz)(hc:xl true cs=true):
 ACalls P f args [] fun r' _=>r'=.ds true cs n false:=by
 refine ACalls.told (h.mono ?_);rintro r σ' ⟨rfl,rfl⟩;refine⟨[],true,12,List.nodup_nil,(fun _ h=>by cases h),rfl,?_⟩;have h1:cs.map (tell [.cells 0 cs] [] true 11)=cs:=Yc _ _ _ _ _ hc;simp only[ZC,wU,ze.at_hd,if_true,qq,← hl,uk,h1,qn,qx]
theorem ACalls.ownAt0 {P:Program}{f:FuncId}{args:List AV}{sz n:Nat}{cs:List AV}(h:ACalls P f args [] fun r' σ'=>r'=.os true sz 0 0 0 n false∧σ'=[.cells 0 cs])(ha:xl true args=true)(hc:xl true cs=true)(σ:ze):
 ACalls P f args σ fun r' σ'=>r'=.os true sz σ.length 0 0 n false∧σ'=σ++[.cells 0 cs]:=by
 refine (h.embed (σ:=σ) [] List.nodup_nil (fun _ h=>by cases h) rfl (Zd _ _ ha)).mono ?_;rintro r σ' ⟨r0,τ,⟨rfl,rfl⟩,rfl,rfl⟩;exact⟨by simp[AV.ren,vbj],by simp[YZ,vdo,Zd _ _ hc]⟩
theorem vcE {P:Program}{T:TT}(hT:TOK P T){f:FuncId}{fn:Func}{c:Code}{n:Nat}{rs:List ResultVar}{args:List AV}{sz N:Nat}{cs:List AV}(hf:P.funcs[f]?=some fn)(hb:fn.body=some c)
 (hn:fn.ntmps=n) (hr:fn.results.toList=rs) (hent:∀ vs w,(callFunc f vs).run P w=.ok (.enter f vs) w) (hl:args.length≤n)
 (h:awp own0 P n 0 c (ZA T rs fun r σ'=>∃ id ver,id<σ'.length∧tell σ' [id] true 12 r=.os true sz 0 ver 0 N false∧vbF σ' [id] true 12=[.cells ver cs]) (fr args) []):
 ACalls P f args [] fun r' σ'=>∃ ver,r'=.os true sz 0 ver 0 N false∧σ'=[.cells ver cs]:=by
 refine ACalls.told ((ZO (σ:=[]) hT hf hb hn hr hent hl h).mono ?_);rintro r σ' ⟨id,ver,h1,h2,h3⟩;exact⟨[id],true,12,by simp,by simpa using h1,rfl,ver,h2,h3⟩
section
variable {P:Program} {n k:Nat} {Q:Exit→Fr→ze→Prop} {F:Fr} {σ:ze}
theorem awp_loopS1 {c:Code}(I:Nat→List (Nat×AV)→ze→Prop)(M:Nat)
 (first:awp Φ P n k c (vac (fun F' σ'=>∃ m' L' τ',m'<M∧I m' L' τ'∧TellS k F' σ' L' τ') Q) F σ)
 (round:∀ m L τ,I m L τ→awp Φ P n k c (vac (fun F' σ'=>∃ m' L' τ',m'<m∧I m' L' τ'∧TellS k F' σ' L' τ') Q) (fs L) τ):awp Φ P n k (.loop c) Q F σ:=by
 refine awp_loop (fun m F' σ'=>(m=M∧F'=F∧σ'=σ)∨(m<M∧∃ L τ,I m L τ∧TellS k F' σ' L τ)) M (.inl ⟨rfl,rfl,rfl⟩) ?_;rintro m F' σ' (⟨rfl,rfl,rfl⟩|⟨hm,L,τ,h1,h2⟩)
 · refine vcj first fun e F σ hq=>?_
   cases e with
   |normal=>
    obtain⟨m',L',τ',a,b,c⟩:=hq;exact⟨m',a,.inr ⟨a,L',τ',b,c⟩⟩
   |_=>exact hq
 refine xB h2 (vcj (round m L τ h1) fun e F σ hq=>?_)
 cases e with
 |normal=>
  obtain⟨m',L',τ',a,b,c⟩:=hq;exact⟨m',a,.inr ⟨by omega,L',τ',b,c⟩⟩
 |_=>exact hq
end
section
variable {T:TT} {t e sz:Nat} {α:Type} {enc:α→List AV}
theorem Enc.sl_tight (h:Enc T t e sz enc)(l:List α)(q q':IntKind):
 ZN T t (.ds true (l.flatMap enc) l.length false) none (some (.int q (l.length:Int))) (some (.int q' (l.length:Int)))=some (.ds true (l.flatMap enc) l.length true):=by
 obtain⟨i,hi,hd⟩:=h.sl;obtain⟨j,hj,hs⟩:=h.el;simp only[ZN,hi,hd,hj,vcI,hs];rw[if_pos (by simp)]
 have e1:va0 (l.flatMap enc) sz (qT 0) (qT (l.length:Int))=l.flatMap enc:=by
  unfold va0;simp only[Int.toNat_zero,uy,qq,uc,uZ];rw[← yf h.len,uk]
 rw[e1]; simp
theorem app_tight (h:∀ x,(enc x).length=sz)(l:List α){m:Nat}(hm:m≠0)(new:List AV)(σ:ze):
 yG sz (.ds true (l.flatMap enc) l.length true) m new σ=some (.os true sz σ.length 0 0 (l.length+m) false,σ++[.cells 0 (l.flatMap enc++new)]):=by
 unfold yG
 by_cases h0:l.length=0
 · have:l=[]:=um h0
   subst this; simp
 simp only;rw[if_neg h0,if_neg hm]
 have e1:y1 σ sz (.ds true (l.flatMap enc) l.length true)=some (l.length,l.flatMap enc):=by
  simp only[y1];rw[if_pos (by rw[yf h]; exact qx _),← yf h,uk]
 rw[e1]
end
section
variable {T:TT} {t e sz:Nat} {α:Type} {enc:α→List AV}
theorem Enc.idxO (h:Enc T t e sz enc){l:List α}{i:Int}{x:α}(hx:YI l i=some x)(nl tt:Bool)(q:IntKind)(sz' id ver:Nat):
 Zu T t (.os nl sz' id ver 0 l.length tt) (.int q i)=some (.op id ver (i.toNat*sz)):=by
 obtain⟨h0,h1,_⟩:=ZF hx;rw[h.idxo h0 h1,qn]
theorem Enc.rdO (h:Enc T t e sz enc){l:List α}{i:Int}{x:α}(hx:YI l i=some x):vcL (l.flatMap enc) (i.toNat*sz) sz true=some (.agg (enc x)):=by
 obtain⟨_,_,hi,rfl⟩:=ZF hx;unfold vcL
 have h1:i.toNat*sz+sz≤(l.flatMap enc).length:=by
  rw[yf h.len,← uY];exact ud _ hi
 rw[if_pos rfl,if_pos h1,enc_get h.len hi]
theorem Enc.rdfO (h:Enc T t e sz enc){l:List α}{i:Int}{x:α}(hx:YI l i=some x){o:Nat}(ho:o<sz)(n:Nat):vcL (l.flatMap enc) (i.toNat*sz+o) n false=some (gc (enc x) o):=by
 obtain⟨_,_,hi,rfl⟩:=ZF hx;exact enc_rd h.len hi ho
theorem Enc.rdfO0 (h:Enc T t e sz enc){l:List α}{i:Int}{x:α}(hx:YI l i=some x)(n:Nat):vcL (l.flatMap enc) (i.toNat*sz) n false=some (gc (enc x) 0):=by
 obtain⟨_,_,hi,rfl⟩:=ZF hx;exact enc_rd0 h.len hi h.pos
theorem Xb : ∀ (xs a b c:List AV),b.length=xs.length→wk (a++(b++c)) a.length xs=a++(xs++c):=by
 intro xs
 induction xs with
 |nil=>intro a b c h; rw[qS.1 h]; rfl
 |cons x xs ih=>
  intro a b c h
  cases b with
  |nil=>simp at h
  |cons y b=>
   have e1:(a++(y::b++c)).set a.length x=(a++[x])++(b++c):=by
    rw[List.set_append_right _ _ (qx _),uQ]; simp
   have e2:a.length+1=(a++[x]).length:=by simp
   simp only[wk];rw[e1,e2,ih _ _ _ (by simpa using h)]
   simp
theorem setRun_enc' (h:∀ x,(enc x).length=sz):∀ {l:List α} (pre:List AV) {i:Nat} (y:α),i<l.length→wk (pre++l.flatMap enc) (pre.length+i*sz) (enc y)=pre++(l.set i y).flatMap enc:=by
 intro l
 induction l with
 |nil=>intro pre i y hi; simp at hi
 |cons a l ih=>
  intro pre i y hi
  cases i with
  |zero=>
   simp only[uy,qF,qE,uK];exact Xb _ _ _ _ (by rw[h,h])
  |succ i=>
   have:=ih (pre++enc a) (i:=i) y (by simpa using hi);rw[qj,h a] at this;rw[uV,qE,qE,← qA,← qA,← this]
   congr 1
   rw[uY]; omega
theorem setRun_enc (h:∀ x,(enc x).length=sz){l:List α}{i:Nat}(y:α)(hi:i<l.length):wk (l.flatMap enc) (i*sz) (enc y)=(l.set i y).flatMap enc:=by
 simpa using setRun_enc' h [] y hi
theorem ym {α:Type}{l:List α}{i:Int}{x:α}:(setI l i x).length=l.length:=by simp[setI]
theorem Enc.stOc (h:Enc T t e sz enc){l:List α}{i:Int}{x0:α}(hx:YI l i=some x0):(i.toNat*sz+sz≤(l.flatMap enc).length)=True:=by
 obtain⟨_,_,hi,_⟩:=ZF hx;refine eq_true ?_;rw[yf h.len,← uY];exact ud _ hi
theorem Enc.stOr (h:Enc T t e sz enc){l:List α}{i:Int}{x0:α}(hx:YI l i=some x0){y:α}{cs:List AV}(hy:enc y=cs):wk (l.flatMap enc) (i.toNat*sz) cs=(setI l i y).flatMap enc:=by
 obtain⟨_,_,hi,_⟩:=ZF hx;subst hy;exact setRun_enc h.len y hi
end
end AM
end
section
namespace AM
variable {Φ:Ctx}
open Go.RowKit
section
variable {T:TT} {t e sz:Nat} {α:Type} {enc:α→List AV}
theorem zeroRun_enc (h:∀ x,(enc x).length=sz)(hp:0<sz)(z:α)(n:Nat):yI (enc z) (n*sz)=(qV n z).flatMap enc:=by
 have hl:(yI (enc z) (n*sz)).length=((qV n z).flatMap enc).length:=by
  rw[yf h]; simp[yI]
 refine List.ext_getElem hl fun i h1 h2=>?_
 have hi:i<n*sz:=by simpa [yI] using h1
 have hk:i / sz<n:=by
  rw[Nat.mul_comm] at hi;exact Nat.div_lt_of_lt_mul hi
 have e1:gc (yI (enc z) (n*sz)) i=gc (enc z) (i % sz):=by rw[gc_zeroRun _ _ _ hi,h]
 have e2:gc ((qV n z).flatMap enc) (i / sz*sz+i % sz)=gc (enc z) (i % sz):=by
  rw[enc_gc h (l:=qV n z) (by simpa using hk) (Nat.mod_lt _ hp)]; simp
 have e3:i / sz*sz+i % sz=i:=by rw[Nat.mul_comm]; exact Nat.div_add_mod i sz
 rw[e3,← e1] at e2
 have g:∀ (l:List AV) (hh:i<l.length),gc l i=l[i]:=fun l hh=>by simp[gc,hh]
 rw[g _ h2,g _ h1] at e2;exact e2.symm
theorem Enc.mk0 (h:Enc T t e sz enc){j:TI}(hj:T e=some j){z:α}(hz:j.zero.cells=enc z)(hok:j.zero.okc=true){n:Int}(hg:0≤n∧(j.bytes:Int)*n≤281474976710656∧n<9223372036854775807)(q q':IntKind)(σ:ze):
 evMake T t (.int q n) (.int q' n) σ=some (.os true sz σ.length 0 0 (qV n.toNat z).length true,σ++[.cells 0 ((qV n.toNat z).flatMap enc)]):=by
 obtain⟨i,hi,hd⟩:=h.sl;obtain⟨j',hj',hs⟩:=h.el
 rw[hj] at hj'; cases hj'
 simp only[evMake,hi,hd,hj];rw[if_pos ⟨hg.1,Int.le_refl _,hg.2.1,hg.2.2,hok,by rw[hz,h.len,hs],by rw[hs]; exact h.pos⟩];rw[hz,hs,zeroRun_enc h.len h.pos]
 simp
theorem Enc.slO (h:Enc T t e sz enc){len:Nat}{a b:Int}(hg:0≤a∧a≤b∧b≤(len:Int))(q q':IntKind)(id ver:Nat)(tt:Bool):
 ZN T t (.os true sz id ver 0 len tt) (some (.int q a)) (some (.int q' b)) none=some (.os true sz id ver (a.toNat*sz) (b.toNat-a.toNat) (tt&&decide (b=(len:Int)))):=by
 obtain⟨i,hi,hd⟩:=h.sl;obtain⟨j,hj,hs⟩:=h.el;simp only[ZN,hi,hd,hj,vcI];rw[if_pos ⟨hg.1,hg.2.1,hg.2.2,hs.symm⟩,qn]
def vbu {α:Type}(l:List α)(a c n:Nat):List α:=l.take a++((l.drop c).take n++l.drop (a+n))
theorem copyI_length {l:List α}{a c n:Nat}(h1:a+n≤l.length)(h2:c+n≤l.length):(vbu l a c n).length=l.length:=by
 simp only[vbu,qj,uR,uU]; omega
theorem Enc.cpO (h:Enc T t e sz enc)(ho:∀ x,(enc x).all AV.one=true){l:List α}{a b c d:Int}(hg:0≤a∧a≤b∧b≤(l.length:Int))(hg':0≤c∧c≤d∧d≤(l.length:Int))(t1 t2:Bool)(σ:ze)(id ver:Nat)(hs:ze.at σ id ver=some (l.flatMap enc))(hid:σ[id]?=some (.cells ver (l.flatMap enc))):
 vas T t (.os true sz id ver (a.toNat*sz) (b.toNat-a.toNat) t1) (.os true sz id ver (c.toNat*sz) (d.toNat-c.toNat) t2) σ=
  some (.int .i64 ((min (d.toNat-c.toNat) (b.toNat-a.toNat):Nat):Int),σ.set id (.cells ver ((vbu l a.toNat c.toNat (min (d.toNat-c.toNat) (b.toNat-a.toNat))).flatMap enc))):=by
 obtain⟨i,hi,hd⟩:=h.sl;obtain⟨j,hj,hz⟩:=h.el
 obtain⟨a,rfl⟩:∃ k:Nat,a=k:=⟨a.toNat,by omega⟩
 obtain⟨b,rfl⟩:∃ k:Nat,b=k:=⟨b.toNat,by omega⟩
 obtain⟨c,rfl⟩:∃ k:Nat,c=k:=⟨c.toNat,by omega⟩
 obtain⟨d,rfl⟩:∃ k:Nat,d=k:=⟨d.toNat,by omega⟩
 simp only[uc]
 have g1:a≤b:=by omega
 have g2:b≤l.length:=by omega
 have g3:c≤d:=by omega
 have g4:d≤l.length:=by omega
 generalize hn:min (d-c) (b-a)=n
 have hb:a+n≤l.length:=by omega
 have hc:c+n≤l.length:=by omega
 have e1:y1 σ sz (.os true sz id ver (c*sz) (d-c) t2)=some (d-c,((l.drop c).take (d-c)).flatMap enc):=by
  have hle:c*sz+(d-c)*sz≤(l.flatMap enc).length:=by
   rw[yf h.len,← u6]; exact ud _ (by omega)
  simp only[y1,hs];rw[if_pos hle,enc_drop h.len,enc_take h.len]
 have e2:List.take (n*sz) (((l.drop c).take (d-c)).flatMap enc)=((l.drop c).take n).flatMap enc:=by
  rw[enc_take h.len,List.take_take]; congr 2; omega
 have e3:(((l.drop c).take n).flatMap enc).length=n*sz:=by
  rw[yf h.len]; congr 1; simp; omega
 have e4:wk (l.flatMap enc) (a*sz) (((l.drop c).take n).flatMap enc)=(vbu l a c n).flatMap enc:=by
  have f1:l.flatMap enc=(l.take a).flatMap enc++(((l.drop a).take n).flatMap enc++(l.drop (a+n)).flatMap enc):=by
   rw[← qH,← qH,← vo,uA,uA]
  have f2:((l.take a).flatMap enc).length=a*sz:=by rw[yf h.len]; congr 1; simp; omega
  rw[f1,← f2,Xb _ _ _ _ (by rw[e3,yf h.len]; congr 1; simp; omega)];simp only[vbu,qH]
 have e5:(((l.drop c).take n).flatMap enc).all AV.one=true:=by
  rw[un]
  intro x hx
  obtain⟨y,_,hy⟩:=List.mem_flatMap.1 hx;exact un.1 (ho y) x hy
 simp only[vas,hi,hd,hj,hz,e1,hn,e2,Yv]
 by_cases h0:n=0
 · rw[if_pos (.inl h0)];subst h0
   have:vbu l a c 0=l:=by simp[vbu]
   rw[this]
   have hset:σ.set id (.cells ver (l.flatMap enc))=σ:=by
    apply uX
    intro k
    by_cases hk:k=id
    · subst hk;have hlt:=(qQ.1 hid).1;rw[uv hlt,hid]
    rw[ue (fun e=>hk e.symm)]
   rw[hset]
 rw[if_neg (by have:=h.pos; omega),hs];simp only;rw[if_pos ⟨trivial,by rw[e3,yf h.len,← u6]; exact ud _ hb,e5⟩,e4]
end
theorem vbg {T:TT}{t:TypeId}{cells:List AV}{off:Nat}{σ:ze}:YL T t (.dp cells off) σ=match T t with
 |some i=>vcL cells off i.size i.agg
 |none=>none:=by
 cases h:T t<;>simp[YL,h]
theorem VR.loosen {E:Env}{nl:Bool}{sz id ver off len:Nat}{t:Bool}{v:Value}(h:VR E (.os nl sz id ver off len t) v):VR E (.os nl sz id ver off len false) v:=by
 cases h with
 |osn _ _ _ _ _ a hk h=>exact .osn _ _ _ _ _ a hk h
 |os _ _ _ _ _ _ _ a cap hk hc ht hB h=>exact .os _ _ _ _ _ _ _ a cap hk hc (fun h=>by cases h) hB h
theorem vdG {P:Program}{T:TT}(hT:TOK P T){f:FuncId}{fn:Func}{c:Code}{n:Nat}{rs:List ResultVar}{args:List AV}{sz N:Nat}{cs:List AV}(hf:P.funcs[f]?=some fn)(hb:fn.body=some c)
 (hn:fn.ntmps=n) (hr:fn.results.toList=rs) (hent:∀ vs w,(callFunc f vs).run P w=.ok (.enter f vs) w) (hl:args.length≤n)
 (h:awp own0 P n 0 c (ZA T rs fun r σ'=>(∃ id t,id<σ'.length∧tell σ' [id] true 12 r=.os true sz 0 0 0 N t∧vbF σ' [id] true 12=[.cells 0 cs])∨(N=0∧cs=[]∧tell σ' [] false 12 r=.ds true [] 0 true)) (fr args) []):
 ACalls P f args [] fun r' σ'=>r'=.os true sz 0 0 0 N false∧σ'=[.cells 0 cs]:=by
 have h1:ACalls P f args [] fun r' σ'=>(∃ t,r'=.os true sz 0 0 0 N t∧σ'=[.cells 0 cs])∨(N=0∧cs=[]∧r'=.ds true [] 0 true∧σ'=[]):=by
  refine ACalls.told ((ZO (σ:=[]) hT hf hb hn hr hent hl h).mono ?_);rintro r σ' (⟨id,t,a1,a2,a3⟩|⟨a1,a2,a3⟩)
  · exact⟨[id],true,12,by simp,by simpa using a1,rfl,.inl ⟨t,a2,a3⟩⟩
  exact⟨[],false,12,List.nodup_nil,(fun _ h=>by cases h),rfl,.inr ⟨a1,a2,a3,rfl⟩⟩
 refine h1.ghost ?_;rintro r σ' (⟨t,rfl,rfl⟩|⟨rfl,rfl,rfl,rfl⟩) E v hS hv
 · exact⟨E,_,_,rfl,hS,Ext.refl E,hv.loosen,rfl,rfl⟩
 obtain⟨hS',hx⟩:=hS.virt;exact⟨E.new E.w none,_,_,rfl,hS',hx,VR.virt hS hv sz false,rfl,rfl⟩
theorem acalls_ptr {P:Program}{T:TT}(hT:TOK P T){f:FuncId}{fn:Func}{c:Code}{n:Nat}{rs:List ResultVar}{args:List AV}{R:AV→ze→Prop}(hf:P.funcs[f]?=some fn)(hb:fn.body=some c)
 (hn:fn.ntmps=n) (hr:fn.results.toList=rs) (hent:∀ vs w,(callFunc f vs).run P w=.ok (.enter f vs) w) (hl:args.length≤n)
 (h:awp own0 P n 0 c (ZA T rs fun r σ'=>∃ keep:List Nat,keep.Nodup∧(∀ id∈keep,id<σ'.length)∧R (tell σ' keep true 12 r) (vbF σ' keep true 12)) (fr args) []):
 ACalls P f args [] R:=by
 refine ACalls.told ((ZO (σ:=[]) hT hf hb hn hr hent hl h).mono ?_);rintro r σ' ⟨keep,h1,h2,h3⟩;exact⟨keep,true,12,h1,h2,rfl,h3⟩
def newV {α:Type}(o:Option α)(id:Nat):AV:=match o with|none=>.nilp|some _=>.op id 0 0
theorem Xx {α:Type}{id:Nat}:newV (none:Option α) id=.nilp:=rfl
theorem Xw {α:Type}{x:α}{id:Nat}:newV (some x) id=.op id 0 0:=rfl
theorem ACalls.newAt {P:Program}{f:FuncId}{args:List AV}{x:Nat→AV}{S:ze}(h:ACalls P f args [] fun r' σ'=>r'=x 0∧σ'=S)(hx:∀ n,(x 0).ren (fun i=>n+i)=x n)(ha:xl true args=true)(σ:ze):
 ACalls P f args σ fun r' σ'=>r'=x σ.length∧σ'=σ++S.map (vdo fun i=>σ.length+i):=by
 refine (h.embed (σ:=σ) [] List.nodup_nil (fun _ h=>by cases h) rfl (Zd _ _ ha)).mono ?_;rintro r σ' ⟨r0,τ,⟨rfl,rfl⟩,rfl,rfl⟩
 have hb:vbj [] σ.length=fun i=>σ.length+i:=by funext i; simp[vbj]
 rw[hb];exact⟨hx _,by simp[YZ]⟩
theorem awp_eqS {P:Program}{n k:Nat}{c:Code}{Q:Exit→Fr→ze→Prop}{F:Fr}{σ τ:ze}(h:σ=τ)(hh:awp Φ P n k c Q F τ):awp Φ P n k c Q F σ:=h▸hh
end AM
end
section
set_option maxRecDepth 8000
open AM
def ti1 : TI:=⟨TypeDesc.func #[] #[] false,1,8,AV.nilF,false⟩
def ti2 : TI:=⟨.int .i64,1,8,.int .i64 0,false⟩
def ti3 : TI:=ti2
def ti4 : TI:=⟨.bool,1,1,AV.bool false,false⟩
def ti5 : TI:=⟨.int .u8,1,1,.int .u8 0,false⟩
def ti9 : TI:=⟨.string,1,16,.str [],false⟩
def ti20 : TI:=⟨TypeDesc.interface #[],1,16,AV.nilI,false⟩
def ti21 : TI:=⟨.int .i32,1,4,.int .i32 0,false⟩
def ti22 : TI:=⟨TypeDesc.pointer 122,1,8,AV.nilp,false⟩
def ti23 : TI:=ti2
def ti26 : TI:=⟨.slice 3,1,24,.ds true [] 0 true,false⟩
def ti27 : TI:=⟨.slice 129,1,24,.ds true [] 0 true,false⟩
def ti28 : TI:=⟨.slice 142,1,24,.ds true [] 0 true,false⟩
def ti29 : TI:=⟨.slice 61,1,24,.ds true [] 0 true,false⟩
def ti30 : TI:=⟨.struct #[⟨"Name",9,0,false,"","",0⟩,⟨"Messages",27,1,false,"","",16⟩,⟨"Enums",28,2,false,"","",40⟩,⟨"Methods",29,3,false,"","",64⟩],4,88,.agg [.str [],.ds true [] 0 true,.ds true [] 0 true,.ds true [] 0 true],false⟩
def ti31 : TI:=ti30
def ti33 : TI:=⟨.slice 31,1,24,.ds true [] 0 true,false⟩
def ti34 : TI:=⟨.slice 40,1,24,.ds true [] 0 true,false⟩
def ti35 : TI:=⟨.slice 139,1,24,.ds true [] 0 true,false⟩
def ti36 : TI:=⟨.struct #[⟨"Kind",3,0,false,"","",0⟩,⟨"N",3,1,false,"","",8⟩,⟨"S",9,2,false,"","",16⟩,⟨"Entries",34,3,false,"","",32⟩,⟨"Rest",35,4,false,"","",56⟩],5,80,.agg [.int .i64 0,.int .i64 0,.str [],.ds true [] 0 true,.ds true [] 0 true],false⟩
def ti37 : TI:=ti36
def ti38 : TI:=⟨.slice 37,1,24,.ds true [] 0 true,false⟩
def ti39 : TI:=⟨.struct #[⟨"Tag",3,0,false,"","",0⟩,⟨"Trees",38,1,false,"","",8⟩],2,32,.agg [.int .i64 0,.ds true [] 0 true],false⟩
def ti40 : TI:=ti39
def ti41 : TI:=⟨TypeDesc.func #[3] #[37] false,1,8,AV.nilF,false⟩
def ti42 : TI:=⟨.struct #[⟨"Kind",3,0,false,"","",0⟩,⟨"From",3,1,false,"","",8⟩,⟨"To",3,2,false,"","",16⟩,⟨"ID",3,3,false,"","",24⟩,⟨"Version",3,4,false,"","",32⟩,⟨"Method",9,5,false,"","",40⟩,⟨"Err",3,6,false,"","",56⟩,⟨"Body",9,7,false,"","",64⟩],8,80,.agg [.int .i64 0,.int .i64 0,.int .i64 0,.int .i64 0,.int .i64 0,.str [],.int .i64 0,.str []],true⟩
def ti43 : TI:=ti42
def ti48 : TI:=⟨.slice 5,1,24,.ds true [] 0 true,false⟩
def ti54 : TI:=⟨TypeDesc.func #[37,37] #[4] false,1,8,AV.nilF,false⟩
def ti56 : TI:=⟨TypeDesc.func #[3,3] #[4] false,1,8,AV.nilF,false⟩
def ti60 : TI:=⟨.struct #[⟨"Name",9,0,false,"","",0⟩,⟨"In",9,1,false,"","",16⟩,⟨"Out",9,2,false,"","",32⟩],3,48,.agg [.str [],.str [],.str []],true⟩
def ti61 : TI:=ti60
def ti68 : TI:=⟨.slice 78,1,24,.ds true [] 0 true,false⟩
def ti72 : TI:=⟨TypeDesc.pointer 154,1,8,AV.nilp,false⟩
def ti74 : TI:=⟨.struct #[⟨"N",26,0,false,"","",0⟩,⟨"S",33,1,false,"","",24⟩],2,48,.agg [.ds true [] 0 true,.ds true [] 0 true],false⟩
def ti75 : TI:=ti74
def ti77 : TI:=⟨.struct #[⟨"Kind",3,0,false,"","",0⟩,⟨"Method",9,1,false,"","",8⟩,⟨"T",37,2,false,"","",24⟩,⟨"L",26,7,false,"","",104⟩,⟨"P",43,8,false,"","",128⟩,⟨"Mine",4,16,false,"","",208⟩],17,216,.agg [.int .i64 0,.str [],.int .i64 0,.int .i64 0,.str [],.ds true [] 0 true,.ds true [] 0 true,.ds true [] 0 true,.int .i64 0,.int .i64 0,.int .i64 0,.int .i64 0,.int .i64 0,.str [],.int .i64 0,.str [],AV.bool false],false⟩
def ti78 : TI:=ti77
def ti82 : TI:=⟨.slice 98,1,24,.ds true [] 0 true,false⟩
def ti88 : TI:=⟨.slice 43,1,24,.ds true [] 0 true,false⟩
def ti89 : TI:=⟨TypeDesc.pointer 163,1,8,AV.nilp,false⟩
def ti92 : TI:=⟨.slice 95,1,24,.ds true [] 0 true,false⟩
def ti94 : TI:=⟨.struct #[⟨"From",3,0,false,"","",0⟩,⟨"ID",3,1,false,"","",8⟩,⟨"Method",9,2,false,"","",16⟩,⟨"In",37,3,false,"","",32⟩],8,112,.agg [.int .i64 0,.int .i64 0,.str [],.int .i64 0,.int .i64 0,.str [],.ds true [] 0 true,.ds true [] 0 true],false⟩
def ti95 : TI:=ti94
def ti97 : TI:=⟨.struct #[⟨"Method",9,0,false,"","",0⟩,⟨"In",37,1,false,"","",16⟩,⟨"Out",37,6,false,"","",96⟩],11,176,.agg [.str [],.int .i64 0,.int .i64 0,.str [],.ds true [] 0 true,.ds true [] 0 true,.int .i64 0,.int .i64 0,.str [],.ds true [] 0 true,.ds true [] 0 true],false⟩
def ti98 : TI:=ti97
def ti100 : TI:=⟨.int .u64,1,8,.int .u64 0,false⟩
def ti102 : TI:=⟨.slice 106,1,24,.ds true [] 0 true,false⟩
def ti103 : TI:=⟨TypeDesc.pointer 112,1,8,AV.nilp,false⟩
def ti105 : TI:=⟨.struct #[⟨"Kind",3,0,false,"","",0⟩,⟨"P",43,1,false,"","",8⟩,⟨"L",26,9,false,"","",88⟩,⟨"N",26,10,false,"","",112⟩,⟨"S",33,11,false,"","",136⟩],12,160,.agg [.int .i64 0,.int .i64 0,.int .i64 0,.int .i64 0,.int .i64 0,.int .i64 0,.str [],.int .i64 0,.str [],.ds true [] 0 true,.ds true [] 0 true,.ds true [] 0 true],false⟩
def ti106 : TI:=ti105
def ti109 : TI:=⟨TypeDesc.pointer 222,1,8,AV.nilp,false⟩
def ti110 : TI:=⟨.slice 169,1,24,.ds true [] 0 true,false⟩
def ti111 : TI:=⟨.struct #[⟨"Self",3,0,false,"","",0⟩,⟨"X",75,1,false,"","",8⟩,⟨"Newest",31,3,false,"","",56⟩,⟨"Rows",82,7,false,"","",144⟩,⟨"C",109,8,false,"","",168⟩,⟨"L",110,9,false,"","",176⟩],10,200,.agg [.int .i64 0,.ds true [] 0 true,.ds true [] 0 true,.str [],.ds true [] 0 true,.ds true [] 0 true,.ds true [] 0 true,.ds true [] 0 true,AV.nilp,.ds true [] 0 true],false⟩
def ti112 : TI:=ti111
def ti120 : TI:=⟨TypeDesc.pointer 137,1,8,AV.nilp,false⟩
def ti121 : TI:=⟨.struct #[⟨"self",3,0,false,"","concordat/client",0⟩,⟨"server",3,1,false,"","concordat/client",8⟩,⟨"numbers",26,2,false,"","concordat/client",16⟩,⟨"schemas",33,3,false,"","concordat/client",40⟩,⟨"id",3,4,false,"","concordat/client",64⟩,⟨"waits",3,5,false,"","concordat/client",72⟩,⟨"method",9,6,false,"","concordat/client",80⟩,⟨"t",37,7,false,"","concordat/client",96⟩,⟨"agreed",3,12,false,"","concordat/client",176⟩,⟨"sent",43,13,false,"","concordat/client",184⟩,⟨"result",120,21,false,"","concordat/client",264⟩],22,272,.agg [.int .i64 0,.int .i64 0,.ds true [] 0 true,.ds true [] 0 true,.int .i64 0,.int .i64 0,.str [],.int .i64 0,.int .i64 0,.str [],.ds true [] 0 true,.ds true [] 0 true,.int .i64 0,.int .i64 0,.int .i64 0,.int .i64 0,.int .i64 0,.int .i64 0,.str [],.int .i64 0,.str [],AV.nilp],false⟩
def ti122 : TI:=ti121
def ti123 : TI:=⟨.struct #[⟨"Kind",3,0,false,"","",0⟩,⟨"Name",9,1,false,"","",8⟩],2,24,.agg [.int .i64 0,.str []],true⟩
def ti124 : TI:=ti123
def ti125 : TI:=⟨.struct #[⟨"Name",9,0,false,"","",0⟩,⟨"Tag",3,1,false,"","",16⟩,⟨"Label",3,2,false,"","",24⟩,⟨"Type",124,3,false,"","",32⟩],5,56,.agg [.str [],.int .i64 0,.int .i64 0,.int .i64 0,.str []],true⟩
def ti126 : TI:=ti125
def ti127 : TI:=⟨.slice 126,1,24,.ds true [] 0 true,false⟩
def ti128 : TI:=⟨.struct #[⟨"Name",9,0,false,"","",0⟩,⟨"Fields",127,1,false,"","",16⟩,⟨"Reserved",26,2,false,"","",40⟩],3,64,.agg [.str [],.ds true [] 0 true,.ds true [] 0 true],false⟩
def ti129 : TI:=ti128
def ti136 : TI:=⟨.struct #[⟨"id",3,0,false,"","concordat/client",0⟩,⟨"t",37,1,false,"","concordat/client",8⟩,⟨"err",23,6,false,"","concordat/client",88⟩],7,96,.agg [.int .i64 0,.int .i64 0,.int .i64 0,.str [],.ds true [] 0 true,.ds true [] 0 true,.int .i64 0],false⟩
def ti137 : TI:=ti136
def ti138 : TI:=⟨.struct #[⟨"Tag",3,0,false,"","",0⟩,⟨"Wire",3,1,false,"","",8⟩,⟨"N",3,2,false,"","",16⟩,⟨"B",9,3,false,"","",24⟩],4,40,.agg [.int .i64 0,.int .i64 0,.int .i64 0,.str []],true⟩
def ti139 : TI:=ti138
def ti140 : TI:=⟨.slice 144,1,24,.ds true [] 0 true,false⟩
def ti141 : TI:=⟨.struct #[⟨"Name",9,0,false,"","",0⟩,⟨"Values",140,1,false,"","",16⟩],2,40,.agg [.str [],.ds true [] 0 true],false⟩
def ti142 : TI:=ti141
def ti143 : TI:=⟨.struct #[⟨"Name",9,0,false,"","",0⟩,⟨"N",3,1,false,"","",16⟩],2,24,.agg [.str [],.int .i64 0],true⟩
def ti144 : TI:=ti143
def ti146 : TI:=⟨.slice 9,1,24,.ds true [] 0 true,false⟩
def ti151 : TI:=⟨TypeDesc.pointer 3,1,8,AV.nilp,false⟩
def ti153 : TI:=⟨.struct #[⟨"Self",3,0,false,"","",0⟩,⟨"Server",3,1,false,"","",8⟩,⟨"X",75,2,false,"","",16⟩,⟨"ID",3,4,false,"","",64⟩,⟨"Step",3,5,false,"","",72⟩,⟨"Method",9,6,false,"","",80⟩,⟨"T",37,7,false,"","",96⟩,⟨"Last",43,12,false,"","",176⟩,⟨"Has",4,20,false,"","",256⟩,⟨"Out",37,21,false,"","",264⟩,⟨"Err",23,26,false,"","",344⟩],27,352,.agg [.int .i64 0,.int .i64 0,.ds true [] 0 true,.ds true [] 0 true,.int .i64 0,.int .i64 0,.str [],.int .i64 0,.int .i64 0,.str [],.ds true [] 0 true,.ds true [] 0 true,.int .i64 0,.int .i64 0,.int .i64 0,.int .i64 0,.int .i64 0,.str [],.int .i64 0,.str [],AV.bool false,.int .i64 0,.int .i64 0,.str [],.ds true [] 0 true,.ds true [] 0 true,.int .i64 0],false⟩
def ti154 : TI:=ti153
def ti160 : TI:=⟨TypeDesc.pointer 209,1,8,AV.nilp,false⟩
def ti162 : TI:=⟨.struct #[⟨"self",3,0,false,"","concordat/server",0⟩,⟨"numbers",26,1,false,"","concordat/server",8⟩,⟨"schemas",33,2,false,"","concordat/server",32⟩,⟨"newest",31,3,false,"","concordat/server",56⟩,⟨"rows",82,7,false,"","concordat/server",144⟩,⟨"cache",160,8,false,"","concordat/server",168⟩,⟨"effects",92,9,false,"","concordat/server",176⟩],10,200,.agg [.int .i64 0,.ds true [] 0 true,.ds true [] 0 true,.str [],.ds true [] 0 true,.ds true [] 0 true,.ds true [] 0 true,.ds true [] 0 true,AV.nilp,.ds true [] 0 true],false⟩
def ti163 : TI:=ti162
def ti169 : TI:=ti94
def ti176 : TI:=⟨.slice 246,1,24,.ds true [] 0 true,false⟩
def ti177 : TI:=⟨.struct #[⟨"Parts",176,0,false,"","",0⟩],1,24,.agg [.ds true [] 0 true],false⟩
def ti178 : TI:=ti177
def ti183 : TI:=⟨.slice 21,1,24,.ds true [] 0 true,false⟩
def ti200 : TI:=⟨TypeDesc.func #[40,40] #[4] false,1,8,AV.nilF,false⟩
def ti201 : TI:=⟨TypeDesc.map 9 4,1,8,AV.nilm,false⟩
def ti202 : TI:=ti201
def ti205 : TI:=⟨TypeDesc.map 268 43,1,8,AV.nilm,false⟩
def ti206 : TI:=⟨TypeDesc.map 3 3,1,8,AV.nilm,false⟩
def ti207 : TI:=⟨.slice 268,1,24,.ds true [] 0 true,false⟩
def ti208 : TI:=⟨.struct #[⟨"size",3,0,false,"","concordat/dedup",0⟩,⟨"order",207,1,false,"","concordat/dedup",8⟩,⟨"replies",205,2,false,"","concordat/dedup",32⟩,⟨"last",206,3,false,"","concordat/dedup",40⟩],4,48,.agg [.int .i64 0,.ds true [] 0 true,AV.nilm,AV.nilm],false⟩
def ti209 : TI:=ti208
def ti210 : TI:=⟨TypeDesc.func #[56] #[] false,1,8,AV.nilF,false⟩
def ti211 : TI:=ti210
def ti215 : TI:=⟨.struct #[⟨"schema",31,0,false,"","concordat/server",0⟩,⟨"own",61,4,false,"","concordat/server",88⟩,⟨"theirs",61,7,false,"","concordat/server",136⟩,⟨"in",37,10,false,"","concordat/server",184⟩],15,264,.agg [.str [],.ds true [] 0 true,.ds true [] 0 true,.ds true [] 0 true,.str [],.str [],.str [],.str [],.str [],.str [],.int .i64 0,.int .i64 0,.str [],.ds true [] 0 true,.ds true [] 0 true],false⟩
def ti216 : TI:=ti215
def ti220 : TI:=⟨.slice 272,1,24,.ds true [] 0 true,false⟩
def ti221 : TI:=⟨.struct #[⟨"Size",3,0,false,"","",0⟩,⟨"L",220,1,false,"","",8⟩,⟨"Most",220,2,false,"","",32⟩],3,56,.agg [.int .i64 0,.ds true [] 0 true,.ds true [] 0 true],false⟩
def ti222 : TI:=ti221
def ti225 : TI:=⟨TypeDesc.interface #[("concordat/value.kind",157)],1,16,AV.nilI,false⟩
def ti226 : TI:=ti225
def ti227 : TI:=⟨.struct #[⟨"in",226,0,false,"","concordat/value",0⟩],1,16,.agg [AV.nilI],false⟩
def ti228 : TI:=ti227
def ti232 : TI:=⟨TypeDesc.pointer 326,1,8,AV.nilp,false⟩
def ti238 : TI:=⟨TypeDesc.pointer 242,1,8,AV.nilp,false⟩
def ti239 : TI:=⟨TypeDesc.map 245 3,1,8,AV.nilm,false⟩
def ti240 : TI:=⟨.slice 245,1,24,.ds true [] 0 true,false⟩
def ti241 : TI:=⟨.struct #[⟨"from",31,0,false,"","concordat/adapt",0⟩,⟨"to",31,4,false,"","concordat/adapt",88⟩,⟨"l",240,8,false,"","concordat/adapt",176⟩,⟨"place",239,9,false,"","concordat/adapt",200⟩],10,208,.agg [.str [],.ds true [] 0 true,.ds true [] 0 true,.ds true [] 0 true,.str [],.ds true [] 0 true,.ds true [] 0 true,.ds true [] 0 true,.ds true [] 0 true,AV.nilm],false⟩
def ti242 : TI:=ti241
def ti244 : TI:=⟨.struct #[⟨"from",9,0,false,"","concordat/adapt",0⟩,⟨"to",9,1,false,"","concordat/adapt",16⟩],2,32,.agg [.str [],.str []],true⟩
def ti245 : TI:=ti244
def ti246 : TI:=⟨.slice 248,1,24,.ds true [] 0 true,false⟩
def ti247 : TI:=⟨.struct #[⟨"Op",3,0,false,"","",0⟩,⟨"Tag",3,1,false,"","",8⟩,⟨"Sub",3,2,false,"","",16⟩],3,24,.agg [.int .i64 0,.int .i64 0,.int .i64 0],true⟩
def ti248 : TI:=ti247
def ti260 : TI:=⟨TypeDesc.array 6 3,6,48,.agg [.int .i64 0,.int .i64 0,.int .i64 0,.int .i64 0,.int .i64 0,.int .i64 0],true⟩
def ti265 : TI:=⟨TypeDesc.map 3 4,1,8,AV.nilm,false⟩
def ti267 : TI:=⟨.struct #[⟨"from",3,0,false,"","concordat/dedup",0⟩,⟨"id",3,1,false,"","concordat/dedup",8⟩],2,16,.agg [.int .i64 0,.int .i64 0],true⟩
def ti268 : TI:=ti267
def ti271 : TI:=⟨.struct #[⟨"From",3,0,false,"","",0⟩,⟨"ID",3,1,false,"","",8⟩,⟨"P",43,2,false,"","",16⟩],10,96,.agg [.int .i64 0,.int .i64 0,.int .i64 0,.int .i64 0,.int .i64 0,.int .i64 0,.int .i64 0,.str [],.int .i64 0,.str []],true⟩
def ti272 : TI:=ti271
def ti282 : TI:=⟨.slice 228,1,24,.ds true [] 0 true,false⟩
def ti287 : TI:=ti100
def ti292 : TI:=⟨TypeDesc.pointer 37,1,8,AV.nilp,false⟩
def ti294 : TI:=⟨TypeDesc.func #[40] #[4] false,1,8,AV.nilF,false⟩
def ti296 : TI:=⟨TypeDesc.pointer 298,1,8,AV.nilp,false⟩
def ti297 : TI:=⟨.struct #[⟨"p",178,0,false,"","concordat/interp",0⟩,⟨"looks",3,1,false,"","concordat/interp",24⟩],2,32,.agg [.ds true [] 0 true,.int .i64 0],false⟩
def ti298 : TI:=ti297
def ti311 : TI:=⟨.struct #[⟨"A",9,0,false,"","",0⟩,⟨"B",9,1,false,"","",16⟩],2,32,.agg [.str [],.str []],true⟩
def ti312 : TI:=ti311
def ti313 : TI:=⟨.slice 312,1,24,.ds true [] 0 true,false⟩
def ti318 : TI:=⟨TypeDesc.pointer 320,1,8,AV.nilp,false⟩
def ti319 : TI:=⟨.struct #[⟨"P",176,0,false,"","",0⟩,⟨"N",3,1,false,"","",24⟩],2,32,.agg [.ds true [] 0 true,.int .i64 0],false⟩
def ti320 : TI:=ti319
def ti324 : TI:=⟨.slice 328,1,24,.ds true [] 0 true,false⟩
def ti325 : TI:=⟨.struct #[⟨"entries",324,0,false,"","concordat/value",0⟩,⟨"rest",35,1,false,"","concordat/value",24⟩],2,48,.agg [.ds true [] 0 true,.ds true [] 0 true],false⟩
def ti326 : TI:=ti325
def ti327 : TI:=⟨.struct #[⟨"tag",3,0,false,"","concordat/value",0⟩,⟨"l",282,1,false,"","concordat/value",8⟩],2,32,.agg [.int .i64 0,.ds true [] 0 true],false⟩
def ti328 : TI:=ti327
def ti335 : TI:=⟨TypeDesc.func #[40,3] #[3] false,1,8,AV.nilF,false⟩
def ti337 : TI:=⟨TypeDesc.pointer 40,1,8,AV.nilp,false⟩
def ti348 : TI:=ti2
def ti349 : TI:=ti9
def ti361 : TI:=⟨.struct #[⟨"lo",5,0,false,"","unicode/utf8",0⟩,⟨"hi",5,1,false,"","unicode/utf8",1⟩],2,2,.agg [.int .u8 0,.int .u8 0],true⟩
def ti362 : TI:=ti361
def ti363 : TI:=⟨TypeDesc.array 16 362,32,32,.agg [.int .u8 0,.int .u8 0,.int .u8 0,.int .u8 0,.int .u8 0,.int .u8 0,.int .u8 0,.int .u8 0,.int .u8 0,.int .u8 0,.int .u8 0,.int .u8 0,.int .u8 0,.int .u8 0,.int .u8 0,.int .u8 0,.int .u8 0,.int .u8 0,.int .u8 0,.int .u8 0,.int .u8 0,.int .u8 0,.int .u8 0,.int .u8 0,.int .u8 0,.int .u8 0,.int .u8 0,.int .u8 0,.int .u8 0,.int .u8 0,.int .u8 0,.int .u8 0],true⟩
def tabL : List (Option TI):=[none,some ti1,some ti2,some ti3,some ti4,some ti5,none,none,none,some ti9,none,none,none,none,none,none,none,none,none,none,some ti20,some ti21,some ti22,some ti23,none,none,some ti26,some ti27,some ti28,some ti29,some ti30,some ti31,none,some ti33,some ti34,some ti35,some ti36,some ti37,some ti38,some ti39,some ti40,some ti41,some ti42,some ti43,none,none,none,none,some ti48,none,none,none,none,none,some ti54,none,some ti56,none,none,none,some ti60,some ti61,none,none,none,none,none,none,some ti68,none,none,none,some ti72,none,some ti74,some ti75,none,some ti77,some ti78,none,none,none,some ti82,none,none,none,none,none,some ti88,some ti89,none,none,some ti92,none,some ti94,some ti95,none,some ti97,some ti98,none,some ti100,none,some ti102,some ti103,none,some ti105,some ti106,none,none,some ti109,some ti110,some ti111,some ti112,none,none,none,none,none,none,none,some ti120,some ti121,some ti122,some ti123,some ti124,some ti125,some ti126,some ti127,some ti128,some ti129,none,none,none,none,none,none,some ti136,some ti137,some ti138,some ti139,some ti140,some ti141,some ti142,some ti143,some ti144,none,some ti146,none,none,none,none,some ti151,none,some ti153,some ti154,none,none,none,none,none,some ti160,none,some ti162,some ti163,none,none,none,none,none,some ti169,none,none,none,none,none,none,some ti176,some ti177,some ti178,none,none,none,none,some ti183,none,none,none,none,none,none,none,none,none,none,none,none,none,none,none,none,some ti200,some ti201,some ti202,none,none,some ti205,some ti206,some ti207,some ti208,some ti209,some ti210,some ti211,none,none,none,some ti215,some ti216,none,none,none,some ti220,some ti221,some ti222,none,none,some ti225,some ti226,some ti227,some ti228,none,none,none,some ti232,none,none,none,none,none,some ti238,some ti239,some ti240,some ti241,some ti242,none,some ti244,some ti245,some ti246,some ti247,some ti248,none,none,none,none,none,none,none,none,none,none,none,some ti260,none,none,none,none,some ti265,none,some ti267,some ti268,none,none,some ti271,some ti272,none,none,none,none,none,none,none,none,none,some ti282,none,none,none,none,some ti287,none,none,none,none,some ti292,none,some ti294,none,some ti296,some ti297,some ti298,none,none,none,none,none,none,none,none,none,none,none,none,some ti311,some ti312,some ti313,none,none,none,none,some ti318,some ti319,some ti320,none,none,none,some ti324,some ti325,some ti326,some ti327,some ti328,none,none,none,none,none,none,some ti335,none,some ti337,none,none,none,none,none,none,none,none,none,none,some ti348,some ti349,none,none,none,none,none,none,none,none,none,none,none,some ti361,some ti362,some ti363,none,none,none,none,none,none,none,none,none,none,none,none,none,none,none,none,none]
def tab : TT:=fun t=>(tabL[t]?).getD none
theorem tab_1 : tab 1=some ⟨TypeDesc.func #[] #[] false,1,8,AV.nilF,false⟩:=rfl
theorem tab_2 : tab 2=some ⟨.int .i64,1,8,.int .i64 0,false⟩:=rfl
theorem tab_3 : tab 3=tab 2:=rfl
theorem tab_4 : tab 4=some ⟨.bool,1,1,AV.bool false,false⟩:=rfl
theorem tab_5 : tab 5=some ⟨.int .u8,1,1,.int .u8 0,false⟩:=rfl
theorem tab_9 : tab 9=some ⟨.string,1,16,.str [],false⟩:=rfl
theorem tab_20 : tab 20=some ⟨TypeDesc.interface #[],1,16,AV.nilI,false⟩:=rfl
theorem tab_21 : tab 21=some ⟨.int .i32,1,4,.int .i32 0,false⟩:=rfl
theorem tab_22 : tab 22=some ⟨TypeDesc.pointer 122,1,8,AV.nilp,false⟩:=rfl
theorem tab_23 : tab 23=tab 2:=rfl
theorem tab_26 : tab 26=some ⟨.slice 3,1,24,.ds true [] 0 true,false⟩:=rfl
theorem tab_27 : tab 27=some ⟨.slice 129,1,24,.ds true [] 0 true,false⟩:=rfl
theorem tab_28 : tab 28=some ⟨.slice 142,1,24,.ds true [] 0 true,false⟩:=rfl
theorem tab_29 : tab 29=some ⟨.slice 61,1,24,.ds true [] 0 true,false⟩:=rfl
theorem tab_30 : tab 30=some ⟨.struct #[⟨"Name",9,0,false,"","",0⟩,⟨"Messages",27,1,false,"","",16⟩,⟨"Enums",28,2,false,"","",40⟩,⟨"Methods",29,3,false,"","",64⟩],4,88,.agg [.str [],.ds true [] 0 true,.ds true [] 0 true,.ds true [] 0 true],false⟩:=rfl
theorem tab_31 : tab 31=tab 30:=rfl
theorem tab_33 : tab 33=some ⟨.slice 31,1,24,.ds true [] 0 true,false⟩:=rfl
theorem vaU : tab 34=some ⟨.slice 40,1,24,.ds true [] 0 true,false⟩:=rfl
theorem tab_35 : tab 35=some ⟨.slice 139,1,24,.ds true [] 0 true,false⟩:=rfl
theorem tab_36 : tab 36=some ⟨.struct #[⟨"Kind",3,0,false,"","",0⟩,⟨"N",3,1,false,"","",8⟩,⟨"S",9,2,false,"","",16⟩,⟨"Entries",34,3,false,"","",32⟩,⟨"Rest",35,4,false,"","",56⟩],5,80,.agg [.int .i64 0,.int .i64 0,.str [],.ds true [] 0 true,.ds true [] 0 true],false⟩:=rfl
theorem tab_37 : tab 37=some ⟨.struct #[⟨"Kind",3,0,false,"","",0⟩,⟨"N",3,1,false,"","",8⟩,⟨"S",9,2,false,"","",16⟩,⟨"Entries",34,3,false,"","",32⟩,⟨"Rest",35,4,false,"","",56⟩],5,80,.agg [.int .i64 0,.int .i64 0,.str [],.ds true [] 0 true,.ds true [] 0 true],false⟩:=rfl
theorem tab_38 : tab 38=some ⟨.slice 37,1,24,.ds true [] 0 true,false⟩:=rfl
theorem tab_39 : tab 39=some ⟨.struct #[⟨"Tag",3,0,false,"","",0⟩,⟨"Trees",38,1,false,"","",8⟩],2,32,.agg [.int .i64 0,.ds true [] 0 true],false⟩:=rfl
theorem vaT : tab 40=some ⟨.struct #[⟨"Tag",3,0,false,"","",0⟩,⟨"Trees",38,1,false,"","",8⟩],2,32,.agg [.int .i64 0,.ds true [] 0 true],false⟩:=rfl
theorem tab_41 : tab 41=some ⟨TypeDesc.func #[3] #[37] false,1,8,AV.nilF,false⟩:=rfl
theorem tab_42 : tab 42=some ⟨.struct #[⟨"Kind",3,0,false,"","",0⟩,⟨"From",3,1,false,"","",8⟩,⟨"To",3,2,false,"","",16⟩,⟨"ID",3,3,false,"","",24⟩,⟨"Version",3,4,false,"","",32⟩,⟨"Method",9,5,false,"","",40⟩,⟨"Err",3,6,false,"","",56⟩,⟨"Body",9,7,false,"","",64⟩],8,80,.agg [.int .i64 0,.int .i64 0,.int .i64 0,.int .i64 0,.int .i64 0,.str [],.int .i64 0,.str []],true⟩:=rfl
theorem tab_43 : tab 43=tab 42:=rfl
theorem tab_48 : tab 48=some ⟨.slice 5,1,24,.ds true [] 0 true,false⟩:=rfl
theorem tab_54 : tab 54=some ⟨TypeDesc.func #[37,37] #[4] false,1,8,AV.nilF,false⟩:=rfl
theorem tab_56 : tab 56=some ⟨TypeDesc.func #[3,3] #[4] false,1,8,AV.nilF,false⟩:=rfl
theorem tab_60 : tab 60=some ⟨.struct #[⟨"Name",9,0,false,"","",0⟩,⟨"In",9,1,false,"","",16⟩,⟨"Out",9,2,false,"","",32⟩],3,48,.agg [.str [],.str [],.str []],true⟩:=rfl
theorem tab_61 : tab 61=tab 60:=rfl
theorem tab_68 : tab 68=some ⟨.slice 78,1,24,.ds true [] 0 true,false⟩:=rfl
theorem tab_72 : tab 72=some ⟨TypeDesc.pointer 154,1,8,AV.nilp,false⟩:=rfl
theorem tab_74 : tab 74=some ⟨.struct #[⟨"N",26,0,false,"","",0⟩,⟨"S",33,1,false,"","",24⟩],2,48,.agg [.ds true [] 0 true,.ds true [] 0 true],false⟩:=rfl
theorem tab_75 : tab 75=tab 74:=rfl
theorem tab_77 : tab 77=some ⟨.struct #[⟨"Kind",3,0,false,"","",0⟩,⟨"Method",9,1,false,"","",8⟩,⟨"T",37,2,false,"","",24⟩,⟨"L",26,7,false,"","",104⟩,⟨"P",43,8,false,"","",128⟩,⟨"Mine",4,16,false,"","",208⟩],17,216,.agg [.int .i64 0,.str [],.int .i64 0,.int .i64 0,.str [],.ds true [] 0 true,.ds true [] 0 true,.ds true [] 0 true,.int .i64 0,.int .i64 0,.int .i64 0,.int .i64 0,.int .i64 0,.str [],.int .i64 0,.str [],AV.bool false],false⟩:=rfl
theorem tab_78 : tab 78=tab 77:=rfl
theorem tab_82 : tab 82=some ⟨.slice 98,1,24,.ds true [] 0 true,false⟩:=rfl
theorem tab_88 : tab 88=some ⟨.slice 43,1,24,.ds true [] 0 true,false⟩:=rfl
theorem tab_89 : tab 89=some ⟨TypeDesc.pointer 163,1,8,AV.nilp,false⟩:=rfl
theorem tab_92 : tab 92=some ⟨.slice 95,1,24,.ds true [] 0 true,false⟩:=rfl
theorem tab_94 : tab 94=some ⟨.struct #[⟨"From",3,0,false,"","",0⟩,⟨"ID",3,1,false,"","",8⟩,⟨"Method",9,2,false,"","",16⟩,⟨"In",37,3,false,"","",32⟩],8,112,.agg [.int .i64 0,.int .i64 0,.str [],.int .i64 0,.int .i64 0,.str [],.ds true [] 0 true,.ds true [] 0 true],false⟩:=rfl
theorem tab_95 : tab 95=tab 94:=rfl
theorem tab_97 : tab 97=some ⟨.struct #[⟨"Method",9,0,false,"","",0⟩,⟨"In",37,1,false,"","",16⟩,⟨"Out",37,6,false,"","",96⟩],11,176,.agg [.str [],.int .i64 0,.int .i64 0,.str [],.ds true [] 0 true,.ds true [] 0 true,.int .i64 0,.int .i64 0,.str [],.ds true [] 0 true,.ds true [] 0 true],false⟩:=rfl
theorem tab_98 : tab 98=tab 97:=rfl
theorem tab_100 : tab 100=some ⟨.int .u64,1,8,.int .u64 0,false⟩:=rfl
theorem tab_102 : tab 102=some ⟨.slice 106,1,24,.ds true [] 0 true,false⟩:=rfl
theorem tab_103 : tab 103=some ⟨TypeDesc.pointer 112,1,8,AV.nilp,false⟩:=rfl
theorem tab_105 : tab 105=some ⟨.struct #[⟨"Kind",3,0,false,"","",0⟩,⟨"P",43,1,false,"","",8⟩,⟨"L",26,9,false,"","",88⟩,⟨"N",26,10,false,"","",112⟩,⟨"S",33,11,false,"","",136⟩],12,160,.agg [.int .i64 0,.int .i64 0,.int .i64 0,.int .i64 0,.int .i64 0,.int .i64 0,.str [],.int .i64 0,.str [],.ds true [] 0 true,.ds true [] 0 true,.ds true [] 0 true],false⟩:=rfl
theorem tab_106 : tab 106=tab 105:=rfl
theorem tab_109 : tab 109=some ⟨TypeDesc.pointer 222,1,8,AV.nilp,false⟩:=rfl
theorem tab_110 : tab 110=some ⟨.slice 169,1,24,.ds true [] 0 true,false⟩:=rfl
theorem tab_111 : tab 111=some ⟨.struct #[⟨"Self",3,0,false,"","",0⟩,⟨"X",75,1,false,"","",8⟩,⟨"Newest",31,3,false,"","",56⟩,⟨"Rows",82,7,false,"","",144⟩,⟨"C",109,8,false,"","",168⟩,⟨"L",110,9,false,"","",176⟩],10,200,.agg [.int .i64 0,.ds true [] 0 true,.ds true [] 0 true,.str [],.ds true [] 0 true,.ds true [] 0 true,.ds true [] 0 true,.ds true [] 0 true,AV.nilp,.ds true [] 0 true],false⟩:=rfl
theorem tab_112 : tab 112=tab 111:=rfl
theorem tab_120 : tab 120=some ⟨TypeDesc.pointer 137,1,8,AV.nilp,false⟩:=rfl
theorem tab_121 : tab 121=some ⟨.struct #[⟨"self",3,0,false,"","concordat/client",0⟩,⟨"server",3,1,false,"","concordat/client",8⟩,⟨"numbers",26,2,false,"","concordat/client",16⟩,⟨"schemas",33,3,false,"","concordat/client",40⟩,⟨"id",3,4,false,"","concordat/client",64⟩,⟨"waits",3,5,false,"","concordat/client",72⟩,⟨"method",9,6,false,"","concordat/client",80⟩,⟨"t",37,7,false,"","concordat/client",96⟩,⟨"agreed",3,12,false,"","concordat/client",176⟩,⟨"sent",43,13,false,"","concordat/client",184⟩,⟨"result",120,21,false,"","concordat/client",264⟩],22,272,.agg [.int .i64 0,.int .i64 0,.ds true [] 0 true,.ds true [] 0 true,.int .i64 0,.int .i64 0,.str [],.int .i64 0,.int .i64 0,.str [],.ds true [] 0 true,.ds true [] 0 true,.int .i64 0,.int .i64 0,.int .i64 0,.int .i64 0,.int .i64 0,.int .i64 0,.str [],.int .i64 0,.str [],AV.nilp],false⟩:=rfl
theorem tab_122 : tab 122=tab 121:=rfl
theorem tab_123 : tab 123=some ⟨.struct #[⟨"Kind",3,0,false,"","",0⟩,⟨"Name",9,1,false,"","",8⟩],2,24,.agg [.int .i64 0,.str []],true⟩:=rfl
theorem tab_124 : tab 124=tab 123:=rfl
theorem tab_125 : tab 125=some ⟨.struct #[⟨"Name",9,0,false,"","",0⟩,⟨"Tag",3,1,false,"","",16⟩,⟨"Label",3,2,false,"","",24⟩,⟨"Type",124,3,false,"","",32⟩],5,56,.agg [.str [],.int .i64 0,.int .i64 0,.int .i64 0,.str []],true⟩:=rfl
theorem tab_126 : tab 126=tab 125:=rfl
theorem tab_127 : tab 127=some ⟨.slice 126,1,24,.ds true [] 0 true,false⟩:=rfl
theorem tab_128 : tab 128=some ⟨.struct #[⟨"Name",9,0,false,"","",0⟩,⟨"Fields",127,1,false,"","",16⟩,⟨"Reserved",26,2,false,"","",40⟩],3,64,.agg [.str [],.ds true [] 0 true,.ds true [] 0 true],false⟩:=rfl
theorem tab_129 : tab 129=tab 128:=rfl
theorem tab_136 : tab 136=some ⟨.struct #[⟨"id",3,0,false,"","concordat/client",0⟩,⟨"t",37,1,false,"","concordat/client",8⟩,⟨"err",23,6,false,"","concordat/client",88⟩],7,96,.agg [.int .i64 0,.int .i64 0,.int .i64 0,.str [],.ds true [] 0 true,.ds true [] 0 true,.int .i64 0],false⟩:=rfl
theorem tab_137 : tab 137=tab 136:=rfl
theorem tab_138 : tab 138=some ⟨.struct #[⟨"Tag",3,0,false,"","",0⟩,⟨"Wire",3,1,false,"","",8⟩,⟨"N",3,2,false,"","",16⟩,⟨"B",9,3,false,"","",24⟩],4,40,.agg [.int .i64 0,.int .i64 0,.int .i64 0,.str []],true⟩:=rfl
theorem tab_139 : tab 139=some ⟨.struct #[⟨"Tag",3,0,false,"","",0⟩,⟨"Wire",3,1,false,"","",8⟩,⟨"N",3,2,false,"","",16⟩,⟨"B",9,3,false,"","",24⟩],4,40,.agg [.int .i64 0,.int .i64 0,.int .i64 0,.str []],true⟩:=rfl
theorem tab_140 : tab 140=some ⟨.slice 144,1,24,.ds true [] 0 true,false⟩:=rfl
theorem tab_141 : tab 141=some ⟨.struct #[⟨"Name",9,0,false,"","",0⟩,⟨"Values",140,1,false,"","",16⟩],2,40,.agg [.str [],.ds true [] 0 true],false⟩:=rfl
theorem tab_142 : tab 142=tab 141:=rfl
theorem tab_143 : tab 143=some ⟨.struct #[⟨"Name",9,0,false,"","",0⟩,⟨"N",3,1,false,"","",16⟩],2,24,.agg [.str [],.int .i64 0],true⟩:=rfl
theorem tab_144 : tab 144=tab 143:=rfl
theorem tab_146 : tab 146=some ⟨.slice 9,1,24,.ds true [] 0 true,false⟩:=rfl
theorem tab_151 : tab 151=some ⟨TypeDesc.pointer 3,1,8,AV.nilp,false⟩:=rfl
theorem tab_153 : tab 153=some ⟨.struct #[⟨"Self",3,0,false,"","",0⟩,⟨"Server",3,1,false,"","",8⟩,⟨"X",75,2,false,"","",16⟩,⟨"ID",3,4,false,"","",64⟩,⟨"Step",3,5,false,"","",72⟩,⟨"Method",9,6,false,"","",80⟩,⟨"T",37,7,false,"","",96⟩,⟨"Last",43,12,false,"","",176⟩,⟨"Has",4,20,false,"","",256⟩,⟨"Out",37,21,false,"","",264⟩,⟨"Err",23,26,false,"","",344⟩],27,352,.agg [.int .i64 0,.int .i64 0,.ds true [] 0 true,.ds true [] 0 true,.int .i64 0,.int .i64 0,.str [],.int .i64 0,.int .i64 0,.str [],.ds true [] 0 true,.ds true [] 0 true,.int .i64 0,.int .i64 0,.int .i64 0,.int .i64 0,.int .i64 0,.str [],.int .i64 0,.str [],AV.bool false,.int .i64 0,.int .i64 0,.str [],.ds true [] 0 true,.ds true [] 0 true,.int .i64 0],false⟩:=rfl
theorem tab_154 : tab 154=tab 153:=rfl
theorem tab_160 : tab 160=some ⟨TypeDesc.pointer 209,1,8,AV.nilp,false⟩:=rfl
theorem tab_162 : tab 162=some ⟨.struct #[⟨"self",3,0,false,"","concordat/server",0⟩,⟨"numbers",26,1,false,"","concordat/server",8⟩,⟨"schemas",33,2,false,"","concordat/server",32⟩,⟨"newest",31,3,false,"","concordat/server",56⟩,⟨"rows",82,7,false,"","concordat/server",144⟩,⟨"cache",160,8,false,"","concordat/server",168⟩,⟨"effects",92,9,false,"","concordat/server",176⟩],10,200,.agg [.int .i64 0,.ds true [] 0 true,.ds true [] 0 true,.str [],.ds true [] 0 true,.ds true [] 0 true,.ds true [] 0 true,.ds true [] 0 true,AV.nilp,.ds true [] 0 true],false⟩:=rfl
theorem tab_163 : tab 163=tab 162:=rfl
theorem tab_169 : tab 169=tab 94:=rfl
theorem tab_176 : tab 176=some ⟨.slice 246,1,24,.ds true [] 0 true,false⟩:=rfl
theorem tab_177 : tab 177=some ⟨.struct #[⟨"Parts",176,0,false,"","",0⟩],1,24,.agg [.ds true [] 0 true],false⟩:=rfl
theorem tab_178 : tab 178=tab 177:=rfl
theorem tab_183 : tab 183=some ⟨.slice 21,1,24,.ds true [] 0 true,false⟩:=rfl
theorem tab_200 : tab 200=some ⟨TypeDesc.func #[40,40] #[4] false,1,8,AV.nilF,false⟩:=rfl
theorem tab_201 : tab 201=some ⟨TypeDesc.map 9 4,1,8,AV.nilm,false⟩:=rfl
theorem tab_202 : tab 202=tab 201:=rfl
theorem tab_205 : tab 205=some ⟨TypeDesc.map 268 43,1,8,AV.nilm,false⟩:=rfl
theorem tab_206 : tab 206=some ⟨TypeDesc.map 3 3,1,8,AV.nilm,false⟩:=rfl
theorem tab_207 : tab 207=some ⟨.slice 268,1,24,.ds true [] 0 true,false⟩:=rfl
theorem tab_208 : tab 208=some ⟨.struct #[⟨"size",3,0,false,"","concordat/dedup",0⟩,⟨"order",207,1,false,"","concordat/dedup",8⟩,⟨"replies",205,2,false,"","concordat/dedup",32⟩,⟨"last",206,3,false,"","concordat/dedup",40⟩],4,48,.agg [.int .i64 0,.ds true [] 0 true,AV.nilm,AV.nilm],false⟩:=rfl
theorem tab_209 : tab 209=tab 208:=rfl
theorem tab_210 : tab 210=some ⟨TypeDesc.func #[56] #[] false,1,8,AV.nilF,false⟩:=rfl
theorem tab_211 : tab 211=tab 210:=rfl
theorem tab_215 : tab 215=some ⟨.struct #[⟨"schema",31,0,false,"","concordat/server",0⟩,⟨"own",61,4,false,"","concordat/server",88⟩,⟨"theirs",61,7,false,"","concordat/server",136⟩,⟨"in",37,10,false,"","concordat/server",184⟩],15,264,.agg [.str [],.ds true [] 0 true,.ds true [] 0 true,.ds true [] 0 true,.str [],.str [],.str [],.str [],.str [],.str [],.int .i64 0,.int .i64 0,.str [],.ds true [] 0 true,.ds true [] 0 true],false⟩:=rfl
theorem tab_216 : tab 216=tab 215:=rfl
theorem tab_220 : tab 220=some ⟨.slice 272,1,24,.ds true [] 0 true,false⟩:=rfl
theorem tab_221 : tab 221=some ⟨.struct #[⟨"Size",3,0,false,"","",0⟩,⟨"L",220,1,false,"","",8⟩,⟨"Most",220,2,false,"","",32⟩],3,56,.agg [.int .i64 0,.ds true [] 0 true,.ds true [] 0 true],false⟩:=rfl
theorem tab_222 : tab 222=tab 221:=rfl
theorem tab_225 : tab 225=some ⟨TypeDesc.interface #[("concordat/value.kind",157)],1,16,AV.nilI,false⟩:=rfl
theorem tab_226 : tab 226=tab 225:=rfl
theorem tab_227 : tab 227=some ⟨.struct #[⟨"in",226,0,false,"","concordat/value",0⟩],1,16,.agg [AV.nilI],false⟩:=rfl
theorem tab_228 : tab 228=tab 227:=rfl
theorem tab_232 : tab 232=some ⟨TypeDesc.pointer 326,1,8,AV.nilp,false⟩:=rfl
theorem tab_238 : tab 238=some ⟨TypeDesc.pointer 242,1,8,AV.nilp,false⟩:=rfl
theorem tab_239 : tab 239=some ⟨TypeDesc.map 245 3,1,8,AV.nilm,false⟩:=rfl
theorem tab_240 : tab 240=some ⟨.slice 245,1,24,.ds true [] 0 true,false⟩:=rfl
theorem tab_241 : tab 241=some ⟨.struct #[⟨"from",31,0,false,"","concordat/adapt",0⟩,⟨"to",31,4,false,"","concordat/adapt",88⟩,⟨"l",240,8,false,"","concordat/adapt",176⟩,⟨"place",239,9,false,"","concordat/adapt",200⟩],10,208,.agg [.str [],.ds true [] 0 true,.ds true [] 0 true,.ds true [] 0 true,.str [],.ds true [] 0 true,.ds true [] 0 true,.ds true [] 0 true,.ds true [] 0 true,AV.nilm],false⟩:=rfl
theorem tab_242 : tab 242=tab 241:=rfl
theorem tab_244 : tab 244=some ⟨.struct #[⟨"from",9,0,false,"","concordat/adapt",0⟩,⟨"to",9,1,false,"","concordat/adapt",16⟩],2,32,.agg [.str [],.str []],true⟩:=rfl
theorem tab_245 : tab 245=tab 244:=rfl
theorem tab_246 : tab 246=some ⟨.slice 248,1,24,.ds true [] 0 true,false⟩:=rfl
theorem tab_247 : tab 247=some ⟨.struct #[⟨"Op",3,0,false,"","",0⟩,⟨"Tag",3,1,false,"","",8⟩,⟨"Sub",3,2,false,"","",16⟩],3,24,.agg [.int .i64 0,.int .i64 0,.int .i64 0],true⟩:=rfl
theorem tab_248 : tab 248=tab 247:=rfl
theorem tab_260 : tab 260=some ⟨TypeDesc.array 6 3,6,48,.agg [.int .i64 0,.int .i64 0,.int .i64 0,.int .i64 0,.int .i64 0,.int .i64 0],true⟩:=rfl
theorem tab_265 : tab 265=some ⟨TypeDesc.map 3 4,1,8,AV.nilm,false⟩:=rfl
theorem tab_267 : tab 267=some ⟨.struct #[⟨"from",3,0,false,"","concordat/dedup",0⟩,⟨"id",3,1,false,"","concordat/dedup",8⟩],2,16,.agg [.int .i64 0,.int .i64 0],true⟩:=rfl
theorem tab_268 : tab 268=tab 267:=rfl
theorem tab_271 : tab 271=some ⟨.struct #[⟨"From",3,0,false,"","",0⟩,⟨"ID",3,1,false,"","",8⟩,⟨"P",43,2,false,"","",16⟩],10,96,.agg [.int .i64 0,.int .i64 0,.int .i64 0,.int .i64 0,.int .i64 0,.int .i64 0,.int .i64 0,.str [],.int .i64 0,.str []],true⟩:=rfl
theorem tab_272 : tab 272=tab 271:=rfl
theorem tab_282 : tab 282=some ⟨.slice 228,1,24,.ds true [] 0 true,false⟩:=rfl
theorem tab_287 : tab 287=tab 100:=rfl
theorem tab_292 : tab 292=some ⟨TypeDesc.pointer 37,1,8,AV.nilp,false⟩:=rfl
theorem tab_294 : tab 294=some ⟨TypeDesc.func #[40] #[4] false,1,8,AV.nilF,false⟩:=rfl
theorem tab_296 : tab 296=some ⟨TypeDesc.pointer 298,1,8,AV.nilp,false⟩:=rfl
theorem tab_297 : tab 297=some ⟨.struct #[⟨"p",178,0,false,"","concordat/interp",0⟩,⟨"looks",3,1,false,"","concordat/interp",24⟩],2,32,.agg [.ds true [] 0 true,.int .i64 0],false⟩:=rfl
theorem tab_298 : tab 298=tab 297:=rfl
theorem tab_311 : tab 311=some ⟨.struct #[⟨"A",9,0,false,"","",0⟩,⟨"B",9,1,false,"","",16⟩],2,32,.agg [.str [],.str []],true⟩:=rfl
theorem tab_312 : tab 312=tab 311:=rfl
theorem tab_313 : tab 313=some ⟨.slice 312,1,24,.ds true [] 0 true,false⟩:=rfl
theorem tab_318 : tab 318=some ⟨TypeDesc.pointer 320,1,8,AV.nilp,false⟩:=rfl
theorem tab_319 : tab 319=some ⟨.struct #[⟨"P",176,0,false,"","",0⟩,⟨"N",3,1,false,"","",24⟩],2,32,.agg [.ds true [] 0 true,.int .i64 0],false⟩:=rfl
theorem tab_320 : tab 320=tab 319:=rfl
theorem tab_324 : tab 324=some ⟨.slice 328,1,24,.ds true [] 0 true,false⟩:=rfl
theorem tab_325 : tab 325=some ⟨.struct #[⟨"entries",324,0,false,"","concordat/value",0⟩,⟨"rest",35,1,false,"","concordat/value",24⟩],2,48,.agg [.ds true [] 0 true,.ds true [] 0 true],false⟩:=rfl
theorem tab_326 : tab 326=tab 325:=rfl
theorem tab_327 : tab 327=some ⟨.struct #[⟨"tag",3,0,false,"","concordat/value",0⟩,⟨"l",282,1,false,"","concordat/value",8⟩],2,32,.agg [.int .i64 0,.ds true [] 0 true],false⟩:=rfl
theorem tab_328 : tab 328=tab 327:=rfl
theorem tab_335 : tab 335=some ⟨TypeDesc.func #[40,3] #[3] false,1,8,AV.nilF,false⟩:=rfl
theorem tab_337 : tab 337=some ⟨TypeDesc.pointer 40,1,8,AV.nilp,false⟩:=rfl
theorem tab_348 : tab 348=tab 2:=rfl
theorem tab_349 : tab 349=tab 9:=rfl
theorem tab_361 : tab 361=some ⟨.struct #[⟨"lo",5,0,false,"","unicode/utf8",0⟩,⟨"hi",5,1,false,"","unicode/utf8",1⟩],2,2,.agg [.int .u8 0,.int .u8 0],true⟩:=rfl
theorem tab_362 : tab 362=tab 361:=rfl
theorem tab_363 : tab 363=some ⟨TypeDesc.array 16 362,32,32,.agg [.int .u8 0,.int .u8 0,.int .u8 0,.int .u8 0,.int .u8 0,.int .u8 0,.int .u8 0,.int .u8 0,.int .u8 0,.int .u8 0,.int .u8 0,.int .u8 0,.int .u8 0,.int .u8 0,.int .u8 0,.int .u8 0,.int .u8 0,.int .u8 0,.int .u8 0,.int .u8 0,.int .u8 0,.int .u8 0,.int .u8 0,.int .u8 0,.int .u8 0,.int .u8 0,.int .u8 0,.int .u8 0,.int .u8 0,.int .u8 0,.int .u8 0,.int .u8 0],true⟩:=rfl
theorem wq {t:TypeId}{i:TI}{f}{z:Value}(hu:(qi).underlying t=some i.desc)(hf:(qi).info? t=some f)(h3:f.zero=some z)(h1:f.size=i.size:=by rfl)(h2:f.bytes=i.bytes:=by rfl)(h4:z.cells.size=i.size:=by rfl)(h5:AM.constAV z=i.zero:=by rfl)(h6:i.cmp=true→(qi).stoodInHeld t=false∧(qi).eqGuardType (qi).depth t=false:=by first|(intro h; cases h; done)|(intro _; exact⟨by kernel_rfl,by kernel_rfl⟩))(h7:tsize t=i.size:=by rfl):TI.OK qi t i:=⟨hu,⟨f,hf,h1,h2,z,h3,h4,fun E=>h5▸VR.constAV E z⟩,h6,h7⟩
theorem ok_1 : TI.OK qi 1 ti1:=wq Tryz.underlying1 Tryz.type1 rfl
theorem ok_2 : TI.OK qi 2 ti2:=wq Tryz.underlying2 Tryz.type2 rfl
theorem ok_3 : TI.OK qi 3 ti3:=wq Tryz.underlying3 Tryz.type3 rfl
theorem ok_4 : TI.OK qi 4 ti4:=wq Tryz.underlying4 Tryz.type4 rfl
theorem ok_5 : TI.OK qi 5 ti5:=wq Tryz.underlying5 Tryz.type5 rfl
theorem ok_9 : TI.OK qi 9 ti9:=wq Tryz.underlying9 Tryz.type9 rfl
theorem ok_20 : TI.OK qi 20 ti20:=wq Tryz.underlying20 Tryz.type20 rfl
theorem ok_21 : TI.OK qi 21 ti21:=wq Tryz.underlying21 Tryz.type21 rfl
theorem ok_22 : TI.OK qi 22 ti22:=wq Tryz.underlying22 Tryz.type22 rfl
theorem ok_23 : TI.OK qi 23 ti23:=wq Tryz.underlying23 Tryz.type23 rfl
theorem ok_26 : TI.OK qi 26 ti26:=wq Tryz.underlying26 Tryz.type26 rfl
theorem ok_27 : TI.OK qi 27 ti27:=wq Tryz.underlying27 Tryz.type27 rfl
theorem ok_28 : TI.OK qi 28 ti28:=wq Tryz.underlying28 Tryz.type28 rfl
theorem ok_29 : TI.OK qi 29 ti29:=wq Tryz.underlying29 Tryz.type29 rfl
theorem ok_30 : TI.OK qi 30 ti30:=wq Tryz.underlying30 Tryz.type30 rfl
theorem ok_31 : TI.OK qi 31 ti31:=wq Tryz.underlying31 Tryz.type31 rfl
theorem ok_33 : TI.OK qi 33 ti33:=wq Tryz.underlying33 Tryz.type33 rfl
theorem ok_34 : TI.OK qi 34 ti34:=wq Tryz.underlying34 Tryz.type34 rfl
theorem ok_35 : TI.OK qi 35 ti35:=wq Tryz.underlying35 Tryz.type35 rfl
theorem ok_36 : TI.OK qi 36 ti36:=wq Tryz.underlying36 Tryz.type36 rfl
theorem ok_37 : TI.OK qi 37 ti37:=wq Tryz.underlying37 Tryz.type37 rfl
theorem ok_38 : TI.OK qi 38 ti38:=wq Tryz.underlying38 Tryz.type38 rfl
theorem ok_39 : TI.OK qi 39 ti39:=wq Tryz.underlying39 Tryz.type39 rfl
theorem ok_40 : TI.OK qi 40 ti40:=wq Tryz.underlying40 Tryz.type40 rfl
theorem ok_41 : TI.OK qi 41 ti41:=wq Tryz.underlying41 Tryz.type41 rfl
theorem ok_42 : TI.OK qi 42 ti42:=wq Tryz.underlying42 Tryz.type42 rfl
theorem ok_43 : TI.OK qi 43 ti43:=wq Tryz.underlying43 Tryz.type43 rfl
theorem ok_48 : TI.OK qi 48 ti48:=wq Tryz.underlying48 Tryz.type48 rfl
theorem ok_54 : TI.OK qi 54 ti54:=wq Tryz.underlying54 Tryz.type54 rfl
theorem ok_56 : TI.OK qi 56 ti56:=wq Tryz.underlying56 Tryz.type56 rfl
theorem ok_60 : TI.OK qi 60 ti60:=wq Tryz.underlying60 Tryz.type60 rfl
theorem ok_61 : TI.OK qi 61 ti61:=wq Tryz.underlying61 Tryz.type61 rfl
theorem ok_68 : TI.OK qi 68 ti68:=wq Tryz.underlying68 Tryz.type68 rfl
theorem ok_72 : TI.OK qi 72 ti72:=wq Tryz.underlying72 Tryz.type72 rfl
theorem ok_74 : TI.OK qi 74 ti74:=wq Tryz.underlying74 Tryz.type74 rfl
theorem ok_75 : TI.OK qi 75 ti75:=wq Tryz.underlying75 Tryz.type75 rfl
theorem ok_77 : TI.OK qi 77 ti77:=wq Tryz.underlying77 Tryz.type77 rfl
theorem ok_78 : TI.OK qi 78 ti78:=wq Tryz.underlying78 Tryz.type78 rfl
theorem ok_82 : TI.OK qi 82 ti82:=wq Tryz.underlying82 Tryz.type82 rfl
theorem ok_88 : TI.OK qi 88 ti88:=wq Tryz.underlying88 Tryz.type88 rfl
theorem ok_89 : TI.OK qi 89 ti89:=wq Tryz.underlying89 Tryz.type89 rfl
theorem ok_92 : TI.OK qi 92 ti92:=wq Tryz.underlying92 Tryz.type92 rfl
theorem ok_94 : TI.OK qi 94 ti94:=wq Tryz.underlying94 Tryz.type94 rfl
theorem ok_95 : TI.OK qi 95 ti95:=wq Tryz.underlying95 Tryz.type95 rfl
theorem ok_97 : TI.OK qi 97 ti97:=wq Tryz.underlying97 Tryz.type97 rfl
theorem ok_98 : TI.OK qi 98 ti98:=wq Tryz.underlying98 Tryz.type98 rfl
theorem ok_100 : TI.OK qi 100 ti100:=wq Tryz.underlying100 Tryz.type100 rfl
theorem ok_102 : TI.OK qi 102 ti102:=wq Tryz.underlying102 Tryz.type102 rfl
theorem ok_103 : TI.OK qi 103 ti103:=wq Tryz.underlying103 Tryz.type103 rfl
theorem ok_105 : TI.OK qi 105 ti105:=wq Tryz.underlying105 Tryz.type105 rfl
theorem ok_106 : TI.OK qi 106 ti106:=wq Tryz.underlying106 Tryz.type106 rfl
theorem ok_109 : TI.OK qi 109 ti109:=wq Tryz.underlying109 Tryz.type109 rfl
theorem ok_110 : TI.OK qi 110 ti110:=wq Tryz.underlying110 Tryz.type110 rfl
theorem ok_111 : TI.OK qi 111 ti111:=wq Tryz.underlying111 Tryz.type111 rfl
theorem ok_112 : TI.OK qi 112 ti112:=wq Tryz.underlying112 Tryz.type112 rfl
theorem ok_120 : TI.OK qi 120 ti120:=wq Tryz.underlying120 Tryz.type120 rfl
theorem ok_121 : TI.OK qi 121 ti121:=wq Tryz.underlying121 Tryz.type121 rfl
theorem ok_122 : TI.OK qi 122 ti122:=wq Tryz.underlying122 Tryz.type122 rfl
theorem ok_123 : TI.OK qi 123 ti123:=wq Tryz.underlying123 Tryz.type123 rfl
theorem ok_124 : TI.OK qi 124 ti124:=wq Tryz.underlying124 Tryz.type124 rfl
theorem ok_125 : TI.OK qi 125 ti125:=wq Tryz.underlying125 Tryz.type125 rfl
theorem ok_126 : TI.OK qi 126 ti126:=wq Tryz.underlying126 Tryz.type126 rfl
theorem ok_127 : TI.OK qi 127 ti127:=wq Tryz.underlying127 Tryz.type127 rfl
theorem ok_128 : TI.OK qi 128 ti128:=wq Tryz.underlying128 Tryz.type128 rfl
theorem ok_129 : TI.OK qi 129 ti129:=wq Tryz.underlying129 Tryz.type129 rfl
theorem ok_136 : TI.OK qi 136 ti136:=wq Tryz.underlying136 Tryz.type136 rfl
theorem ok_137 : TI.OK qi 137 ti137:=wq Tryz.underlying137 Tryz.type137 rfl
theorem ok_138 : TI.OK qi 138 ti138:=wq Tryz.underlying138 Tryz.type138 rfl
theorem ok_139 : TI.OK qi 139 ti139:=wq Tryz.underlying139 Tryz.type139 rfl
theorem ok_140 : TI.OK qi 140 ti140:=wq Tryz.underlying140 Tryz.type140 rfl
theorem ok_141 : TI.OK qi 141 ti141:=wq Tryz.underlying141 Tryz.type141 rfl
theorem ok_142 : TI.OK qi 142 ti142:=wq Tryz.underlying142 Tryz.type142 rfl
theorem ok_143 : TI.OK qi 143 ti143:=wq Tryz.underlying143 Tryz.type143 rfl
theorem ok_144 : TI.OK qi 144 ti144:=wq Tryz.underlying144 Tryz.type144 rfl
theorem ok_146 : TI.OK qi 146 ti146:=wq Tryz.underlying146 Tryz.type146 rfl
theorem ok_151 : TI.OK qi 151 ti151:=wq Tryz.underlying151 Tryz.type151 rfl
theorem ok_153 : TI.OK qi 153 ti153:=wq Tryz.underlying153 Tryz.type153 rfl
theorem ok_154 : TI.OK qi 154 ti154:=wq Tryz.underlying154 Tryz.type154 rfl
theorem ok_160 : TI.OK qi 160 ti160:=wq Tryz.underlying160 Tryz.type160 rfl
theorem ok_162 : TI.OK qi 162 ti162:=wq Tryz.underlying162 Tryz.type162 rfl
theorem ok_163 : TI.OK qi 163 ti163:=wq Tryz.underlying163 Tryz.type163 rfl
theorem ok_169 : TI.OK qi 169 ti169:=wq Tryz.underlying169 Tryz.type169 rfl
theorem ok_176 : TI.OK qi 176 ti176:=wq Tryz.underlying176 Tryz.type176 rfl
theorem ok_177 : TI.OK qi 177 ti177:=wq Tryz.underlying177 Tryz.type177 rfl
theorem ok_178 : TI.OK qi 178 ti178:=wq Tryz.underlying178 Tryz.type178 rfl
theorem ok_183 : TI.OK qi 183 ti183:=wq Tryz.underlying183 Tryz.type183 rfl
theorem ok_200 : TI.OK qi 200 ti200:=wq Tryz.underlying200 Tryz.type200 rfl
theorem ok_201 : TI.OK qi 201 ti201:=wq Tryz.underlying201 Tryz.type201 rfl
theorem ok_202 : TI.OK qi 202 ti202:=wq Tryz.underlying202 Tryz.type202 rfl
theorem ok_205 : TI.OK qi 205 ti205:=wq Tryz.underlying205 Tryz.type205 rfl
theorem ok_206 : TI.OK qi 206 ti206:=wq Tryz.underlying206 Tryz.type206 rfl
theorem ok_207 : TI.OK qi 207 ti207:=wq Tryz.underlying207 Tryz.type207 rfl
theorem ok_208 : TI.OK qi 208 ti208:=wq Tryz.underlying208 Tryz.type208 rfl
theorem ok_209 : TI.OK qi 209 ti209:=wq Tryz.underlying209 Tryz.type209 rfl
theorem ok_210 : TI.OK qi 210 ti210:=wq Tryz.underlying210 Tryz.type210 rfl
theorem ok_211 : TI.OK qi 211 ti211:=wq Tryz.underlying211 Tryz.type211 rfl
theorem ok_215 : TI.OK qi 215 ti215:=wq Tryz.underlying215 Tryz.type215 rfl
theorem ok_216 : TI.OK qi 216 ti216:=wq Tryz.underlying216 Tryz.type216 rfl
theorem ok_220 : TI.OK qi 220 ti220:=wq Tryz.underlying220 Tryz.type220 rfl
theorem ok_221 : TI.OK qi 221 ti221:=wq Tryz.underlying221 Tryz.type221 rfl
theorem ok_222 : TI.OK qi 222 ti222:=wq Tryz.underlying222 Tryz.type222 rfl
theorem ok_225 : TI.OK qi 225 ti225:=wq Tryz.underlying225 Tryz.type225 rfl
theorem ok_226 : TI.OK qi 226 ti226:=wq Tryz.underlying226 Tryz.type226 rfl
theorem ok_227 : TI.OK qi 227 ti227:=wq Tryz.underlying227 Tryz.type227 rfl
theorem ok_228 : TI.OK qi 228 ti228:=wq Tryz.underlying228 Tryz.type228 rfl
theorem ok_232 : TI.OK qi 232 ti232:=wq Tryz.underlying232 Tryz.type232 rfl
theorem ok_238 : TI.OK qi 238 ti238:=wq Tryz.underlying238 Tryz.type238 rfl
theorem ok_239 : TI.OK qi 239 ti239:=wq Tryz.underlying239 Tryz.type239 rfl
theorem ok_240 : TI.OK qi 240 ti240:=wq Tryz.underlying240 Tryz.type240 rfl
theorem ok_241 : TI.OK qi 241 ti241:=wq Tryz.underlying241 Tryz.type241 rfl
theorem ok_242 : TI.OK qi 242 ti242:=wq Tryz.underlying242 Tryz.type242 rfl
theorem ok_244 : TI.OK qi 244 ti244:=wq Tryz.underlying244 Tryz.type244 rfl
theorem ok_245 : TI.OK qi 245 ti245:=wq Tryz.underlying245 Tryz.type245 rfl
theorem ok_246 : TI.OK qi 246 ti246:=wq Tryz.underlying246 Tryz.type246 rfl
theorem ok_247 : TI.OK qi 247 ti247:=wq Tryz.underlying247 Tryz.type247 rfl
theorem ok_248 : TI.OK qi 248 ti248:=wq Tryz.underlying248 Tryz.type248 rfl
theorem ok_260 : TI.OK qi 260 ti260:=wq Tryz.underlying260 Tryz.type260 rfl
theorem ok_265 : TI.OK qi 265 ti265:=wq Tryz.underlying265 Tryz.type265 rfl
theorem ok_267 : TI.OK qi 267 ti267:=wq Tryz.underlying267 Tryz.type267 rfl
theorem ok_268 : TI.OK qi 268 ti268:=wq Tryz.underlying268 Tryz.type268 rfl
theorem ok_271 : TI.OK qi 271 ti271:=wq Tryz.underlying271 Tryz.type271 rfl
theorem ok_272 : TI.OK qi 272 ti272:=wq Tryz.underlying272 Tryz.type272 rfl
theorem ok_282 : TI.OK qi 282 ti282:=wq Tryz.underlying282 Tryz.type282 rfl
theorem ok_287 : TI.OK qi 287 ti287:=wq Tryz.underlying287 Tryz.type287 rfl
theorem ok_292 : TI.OK qi 292 ti292:=wq Tryz.underlying292 Tryz.type292 rfl
theorem ok_294 : TI.OK qi 294 ti294:=wq Tryz.underlying294 Tryz.type294 rfl
theorem ok_296 : TI.OK qi 296 ti296:=wq Tryz.underlying296 Tryz.type296 rfl
theorem ok_297 : TI.OK qi 297 ti297:=wq Tryz.underlying297 Tryz.type297 rfl
theorem ok_298 : TI.OK qi 298 ti298:=wq Tryz.underlying298 Tryz.type298 rfl
theorem ok_311 : TI.OK qi 311 ti311:=wq Tryz.underlying311 Tryz.type311 rfl
theorem ok_312 : TI.OK qi 312 ti312:=wq Tryz.underlying312 Tryz.type312 rfl
theorem ok_313 : TI.OK qi 313 ti313:=wq Tryz.underlying313 Tryz.type313 rfl
theorem ok_318 : TI.OK qi 318 ti318:=wq Tryz.underlying318 Tryz.type318 rfl
theorem ok_319 : TI.OK qi 319 ti319:=wq Tryz.underlying319 Tryz.type319 rfl
theorem ok_320 : TI.OK qi 320 ti320:=wq Tryz.underlying320 Tryz.type320 rfl
theorem ok_324 : TI.OK qi 324 ti324:=wq Tryz.underlying324 Tryz.type324 rfl
theorem ok_325 : TI.OK qi 325 ti325:=wq Tryz.underlying325 Tryz.type325 rfl
theorem ok_326 : TI.OK qi 326 ti326:=wq Tryz.underlying326 Tryz.type326 rfl
theorem ok_327 : TI.OK qi 327 ti327:=wq Tryz.underlying327 Tryz.type327 rfl
theorem ok_328 : TI.OK qi 328 ti328:=wq Tryz.underlying328 Tryz.type328 rfl
theorem ok_335 : TI.OK qi 335 ti335:=wq Tryz.underlying335 Tryz.type335 rfl
theorem ok_337 : TI.OK qi 337 ti337:=wq Tryz.underlying337 Tryz.type337 rfl
theorem ok_348 : TI.OK qi 348 ti348:=wq Tryz.underlying348 Tryz.type348 rfl
theorem ok_349 : TI.OK qi 349 ti349:=wq Tryz.underlying349 Tryz.type349 rfl
theorem ok_361 : TI.OK qi 361 ti361:=wq Tryz.underlying361 Tryz.type361 rfl
theorem ok_362 : TI.OK qi 362 ti362:=wq Tryz.underlying362 Tryz.type362 rfl
theorem ok_363 : TI.OK qi 363 ti363:=wq Tryz.underlying363 Tryz.type363 rfl
theorem allOK : AllOK qi 0 tabL:=⟨ok_1,ok_2,ok_3,ok_4,ok_5,ok_9,ok_20,ok_21,ok_22,ok_23,ok_26,ok_27,ok_28,ok_29,ok_30,ok_31,ok_33,ok_34,ok_35,ok_36,ok_37,ok_38,ok_39,ok_40,ok_41,ok_42,ok_43,ok_48,ok_54,ok_56,ok_60,ok_61,ok_68,ok_72,ok_74,ok_75,ok_77,ok_78,ok_82,ok_88,ok_89,ok_92,ok_94,ok_95,ok_97,ok_98,ok_100,ok_102,ok_103,ok_105,ok_106,ok_109,ok_110,ok_111,ok_112,ok_120,ok_121,ok_122,ok_123,ok_124,ok_125,ok_126,ok_127,ok_128,ok_129,ok_136,ok_137,ok_138,ok_139,ok_140,ok_141,ok_142,ok_143,ok_144,ok_146,ok_151,ok_153,ok_154,ok_160,ok_162,ok_163,ok_169,ok_176,ok_177,ok_178,ok_183,ok_200,ok_201,ok_202,ok_205,ok_206,ok_207,ok_208,ok_209,ok_210,ok_211,ok_215,ok_216,ok_220,ok_221,ok_222,ok_225,ok_226,ok_227,ok_228,ok_232,ok_238,ok_239,ok_240,ok_241,ok_242,ok_244,ok_245,ok_246,ok_247,ok_248,ok_260,ok_265,ok_267,ok_268,ok_271,ok_272,ok_282,ok_287,ok_292,ok_294,ok_296,ok_297,ok_298,ok_311,ok_312,ok_313,ok_318,ok_319,ok_320,ok_324,ok_325,ok_326,ok_327,ok_328,ok_335,ok_337,ok_348,ok_349,ok_361,ok_362,ok_363,trivial⟩
theorem U : TOK qi tab:=tok_of allOK
abbrev FA (t i o:Nat):Prop:=(∀ a b c:Nat,YO tab t (.op a b c) i=some (.op a b (c+o)))∧∀ (l:List AV) (c:Nat),YO tab t (.dp l c) i=some (.dp l (c+o))
theorem yT {t i o:Nat}(h1:∀ a b c:Nat,YO tab t (.op a b c) i=some (.op a b (c+o)):=by intros; rfl)(h2:∀ (l:List AV) (c:Nat),YO tab t (.dp l c) i=some (.dp l (c+o)):=by intros; rfl):FA t i o:=⟨h1,h2⟩
abbrev LN (t:Nat):Prop:=(∀ (n:Bool) (l:List AV) (k:Nat) (b:Bool) (σ:ze),vcY tab t (.ds n l k b) σ=some (.int .i64 k))∧∀ (n:Bool) (z i v o k:Nat) (b:Bool) (σ:ze),vcY tab t (.os n z i v o k b) σ=some (.int .i64 k)
theorem vcw {t:Nat}(h1:∀ (n:Bool) (l:List AV) (k:Nat) (b:Bool) (σ:ze),vcY tab t (.ds n l k b) σ=some (.int .i64 k):=by intros; rfl)(h2:∀ (n:Bool) (z i v o k:Nat) (b:Bool) (σ:ze),vcY tab t (.os n z i v o k b) σ=some (.int .i64 k):=by intros; rfl):LN t:=⟨h1,h2⟩
theorem sz_1 : sized tab 1=true:=rfl
theorem sz_2 : sized tab 2=true:=rfl
theorem cd_2 : xG tab 20 2=some [.int .i64]:=rfl
theorem sz_3 : sized tab 3=true:=rfl
theorem cd_3 : xG tab 20 3=some [.int .i64]:=rfl
theorem sz_4 : sized tab 4=true:=rfl
theorem cd_4 : xG tab 20 4=some [.bool]:=rfl
theorem sz_5 : sized tab 5=true:=rfl
theorem cd_5 : xG tab 20 5=some [.int .u8]:=rfl
theorem sz_9 : sized tab 9=true:=rfl
theorem cd_9 : xG tab 20 9=some [.string]:=rfl
theorem len_9 (s:List UInt8)(σ:ze):vcY tab 9 (.str s) σ=some (.int .i64 s.length):=rfl
theorem sz_20 : sized tab 20=true:=rfl
theorem sz_21 : sized tab 21=true:=rfl
theorem cd_21 : xG tab 20 21=some [.int .i32]:=rfl
theorem sz_22 : sized tab 22=true:=rfl
theorem sz_23 : sized tab 23=true:=rfl
theorem cd_23 : xG tab 20 23=some [.int .i64]:=rfl
theorem sz_26 : sized tab 26=true:=rfl
theorem ln_26 : LN 26:=vcw
theorem sz_27 : sized tab 27=true:=rfl
theorem ln_27 : LN 27:=vcw
theorem sz_28 : sized tab 28=true:=rfl
theorem ln_28 : LN 28:=vcw
theorem sz_29 : sized tab 29=true:=rfl
theorem ln_29 : LN 29:=vcw
theorem sz_30 : sized tab 30=true:=rfl
theorem fa_30_0 : FA 30 0 0:=yT
theorem fa_30_1 : FA 30 1 1:=yT
theorem fa_30_2 : FA 30 2 2:=yT
theorem fa_30_3 : FA 30 3 3:=yT
theorem sz_31 : sized tab 31=true:=rfl
theorem fa_31_0 : FA 31 0 0:=yT
theorem fa_31_1 : FA 31 1 1:=yT
theorem fa_31_2 : FA 31 2 2:=yT
theorem fa_31_3 : FA 31 3 3:=yT
theorem sz_33 : sized tab 33=true:=rfl
theorem ln_33 : LN 33:=vcw
theorem sz_34 : sized tab 34=true:=rfl
theorem ln_34 : LN 34:=vcw
theorem sz_35 : sized tab 35=true:=rfl
theorem ln_35 : LN 35:=vcw
theorem sz_36 : sized tab 36=true:=rfl
theorem fa_36_0 : FA 36 0 0:=yT
theorem fa_36_1 : FA 36 1 1:=yT
theorem fa_36_2 : FA 36 2 2:=yT
theorem fa_36_3 : FA 36 3 3:=yT
theorem fa_36_4 : FA 36 4 4:=yT
theorem sz_37 : sized tab 37=true:=rfl
theorem fa_37_0 : FA 37 0 0:=yT
theorem fa_37_1 : FA 37 1 1:=yT
theorem fa_37_2 : FA 37 2 2:=yT
theorem fa_37_3 : FA 37 3 3:=yT
theorem fa_37_4 : FA 37 4 4:=yT
theorem sz_38 : sized tab 38=true:=rfl
theorem ln_38 : LN 38:=vcw
theorem sz_39 : sized tab 39=true:=rfl
theorem fa_39_0 : FA 39 0 0:=yT
theorem fa_39_1 : FA 39 1 1:=yT
theorem sz_40 : sized tab 40=true:=rfl
theorem fa_40_0 : FA 40 0 0:=yT
theorem fa_40_1 : FA 40 1 1:=yT
theorem sz_41 : sized tab 41=true:=rfl
theorem sz_42 : sized tab 42=true:=rfl
theorem cd_42 : xG tab 20 42=some [.int .i64,.int .i64,.int .i64,.int .i64,.int .i64,.string,.int .i64,.string]:=rfl
theorem fa_42_0 : FA 42 0 0:=yT
theorem fa_42_1 : FA 42 1 1:=yT
theorem fa_42_2 : FA 42 2 2:=yT
theorem fa_42_3 : FA 42 3 3:=yT
theorem fa_42_4 : FA 42 4 4:=yT
theorem fa_42_5 : FA 42 5 5:=yT
theorem fa_42_6 : FA 42 6 6:=yT
theorem fa_42_7 : FA 42 7 7:=yT
theorem sz_43 : sized tab 43=true:=rfl
theorem cd_43 : xG tab 20 43=some [.int .i64,.int .i64,.int .i64,.int .i64,.int .i64,.string,.int .i64,.string]:=rfl
theorem fa_43_0 : FA 43 0 0:=yT
theorem fa_43_1 : FA 43 1 1:=yT
theorem fa_43_2 : FA 43 2 2:=yT
theorem fa_43_3 : FA 43 3 3:=yT
theorem fa_43_4 : FA 43 4 4:=yT
theorem fa_43_5 : FA 43 5 5:=yT
theorem fa_43_6 : FA 43 6 6:=yT
theorem fa_43_7 : FA 43 7 7:=yT
theorem sz_48 : sized tab 48=true:=rfl
theorem ln_48 : LN 48:=vcw
theorem sz_54 : sized tab 54=true:=rfl
theorem sz_56 : sized tab 56=true:=rfl
theorem sz_60 : sized tab 60=true:=rfl
theorem cd_60 : xG tab 20 60=some [.string,.string,.string]:=rfl
theorem fa_60_0 : FA 60 0 0:=yT
theorem fa_60_1 : FA 60 1 1:=yT
theorem fa_60_2 : FA 60 2 2:=yT
theorem sz_61 : sized tab 61=true:=rfl
theorem cd_61 : xG tab 20 61=some [.string,.string,.string]:=rfl
theorem fa_61_0 : FA 61 0 0:=yT
theorem fa_61_1 : FA 61 1 1:=yT
theorem fa_61_2 : FA 61 2 2:=yT
theorem sz_68 : sized tab 68=true:=rfl
theorem ln_68 : LN 68:=vcw
theorem sz_72 : sized tab 72=true:=rfl
theorem sz_74 : sized tab 74=true:=rfl
theorem fa_74_0 : FA 74 0 0:=yT
theorem fa_74_1 : FA 74 1 1:=yT
theorem sz_75 : sized tab 75=true:=rfl
theorem fa_75_0 : FA 75 0 0:=yT
theorem fa_75_1 : FA 75 1 1:=yT
theorem sz_77 : sized tab 77=true:=rfl
theorem fa_77_0 : FA 77 0 0:=yT
theorem fa_77_1 : FA 77 1 1:=yT
theorem fa_77_2 : FA 77 2 2:=yT
theorem fa_77_3 : FA 77 3 7:=yT
theorem fa_77_4 : FA 77 4 8:=yT
theorem fa_77_5 : FA 77 5 16:=yT
theorem sz_78 : sized tab 78=true:=rfl
theorem fa_78_0 : FA 78 0 0:=yT
theorem fa_78_1 : FA 78 1 1:=yT
theorem fa_78_2 : FA 78 2 2:=yT
theorem fa_78_3 : FA 78 3 7:=yT
theorem fa_78_4 : FA 78 4 8:=yT
theorem fa_78_5 : FA 78 5 16:=yT
theorem sz_82 : sized tab 82=true:=rfl
theorem ln_82 : LN 82:=vcw
theorem sz_88 : sized tab 88=true:=rfl
theorem ln_88 : LN 88:=vcw
theorem sz_89 : sized tab 89=true:=rfl
theorem sz_92 : sized tab 92=true:=rfl
theorem ln_92 : LN 92:=vcw
theorem sz_94 : sized tab 94=true:=rfl
theorem fa_94_0 : FA 94 0 0:=yT
theorem fa_94_1 : FA 94 1 1:=yT
theorem fa_94_2 : FA 94 2 2:=yT
theorem fa_94_3 : FA 94 3 3:=yT
theorem sz_95 : sized tab 95=true:=rfl
theorem fa_95_0 : FA 95 0 0:=yT
theorem fa_95_1 : FA 95 1 1:=yT
theorem fa_95_2 : FA 95 2 2:=yT
theorem fa_95_3 : FA 95 3 3:=yT
theorem sz_97 : sized tab 97=true:=rfl
theorem fa_97_0 : FA 97 0 0:=yT
theorem fa_97_1 : FA 97 1 1:=yT
theorem fa_97_2 : FA 97 2 6:=yT
theorem sz_98 : sized tab 98=true:=rfl
theorem fa_98_0 : FA 98 0 0:=yT
theorem fa_98_1 : FA 98 1 1:=yT
theorem fa_98_2 : FA 98 2 6:=yT
theorem sz_100 : sized tab 100=true:=rfl
theorem cd_100 : xG tab 20 100=some [.int .u64]:=rfl
theorem sz_102 : sized tab 102=true:=rfl
theorem ln_102 : LN 102:=vcw
theorem sz_103 : sized tab 103=true:=rfl
theorem sz_105 : sized tab 105=true:=rfl
theorem fa_105_0 : FA 105 0 0:=yT
theorem fa_105_1 : FA 105 1 1:=yT
theorem fa_105_2 : FA 105 2 9:=yT
theorem fa_105_3 : FA 105 3 10:=yT
theorem fa_105_4 : FA 105 4 11:=yT
theorem sz_106 : sized tab 106=true:=rfl
theorem fa_106_0 : FA 106 0 0:=yT
theorem fa_106_1 : FA 106 1 1:=yT
theorem fa_106_2 : FA 106 2 9:=yT
theorem fa_106_3 : FA 106 3 10:=yT
theorem fa_106_4 : FA 106 4 11:=yT
theorem sz_109 : sized tab 109=true:=rfl
theorem sz_110 : sized tab 110=true:=rfl
theorem ln_110 : LN 110:=vcw
theorem sz_111 : sized tab 111=true:=rfl
theorem fa_111_0 : FA 111 0 0:=yT
theorem fa_111_1 : FA 111 1 1:=yT
theorem fa_111_2 : FA 111 2 3:=yT
theorem fa_111_3 : FA 111 3 7:=yT
theorem fa_111_4 : FA 111 4 8:=yT
theorem fa_111_5 : FA 111 5 9:=yT
theorem sz_112 : sized tab 112=true:=rfl
theorem fa_112_0 : FA 112 0 0:=yT
theorem fa_112_1 : FA 112 1 1:=yT
theorem fa_112_2 : FA 112 2 3:=yT
theorem fa_112_3 : FA 112 3 7:=yT
theorem fa_112_4 : FA 112 4 8:=yT
theorem fa_112_5 : FA 112 5 9:=yT
theorem sz_120 : sized tab 120=true:=rfl
theorem sz_121 : sized tab 121=true:=rfl
theorem fa_121_0 : FA 121 0 0:=yT
theorem fa_121_1 : FA 121 1 1:=yT
theorem fa_121_2 : FA 121 2 2:=yT
theorem fa_121_3 : FA 121 3 3:=yT
theorem fa_121_4 : FA 121 4 4:=yT
theorem fa_121_5 : FA 121 5 5:=yT
theorem fa_121_6 : FA 121 6 6:=yT
theorem fa_121_7 : FA 121 7 7:=yT
theorem fa_121_8 : FA 121 8 12:=yT
theorem fa_121_9 : FA 121 9 13:=yT
theorem fa_121_10 : FA 121 10 21:=yT
theorem sz_122 : sized tab 122=true:=rfl
theorem fa_122_0 : FA 122 0 0:=yT
theorem fa_122_1 : FA 122 1 1:=yT
theorem fa_122_2 : FA 122 2 2:=yT
theorem fa_122_3 : FA 122 3 3:=yT
theorem fa_122_4 : FA 122 4 4:=yT
theorem fa_122_5 : FA 122 5 5:=yT
theorem fa_122_6 : FA 122 6 6:=yT
theorem fa_122_7 : FA 122 7 7:=yT
theorem fa_122_8 : FA 122 8 12:=yT
theorem fa_122_9 : FA 122 9 13:=yT
theorem fa_122_10 : FA 122 10 21:=yT
theorem sz_123 : sized tab 123=true:=rfl
theorem cd_123 : xG tab 20 123=some [.int .i64,.string]:=rfl
theorem fa_123_0 : FA 123 0 0:=yT
theorem fa_123_1 : FA 123 1 1:=yT
theorem sz_124 : sized tab 124=true:=rfl
theorem cd_124 : xG tab 20 124=some [.int .i64,.string]:=rfl
theorem fa_124_0 : FA 124 0 0:=yT
theorem fa_124_1 : FA 124 1 1:=yT
theorem sz_125 : sized tab 125=true:=rfl
theorem cd_125 : xG tab 20 125=some [.string,.int .i64,.int .i64,.int .i64,.string]:=rfl
theorem fa_125_0 : FA 125 0 0:=yT
theorem fa_125_1 : FA 125 1 1:=yT
theorem fa_125_2 : FA 125 2 2:=yT
theorem fa_125_3 : FA 125 3 3:=yT
theorem sz_126 : sized tab 126=true:=rfl
theorem cd_126 : xG tab 20 126=some [.string,.int .i64,.int .i64,.int .i64,.string]:=rfl
theorem fa_126_0 : FA 126 0 0:=yT
theorem fa_126_1 : FA 126 1 1:=yT
theorem fa_126_2 : FA 126 2 2:=yT
theorem fa_126_3 : FA 126 3 3:=yT
theorem sz_127 : sized tab 127=true:=rfl
theorem ln_127 : LN 127:=vcw
theorem sz_128 : sized tab 128=true:=rfl
theorem fa_128_0 : FA 128 0 0:=yT
theorem fa_128_1 : FA 128 1 1:=yT
theorem fa_128_2 : FA 128 2 2:=yT
theorem sz_129 : sized tab 129=true:=rfl
theorem fa_129_0 : FA 129 0 0:=yT
theorem fa_129_1 : FA 129 1 1:=yT
theorem fa_129_2 : FA 129 2 2:=yT
theorem sz_136 : sized tab 136=true:=rfl
theorem fa_136_0 : FA 136 0 0:=yT
theorem fa_136_1 : FA 136 1 1:=yT
theorem fa_136_2 : FA 136 2 6:=yT
theorem sz_137 : sized tab 137=true:=rfl
theorem fa_137_0 : FA 137 0 0:=yT
theorem fa_137_1 : FA 137 1 1:=yT
theorem fa_137_2 : FA 137 2 6:=yT
theorem sz_138 : sized tab 138=true:=rfl
theorem cd_138 : xG tab 20 138=some [.int .i64,.int .i64,.int .i64,.string]:=rfl
theorem fa_138_0 : FA 138 0 0:=yT
theorem fa_138_1 : FA 138 1 1:=yT
theorem fa_138_2 : FA 138 2 2:=yT
theorem fa_138_3 : FA 138 3 3:=yT
theorem sz_139 : sized tab 139=true:=rfl
theorem cd_139 : xG tab 20 139=some [.int .i64,.int .i64,.int .i64,.string]:=rfl
theorem fa_139_0 : FA 139 0 0:=yT
theorem fa_139_1 : FA 139 1 1:=yT
theorem fa_139_2 : FA 139 2 2:=yT
theorem fa_139_3 : FA 139 3 3:=yT
theorem sz_140 : sized tab 140=true:=rfl
theorem ln_140 : LN 140:=vcw
theorem sz_141 : sized tab 141=true:=rfl
theorem fa_141_0 : FA 141 0 0:=yT
theorem fa_141_1 : FA 141 1 1:=yT
theorem sz_142 : sized tab 142=true:=rfl
theorem fa_142_0 : FA 142 0 0:=yT
theorem fa_142_1 : FA 142 1 1:=yT
theorem sz_143 : sized tab 143=true:=rfl
theorem cd_143 : xG tab 20 143=some [.string,.int .i64]:=rfl
theorem fa_143_0 : FA 143 0 0:=yT
theorem fa_143_1 : FA 143 1 1:=yT
theorem sz_144 : sized tab 144=true:=rfl
theorem cd_144 : xG tab 20 144=some [.string,.int .i64]:=rfl
theorem fa_144_0 : FA 144 0 0:=yT
theorem fa_144_1 : FA 144 1 1:=yT
theorem sz_146 : sized tab 146=true:=rfl
theorem ln_146 : LN 146:=vcw
theorem sz_151 : sized tab 151=true:=rfl
theorem sz_153 : sized tab 153=true:=rfl
theorem fa_153_0 : FA 153 0 0:=yT
theorem fa_153_1 : FA 153 1 1:=yT
theorem fa_153_2 : FA 153 2 2:=yT
theorem fa_153_3 : FA 153 3 4:=yT
theorem fa_153_4 : FA 153 4 5:=yT
theorem fa_153_5 : FA 153 5 6:=yT
theorem fa_153_6 : FA 153 6 7:=yT
theorem fa_153_7 : FA 153 7 12:=yT
theorem fa_153_8 : FA 153 8 20:=yT
theorem fa_153_9 : FA 153 9 21:=yT
theorem fa_153_10 : FA 153 10 26:=yT
theorem sz_154 : sized tab 154=true:=rfl
theorem fa_154_0 : FA 154 0 0:=yT
theorem fa_154_1 : FA 154 1 1:=yT
theorem fa_154_2 : FA 154 2 2:=yT
theorem fa_154_3 : FA 154 3 4:=yT
theorem fa_154_4 : FA 154 4 5:=yT
theorem fa_154_5 : FA 154 5 6:=yT
theorem fa_154_6 : FA 154 6 7:=yT
theorem fa_154_7 : FA 154 7 12:=yT
theorem fa_154_8 : FA 154 8 20:=yT
theorem fa_154_9 : FA 154 9 21:=yT
theorem fa_154_10 : FA 154 10 26:=yT
theorem sz_160 : sized tab 160=true:=rfl
theorem sz_162 : sized tab 162=true:=rfl
theorem fa_162_0 : FA 162 0 0:=yT
theorem fa_162_1 : FA 162 1 1:=yT
theorem fa_162_2 : FA 162 2 2:=yT
theorem fa_162_3 : FA 162 3 3:=yT
theorem fa_162_4 : FA 162 4 7:=yT
theorem fa_162_5 : FA 162 5 8:=yT
theorem fa_162_6 : FA 162 6 9:=yT
theorem sz_163 : sized tab 163=true:=rfl
theorem fa_163_0 : FA 163 0 0:=yT
theorem fa_163_1 : FA 163 1 1:=yT
theorem fa_163_2 : FA 163 2 2:=yT
theorem fa_163_3 : FA 163 3 3:=yT
theorem fa_163_4 : FA 163 4 7:=yT
theorem fa_163_5 : FA 163 5 8:=yT
theorem fa_163_6 : FA 163 6 9:=yT
theorem sz_169 : sized tab 169=true:=rfl
theorem fa_169_0 : FA 169 0 0:=yT
theorem fa_169_1 : FA 169 1 1:=yT
theorem fa_169_2 : FA 169 2 2:=yT
theorem fa_169_3 : FA 169 3 3:=yT
theorem sz_176 : sized tab 176=true:=rfl
theorem ln_176 : LN 176:=vcw
theorem sz_177 : sized tab 177=true:=rfl
theorem fa_177_0 : FA 177 0 0:=yT
theorem sz_178 : sized tab 178=true:=rfl
theorem fa_178_0 : FA 178 0 0:=yT
theorem sz_183 : sized tab 183=true:=rfl
theorem ln_183 : LN 183:=vcw
theorem sz_200 : sized tab 200=true:=rfl
theorem sz_201 : sized tab 201=true:=rfl
theorem sz_202 : sized tab 202=true:=rfl
theorem sz_205 : sized tab 205=true:=rfl
theorem sz_206 : sized tab 206=true:=rfl
theorem sz_207 : sized tab 207=true:=rfl
theorem ln_207 : LN 207:=vcw
theorem sz_208 : sized tab 208=true:=rfl
theorem fa_208_0 : FA 208 0 0:=yT
theorem fa_208_1 : FA 208 1 1:=yT
theorem fa_208_2 : FA 208 2 2:=yT
theorem fa_208_3 : FA 208 3 3:=yT
theorem sz_209 : sized tab 209=true:=rfl
theorem fa_209_0 : FA 209 0 0:=yT
theorem fa_209_1 : FA 209 1 1:=yT
theorem fa_209_2 : FA 209 2 2:=yT
theorem fa_209_3 : FA 209 3 3:=yT
theorem sz_210 : sized tab 210=true:=rfl
theorem sz_211 : sized tab 211=true:=rfl
theorem sz_215 : sized tab 215=true:=rfl
theorem fa_215_0 : FA 215 0 0:=yT
theorem fa_215_1 : FA 215 1 4:=yT
theorem fa_215_2 : FA 215 2 7:=yT
theorem fa_215_3 : FA 215 3 10:=yT
theorem sz_216 : sized tab 216=true:=rfl
theorem fa_216_0 : FA 216 0 0:=yT
theorem fa_216_1 : FA 216 1 4:=yT
theorem fa_216_2 : FA 216 2 7:=yT
theorem fa_216_3 : FA 216 3 10:=yT
theorem sz_220 : sized tab 220=true:=rfl
theorem ln_220 : LN 220:=vcw
theorem sz_221 : sized tab 221=true:=rfl
theorem fa_221_0 : FA 221 0 0:=yT
theorem fa_221_1 : FA 221 1 1:=yT
theorem fa_221_2 : FA 221 2 2:=yT
theorem sz_222 : sized tab 222=true:=rfl
theorem fa_222_0 : FA 222 0 0:=yT
theorem fa_222_1 : FA 222 1 1:=yT
theorem fa_222_2 : FA 222 2 2:=yT
theorem sz_225 : sized tab 225=true:=rfl
theorem sz_226 : sized tab 226=true:=rfl
theorem sz_227 : sized tab 227=true:=rfl
theorem fa_227_0 : FA 227 0 0:=yT
theorem sz_228 : sized tab 228=true:=rfl
theorem fa_228_0 : FA 228 0 0:=yT
theorem sz_232 : sized tab 232=true:=rfl
theorem sz_238 : sized tab 238=true:=rfl
theorem sz_239 : sized tab 239=true:=rfl
theorem sz_240 : sized tab 240=true:=rfl
theorem ln_240 : LN 240:=vcw
theorem sz_241 : sized tab 241=true:=rfl
theorem fa_241_0 : FA 241 0 0:=yT
theorem fa_241_1 : FA 241 1 4:=yT
theorem fa_241_2 : FA 241 2 8:=yT
theorem fa_241_3 : FA 241 3 9:=yT
theorem sz_242 : sized tab 242=true:=rfl
theorem fa_242_0 : FA 242 0 0:=yT
theorem fa_242_1 : FA 242 1 4:=yT
theorem fa_242_2 : FA 242 2 8:=yT
theorem fa_242_3 : FA 242 3 9:=yT
theorem sz_244 : sized tab 244=true:=rfl
theorem cd_244 : xG tab 20 244=some [.string,.string]:=rfl
theorem fa_244_0 : FA 244 0 0:=yT
theorem fa_244_1 : FA 244 1 1:=yT
theorem sz_245 : sized tab 245=true:=rfl
theorem cd_245 : xG tab 20 245=some [.string,.string]:=rfl
theorem fa_245_0 : FA 245 0 0:=yT
theorem fa_245_1 : FA 245 1 1:=yT
theorem sz_246 : sized tab 246=true:=rfl
theorem ln_246 : LN 246:=vcw
theorem sz_247 : sized tab 247=true:=rfl
theorem cd_247 : xG tab 20 247=some [.int .i64,.int .i64,.int .i64]:=rfl
theorem fa_247_0 : FA 247 0 0:=yT
theorem fa_247_1 : FA 247 1 1:=yT
theorem fa_247_2 : FA 247 2 2:=yT
theorem sz_248 : sized tab 248=true:=rfl
theorem cd_248 : xG tab 20 248=some [.int .i64,.int .i64,.int .i64]:=rfl
theorem fa_248_0 : FA 248 0 0:=yT
theorem fa_248_1 : FA 248 1 1:=yT
theorem fa_248_2 : FA 248 2 2:=yT
theorem sz_260 : sized tab 260=true:=rfl
theorem cd_260 : xG tab 20 260=some [.int .i64,.int .i64,.int .i64,.int .i64,.int .i64,.int .i64]:=rfl
theorem sz_265 : sized tab 265=true:=rfl
theorem sz_267 : sized tab 267=true:=rfl
theorem cd_267 : xG tab 20 267=some [.int .i64,.int .i64]:=rfl
theorem fa_267_0 : FA 267 0 0:=yT
theorem fa_267_1 : FA 267 1 1:=yT
theorem sz_268 : sized tab 268=true:=rfl
theorem cd_268 : xG tab 20 268=some [.int .i64,.int .i64]:=rfl
theorem fa_268_0 : FA 268 0 0:=yT
theorem fa_268_1 : FA 268 1 1:=yT
theorem sz_271 : sized tab 271=true:=rfl
theorem cd_271 : xG tab 20 271=some [.int .i64,.int .i64,.int .i64,.int .i64,.int .i64,.int .i64,.int .i64,.string,.int .i64,.string]:=rfl
theorem fa_271_0 : FA 271 0 0:=yT
theorem fa_271_1 : FA 271 1 1:=yT
theorem fa_271_2 : FA 271 2 2:=yT
theorem sz_272 : sized tab 272=true:=rfl
theorem cd_272 : xG tab 20 272=some [.int .i64,.int .i64,.int .i64,.int .i64,.int .i64,.int .i64,.int .i64,.string,.int .i64,.string]:=rfl
theorem fa_272_0 : FA 272 0 0:=yT
theorem fa_272_1 : FA 272 1 1:=yT
theorem fa_272_2 : FA 272 2 2:=yT
theorem sz_282 : sized tab 282=true:=rfl
theorem ln_282 : LN 282:=vcw
theorem sz_287 : sized tab 287=true:=rfl
theorem cd_287 : xG tab 20 287=some [.int .u64]:=rfl
theorem sz_292 : sized tab 292=true:=rfl
theorem sz_294 : sized tab 294=true:=rfl
theorem sz_296 : sized tab 296=true:=rfl
theorem sz_297 : sized tab 297=true:=rfl
theorem fa_297_0 : FA 297 0 0:=yT
theorem fa_297_1 : FA 297 1 1:=yT
theorem sz_298 : sized tab 298=true:=rfl
theorem fa_298_0 : FA 298 0 0:=yT
theorem fa_298_1 : FA 298 1 1:=yT
theorem sz_311 : sized tab 311=true:=rfl
theorem cd_311 : xG tab 20 311=some [.string,.string]:=rfl
theorem fa_311_0 : FA 311 0 0:=yT
theorem fa_311_1 : FA 311 1 1:=yT
theorem sz_312 : sized tab 312=true:=rfl
theorem cd_312 : xG tab 20 312=some [.string,.string]:=rfl
theorem fa_312_0 : FA 312 0 0:=yT
theorem fa_312_1 : FA 312 1 1:=yT
theorem sz_313 : sized tab 313=true:=rfl
theorem ln_313 : LN 313:=vcw
theorem sz_318 : sized tab 318=true:=rfl
theorem sz_319 : sized tab 319=true:=rfl
theorem fa_319_0 : FA 319 0 0:=yT
theorem fa_319_1 : FA 319 1 1:=yT
theorem sz_320 : sized tab 320=true:=rfl
theorem fa_320_0 : FA 320 0 0:=yT
theorem fa_320_1 : FA 320 1 1:=yT
theorem sz_324 : sized tab 324=true:=rfl
theorem ln_324 : LN 324:=vcw
theorem sz_325 : sized tab 325=true:=rfl
theorem fa_325_0 : FA 325 0 0:=yT
theorem fa_325_1 : FA 325 1 1:=yT
theorem sz_326 : sized tab 326=true:=rfl
theorem fa_326_0 : FA 326 0 0:=yT
theorem fa_326_1 : FA 326 1 1:=yT
theorem sz_327 : sized tab 327=true:=rfl
theorem fa_327_0 : FA 327 0 0:=yT
theorem fa_327_1 : FA 327 1 1:=yT
theorem sz_328 : sized tab 328=true:=rfl
theorem fa_328_0 : FA 328 0 0:=yT
theorem fa_328_1 : FA 328 1 1:=yT
theorem sz_335 : sized tab 335=true:=rfl
theorem sz_337 : sized tab 337=true:=rfl
theorem sz_348 : sized tab 348=true:=rfl
theorem cd_348 : xG tab 20 348=some [.int .i64]:=rfl
theorem sz_349 : sized tab 349=true:=rfl
theorem cd_349 : xG tab 20 349=some [.string]:=rfl
theorem len_349 (s:List UInt8)(σ:ze):vcY tab 349 (.str s) σ=some (.int .i64 s.length):=rfl
theorem sz_361 : sized tab 361=true:=rfl
theorem cd_361 : xG tab 20 361=some [.int .u8,.int .u8]:=rfl
theorem fa_361_0 : FA 361 0 0:=yT
theorem fa_361_1 : FA 361 1 1:=yT
theorem sz_362 : sized tab 362=true:=rfl
theorem cd_362 : xG tab 20 362=some [.int .u8,.int .u8]:=rfl
theorem fa_362_0 : FA 362 0 0:=yT
theorem fa_362_1 : FA 362 1 1:=yT
theorem sz_363 : sized tab 363=true:=rfl
theorem cd_363 : xG tab 20 363=some [.int .u8,.int .u8,.int .u8,.int .u8,.int .u8,.int .u8,.int .u8,.int .u8,.int .u8,.int .u8,.int .u8,.int .u8,.int .u8,.int .u8,.int .u8,.int .u8,.int .u8,.int .u8,.int .u8,.int .u8,.int .u8,.int .u8,.int .u8,.int .u8,.int .u8,.int .u8,.int .u8,.int .u8,.int .u8,.int .u8,.int .u8,.int .u8]:=rfl
attribute [go_sem] tab_1 tab_2 tab_3 tab_4 tab_5 tab_9 tab_20 tab_21 tab_22 tab_23 tab_26 tab_27 tab_28 tab_29 tab_30 tab_31 tab_33 vaU tab_35 tab_36 tab_37 tab_38 tab_39 vaT tab_41 tab_42 tab_43 tab_48 tab_54 tab_56 tab_60 tab_61 tab_68 tab_72 tab_74 tab_75 tab_77 tab_78 tab_82 tab_88
attribute [go_sem] tab_89 tab_92 tab_94 tab_95 tab_97 tab_98 tab_100 tab_102 tab_103 tab_105 tab_106 tab_109 tab_110 tab_111 tab_112 tab_120 tab_121 tab_122 tab_123 tab_124 tab_125 tab_126 tab_127 tab_128 tab_129 tab_136 tab_137 tab_138 tab_139 tab_140 tab_141 tab_142 tab_143 tab_144 tab_146 tab_151 tab_153 tab_154 tab_160 tab_162
attribute [go_sem] tab_163 tab_169 tab_176 tab_177 tab_178 tab_183 tab_200 tab_201 tab_202 tab_205 tab_206 tab_207 tab_208 tab_209 tab_210 tab_211 tab_215 tab_216 tab_220 tab_221 tab_222 tab_225 tab_226 tab_227 tab_228 tab_232 tab_238 tab_239 tab_240 tab_241 tab_242 tab_244 tab_245 tab_246 tab_247 tab_248 tab_260 tab_265 tab_267 tab_268
attribute [go_sem] tab_271 tab_272 tab_282 tab_287 tab_292 tab_294 tab_296 tab_297 tab_298 tab_311 tab_312 tab_313 tab_318 tab_319 tab_320 tab_324 tab_325 tab_326 tab_327 tab_328 tab_335 tab_337 tab_348 tab_349 tab_361 tab_362 tab_363 sz_1 sz_2 cd_2 sz_3 cd_3 sz_4 cd_4 sz_5 cd_5 sz_9 cd_9 len_9 sz_20
attribute [go_sem] sz_21 cd_21 sz_22 sz_23 cd_23 sz_26 ln_26 sz_27 ln_27 sz_28 ln_28 sz_29 ln_29 sz_30 fa_30_0 fa_30_1 fa_30_2 fa_30_3 sz_31 fa_31_0 fa_31_1 fa_31_2 fa_31_3 sz_33 ln_33 sz_34 ln_34
attribute [go_sem] sz_35 ln_35 sz_36 fa_36_0 fa_36_1 fa_36_2 fa_36_3 fa_36_4 sz_37 fa_37_0 fa_37_1 fa_37_2 fa_37_3 fa_37_4 sz_38 ln_38 sz_39 fa_39_0 fa_39_1 sz_40 fa_40_0 fa_40_1 sz_41
attribute [go_sem] sz_42 cd_42 fa_42_0 fa_42_1 fa_42_2 fa_42_3 fa_42_4 fa_42_5 fa_42_6 fa_42_7 sz_43 cd_43 fa_43_0 fa_43_1 fa_43_2 fa_43_3 fa_43_4 fa_43_5 fa_43_6 fa_43_7 sz_48 ln_48 sz_54
attribute [go_sem] sz_56 sz_60 cd_60 fa_60_0 fa_60_1 fa_60_2 sz_61 cd_61 fa_61_0 fa_61_1 fa_61_2 sz_68 ln_68 sz_72 sz_74 fa_74_0 fa_74_1 sz_75 fa_75_0 fa_75_1 sz_77 fa_77_0 fa_77_1 fa_77_2 fa_77_3
attribute [go_sem] fa_77_4 fa_77_5 sz_78 fa_78_0 fa_78_1 fa_78_2 fa_78_3 fa_78_4 fa_78_5 sz_82 ln_82 sz_88 ln_88 sz_89 sz_92 ln_92 sz_94 fa_94_0 fa_94_1 fa_94_2 fa_94_3 sz_95 fa_95_0 fa_95_1
attribute [go_sem] fa_95_2 fa_95_3 sz_97 fa_97_0 fa_97_1 fa_97_2 sz_98 fa_98_0 fa_98_1 fa_98_2 sz_100 cd_100 sz_102 ln_102 sz_103 sz_105 fa_105_0 fa_105_1 fa_105_2 fa_105_3 fa_105_4 sz_106 fa_106_0 fa_106_1
attribute [go_sem] fa_106_2 fa_106_3 fa_106_4 sz_109 sz_110 ln_110 sz_111 fa_111_0 fa_111_1 fa_111_2 fa_111_3 fa_111_4 fa_111_5 sz_112 fa_112_0 fa_112_1 fa_112_2 fa_112_3 fa_112_4 fa_112_5 sz_120 sz_121 fa_121_0
attribute [go_sem] fa_121_1 fa_121_2 fa_121_3 fa_121_4 fa_121_5 fa_121_6 fa_121_7 fa_121_8 fa_121_9 fa_121_10 sz_122 fa_122_0 fa_122_1 fa_122_2 fa_122_3 fa_122_4 fa_122_5 fa_122_6 fa_122_7 fa_122_8
attribute [go_sem] fa_122_9 fa_122_10 sz_123 cd_123 fa_123_0 fa_123_1 sz_124 cd_124 fa_124_0 fa_124_1 sz_125 cd_125 fa_125_0 fa_125_1 fa_125_2 fa_125_3 sz_126 cd_126 fa_126_0 fa_126_1 fa_126_2 fa_126_3 sz_127 ln_127 sz_128
attribute [go_sem] fa_128_0 fa_128_1 fa_128_2 sz_129 fa_129_0 fa_129_1 fa_129_2 sz_136 fa_136_0 fa_136_1 fa_136_2 sz_137 fa_137_0 fa_137_1 fa_137_2 sz_138 cd_138 fa_138_0 fa_138_1 fa_138_2 fa_138_3 sz_139 cd_139 fa_139_0
attribute [go_sem] fa_139_1 fa_139_2 fa_139_3 sz_140 ln_140 sz_141 fa_141_0 fa_141_1 sz_142 fa_142_0 fa_142_1 sz_143 cd_143 fa_143_0 fa_143_1 sz_144 cd_144 fa_144_0 fa_144_1 sz_146 ln_146 sz_151 sz_153 fa_153_0 fa_153_1
attribute [go_sem] fa_153_2 fa_153_3 fa_153_4 fa_153_5 fa_153_6 fa_153_7 fa_153_8 fa_153_9 fa_153_10 sz_154 fa_154_0 fa_154_1 fa_154_2 fa_154_3 fa_154_4 fa_154_5 fa_154_6 fa_154_7 fa_154_8 fa_154_9
attribute [go_sem] fa_154_10 sz_160 sz_162 fa_162_0 fa_162_1 fa_162_2 fa_162_3 fa_162_4 fa_162_5 fa_162_6 sz_163 fa_163_0 fa_163_1 fa_163_2 fa_163_3 fa_163_4 fa_163_5 fa_163_6 sz_169 fa_169_0 fa_169_1 fa_169_2
attribute [go_sem] fa_169_3 sz_176 ln_176 sz_177 fa_177_0 sz_178 fa_178_0 sz_183 ln_183 sz_200 sz_201 sz_202 sz_205 sz_206 sz_207 ln_207 sz_208 fa_208_0 fa_208_1 fa_208_2 fa_208_3 sz_209 fa_209_0 fa_209_1 fa_209_2 fa_209_3
attribute [go_sem] sz_210 sz_211 sz_215 fa_215_0 fa_215_1 fa_215_2 fa_215_3 sz_216 fa_216_0 fa_216_1 fa_216_2 fa_216_3 sz_220 ln_220 sz_221 fa_221_0 fa_221_1 fa_221_2 sz_222 fa_222_0 fa_222_1 fa_222_2 sz_225 sz_226 sz_227
attribute [go_sem] fa_227_0 sz_228 fa_228_0 sz_232 sz_238 sz_239 sz_240 ln_240 sz_241 fa_241_0 fa_241_1 fa_241_2 fa_241_3 sz_242 fa_242_0 fa_242_1 fa_242_2 fa_242_3 sz_244 cd_244 fa_244_0 fa_244_1 sz_245 cd_245 fa_245_0 fa_245_1
attribute [go_sem] sz_246 ln_246 sz_247 cd_247 fa_247_0 fa_247_1 fa_247_2 sz_248 cd_248 fa_248_0 fa_248_1 fa_248_2 sz_260 cd_260 sz_265 sz_267 cd_267 fa_267_0 fa_267_1 sz_268 cd_268 fa_268_0 fa_268_1 sz_271 cd_271 fa_271_0 fa_271_1
attribute [go_sem] fa_271_2 sz_272 cd_272 fa_272_0 fa_272_1 fa_272_2 sz_282 ln_282 sz_287 cd_287 sz_292 sz_294 sz_296 sz_297 fa_297_0 fa_297_1 sz_298 fa_298_0 fa_298_1 sz_311 cd_311 fa_311_0 fa_311_1 sz_312 cd_312 fa_312_0 fa_312_1
attribute [go_sem] sz_313 ln_313 sz_318 sz_319 fa_319_0 fa_319_1 sz_320 fa_320_0 fa_320_1 sz_324 ln_324 sz_325 fa_325_0 fa_325_1 sz_326 fa_326_0 fa_326_1 sz_327 fa_327_0 fa_327_1 sz_328 fa_328_0 fa_328_1 sz_335 sz_337
attribute [go_sem] sz_348 cd_348 sz_349 cd_349 len_349 sz_361 cd_361 fa_361_0 fa_361_1 sz_362 cd_362 fa_362_0 fa_362_1 sz_363 cd_363
end
end Go.Proofs.YtaahlckibpiphaaGreatDoor
