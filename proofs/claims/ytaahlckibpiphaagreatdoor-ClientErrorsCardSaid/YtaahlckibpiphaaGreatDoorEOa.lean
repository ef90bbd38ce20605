/- Parts of the proof, cut down to what it needs. -/
import Derived.Test.YtaahlckibpiphaaGreatDoorEFBab
import Derived.Test.YtaahlckibpiphaaGreatDoorEU
import Derived.Test.YtaahlckibpiphaaGreatDoorRows
import Derived.Test.YtaahlckibpiphaaGreatDoorChecked
import Derived.Test.YtaahlckibpiphaaGreatDoorTie
import Derived.ProofKit
import Derived.OpenShut
import Derived.ShutString
import Derived.ChangeOld
import Derived.ChangeSame
import Derived.ChangeVars
import Derived.JoinedOf
import Derived.RowKit
import Derived.LaidLaws
import Derived.LaidHandle
import Derived.Lib.LaidIn
import Derived.Lib.LaidU8T
import Derived.SevenTiedAt
set_option linter.constructorNameAsVariable false
set_option linter.unusedSimpArgs false
set_option linter.unusedVariables false
namespace Go.Proofs.YtaahlckibpiphaaGreatDoor
open _root_.List renaming length → qg, flatMap → qh, drop_zero → qn, map_append → qo, map_cons → qq, map_nil → qs, length_append → qw, length_cons → qx, length_nil → qz, flatMap_append → qA, flatMap_cons → qB, append_assoc → qC, getD_eq_getElem?_getD → qE, append_nil → qF, cons_append → qG, nil_append → qJ, length_eq_zero_iff → qK, flatMap_nil → qL, replicate → qN, getElem?_append_left → qQ, getElem?_eq_some_iff → qR, range_zero → qS, all_cons → qT, all_nil → qU, getElem?_eq_getElem → qW, range_succ → qY, getElem?_set_ne → qZ, getElem?_eq_none → ua, length_map → ub, take_length → uc, all_eq_true → ud, getElem?_append_right → ue, mem_cons_of_mem → uf, take_of_length_le → uh, getElem?_set_self → ui, take_append_drop → uj, mem_cons → uk, mem_map → um, getElem?_cons_zero → uu, getElem?_cons_succ → uv, range → uw, set_cons_zero → ux, set_cons_succ → uy, mem_of_getElem? → uK, mem_append_left → uL, eq_nil_of_length_eq_zero → uM, mem_cons_self → uN
open _root_.Option renaming bind_some → q3, map_some → uq, getD_some → uB
open _root_.Nat renaming reduceEqDiff → qa, reduceLeDiff → qb, reduceAdd → qc, reduceSub → qd, reduceMul → qe, reduceLT → qf, zero_add → ql, le_refl → qy, lt_succ_self → qD, zero_le → qX, mul_le_mul_right → q2, reduceMod → q5, lt_of_lt_of_le → q7, add_assoc → ur, zero_mul → ut, sub_zero → uC, succ_mul → uG, sub_self → uH, le_trans → uI, add_zero → uJ, lt_or_ge → uP
open _root_.Bool renaming not_false → qk, and_true → qm, or_true → qp, not_true → qr, and_false → qt, or_false → qv, and_self → qH, and_eq_true → qO, false_eq_true → qV, or_eq_true → un, true_and → uE, false_or → uF
open _root_.Int renaming toNat → qP, toNat_natCast → uA
open _root_.BitVec renaming ofInt → qM, toNat → ug
open _root_.Array renaming length_toList → q1, getD_eq_getD_getElem? → ul, getElem?_eq_getElem → uz, getElem?_setIfInBounds_ne → uD, replicate → uO, getElem?_modify → uQ
open _root_.UInt8 renaming ofNat → uo
open Result renaming andThen_ok → qj
open Sem renaming run_bind → qu, run_pure → qI
open _root_.Go.Proofs.Tryz renaming prog → qi
section
set_option maxRecDepth 8000
open Go.RowKit AM
theorem AM.acalls_ptr {P:Program}{T:TT}(hT:TOK P T){f:FuncId}{fn:Func}{c:Code}{n:Nat}{rs:List ResultVar}{args:List AV}{R:AV→Store→Prop}(hf:P.funcs[f]?=some fn)(hb:fn.body=some c)
 (hn:fn.ntmps=n) (hr:fn.results.toList=rs) (hent:∀ vs w,(callFunc f vs).run P w=.ok (.enter f vs) w) (hl:args.length≤n)
 (h:awp P n 0 c (wf T rs fun r σ'=>∃ keep:List Nat,keep.Nodup∧(∀ id∈keep,id<σ'.length)∧R (tell σ' keep true 12 r) (tellS σ' keep true 12)) (fr args) []):
 ACalls P f args [] R:=by
 refine ACalls.told ((wL (σ:=[]) hT hf hb hn hr hent hl h).mono ?_);rintro r σ' ⟨keep,h1,h2,h3⟩;exact⟨keep,true,12,h1,h2,rfl,h3⟩
theorem AM.ACalls.addDead {P:Program}{f:FuncId}{args:List AV}{σ:Store}{R:AV→Store→Prop}(h:ACalls P f args σ R):ACalls P f args σ fun r σ'=>∃ τ,R r τ∧σ'=τ++[.dead]:=by
 refine⟨h.1,fun E vs hS hl=>(h.2 E vs hS hl).mono ?_⟩;rintro e w ⟨v,r,σ',E1,rfl,rfl,h3,h4,h5,h6⟩
 let E2:Env := { w:=E1.w,st:=E1.st,loc:=E1.loc,n:=E1.n+1 }
 have hx:Ext E1 E2 := {
  os:=rfl
  tape:=rfl
  output:=rfl
  size:=qy _
  shape:=fun _ _ h=>h
  st:=fun _ h=>⟨h,rfl⟩
  n:=Nat.le_succ _
  loc:=fun _ _ ver ob h=>⟨ver,ob,h,qy _,fun _=>rfl⟩
  old:=fun _ _ _=>rfl
  own:=fun id v _ h _=>⟨id,v,h⟩
  stn:=fun _ h=>.inl h }
 refine⟨v,r,_,E2,rfl,rfl,h3.ext hx,?_,h5.trans hx,σ',h6,rfl⟩;refine⟨by simp[h4.len,E2],fun id=>?_,h4.inj,h4.blk,h4.stb,h4.glb⟩;have hl:σ'.length=E1.n:=h4.len
 rcases Nat.lt_trichotomy id σ'.length with hi|hi|hi
 · rw[qQ hi]
   exact (h4.obj id).ext hx rfl fun _ _ _=>rfl
 · subst hi;rw[ue (qy _),uH];have:=h4.obj σ'.length;rw[ua (qy _)] at this;exact this
 have:=h4.obj id;rw[ua (by omega)] at this;rw[ua (by simp; omega)];exact this
def newV {α:Type}(o:Option α)(id:Nat):AV:=match o with|none=>.nilp|some _=>.op id 0 0
def newO {α:Type}(enc:α→List AV)(o:Option α):AObj:=match o with|none=>.dead|some x=>.cells 0 (enc x)
theorem Xk {α:Type}{id:Nat}:newV (none:Option α) id=.nilp:=rfl
theorem Xj {α:Type}{x:α}{id:Nat}:newV (some x) id=.op id 0 0:=rfl
theorem Xm {α:Type}{enc:α→List AV}:newO enc none=.dead:=rfl
theorem Xl {α:Type}{enc:α→List AV}{x:α}:newO enc (some x)=.cells 0 (enc x):=rfl
def xf (a0:Int)(a1:Int)(a2:List Int)(a3:List GSchema):Option (Option GClientClient×Int):=
 (xg a0 a2 a3).bind fun r2=>(if (((!r2)||(decide (a1<0)))||(decide (255<a1)))=true then some ((none:Option GClientClient),1) else (Xf (qg a2) 8).bind fun _u5=>(Xf (qg a3) 88).bind fun _u7=>some ((some (⟨a0,a1,a2,a3,0,0,[],(⟨0,0,[],([]:List GEntry),([]:List GRaw)⟩:GTree),0,(⟨0,0,0,0,0,[],0,[]⟩:GPacket),(none:Option GClientResult)⟩:GClientClient)),0))
theorem xf.ptr (a0:Int)(a1:Int)(a2:List Int)(a3:List GSchema)(r:Option GClientClient×Int)(h:xf a0 a1 a2 a3=some r):ACalls qi 15 [.int .i64 a0,.int .i64 a1,.ds true (qh encI a2) (qg a2) false,.ds true (qh encGSchema a3) (qg a3) false] [] (fun r' σ'=>(∀ c,r.1=some c→r'=.tup [.op 0 0 0,.int .i64 r.2]∧σ'=[.cells 0 (encGClientClient c)])∧(r.1=none→r'=.tup [.nilp,.int .i64 r.2]∧σ'=[])):=by
 refine acalls_ptr (rs:=[.tmp 8,.tmp 9]) tok Tryz.func15 rfl Tryz.ntmps15 rfl Tryz.call15 (by simp) ?_;refine zl [(0,.int .i64 a0),(1,.int .i64 a1),(2,.ds true (qh encI a2) (qg a2) false),(3,.ds true (qh encGSchema a3) (qg a3) false)] ⟨rfl,rfl,rfl,rfl,trivial⟩ ?_;unfold xf at h
 refine rg tok [0,1,2,3] fun K hK=>?_
 simp only[go_sem,qf,qb,qa,qc,qe,qd,reduceIte,reduceCtorEq];apply hK
 clear hK K
 refine zd fun Z1 hZ1=>?_
 refine rc [0,1,2,3,22] fun K hK=>?_
 obtain⟨r2,hr2,h⟩:=bind_some h;refine za tok 3 ?_;simp only[go_sem,qf,qb,qa,qc,qe,qd,reduceIte,reduceCtorEq];refine xY rfl rfl rfl (xg.ev a0 a2 a3 r2 hr2 _) ?_;rintro _ _ ⟨rfl,rfl⟩;refine za tok 2 ?_;simp only[go_sem,qf,qb,qa,qc,qe,qd,reduceIte,reduceCtorEq];refine zm 3 (fun L τ=>L=([(0,.int .i64 a0),(1,.int .i64 a1),(2,.ds true (qh encI a2) (qg a2) false),(3,.ds true (qh encGSchema a3) (qg a3) false),(18,.bool ((!r2)||(decide (a1<0))))]:List (Nat×AV))∧τ=([]:Store)) ?_ ?_
 · refine zZ (b:=(!r2)) 15 rfl (fun hg15=>?_) (fun hg15=>?_)
   · refine za tok 3 ?_;simp only[go_sem,qf,qb,qa,qc,qe,qd,reduceIte,reduceCtorEq,zn];refine ze ⟨rfl,_,_,⟨rfl,rfl⟩,.b hg15⟩
   refine za tok 3 ?_;simp only[go_sem,qf,qb,qa,qc,qe,qd,reduceIte,reduceCtorEq,zn];refine ze ⟨rfl,_,_,⟨rfl,rfl⟩,.b hg15⟩
 rintro _ _ ⟨rfl,rfl⟩;refine za tok 1 ?_;simp only[go_sem,qf,qb,qa,qc,qe,qd,reduceIte,reduceCtorEq];refine zm 3 (fun L τ=>L=([(0,.int .i64 a0),(1,.int .i64 a1),(2,.ds true (qh encI a2) (qg a2) false),(3,.ds true (qh encGSchema a3) (qg a3) false),(22,.bool (((!r2)||(decide (a1<0)))||(decide (255<a1))))]:List (Nat×AV))∧τ=([]:Store)) ?_ ?_
 · refine zZ (b:=((!r2)||(decide (a1<0)))) 19 rfl (fun hg19=>?_) (fun hg19=>?_)
   · refine za tok 3 ?_;simp only[go_sem,qf,qb,qa,qc,qe,qd,reduceIte,reduceCtorEq,zn];refine ze ⟨rfl,_,_,⟨rfl,rfl⟩,.b hg19⟩
   refine za tok 3 ?_;simp only[go_sem,qf,qb,qa,qc,qe,qd,reduceIte,reduceCtorEq,zn];refine ze ⟨rfl,_,_,⟨rfl,rfl⟩,.b hg19⟩
 rintro _ _ ⟨rfl,rfl⟩;refine ze ?_;simp only[zi,zv,zC,xH,upd,qa,reduceIte,zX,yB];apply hK
 clear hK K
 refine zq (b:=(((!r2)||(decide (a1<0)))||(decide (255<a1)))) rfl (fun hc3=>?_) (fun hc3=>?_)
 · rw[if_pos hc3] at h
   refine rg tok [8,9] fun K hK=>?_
   simp only[go_sem,qf,qb,qa,qc,qe,qd,reduceIte,reduceCtorEq];apply hK
   clear hK K
   refine zO ?_;obtain rfl:=Option.some.inj h;simp only[wf,ye,yi,yW,exists_eq_left',go_sem,qf,qb,qa,qc,qe,qd,reduceIte,reduceCtorEq];exact⟨[],List.nodup_nil,(fun _ h=>by cases h),(fun c hc=>by cases hc),by (first|rfl|(simp only[go_sem,qf,qb,qa,qc,qe,qd,reduceIte,reduceCtorEq,push_cast,zh]; done)|(simp only[go_sem,qf,qb,qa,qc,qe,qd,reduceIte,reduceCtorEq,push_cast,zh,encB,encI,encS]; rfl)),by rfl⟩
 rw[xJ hc3] at h;refine zf ?_;apply hZ1
 have f4:=fun nl tt σ=>wz E26.len a2 nl tt σ
 obtain⟨_u5,hu5,h⟩:=bind_some h;have gu5:=yM hu5
 have f6:=fun nl tt σ=>wz E33.len a3 nl tt σ
 obtain⟨_u7,hu7,h⟩:=bind_some h;have gu7:=yM hu7
 refine rg tok [8,9] fun K hK=>?_
 simp only[go_sem,qf,qb,qa,qc,qe,qd,reduceIte,reduceCtorEq,yx,yb,yz,true_and,cellsGTree,encGClientClient,encGPacket,encGSchema,zb,encI,f4,gu5,f6,gu7,YV,qU,qT,AV.one,qH,qm,gt_iff_lt,zH,qA,qB,qL,qF,qJ,qw,qx,qz,ql,qC,qG];apply hK
 clear hK K
 refine yD (L:=[(8,.op 2 0 0),(9,.int .i64 0)]) (τ:=[.cells 0 (qh encI a2),.cells 0 (qh encGSchema a3),.cells 0 [.int .i64 a0,.int .i64 a1,.os true 1 0 0 0 (qg a2) false,.os true 4 1 0 0 (qg a3) false,.int .i64 0,.int .i64 0,.str [],.int .i64 0,.int .i64 0,.str [],.ds true [] 0 true,.ds true [] 0 true,.int .i64 0,.int .i64 0,.int .i64 0,.int .i64 0,.int .i64 0,.int .i64 0,.str [],.int .i64 0,.str [],.nilp]]) .s ?_;refine zO ?_;obtain rfl:=Option.some.inj h;simp only[wf,ye,yi,yW,exists_eq_left',go_sem,qf,qb,qa,qc,qe,qd,reduceIte,reduceCtorEq]
 exact⟨[2],by decide,by simp,(fun c hc=>by
  cases hc
  exact⟨by (first|rfl|(simp only[go_sem,qf,qb,qa,qc,qe,qd,reduceIte,reduceCtorEq,push_cast,zh]; done)|(simp only[go_sem,qf,qb,qa,qc,qe,qd,reduceIte,reduceCtorEq,push_cast,zh,encB,encI,encS]; rfl)),by (first|rfl|(simp only[go_sem,qf,qb,qa,qc,qe,qd,reduceIte,reduceCtorEq,push_cast,zh]; done)|(simp only[go_sem,qf,qb,qa,qc,qe,qd,reduceIte,reduceCtorEq,push_cast,zh,encB,encI,encS]; rfl))⟩),(fun hc=>by cases hc)⟩
theorem xf.atS (a0:Int)(a1:Int)(a2:List Int)(a3:List GSchema)(c:GClientClient)(e:Int)(h:xf a0 a1 a2 a3=some (some c,e))(σ:Store):ACalls qi 15 [.int .i64 a0,.int .i64 a1,.ds true (qh encI a2) (qg a2) false,.ds true (qh encGSchema a3) (qg a3) false] σ (fun r' σ'=>r'=.tup [.op σ.length 0 0,.int .i64 e]∧σ'=σ++[.cells 0 (encGClientClient c)]):=by
 refine ((xf.ptr a0 a1 a2 a3 (some c,e) h).embed (σ:=σ) [] List.nodup_nil (fun _ h=>by cases h) rfl (xE _ (s:=true) _ (by simp only[push_cast]))).mono ?_;rintro r σ' ⟨r0,τ,⟨h1,_⟩,rfl,rfl⟩;obtain⟨rfl,rfl⟩:=h1 c rfl;exact⟨by simp[AV.ren,renL,YZ],by simp[w4,renO,xE _ _ (yN.h (enc:=encGClientClient) true c)]⟩
theorem xf.atN (a0:Int)(a1:Int)(a2:List Int)(a3:List GSchema)(e:Int)(h:xf a0 a1 a2 a3=some (Option.none,e))(σ:Store):ACalls qi 15 [.int .i64 a0,.int .i64 a1,.ds true (qh encI a2) (qg a2) false,.ds true (qh encGSchema a3) (qg a3) false] σ (fun r' σ'=>r'=.tup [.nilp,.int .i64 e]∧σ'=σ):=by
 refine ((xf.ptr a0 a1 a2 a3 (Option.none,e) h).embed (σ:=σ) [] List.nodup_nil (fun _ h=>by cases h) rfl (xE _ (s:=true) _ (by simp only[push_cast]))).mono ?_;rintro r σ' ⟨r0,τ,⟨_,h1⟩,rfl,rfl⟩;obtain⟨rfl,rfl⟩:=h1 rfl;exact⟨by simp[AV.ren,renL],by simp[w4]⟩
theorem xf.at (a0:Int)(a1:Int)(a2:List Int)(a3:List GSchema)(r:Option GClientClient×Int)(h:xf a0 a1 a2 a3=some r)(σ:Store):ACalls qi 15 [.int .i64 a0,.int .i64 a1,.ds true (qh encI a2) (qg a2) false,.ds true (qh encGSchema a3) (qg a3) false] σ (fun r' σ'=>r'=.tup [newV r.1 σ.length,.int .i64 r.2]∧σ'=σ++[newO encGClientClient r.1]):=by
 obtain⟨o,e⟩:=r
 cases o with
 |none=>
  refine (xf.atN a0 a1 a2 a3 e h σ).addDead.mono ?_;rintro r σ' ⟨τ,⟨rfl,rfl⟩,rfl⟩;exact⟨rfl,rfl⟩
 |some c=>exact xf.atS a0 a1 a2 a3 c e h σ
end
section
set_option maxRecDepth 4000
set_option maxHeartbeats 1000000
open AM
def wm  : Option Bool:=
 bnd (wo 1) fun r1=>(xf 1 0 [1] [r1]).bind fun r2=>(match r2.1 with|.none=>(if ((!(decide (r2.2=0)))||true)=true then some false else none)|.some y3=>(if ((!(decide (r2.2=0)))||false)=true then some false else (zy y3 [99] (⟨3,0,[],([]:List GEntry),([]:List GRaw)⟩:GTree)).bind fun r12=>(zk r12.2.2 (⟨2,0,1,1,1,[],0,[]⟩:GPacket)).bind fun r13=>bnd (if (((((decide (r12.2.1=0))&&(decide (r12.1.fKind=1)))&&r13.2.1)&&(decide (r13.1.fKind=3)))&&(decide (r13.1.fVersion=1)))=true then bnd (xh r13.2.2) fun r16=>r16 else false) fun c16=>some c16))
theorem wm.ok  (r:Bool)(h:wm=some r):ACalls qi 24 [] [] (fun r' _=>r'=.bool r):=by
 refine zj (rs:=[.tmp 0]) tok Tryz.func24 rfl Tryz.ntmps24 rfl Tryz.call24 (by simp) ?_;refine zl [] trivial ?_;unfold wm at h;refine rgN [] ?_
 refine rc [1,2] fun K hK=>?_
 obtain⟨r1,hr1,h⟩:=zD h;refine za tok 1 ?_;simp only[go_sem,qf,qb,qa,qc,qe,qd,reduceIte,reduceCtorEq,zP,z1,qY,qS,qX,true_and,q5];refine clN rfl rfl rfl (wo.ev 1 r1 hr1 _) ?_;obtain⟨r2,hr2,h⟩:=bind_some h;refine za tok 1 ?_;simp only[go_sem,qf,qb,qa,qc,qe,qd,reduceIte,reduceCtorEq,zP,z1,qY,qS,qX,true_and,q5,encGSchema];refine YM (L:=[(8,.ds true (qh encI [1]) (qg [1]) false),(10,.ds true (qh encGSchema [r1]) (qg [r1]) false)]) (τ:=[]) (.t [] false) ?_;refine clN rfl rfl rfl (xf.at 1 0 [1] [r1] r2 hr2 _) ?_;refine za tok 5 ?_;simp only[go_sem,qf,qb,qa,qc,qe,qd,reduceIte,reduceCtorEq,encGSchema];refine nkN hK ?_
 generalize hz3:r2.1=z3 at h ⊢
 rcases z3 with _|y3
 · try dsimp only at h
   simp only[Xk,Xj,Xm,Xl]
   refine zd fun Z4 hZ4=>?_
   refine rc [1,19] fun K hK=>?_
   refine za tok 3 ?_;simp only[go_sem,qf,qb,qa,qc,qe,qd,reduceIte,reduceCtorEq,zn];refine zm 3 (fun L τ=>L=[(1,.nilp),(19,.bool ((!(decide (r2.2=0)))||true))]∧τ=[.dead]) ?_ ?_
   · refine yV 16 rfl (fun hg16=>?_) (fun hg16=>?_)
     · have t5:=eq_false hg16;refine za tok 3 ?_;simp only[go_sem,qf,qb,qa,qc,qe,qd,reduceIte,reduceCtorEq,zn];refine ze ⟨rfl,_,_,⟨rfl,rfl⟩,.p t5⟩
     have t6:=eq_true hg16;refine za tok 3 ?_;simp only[go_sem,qf,qb,qa,qc,qe,qd,reduceIte,reduceCtorEq,zn];refine ze ⟨rfl,_,_,⟨rfl,rfl⟩,.p t6⟩
   rintro _ _ ⟨rfl,rfl⟩;refine nkN hK ?_;refine zq (b:=((!(decide (r2.2=0)))||true)) rfl (fun hc7=>?_) (fun hc7=>?_)
   · rw[if_pos hc7] at h;refine rgN [0] ?_;cases h;exact rtA
   rw[xJ hc7] at h;apply zf;apply hZ4;cases h
 try dsimp only at h
 simp only[Xk,Xj,Xm,Xl]
 refine zd fun Z8 hZ8=>?_
 refine rc [1,19] fun K hK=>?_
 refine za tok 3 ?_;simp only[go_sem,qf,qb,qa,qc,qe,qd,reduceIte,reduceCtorEq,zn];refine zm 3 (fun L τ=>L=[(1,.op 0 0 0),(19,.bool ((!(decide (r2.2=0)))||false))]∧τ=[.cells 0 (encGClientClient y3)]) ?_ ?_
 · refine yV 16 rfl (fun hg16=>?_) (fun hg16=>?_)
   · have t9:=eq_false hg16;refine za tok 3 ?_;simp only[go_sem,qf,qb,qa,qc,qe,qd,reduceIte,reduceCtorEq,zn];refine ze ⟨rfl,_,_,⟨rfl,rfl⟩,.p t9⟩
   have t10:=eq_true hg16;refine za tok 3 ?_;simp only[go_sem,qf,qb,qa,qc,qe,qd,reduceIte,reduceCtorEq,zn];refine ze ⟨rfl,_,_,⟨rfl,rfl⟩,.p t10⟩
 rintro _ _ ⟨rfl,rfl⟩;refine nkN hK ?_;refine zq (b:=((!(decide (r2.2=0)))||false)) rfl (fun hc11=>?_) (fun hc11=>?_)
 · rw[if_pos hc11] at h;refine rgN [0] ?_;cases h;exact rtA
 rw[xJ hc11] at h;apply zf;apply hZ8
 refine rc [1,3,4] fun K hK=>?_
 obtain⟨r12,hr12,h⟩:=bind_some h;refine rnN 2 ?_;refine clN rfl rfl rfl (ACalls.loose (@id (ACalls qi 18 [.op 0 0 0,.str [99],.agg [.int .i64 3,.int .i64 0,.str [],.ds true (qh encGEntry ([]:List GEntry)) (qg ([]:List GEntry)) false,.ds true (qh encGRaw ([]:List GRaw)) (qg ([]:List GRaw)) false]] [.cells 0 (encGClientClient y3)] (fun r' σ'=>r'=.tup [.agg (encGPacket r12.1),.int .i64 r12.2.1]∧σ'=[.cells 0 (encGClientClient r12.2.2)])) ((zy.ok y3 [99] (⟨3,0,[],([]:List GEntry),([]:List GRaw)⟩:GTree) r12 hr12).i [0]))) ?_;refine za tok 6 ?_;simp only[go_sem,qf,qb,qa,qc,qe,qd,reduceIte,reduceCtorEq,encGPacket];refine nkN hK ?_
 refine rc [1,3,4,5,6] fun K hK=>?_
 obtain⟨r13,hr13,h⟩:=bind_some h;refine rnN 2 ?_;refine clN rfl rfl rfl (@id (ACalls qi 19 [.op 0 0 0,.agg [.int .i64 2,.int .i64 0,.int .i64 1,.int .i64 1,.int .i64 1,.str [],.int .i64 0,.str []]] [.cells 0 (encGClientClient r12.2.2),.cells 0 (encGPacket r12.1)] (fun r' σ'=>r'=.tup [.agg (encGPacket r13.1),.bool r13.2.1]∧σ'=[.cells 0 (encGClientClient r13.2.2),.cells 0 (encGPacket r12.1)])) ((zk.ok r12.2.2 (⟨2,0,1,1,1,[],0,[]⟩:GPacket) r13 hr13).i [0])) ?_;refine za tok 6 ?_;simp only[go_sem,qf,qb,qa,qc,qe,qd,reduceIte,reduceCtorEq,encGPacket];refine nkN hK ?_
 refine rc [0] fun K hK=>?_
 refine za tok 3 ?_;simp only[go_sem,qf,qb,qa,qc,qe,qd,reduceIte,reduceCtorEq,zn];refine zm 4 (fun L τ=>L=[(1,.op 0 0 0),(5,.op 2 0 0),(6,.bool r13.2.1),(38,.bool ((decide (r12.2.1=0))&&(decide (r12.1.fKind=1))))]∧τ=[.cells 0 (encGClientClient r13.2.2),.cells 0 (encGPacket r12.1),.cells 0 (encGPacket r13.1)]) ?_ ?_
 · refine yV 34 rfl (fun hg34=>?_) (fun hg34=>?_)
   · have t14:=eq_true hg34;refine za tok 4 ?_;simp only[go_sem,qf,qb,qa,qc,qe,qd,reduceIte,reduceCtorEq,zn];refine ze ⟨rfl,_,_,⟨rfl,rfl⟩,.p t14⟩
   have t15:=eq_false hg34;refine za tok 4 ?_;simp only[go_sem,qf,qb,qa,qc,qe,qd,reduceIte,reduceCtorEq,zn];refine ze ⟨rfl,_,_,⟨rfl,rfl⟩,.p t15⟩
 rintro _ _ ⟨rfl,rfl⟩;refine rnN 1 ?_;refine zm 2 (fun L τ=>L=[(1,.op 0 0 0),(5,.op 2 0 0),(41,.bool (((decide (r12.2.1=0))&&(decide (r12.1.fKind=1)))&&r13.2.1))]∧τ=[.cells 0 (encGClientClient r13.2.2),.cells 0 (encGPacket r12.1),.cells 0 (encGPacket r13.1)]) ?_ ?_
 · refine zZ (b:=((decide (r12.2.1=0))&&(decide (r12.1.fKind=1)))) 39 rfl (fun hg39=>?_) (fun hg39=>?_)
   · refine rnN 2 ?_;refine ze ⟨rfl,_,_,⟨rfl,rfl⟩,.b hg39⟩
   refine rnN 2 ?_;refine ze ⟨rfl,_,_,⟨rfl,rfl⟩,.b hg39⟩
 rintro _ _ ⟨rfl,rfl⟩;refine rnN 1 ?_;refine zm 4 (fun L τ=>L=[(1,.op 0 0 0),(5,.op 2 0 0),(46,.bool ((((decide (r12.2.1=0))&&(decide (r12.1.fKind=1)))&&r13.2.1)&&(decide (r13.1.fKind=3))))]∧τ=[.cells 0 (encGClientClient r13.2.2),.cells 0 (encGPacket r12.1),.cells 0 (encGPacket r13.1)]) ?_ ?_
 · refine zZ (b:=(((decide (r12.2.1=0))&&(decide (r12.1.fKind=1)))&&r13.2.1)) 42 rfl (fun hg42=>?_) (fun hg42=>?_)
   · refine za tok 4 ?_;simp only[go_sem,qf,qb,qa,qc,qe,qd,reduceIte,reduceCtorEq,zn];refine ze ⟨rfl,_,_,⟨rfl,rfl⟩,.b hg42⟩
   refine za tok 4 ?_;simp only[go_sem,qf,qb,qa,qc,qe,qd,reduceIte,reduceCtorEq,zn];refine ze ⟨rfl,_,_,⟨rfl,rfl⟩,.b hg42⟩
 rintro _ _ ⟨rfl,rfl⟩;refine rnN 1 ?_;refine zm 4 (fun L τ=>L=[(1,.op 0 0 0),(51,.bool (((((decide (r12.2.1=0))&&(decide (r12.1.fKind=1)))&&r13.2.1)&&(decide (r13.1.fKind=3)))&&(decide (r13.1.fVersion=1))))]∧τ=[.cells 0 (encGClientClient r13.2.2),.cells 0 (encGPacket r12.1),.cells 0 (encGPacket r13.1)]) ?_ ?_
 · refine zZ (b:=((((decide (r12.2.1=0))&&(decide (r12.1.fKind=1)))&&r13.2.1)&&(decide (r13.1.fKind=3)))) 47 rfl (fun hg47=>?_) (fun hg47=>?_)
   · refine za tok 4 ?_;simp only[go_sem,qf,qb,qa,qc,qe,qd,reduceIte,reduceCtorEq,zn];refine ze ⟨rfl,_,_,⟨rfl,rfl⟩,.b hg47⟩
   refine za tok 4 ?_;simp only[go_sem,qf,qb,qa,qc,qe,qd,reduceIte,reduceCtorEq,zn];refine ze ⟨rfl,_,_,⟨rfl,rfl⟩,.b hg47⟩
 rintro _ _ ⟨rfl,rfl⟩;refine rnN 1 ?_;obtain⟨c16,hc16,h⟩:=zD h;refine zm 3 (fun L τ=>L=[(55,.bool c16)]∧τ=[.cells 0 (encGClientClient r13.2.2),.cells 0 (encGPacket r12.1),.cells 0 (encGPacket r13.1)]) ?_ ?_
 · refine zZ (b:=(((((decide (r12.2.1=0))&&(decide (r12.1.fKind=1)))&&r13.2.1)&&(decide (r13.1.fKind=3)))&&(decide (r13.1.fVersion=1)))) 52 rfl (fun hg52=>?_) (fun hg52=>?_)
   · rw[if_pos hg52] at hc16;obtain⟨r17,hr17,hc16⟩:=zD hc16;refine rnN 1 ?_;refine clN rfl rfl rfl (@id (ACalls qi 26 [.op 0 0 0] [.cells 0 (encGClientClient r13.2.2),.cells 0 (encGPacket r12.1),.cells 0 (encGPacket r13.1)] (fun r' σ'=>r'=.bool r17∧σ'=[.cells 0 (encGClientClient r13.2.2),.cells 0 (encGPacket r12.1),.cells 0 (encGPacket r13.1)])) ((xh.ok r13.2.2 r17 hr17).i [0])) ?_;refine rnN 1 ?_;subst hc16;refine ze ⟨rfl,_,_,⟨rfl,rfl⟩,.b hg52⟩
   rw[xJ hg52] at hc16;refine rnN 3 ?_;subst hc16;refine ze ⟨rfl,_,_,⟨rfl,rfl⟩,.b hg52⟩
 rintro _ _ ⟨rfl,rfl⟩;refine rnN 1 ?_;refine nkN hK ?_;cases h;exact rtA
theorem wm.ev  (r:Bool)(h:wm=some r)(σ:Store):ACalls qi 24 [] σ (fun r' σ'=>r'=.bool r∧σ'=σ):=
 (wm.ok  r h).c σ
def law23_ClientErrors.l10 (a0:Int):Nat→Option Bool
 |0=>none
 |k10+1=>(yF a0 6).bind fun r12=>(if 1≤IntKind.i64.wrap (1+r12) then none else none)
def law23_ClientErrors.j41 (x24:Int)(rec27:GClientClient→Int→Option Bool)(m0_39:GClientClient)(x40:Int):Option Bool:=
 bnd (xy m0_39) fun r42=>(if (((!r42.2.2.2.1)||(!(decide (r42.1=x24))))||(!(decide (r42.2.2.1=x40))))=true then some true else (zY yX r42.2.1 (⟨0,0,[],([]:List GEntry),([]:List GRaw)⟩:GTree)).bind fun r43=>some (!r43)).bind fun c43=>bnd (if c43=true then true else bnd (xh r42.2.2.2.2) fun r45=>r45) fun c45=>(if c45=true then some false else (rec27 r42.2.2.2.2 (IntKind.i64.wrap (x24+1))))
def law23_ClientErrors.l27 (a0:Int)(r21:Int):Nat→GClientClient→Int→Option Bool
 |0,_,_=>none
 |k27+1,m0_23,x24=>(yF a0 6).bind fun r29=>(if x24≤IntKind.i64.wrap (1+r29) then (zy m0_23 [99] (⟨3,0,[],([]:List GEntry),([]:List GRaw)⟩:GTree)).bind fun r33=>(zy r33.2.2 [99] (⟨3,0,[],([]:List GEntry),([]:List GRaw)⟩:GTree)).bind fun r34=>(if (((!(decide (r33.2.1=0)))||(!(decide (r34.2.1=19))))||(!(decide (r33.1.fID=x24))))=true then some false else (if (x24).tmod 2=1 then (zk r34.2.2 (⟨2,0,1,x24,0,[],0,[]⟩:GPacket)).bind fun r50=>(law23_ClientErrors.j41 x24 (law23_ClientErrors.l27 a0 r21 k27) r50.2.2 18) else (zk r34.2.2 (⟨2,0,1,x24,3,[],0,[]⟩:GPacket)).bind fun r52=>(zk r52.2.2 (⟨4,0,1,x24,3,[],IntKind.i64.wrap (1+r21),[]⟩:GPacket)).bind fun r53=>(law23_ClientErrors.j41 x24 (law23_ClientErrors.l27 a0 r21 k27) r53.2.2 (IntKind.i64.wrap (1+r21))))) else (zy m0_23 [110,111,98,111,100,121] (⟨3,0,[],([]:List GEntry),([]:List GRaw)⟩:GTree)).bind fun r55=>(if r55.2.1=21 then (wm).bind fun r56=>some r56 else some false).bind fun c56=>some c56)
def law23_ClientErrors (a0:Int)(a1:Int):Option Bool:=
 bnd (wo 2) fun r1=>(xf 1 0 [3] [r1]).bind fun r2=>(match r2.1 with|.none=>(if r2.2=0 then (yF a1 255).bind fun r8=>(law23_ClientErrors.l10 a0 yX) else some false)|.some y3=>(if r2.2=0 then (yF a1 255).bind fun r21=>(law23_ClientErrors.l27 a0 r21 yX y3 1) else some false))
theorem law23_ClientErrors.ok (a0:Int)(a1:Int)(r:Bool)(h:law23_ClientErrors a0 a1=some r):ACalls qi 4 [.int .i64 a0,.int .i64 a1] [] (fun r' _=>r'=.bool r):=by
 refine zj (rs:=[.tmp 4]) tok Tryz.func4 rfl Tryz.ntmps4 rfl Tryz.call4 (by simp) ?_;refine zl [(0,.int .i64 a0),(1,.int .i64 a1)] ⟨rfl,rfl,trivial⟩ ?_;unfold law23_ClientErrors at h;refine rgN [0,1] ?_
 refine rc [0,1,5,6] fun K hK=>?_
 obtain⟨r1,hr1,h⟩:=zD h;refine za tok 1 ?_;simp only[go_sem,qf,qb,qa,qc,qe,qd,reduceIte,reduceCtorEq,zP,z1,qY,qS,qX,true_and,q5];refine clN rfl rfl rfl (wo.ev 2 r1 hr1 _) ?_;obtain⟨r2,hr2,h⟩:=bind_some h;refine za tok 1 ?_;simp only[go_sem,qf,qb,qa,qc,qe,qd,reduceIte,reduceCtorEq,zP,z1,qY,qS,qX,true_and,q5,encGSchema];refine YM (L:=[(0,.int .i64 a0),(1,.int .i64 a1),(21,.ds true (qh encI [3]) (qg [3]) false),(23,.ds true (qh encGSchema [r1]) (qg [r1]) false)]) (τ:=[]) (.t [] false) ?_;refine clN rfl rfl rfl (xf.at 1 0 [3] [r1] r2 hr2 _) ?_;refine za tok 5 ?_;simp only[go_sem,qf,qb,qa,qc,qe,qd,reduceIte,reduceCtorEq,encGSchema];refine nkN hK ?_
 generalize hz3:r2.1=z3 at h ⊢
 rcases z3 with _|y3
 · try dsimp only at h
   simp only[Xk,Xj,Xm,Xl]
   refine zd fun Z4 hZ4=>?_
   refine rg tok [0,1,5,28] fun K hK=>?_
   simp only[go_sem,qf,qb,qa,qc,qe,qd,reduceIte,reduceCtorEq,zn];apply hK
   refine zK rfl (fun hc5=>?_) (fun hc5=>?_)
   · rw[if_neg hc5] at h;have t6:=eq_false hc5
     refine rg tok [4] fun K hK=>?_
     simp only[go_sem,qf,qb,qa,qc,qe,qd,reduceIte,reduceCtorEq,t6];apply hK
     cases h;exact rtA
   rw[if_pos hc5] at h;have t7:=eq_true hc5;apply zf;apply hZ4
   refine rc [0,5,7] fun K hK=>?_
   obtain⟨r8,hr8,h⟩:=bind_some h;refine za tok 1 ?_;simp only[go_sem,qf,qb,qa,qc,qe,qd,reduceIte,reduceCtorEq,t7];refine clN rfl rfl rfl (yF.ev a1 255 r8 hr8 _) ?_;refine za tok 2 ?_;simp only[go_sem,qf,qb,qa,qc,qe,qd,reduceIte,reduceCtorEq,zn,t7];refine nkN hK ?_
   refine zd fun Z9 hZ9=>?_
   refine rg tok [0,5,7,8] fun K hK=>?_
   simp only[go_sem,qf,qb,qa,qc,qe,qd,reduceIte,reduceCtorEq,t7];apply hK
   apply zg;refine zM (fun m L τ=>∃ (k10:Nat),m=0+k10∧L=[(0,.int .i64 a0),(5,.nilp),(7,.int .i64 (IntKind.i64.wrap (1+r8))),(8,.int .i64 1)]∧τ=[]∧law23_ClientErrors.l10 a0 k10=some r) _ ⟨yX,rfl,rfl,rfl,h⟩ (.t [] false) ?_;rintro m L τ ⟨k10,rfl,rfl,rfl,h⟩
   rcases k10 with _|k10
   · cases h
   simp only[law23_ClientErrors.l10] at h
   refine zd fun Z11 hZ11=>?_
   refine rc [0,5,7,8,36] fun K hK=>?_
   obtain⟨r12,hr12,h⟩:=bind_some h;refine za tok 2 ?_;simp only[go_sem,qf,qb,qa,qc,qe,qd,reduceIte,reduceCtorEq,t7];refine clN rfl rfl rfl (yF.ev a0 6 r12 hr12 _) ?_;refine za tok 2 ?_;simp only[go_sem,qf,qb,qa,qc,qe,qd,reduceIte,reduceCtorEq,zn,t7];refine nkN hK ?_;refine zK rfl (fun hc13=>?_) (fun hc13=>?_)
   · rw[if_pos hc13] at h;have t14:=eq_true hc13;apply zf;apply hZ11
     refine zd fun Z15 hZ15=>?_
     apply zg;cases h
   rw[if_neg hc13] at h;have t16:=eq_false hc13;apply zE;apply hZ9;cases h
 try dsimp only at h
 simp only[Xk,Xj,Xm,Xl]
 refine zd fun Z17 hZ17=>?_
 refine rg tok [0,1,5,28] fun K hK=>?_
 simp only[go_sem,qf,qb,qa,qc,qe,qd,reduceIte,reduceCtorEq,zn];apply hK
 refine zK rfl (fun hc18=>?_) (fun hc18=>?_)
 · rw[if_neg hc18] at h;have t19:=eq_false hc18
   refine rg tok [4] fun K hK=>?_
   simp only[go_sem,qf,qb,qa,qc,qe,qd,reduceIte,reduceCtorEq,t19];apply hK
   cases h;exact rtA
 rw[if_pos hc18] at h;have t20:=eq_true hc18;apply zf;apply hZ17
 refine rc [0,5,7] fun K hK=>?_
 obtain⟨r21,hr21,h⟩:=bind_some h;refine za tok 1 ?_;simp only[go_sem,qf,qb,qa,qc,qe,qd,reduceIte,reduceCtorEq,t20];refine clN rfl rfl rfl (yF.ev a1 255 r21 hr21 _) ?_;refine za tok 2 ?_;simp only[go_sem,qf,qb,qa,qc,qe,qd,reduceIte,reduceCtorEq,zn,t20];refine nkN hK ?_
 refine zd fun Z22 hZ22=>?_
 refine rg tok [0,5,7,8] fun K hK=>?_
 simp only[go_sem,qf,qb,qa,qc,qe,qd,reduceIte,reduceCtorEq,t20];apply hK
 apply zg;refine zM (fun m L τ=>∃ (k27:Nat) (m0_23:GClientClient) (x24:Int),m=0+k27∧L=[(0,.int .i64 a0),(5,.op 0 0 0),(7,.int .i64 (IntKind.i64.wrap (1+r21))),(8,.int .i64 x24)]∧τ=[.cells 0 (encGClientClient m0_23)]∧law23_ClientErrors.l27 a0 r21 k27 m0_23 x24=some r) _ ⟨yX,y3,1,rfl,rfl,rfl,h⟩ .s ?_;rintro m L τ ⟨k27,m0_23,x24,rfl,rfl,rfl,h⟩
 rcases k27 with _|k27
 · cases h
 simp only[law23_ClientErrors.l27] at h
 refine zd fun Z28 hZ28=>?_
 refine rc [0,5,7,8,36] fun K hK=>?_
 obtain⟨r29,hr29,h⟩:=bind_some h;refine za tok 2 ?_;simp only[go_sem,qf,qb,qa,qc,qe,qd,reduceIte,reduceCtorEq,t20];refine clN rfl rfl rfl (yF.ev a0 6 r29 hr29 _) ?_;refine za tok 2 ?_;simp only[go_sem,qf,qb,qa,qc,qe,qd,reduceIte,reduceCtorEq,zn,t20];refine nkN hK ?_;refine zK rfl (fun hc30=>?_) (fun hc30=>?_)
 · rw[if_pos hc30] at h;have t31:=eq_true hc30;apply zf;apply hZ28
   refine zd fun Z32 hZ32=>?_
   apply zg
   refine rc [0,5,7,8,9,10] fun K hK=>?_
   obtain⟨r33,hr33,h⟩:=bind_some h;refine za tok 2 ?_;simp only[go_sem,qf,qb,qa,qc,qe,qd,reduceIte,reduceCtorEq,t20,t31];refine clN rfl rfl rfl (ACalls.loose (@id (ACalls qi 18 [.op 0 0 0,.str [99],.agg [.int .i64 3,.int .i64 0,.str [],.ds true (qh encGEntry ([]:List GEntry)) (qg ([]:List GEntry)) false,.ds true (qh encGRaw ([]:List GRaw)) (qg ([]:List GRaw)) false]] [.cells 0 (encGClientClient m0_23)] (fun r' σ'=>r'=.tup [.agg (encGPacket r33.1),.int .i64 r33.2.1]∧σ'=[.cells 0 (encGClientClient r33.2.2)])) ((zy.ok m0_23 [99] (⟨3,0,[],([]:List GEntry),([]:List GRaw)⟩:GTree) r33 hr33).i [0]))) ?_;refine za tok 6 ?_;simp only[go_sem,qf,qb,qa,qc,qe,qd,reduceIte,reduceCtorEq,encGPacket,t20,t31];refine nkN hK ?_
   refine rc [0,5,7,8,9,10,12] fun K hK=>?_
   obtain⟨r34,hr34,h⟩:=bind_some h;refine za tok 2 ?_;simp only[go_sem,qf,qb,qa,qc,qe,qd,reduceIte,reduceCtorEq,t20,t31];refine clN rfl rfl rfl (ACalls.loose (@id (ACalls qi 18 [.op 0 0 0,.str [99],.agg [.int .i64 3,.int .i64 0,.str [],.ds true (qh encGEntry ([]:List GEntry)) (qg ([]:List GEntry)) false,.ds true (qh encGRaw ([]:List GRaw)) (qg ([]:List GRaw)) false]] [.cells 0 (encGClientClient r33.2.2),.cells 0 (encGPacket r33.1)] (fun r' σ'=>r'=.tup [.agg (encGPacket r34.1),.int .i64 r34.2.1]∧σ'=[.cells 0 (encGClientClient r34.2.2),.cells 0 (encGPacket r33.1)])) ((zy.ok r33.2.2 [99] (⟨3,0,[],([]:List GEntry),([]:List GRaw)⟩:GTree) r34 hr34).i [0]))) ?_;refine za tok 6 ?_;simp only[go_sem,qf,qb,qa,qc,qe,qd,reduceIte,reduceCtorEq,encGPacket,t20,t31];refine nkN hK ?_
   refine zd fun Z35 hZ35=>?_
   refine rc [0,5,7,8,62] fun K hK=>?_
   refine za tok 3 ?_;simp only[go_sem,qf,qb,qa,qc,qe,qd,reduceIte,reduceCtorEq,zn,t20,t31];refine zm 3 (fun L τ=>L=[(0,.int .i64 a0),(5,.op 0 0 0),(7,.int .i64 (IntKind.i64.wrap (1+r21))),(8,.int .i64 x24),(9,.op 1 0 0),(56,.bool ((!(decide (r33.2.1=0)))||(!(decide (r34.2.1=19)))))]∧τ=[.cells 0 (encGClientClient r34.2.2),.cells 0 (encGPacket r33.1),.cells 0 (encGPacket r34.1)]) ?_ ?_
   · refine yV 53 rfl (fun hg53=>?_) (fun hg53=>?_)
     · have t36:=eq_false hg53;refine za tok 3 ?_;simp only[go_sem,qf,qb,qa,qc,qe,qd,reduceIte,reduceCtorEq,zn,t20,t31];refine ze ⟨rfl,_,_,⟨rfl,rfl⟩,.p t36⟩
     have t37:=eq_true hg53;refine za tok 3 ?_;simp only[go_sem,qf,qb,qa,qc,qe,qd,reduceIte,reduceCtorEq,zn,t20,t31];refine ze ⟨rfl,_,_,⟨rfl,rfl⟩,.p t37⟩
   rintro _ _ ⟨rfl,rfl⟩;refine za tok 1 ?_;simp only[go_sem,qf,qb,qa,qc,qe,qd,reduceIte,reduceCtorEq,t20,t31];refine zm 5 (fun L τ=>L=[(0,.int .i64 a0),(5,.op 0 0 0),(7,.int .i64 (IntKind.i64.wrap (1+r21))),(8,.int .i64 x24),(62,.bool (((!(decide (r33.2.1=0)))||(!(decide (r34.2.1=19))))||(!(decide (r33.1.fID=x24)))))]∧τ=[.cells 0 (encGClientClient r34.2.2),.cells 0 (encGPacket r33.1),.cells 0 (encGPacket r34.1)]) ?_ ?_
   · refine zZ (b:=((!(decide (r33.2.1=0)))||(!(decide (r34.2.1=19))))) 57 rfl (fun hg57=>?_) (fun hg57=>?_)
     · refine za tok 5 ?_;simp only[go_sem,qf,qb,qa,qc,qe,qd,reduceIte,reduceCtorEq,zn,t20,t31];refine ze ⟨rfl,_,_,⟨rfl,rfl⟩,.b hg57⟩
     refine za tok 5 ?_;simp only[go_sem,qf,qb,qa,qc,qe,qd,reduceIte,reduceCtorEq,zn,t20,t31];refine ze ⟨rfl,_,_,⟨rfl,rfl⟩,.b hg57⟩
   rintro _ _ ⟨rfl,rfl⟩;refine nkN hK ?_;refine zq (b:=(((!(decide (r33.2.1=0)))||(!(decide (r34.2.1=19))))||(!(decide (r33.1.fID=x24))))) rfl (fun hc38=>?_) (fun hc38=>?_)
   · rw[if_pos hc38] at h
     refine rg tok [4] fun K hK=>?_
     simp only[go_sem,qf,qb,qa,qc,qe,qd,reduceIte,reduceCtorEq,t20,t31];apply hK
     cases h;exact rtA
   rw[xJ hc38] at h;apply zf;apply hZ35
   refine rg tok [0,5,7,8,13] fun K hK=>?_
   simp only[go_sem,qf,qb,qa,qc,qe,qd,reduceIte,reduceCtorEq,t20,t31];apply hK
   refine yO (fun L τ=>∃ (m0_39:GClientClient) (x40:Int),L=[(0,.int .i64 a0),(5,.op 0 0 0),(7,.int .i64 (IntKind.i64.wrap (1+r21))),(8,.int .i64 x24),(13,.int .i64 x40)]∧τ=[.cells 0 (encGClientClient m0_39)]∧law23_ClientErrors.j41 x24 (law23_ClientErrors.l27 a0 r21 k27) m0_39 x40=some r) ?_ ?_
   · refine rg tok [0,5,7,8,13,65] fun K hK=>?_
     simp only[go_sem,qf,qb,qa,qc,qe,qd,reduceIte,reduceCtorEq,zn,t20,t31,Int.reduceEq];apply hK
     refine zK rfl (fun hc48=>?_) (fun hc48=>?_)
     · rw[if_pos hc48] at h;have t49:=eq_true hc48
       refine rcE [0,5,7,8,13] fun K hK=>?_
       obtain⟨r50,hr50,h⟩:=bind_some h;refine za tok 3 ?_;simp only[go_sem,qf,qb,qa,qc,qe,qd,reduceIte,reduceCtorEq,t20,t31,t49];refine clN rfl rfl rfl (@id (ACalls qi 19 [.op 0 0 0,.agg [.int .i64 2,.int .i64 0,.int .i64 1,.int .i64 x24,.int .i64 0,.str [],.int .i64 0,.str []]] [.cells 0 (encGClientClient r34.2.2),.cells 0 (encGPacket r33.1),.cells 0 (encGPacket r34.1)] (fun r' σ'=>r'=.tup [.agg (encGPacket r50.1),.bool r50.2.1]∧σ'=[.cells 0 (encGClientClient r50.2.2),.cells 0 (encGPacket r33.1),.cells 0 (encGPacket r34.1)])) ((zk.ok r34.2.2 (⟨2,0,1,x24,0,[],0,[]⟩:GPacket) r50 hr50).i [0])) ?_;refine nkN hK ?_;exact⟨_,_,⟨r50.2.2,18,rfl,rfl,h⟩,(.t [0] false)⟩
     rw[if_neg hc48] at h;have t51:=eq_false hc48
     refine rc [0,5,7,8] fun K hK=>?_
     obtain⟨r52,hr52,h⟩:=bind_some h;refine za tok 3 ?_;simp only[go_sem,qf,qb,qa,qc,qe,qd,reduceIte,reduceCtorEq,t20,t31,t51];refine clN rfl rfl rfl (@id (ACalls qi 19 [.op 0 0 0,.agg [.int .i64 2,.int .i64 0,.int .i64 1,.int .i64 x24,.int .i64 3,.str [],.int .i64 0,.str []]] [.cells 0 (encGClientClient r34.2.2),.cells 0 (encGPacket r33.1),.cells 0 (encGPacket r34.1)] (fun r' σ'=>r'=.tup [.agg (encGPacket r52.1),.bool r52.2.1]∧σ'=[.cells 0 (encGClientClient r52.2.2),.cells 0 (encGPacket r33.1),.cells 0 (encGPacket r34.1)])) ((zk.ok r34.2.2 (⟨2,0,1,x24,3,[],0,[]⟩:GPacket) r52 hr52).i [0])) ?_;refine nkN hK ?_
     refine rc [0,5,7,8] fun K hK=>?_
     obtain⟨r53,hr53,h⟩:=bind_some h;refine za tok 4 ?_;simp only[go_sem,qf,qb,qa,qc,qe,qd,reduceIte,reduceCtorEq,t20,t31,t51];refine clN rfl rfl rfl (@id (ACalls qi 19 [.op 0 0 0,.agg [.int .i64 4,.int .i64 0,.int .i64 1,.int .i64 x24,.int .i64 3,.str [],.int .i64 (IntKind.i64.wrap (1+r21)),.str []]] [.cells 0 (encGClientClient r52.2.2),.cells 0 (encGPacket r33.1),.cells 0 (encGPacket r34.1)] (fun r' σ'=>r'=.tup [.agg (encGPacket r53.1),.bool r53.2.1]∧σ'=[.cells 0 (encGClientClient r53.2.2),.cells 0 (encGPacket r33.1),.cells 0 (encGPacket r34.1)])) ((zk.ok r52.2.2 (⟨4,0,1,x24,3,[],IntKind.i64.wrap (1+r21),[]⟩:GPacket) r53 hr53).i [0])) ?_;refine nkN hK ?_
     refine rgE tok [0,5,7,8,13] fun K hK=>?_
     simp only[go_sem,qf,qb,qa,qc,qe,qd,reduceIte,reduceCtorEq,t20,t31,t51];apply hK
     exact⟨_,_,⟨r53.2.2,IntKind.i64.wrap (1+r21),rfl,rfl,h⟩,(.t [0] false)⟩
   rintro _ _ ⟨m0_39,x40,rfl,rfl,h⟩;unfold law23_ClientErrors.j41 at h
   refine rc [0,5,7,8,13,14,15,16,17] fun K hK=>?_
   obtain⟨r42,hr42,h⟩:=zD h;refine za tok 1 ?_;simp only[go_sem,qf,qb,qa,qc,qe,qd,reduceIte,reduceCtorEq,t20,t31];refine clN rfl rfl rfl (@id (ACalls qi 22 [.op 0 0 0] [.cells 0 (encGClientClient m0_39)] (fun r' σ'=>r'=.tup [.int .i64 r42.1,.agg (cellsGTree r42.2.1),.int .i64 r42.2.2.1,.bool r42.2.2.2.1]∧σ'=[.cells 0 (encGClientClient r42.2.2.2.2)])) ((xy.ok m0_39 r42 hr42).i [0])) ?_;refine za tok 10 ?_;simp only[go_sem,qf,qb,qa,qc,qe,qd,reduceIte,reduceCtorEq,cellsGTree,zb,t20,t31];refine nkN hK ?_
   refine rc [0,5,7,8,108] fun K hK=>?_
   refine za tok 3 ?_;simp only[go_sem,qf,qb,qa,qc,qe,qd,reduceIte,reduceCtorEq,t20,t31];refine zm 4 (fun L τ=>L=[(0,.int .i64 a0),(5,.op 0 0 0),(7,.int .i64 (IntKind.i64.wrap (1+r21))),(8,.int .i64 x24),(13,.int .i64 x40),(15,.op 1 0 0),(16,.int .i64 r42.2.2.1),(93,.bool ((!r42.2.2.2.1)||(!(decide (r42.1=x24)))))]∧τ=[.cells 0 (encGClientClient r42.2.2.2.2),.cells 0 (cellsGTree r42.2.1)]) ?_ ?_
   · refine zZ (b:=(!r42.2.2.2.1)) 89 rfl (fun hg89=>?_) (fun hg89=>?_)
     · refine za tok 4 ?_;simp only[go_sem,qf,qb,qa,qc,qe,qd,reduceIte,reduceCtorEq,zn,t20,t31];refine ze ⟨rfl,_,_,⟨rfl,rfl⟩,.b hg89⟩
     refine za tok 4 ?_;simp only[go_sem,qf,qb,qa,qc,qe,qd,reduceIte,reduceCtorEq,zn,t20,t31];refine ze ⟨rfl,_,_,⟨rfl,rfl⟩,.b hg89⟩
   rintro _ _ ⟨rfl,rfl⟩;refine za tok 1 ?_;simp only[go_sem,qf,qb,qa,qc,qe,qd,reduceIte,reduceCtorEq,t20,t31];refine zm 4 (fun L τ=>L=[(0,.int .i64 a0),(5,.op 0 0 0),(7,.int .i64 (IntKind.i64.wrap (1+r21))),(8,.int .i64 x24),(15,.op 1 0 0),(98,.bool (((!r42.2.2.2.1)||(!(decide (r42.1=x24))))||(!(decide (r42.2.2.1=x40)))))]∧τ=[.cells 0 (encGClientClient r42.2.2.2.2),.cells 0 (cellsGTree r42.2.1)]) ?_ ?_
   · refine zZ (b:=((!r42.2.2.2.1)||(!(decide (r42.1=x24))))) 94 rfl (fun hg94=>?_) (fun hg94=>?_)
     · refine za tok 4 ?_;simp only[go_sem,qf,qb,qa,qc,qe,qd,reduceIte,reduceCtorEq,zn,t20,t31];refine ze ⟨rfl,_,_,⟨rfl,rfl⟩,.b hg94⟩
     refine za tok 4 ?_;simp only[go_sem,qf,qb,qa,qc,qe,qd,reduceIte,reduceCtorEq,zn,t20,t31];refine ze ⟨rfl,_,_,⟨rfl,rfl⟩,.b hg94⟩
   rintro _ _ ⟨rfl,rfl⟩;refine za tok 1 ?_;simp only[go_sem,qf,qb,qa,qc,qe,qd,reduceIte,reduceCtorEq,t20,t31];obtain⟨c43,hc43,h⟩:=bind_some h;refine zm 5 (fun L τ=>L=[(0,.int .i64 a0),(5,.op 0 0 0),(7,.int .i64 (IntKind.i64.wrap (1+r21))),(8,.int .i64 x24),(104,.bool c43)]∧τ=[.cells 0 (encGClientClient r42.2.2.2.2),.cells 0 (cellsGTree r42.2.1)]) ?_ ?_
   · refine zZ (b:=(((!r42.2.2.2.1)||(!(decide (r42.1=x24))))||(!(decide (r42.2.2.1=x40))))) 99 rfl (fun hg99=>?_) (fun hg99=>?_)
     · rw[if_pos hg99] at hc43;refine za tok 5 ?_;simp only[go_sem,qf,qb,qa,qc,qe,qd,reduceIte,reduceCtorEq,cellsGTree,zb,t20,t31];cases hc43;refine ze ⟨rfl,_,_,⟨rfl,rfl⟩,.b hg99⟩
     rw[xJ hg99] at hc43;obtain⟨r44,hr44,hc43⟩:=bind_some hc43;refine za tok 2 ?_;simp only[go_sem,qf,qb,qa,qc,qe,qd,reduceIte,reduceCtorEq,cellsGTree,zb,t20,t31];refine clN rfl rfl rfl (ACalls.loose (zY.ev yX r42.2.1 (⟨0,0,[],([]:List GEntry),([]:List GRaw)⟩:GTree) r44 hr44 _)) ?_;refine za tok 2 ?_;simp only[go_sem,qf,qb,qa,qc,qe,qd,reduceIte,reduceCtorEq,cellsGTree,zb,t20,t31];cases hc43;refine ze ⟨rfl,_,_,⟨rfl,rfl⟩,.b hg99⟩
   rintro _ _ ⟨rfl,rfl⟩;refine za tok 1 ?_;simp only[go_sem,qf,qb,qa,qc,qe,qd,reduceIte,reduceCtorEq,cellsGTree,zb,t20,t31];obtain⟨c45,hc45,h⟩:=zD h;refine zm 3 (fun L τ=>L=[(0,.int .i64 a0),(5,.op 0 0 0),(7,.int .i64 (IntKind.i64.wrap (1+r21))),(8,.int .i64 x24),(108,.bool c45)]∧τ=[.cells 0 (encGClientClient r42.2.2.2.2),.cells 0 (cellsGTree r42.2.1)]) ?_ ?_
   · refine zZ (b:=c43) 105 rfl (fun hg105=>?_) (fun hg105=>?_)
     · rw[if_pos hg105] at hc45;refine za tok 3 ?_;simp only[go_sem,qf,qb,qa,qc,qe,qd,reduceIte,reduceCtorEq,cellsGTree,zb,t20,t31];subst hc45;refine ze ⟨rfl,_,_,⟨rfl,rfl⟩,.b hg105⟩
     rw[xJ hg105] at hc45;obtain⟨r46,hr46,hc45⟩:=zD hc45;refine za tok 1 ?_;simp only[go_sem,qf,qb,qa,qc,qe,qd,reduceIte,reduceCtorEq,cellsGTree,zb,t20,t31];refine clN rfl rfl rfl (@id (ACalls qi 26 [.op 0 0 0] [.cells 0 (encGClientClient r42.2.2.2.2),.cells 0 (cellsGTree r42.2.1)] (fun r' σ'=>r'=.bool r46∧σ'=[.cells 0 (encGClientClient r42.2.2.2.2),.cells 0 (cellsGTree r42.2.1)])) ((xh.ok r42.2.2.2.2 r46 hr46).i [0])) ?_;refine za tok 1 ?_;simp only[go_sem,qf,qb,qa,qc,qe,qd,reduceIte,reduceCtorEq,cellsGTree,zb,t20,t31];subst hc45;refine ze ⟨rfl,_,_,⟨rfl,rfl⟩,.b hg105⟩
   rintro _ _ ⟨rfl,rfl⟩;refine nkN hK ?_;refine zq (b:=c45) rfl (fun hc47=>?_) (fun hc47=>?_)
   · rw[if_pos hc47] at h
     refine rg tok [4] fun K hK=>?_
     simp only[go_sem,qf,qb,qa,qc,qe,qd,reduceIte,reduceCtorEq,t20,t31];apply hK
     cases h;exact rtA
   rw[xJ hc47] at h;apply zf;apply hZ32
   refine rgE tok [0,5,7,8] fun K hK=>?_
   simp only[go_sem,qf,qb,qa,qc,qe,qd,reduceIte,reduceCtorEq,zn,t20,t31];apply hK
   exact⟨_,_,_,qD (0+k27),⟨k27,r42.2.2.2.2,IntKind.i64.wrap (x24+1),rfl,rfl,rfl,h⟩,(.t [0] false)⟩
 rw[if_neg hc30] at h;have t54:=eq_false hc30;apply zE;apply hZ22
 refine rc [19] fun K hK=>?_
 obtain⟨r55,hr55,h⟩:=bind_some h;refine za tok 2 ?_;simp only[go_sem,qf,qb,qa,qc,qe,qd,reduceIte,reduceCtorEq,t20,t54];refine clN rfl rfl rfl (ACalls.loose (@id (ACalls qi 18 [.op 0 0 0,.str [110,111,98,111,100,121],.agg [.int .i64 3,.int .i64 0,.str [],.ds true (qh encGEntry ([]:List GEntry)) (qg ([]:List GEntry)) false,.ds true (qh encGRaw ([]:List GRaw)) (qg ([]:List GRaw)) false]] [.cells 0 (encGClientClient m0_23)] (fun r' σ'=>r'=.tup [.agg (encGPacket r55.1),.int .i64 r55.2.1]∧σ'=[.cells 0 (encGClientClient r55.2.2)])) ((zy.ok m0_23 [110,111,98,111,100,121] (⟨3,0,[],([]:List GEntry),([]:List GRaw)⟩:GTree) r55 hr55).i [0]))) ?_;refine za tok 6 ?_;simp only[go_sem,qf,qb,qa,qc,qe,qd,reduceIte,reduceCtorEq,encGPacket,t20,t54];refine nkN hK ?_
 refine rc [4] fun K hK=>?_
 refine za tok 3 ?_;simp only[go_sem,qf,qb,qa,qc,qe,qd,reduceIte,reduceCtorEq,zn,t20,t54];obtain⟨c56,hc56,h⟩:=bind_some h;refine zm 2 (fun L τ=>L=[(119,.bool c56)]∧τ=[.cells 0 (encGClientClient r55.2.2),.cells 0 (encGPacket r55.1)]) ?_ ?_
 · refine yV 117 rfl (fun hg117=>?_) (fun hg117=>?_)
   · have t57:=eq_true hg117;rw[if_pos hg117] at hc56;obtain⟨r58,hr58,hc56⟩:=bind_some hc56;refine clN rfl rfl rfl (wm.ev  r58 hr58 _) ?_;refine za tok 1 ?_;simp only[go_sem,qf,qb,qa,qc,qe,qd,reduceIte,reduceCtorEq,t20,t54];cases hc56;refine ze ⟨rfl,_,_,⟨rfl,rfl⟩,.p t57⟩
   have t59:=eq_false hg117;rw[if_neg hg117] at hc56;refine za tok 2 ?_;simp only[go_sem,qf,qb,qa,qc,qe,qd,reduceIte,reduceCtorEq,t20,t54];cases hc56;refine ze ⟨rfl,_,_,⟨rfl,rfl⟩,.p t59⟩
 rintro _ _ ⟨rfl,rfl⟩;refine za tok 1 ?_;simp only[go_sem,qf,qb,qa,qc,qe,qd,reduceIte,reduceCtorEq,t20,t54];refine nkN hK ?_;cases h;exact rtA
end
section
set_option maxRecDepth 4000
open AM
theorem awakeP : wm=some true:=by decide +kernel
def cS : GSchema:=wo 2
def cT : GTree:=⟨3,0,[],[],[]⟩
def cZ : GTree:=⟨0,0,[],[],[]⟩
def pZ : GPacket:=⟨0,0,0,0,0,[],0,[]⟩
def cl (i w:Int)(m:List UInt8)(t:GTree)(sn:GPacket)(rs:Option GClientResult):GClientClient:=⟨1,0,[3],[cS],i,w,m,t,0,sn,rs⟩
def hel (i:Int):GPacket:=⟨1,1,0,i,0,[],0,[3]⟩
def cal (i:Int):GPacket:=⟨3,1,0,i,3,[99],0,[]⟩
theorem cNew : xf 1 0 [3] [cS]=some (some (cl 0 0 [] cZ pZ none),0):=by
 have h:xg 1 [3] [cS]=some true:=by decide +kernel
 unfold xf;rw[h]
 rfl
theorem cOwn (i w m t sn rs):yh (cl i w m t sn rs)=some cS:=rfl
theorem cMeth : yl cS [99]=(⟨[99],[109],[109]⟩,true):=by decide +kernel
theorem cNone : (yl cS [110,111,98,111,100,121]).2=false:=by decide +kernel
theorem cValid : wi cS [109] cT=some 0:=by decide +kernel
theorem cEnc : xw cT=some ([],0):=by decide +kernel
theorem cMake : yn cS cS [109] [109]=some (⟨[[⟨1,1,0⟩]]⟩,0):=by decide +kernel
def treeB (t:GTree):Bool:=match t with
 |⟨k,n,s,es,rs⟩=>decide (k=3)&&decide (n=0)&&decide (s=[])&&es.isEmpty&&rs.isEmpty
theorem treeB_eq {t:GTree}(h:treeB t=true):t=cT:=by
 obtain⟨k,n,s,es,rs⟩:=t;simp only[treeB,qO,decide_eq_true_eq,List.isEmpty_iff] at h;obtain⟨⟨⟨⟨rfl,rfl⟩,rfl⟩,rfl⟩,rfl⟩:=h
 rfl
theorem cRun : xQ ⟨[[⟨1,1,0⟩]]⟩ cT=some (cT,0):=by
 have h:(xQ ⟨[[⟨1,1,0⟩]]⟩ cT).any (fun r=>treeB r.1&&decide (r.2=0))=true:=by decide +kernel
 cases hr:xQ ⟨[[⟨1,1,0⟩]]⟩ cT with
 |none=>rw[hr] at h; cases h
 |some r=>
  rw[hr] at h;simp only[Option.any_some,qO,decide_eq_true_eq] at h;obtain⟨a,b⟩:=r;obtain⟨h1,h2⟩:=h;have e1:a=cT:=treeB_eq h1;have e2:b=0:=h2;rw[e1,e2]
theorem wrap1 {i:Int}(h0:0≤i)(h1:i<1000):IntKind.i64.wrap (i+1)=i+1:=by
 exact i64_in (by omega) (by omega)
theorem cCall {i:Int}(h0:0≤i)(h1:i<1000)(m t sn rs):zy (cl i 0 m t sn rs) [99] cT=some (hel (i+1),0,cl (i+1) 1 [99] cT (hel (i+1)) none):=by
 unfold zy;rw[cOwn,q3];simp only[bnd,cMeth,cValid,cEnc,q3,if_true];rw[if_pos (show (cl i 0 m t sn rs).fwaits=0 from rfl),if_neg (by decide)];simp only[cl,zy.l26];rw[wrap1 h0 h1]
 rfl
theorem cBusy (i w m t sn rs)(hw:w≠0):zy (cl i w m t sn rs) [99] cT=some (pZ,19,cl i w m t sn rs):=by
 unfold zy;rw[cOwn,q3];simp only[bnd];rw[if_neg (show ¬ (cl i w m t sn rs).fwaits=0 from hw)]
 rfl
theorem cNobody (i m t sn rs):zy (cl i 0 m t sn rs) [110,111,98,111,100,121] cT=some (pZ,21,cl i 0 m t sn rs):=by
 unfold zy;rw[cOwn,q3];simp only[bnd,cNone];rw[if_pos (show (cl i 0 m t sn rs).fwaits=0 from rfl),if_pos (by decide)]
 rfl
theorem cIn (i w sn rs):xI (cl i w [99] cT sn rs)=some ([],0):=by
 unfold xI;have h1:Yo (cl i w [99] cT sn rs).fschemas (cl i w [99] cT sn rs).fagreed=some cS:=rfl;have h2:(cl i w [99] cT sn rs).fmethod=[99]:=rfl;have h3:(cl i w [99] cT sn rs).ft=cT:=rfl;simp only[h1,h2,h3,cOwn,q3,bnd,cMeth,cMake,cRun,cEnc]
 rfl
theorem cAgreed (i sn rs):zk (cl i 1 [99] cT sn rs) ⟨2,0,1,i,3,[],0,[]⟩=some (cal i,true,cl i 2 [99] cT (cal i) rs):=by
 unfold zk;simp only[cl];rw[if_neg (by decide),if_pos trivial,if_pos trivial];unfold zk.j3
 dsimp only
 rw[if_neg (by simp),if_pos (by simp)];unfold zA
 dsimp only
 rw[if_neg (by decide)];simp only[zA.l10,if_true];have:=cIn i 1 sn rs;simp only[cl] at this;rw[this]
 rfl
theorem cNoVersion (i sn rs):zk (cl i 1 [99] cT sn rs) ⟨2,0,1,i,0,[],0,[]⟩=some (pZ,false,cl i 0 [99] cT sn (some ⟨i,cZ,18⟩)):=by
 unfold zk;simp only[cl];rw[if_neg (by decide),if_pos trivial,if_pos trivial];unfold zk.j3
 dsimp only
 rw[if_neg (by simp),if_pos (by simp)]
 rfl
theorem cError (i sn rs){k:Int}(hk:k≠0):zk (cl i 2 [99] cT sn rs) ⟨4,0,1,i,3,[],k,[]⟩=some (pZ,false,cl i 0 [99] cT sn (some ⟨i,cZ,k⟩)):=by
 unfold zk;simp only[cl];rw[if_neg (by decide),if_pos trivial,if_pos trivial];unfold zk.j3
 dsimp only
 rw[if_neg (by simp),if_neg (by simp),if_pos (by simp),if_pos (by simp)]
 show (zk.j12 _ _ (decide ((3:Int)=3)))=_
 unfold zk.j12;rw[if_pos (by decide),if_neg hk];unfold zW;rw[if_neg hk]
 rfl
end
section
set_option maxRecDepth 4000
open AM
theorem place_ok (a:Int){n:Int}(h0:0<n)(h1:n<1000):∃ k,yF a n=some k∧0≤k∧k<n:=by
 unfold yF;rw[show grd (n≠0)=some () from if_pos (by omega),q3];have hm:=Int.tmod_lt_of_pos a h0
 have hl : -n<a.tmod n:=by
  have:=Int.lt_tmod_of_pos a h0
  omega
 split
 · refine⟨a.tmod n+n,?_,by omega,by omega⟩
   show some (IntKind.i64.wrap _)=_
   rw[i64_in (by omega) (by omega)]
 exact⟨a.tmod n,rfl,by omega,by omega⟩
theorem sameZ : zY yX cZ cZ=some true:=by decide +kernel
theorem cerr_round {a0 kk:Int}(hk:0≤kk∧kk<255){i e:Int}{sn:GPacket}(rec_:GClientClient→Int→Option Bool)(hi:0≤i∧i<1000):
 law23_ClientErrors.j41 i rec_ (cl i 0 [99] cT sn (some ⟨i,cZ,e⟩)) e=rec_ (cl i 0 [99] cT sn (some ⟨i,cZ,e⟩)) (i+1):=by
 unfold law23_ClientErrors.j41;have hr:xy (cl i 0 [99] cT sn (some ⟨i,cZ,e⟩))=(i,cZ,e,true,cl i 0 [99] cT sn (some ⟨i,cZ,e⟩)):=rfl;have hw:xh (cl i 0 [99] cT sn (some ⟨i,cZ,e⟩))=false:=rfl;simp only[bnd,hr,hw,decide_true,qr,Bool.or_self];rw[if_neg (by simp)];rw[show zY yX cZ (⟨0,0,[],([]:List GEntry),([]:List GRaw)⟩:GTree)=some true from sameZ];simp only[q3,qr];rw[if_neg (by simp),wrap1 hi.1 hi.2]
theorem vav {a0 kk n:Int}(hn:yF a0 6=some n)(hn0:0≤n∧n<6)(hk:0≤kk∧kk<255):∀ (k:Nat) (i:Int) (m:List UInt8) (t:GTree) (sn:GPacket) (rs:Option GClientResult),0≤i→i≤n+1→n+2≤i+k→
 law23_ClientErrors.l27 a0 kk k (cl i 0 m t sn rs) (i+1)=some true
 |0,i,m,t,sn,rs,h0,h1,h2=>by omega
 |k+1,i,m,t,sn,rs,h0,h1,h2=>by
  rw[law23_ClientErrors.l27,hn,q3,i64_in (x:=1+n) (by omega) (by omega)]
  by_cases hc:i+1≤1+n
  · rw[if_pos hc];have e1:zy (cl i 0 m t sn rs) [99] (⟨3,0,[],([]:List GEntry),([]:List GRaw)⟩:GTree)=some (hel (i+1),0,cl (i+1) 1 [99] cT (hel (i+1)) none):=cCall h0 (by omega) _ _ _ _;have e2:zy (cl (i+1) 1 [99] cT (hel (i+1)) none) [99] (⟨3,0,[],([]:List GEntry),([]:List GRaw)⟩:GTree)=some (pZ,19,cl (i+1) 1 [99] cT (hel (i+1)) none):=cBusy _ _ _ _ _ _ (by decide);rw[e1,q3,e2,q3];rw[if_neg (by simp[hel])]
    split
    · rw[cNoVersion,q3];rw[cerr_round (a0:=a0) hk _ ⟨by omega,by omega⟩];exact vav hn hn0 hk k (i+1) _ _ _ _ (by omega) (by omega) (by omega)
    rw[cAgreed,q3,i64_in (x:=1+kk) (by omega) (by omega),cError _ _ _ (by omega),q3];rw[cerr_round (a0:=a0) hk _ ⟨by omega,by omega⟩];exact vav hn hn0 hk k (i+1) _ _ _ _ (by omega) (by omega) (by omega)
  rw[if_neg hc];have e1:zy (cl i 0 m t sn rs) [110,111,98,111,100,121] (⟨3,0,[],([]:List GEntry),([]:List GRaw)⟩:GTree)=some (pZ,21,cl i 0 m t sn rs):=cNobody _ _ _ _ _;rw[e1,q3,if_pos rfl,awakeP]
  rfl
theorem law23_ClientErrors_true (a b:Int):law23_ClientErrors a b=some true:=by
 unfold law23_ClientErrors;simp only[bnd];have h0:xf 1 0 [3] [wo 2]=some (some (cl 0 0 [] cZ pZ none),0):=cNew;rw[h0,q3]
 dsimp only
 rw[if_pos rfl];obtain⟨kk,hk,hk0,hk1⟩:=place_ok b (n:=255) (by decide) (by decide);obtain⟨n,hn,hn0,hn1⟩:=place_ok a (n:=6) (by decide) (by decide);rw[hk,q3];exact vav hn ⟨hn0,hn1⟩ ⟨hk0,hk1⟩ yX 0 _ _ _ _ (by decide) (by omega) (by have:(yX:Int)=1000000000000000000000:=rfl; omega)
end
section
open Go.ChangeShapes Go.WideShapes Go.ChangeAt Go.RowKit Go.Shelf Go.Lib AM
theorem own : ownKnob Tryz.prog.godebug=none:=by kernel_rfl
def listed : List (String×DataW Unit):=[("unicode/utf8.acceptRanges",Rows.laid_unicode_utf8_acceptRanges),("unicode/utf8.first",Rows.laid_unicode_utf8_first)]
noncomputable def laidWorld (os:Os):World:=
 let w0:=World.holding qi os ⟨#[],#[],[]⟩
 let put (h:Array Obj) (g:Nat) (cs:Array Value):Array Obj:=h.modify g fun
  |.cells _ t frozen=>.cells cs t frozen
  |o=>o
 let h1:=put w0.heap (utf8Ren.g 3) (Lib.firstTab.map fun z=>Value.int .u8 z).toArray
 let h2:=put h1 (utf8Ren.g 4) ((uw 16).flatMap fun i=>[Value.int .u8 (Lib.accLo i),Value.int .u8 (Lib.accHi i)]).toArray
 { w0 with heap:=h2 }
theorem laid_met (os:Os)(args:Array Value):laidMet qi listed ((laidWorld os).forCall (fun _ _=>0) ⟨#[],args,[]⟩).memory:=
 (LaidIn.of_run (l:=listed) [0,1] 8 (by kernel_rfl) (by kernel_rfl) (by kernel_rfl) (by kernel_rfl)).met
theorem laid_metH (os:Os)(args:Array Value):laidMetH qi listed ((laidWorld os).forCall (fun _ _=>0) ⟨#[],args,[]⟩).memory:=laid_met os args
theorem firstD : Rows.laid_unicode_utf8_first=Lib.firstData:=by kernel_rfl
theorem acceptD : (Rows.laid_unicode_utf8_acceptRanges:DataW Unit)=Lib.acceptData:=by kernel_rfl
theorem u8types : U8Types qi utf8Ren:=⟨Xa.t5,Xa.t119,Xa.t138,Xa.t139⟩
theorem glb_of_laid {W:World}(hL:laidMetH qi listed W):Glb W fun b=>b<W.heap.size:=by
 have h':laidMet qi listed W:=hL;have r1:=Lib.laidMet.reads h' (.tail _ (.head _));have r2:=Lib.laidMet.reads h' (.head _);rw[firstD] at r1;rw[acceptD] at r2;have ht:Lib.Utf8Tabs (utf8Ren.g 3) (utf8Ren.g 4) W:=utf8Tabs_of_readsT u8types ⟨by kernel_rfl,by kernel_rfl,by kernel_rfl,by kernel_rfl,by kernel_rfl,by kernel_rfl,by kernel_rfl⟩ r1 r2;obtain⟨t1,t2⟩:=ht
 have lt:∀ {g o:Nat} {v:Value},W.cell? ⟨g,o,none⟩=some v→g<W.heap.size:=by
  intro g o v h
  refine Nat.lt_of_not_le fun hle=>?_
  unfold World.cell? at h;rw[Array.getElem?_eq_none hle] at h;cases h
 refine⟨fun g vs hm=>?_,fun g vs hm i v hv=>?_⟩
 · rcases uk.1 hm with e|hm
   · cases e; exact lt (t1 0 (by decide))
   rcases uk.1 hm with e|hm
   · cases e; exact lt (t2 0 (by decide)).1
   cases hm
 rcases uk.1 hm with e|hm
 · cases e
   have hi:i<256:=by
    have:=(qR.1 hv).1; simpa using this
   rw[List.getElem?_map,List.getElem?_range hi] at hv;cases hv;exact t1 i hi
 rcases uk.1 hm with e|hm
 · cases e
   have hi:i<32:=by
    have:=(qR.1 hv).1; simpa using this
   rw[List.getElem?_map,List.getElem?_range hi] at hv;cases hv;have h1:=t2 (i / 2) (by omega)
   have:i % 2=0∨i % 2=1:=by omega
   rcases this with h|h
   · have e:2*(i / 2)=i:=by omega
     rw[e] at h1
     simp only[h,if_true]; exact h1.1
   have e:2*(i / 2)+1=i:=by omega
   rw[e] at h1
   simp only[h]; exact h1.2
 cases hm
end
section
namespace AM
open Go.RowKit Go.ChangeShapes Go.WideShapes Go.Deep
section
variable {H:Type} {enc:TypeId×Value→H} {P:Program} {w:World} {base:Nat} {spare:Nat→Bool} {held:Bool}
def OpensS (enc:TypeId×Value→H)(P:Program)(w:World)(base:Nat)(spare:Nat→Bool)(held:Bool)(N:Nat)(t:TypeId)(A:List AV→Prop):Prop:=
 ∀ n cs y,DataW.trod enc P w base spare held n t cs=some y→SizeOf.sizeOf y.1<N→(∀ x∈y.1.weights P t,x≤reachBytes)→∃ avs,avs.length=cs.length∧A avs∧∀ i,i<avs.length→VR (Env.start w) (gc avs i) (cs.getD i undef)
variable {N:Nat}
theorem OpensS.mono {t:TypeId}{A B:List AV→Prop}(h:OpensS enc P w base spare held N t A)(k:∀ l,A l→B l):OpensS enc P w base spare held N t B:=fun n cs y hy hN hs=>by
 obtain⟨avs,h1,h2,h3⟩:=h n cs y hy hN hs;exact⟨avs,h1,k _ h2,h3⟩
theorem Opens.sized {t:TypeId}{A:List AV→Prop}(h:Opens enc P w base spare held t A):OpensS enc P w base spare held N t A:=fun n cs y hy _ _=>h n cs y hy
theorem OpensS.agg {t:TypeId}{A:List AV→Prop}(h:∀ N,OpensS enc P w base spare held N t A){vs:Array Value}{d:DataW H}{p:List MemPlace}(hv:DataW.Trod enc P w base spare held t (.agg vs) d p)(hw:∀ x∈d.weights P t,x≤reachBytes):∃ l,A l∧VR (Env.start w) (.agg l) (.agg vs):=by
 obtain⟨n,hn⟩:=hv;obtain⟨avs,e1,e2,e3⟩:=h _ _ _ _ hn (qD _) hw;refine⟨avs,e2,.agg _ _ (by simpa [Value.cells] using e1.symm) fun i hi=>?_⟩;have:=e3 i hi
 simpa [Value.cells,qE,ul] using this
end
end AM
open AM
section
variable {H:Type} {enc:TypeId×Value→H} {w:World} {base:Nat} {spare:Nat→Bool} {held:Bool} {N:Nat}
end
end
end Go.Proofs.YtaahlckibpiphaaGreatDoor
