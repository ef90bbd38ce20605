/- Parts of the proof, cut down to what it needs. -/
import Derived.Shelf.Unicode.DecodeAny
import Derived.Below
import Derived.Tactics
import Derived.WalkKit
import Derived.Laws.AppendOwn
import Derived.Laws.Append
import Derived.Laws.StructEq
import Derived.ChangeKeysEq
import Derived.MapKept
import Derived.ChangeMaps4
import Derived.Orders
import Derived.OrdersIn
import Derived.TacticsIn
set_option linter.constructorNameAsVariable false
set_option linter.unusedSimpArgs false
set_option linter.unusedVariables false
namespace Go.Proofs.YtaahlckibpiphaaGreatDoor
open _root_.List renaming length → qa, flatMap → qb, length_append → qj, length_cons → qp, drop_zero → qq, map_nil → qr, map_append → qs, map_cons → qu, append_assoc → qA, length_nil → qB, getD_eq_getElem?_getD → qC, append_nil → qD, flatMap_cons → qE, nil_append → qG, flatMap_append → qH, cons_append → qI, mem_cons_of_mem → qL, flatMap_nil → qO, mem_cons_self → qP, getElem?_eq_some_iff → qQ, length_eq_zero_iff → qS, replicate → qV, range_zero → qW, getElem?_eq_getElem → qX, getElem?_append_left → qY, all_cons → qZ, mem_cons → q9, all_nil → ua, length_singleton → ub, getElem?_set_ne → ue, range_succ → ug, take_length → uk, length_map → ul, eq_nil_of_length_eq_zero → um, all_eq_true → un, getElem?_append_right → uo, take_of_length_le → uu, getElem?_set_self → uv, getElem?_eq_none → uw, take_append_drop → uA, mem_map → uH, mem_append → uI, range → uJ, set_cons_zero → uK, getElem?_cons_zero → uL, getElem?_cons_succ → uP, length_take → uR, mem_append_left → uT, length_drop → uU, set_cons_succ → uV, mem_append_right → uW, ext_getElem? → uX, nodup_cons → vg, drop_drop → vo, getElem?_map → vp
open _root_.Option renaming bind_some → qk, map_some → uN, getD_some → uO
open _root_.Nat renaming reduceEqDiff → qc, reduceLeDiff → qd, reduceAdd → qe, reduceMul → qf, reduceSub → qg, reduceLT → qh, zero_add → qn, le_refl → qx, add_zero → qF, lt_succ_self → qK, zero_le → qU, mul_le_mul_right → ud, lt_of_lt_of_le → ui, reduceMod → uj, add_assoc → ux, zero_mul → uy, le_trans → uB, sub_self → uQ, succ_mul → uY, sub_zero → uZ, add_mul → u6, le_of_not_lt → u7, lt_or_ge → ve
open _root_.Bool renaming not_false → qm, and_true → qo, or_true → qt, not_true → qv, and_false → qw, or_false → qz, and_eq_true → qJ, and_self → qN, false_eq_true → uf, true_and → uh, or_eq_true → ut, true_or → uC, false_or → uF, false_and → u0, not_eq_true' → u9
open _root_.Int renaming toNat → qT, toNat_natCast → uc
open _root_.BitVec renaming ofInt → qM, toNat → uz
open _root_.Array renaming length_toList → uq, getD_eq_getD_getElem? → uG, getElem?_eq_getElem → uM, getElem?_setIfInBounds_ne → uS, replicate → u5, getElem?_modify → vq
open _root_.UInt8 renaming ofNat → ur
open Result renaming andThen_ok → ql
open Sem renaming run_bind → qy, run_pure → qR
section
namespace AM
def tsizes : List Nat:=[1,1,1,1,1,1,1,4,4,1,1,1,1,2,2,1,1,1,1,1,1,1,1,1,1,1,1,1,1,1,4,4,1,1,1,1,5,5,1,2,2,1,8,8,1,1,1,1,1,1,1,1,1,1,1,1,1,1,1,1,3,3,1,1,1,1,1,1,1,1,1,1,1,1,2,2,1,17,17,1,1,1,1,1,1,1,1,1,1,1,1,1,1,1,8,8,1,11,11,1,1,1,1,1,1,12,12,1,1,1,1,10,10,1,1,1,1,1,1,1,1,22,22,2,2,5,5,1,3,3,1,1,1,1,1,1,7,7,4,4,1,2,2,2,2,1,1,1,1,1,1,1,1,27,27,1,1,1,1,1,1,1,10,10,1,1,1,1,1,8,1,1,1,1,1,1,1,1,1,1,1,1,1,1,1,1,1,1,1,1,1,1,1,1,1,1,1,1,1,1,1,1,1,1,1,1,1,1,4,4,1,1,1,1,1,15,15,1,1,1,1,3,3,1,1,1,1,1,1,1,1,1,1,1,1,1,1,1,1,1,1,10,10,1,2,2,1,3,3,1,1,1,1,1,1,1,1,1,1,1,6,1,1,1,1,1,1,2,2,1,1,10,10,1,1,1,1,1,1,1,1,1,1,1,1,1,1,1,1,1,1,1,1,1,1,1,1,2,2,1,1,1,1,1,1,1,1,1,1,1,1,2,2,1,1,1,1,1,1,2,2,1,1,1,1,2,2,2,2,1,1,1,1,1,1,1,1,1,1,1,1,1,1,1,1,1,1,1,1,1,1,1,1,1,1,1,1,1,1,1,256,2,2,32,1,4,4,0,0,0,1,1,1,1,1,1,1,11,11,1,1]
def tsize (t:TypeId):Nat:=tsizes.getD t 0
def globT : List (Nat×List Value):=[(0,(uJ 256).map fun c=>.int .u8 (Lib.firstT c)),(1,(uJ 32).map fun c=>.int .u8 (if c % 2=0 then Lib.accLo (c / 2) else Lib.accHi (c / 2)))]
def Glb (w:World)(st:Nat→Prop):Prop:=(∀ g vs,(g,vs)∈globT→st g)∧∀ g vs,(g,vs)∈globT→∀ i v,vs[i]?=some v→w.cell? ⟨g,i,none⟩=some v
theorem Glb.mono {w w':World}{st st':Nat→Prop}(h:Glb w st)(hs:∀ b,st b→st' b∧w'.heap[b]?=w.heap[b]?):Glb w' st':=by
 refine⟨fun g vs hm=>(hs g (h.1 g vs hm)).1,fun g vs hm i v hv=>?_⟩;have h1:=h.2 g vs hm i v hv;unfold World.cell? at h1 ⊢
 rw[(hs g (h.1 g vs hm)).2]; exact h1
theorem Glb.utf8 {w:World}{st:Nat→Prop}(h:Glb w st):Lib.Utf8Tabs 0 1 w:=by
 have h1:=h.2 _ _ (qP ..);have h2:=h.2 _ _ (qL _ (qP ..));refine⟨fun c hc=>h1 c _ ?_,fun i hi=>⟨h2 (2*i) _ ?_,h2 (2*i+1) _ ?_⟩⟩
 · simp[hc]
 · have h3:2*i<32:=by omega
   simp[h3]
 have h3:2*i+1<32:=by omega
 have h4:(2*i+1) % 2=1:=by omega
 have h5:(2*i+1) / 2=i:=by omega
 simp[h3,h4,h5]
end AM
end
section
namespace AM
open Go.RowKit
inductive AV where
 |u
 |bool (b:Bool)
 |int (k:IntKind) (n:Int)
 |str (s:List UInt8)
 |agg (cs:List AV)
 |tup (vs:List AV)
 |nilp
 |op (id ver off:Nat)
 |dp (cells:List AV) (off:Nat)
 |ds (nl:Bool) (cells:List AV) (len:Nat) (tight:Bool)
 |os (nl:Bool) (sz id ver off len:Nat) (tight:Bool)
 |mp (id:Nat)
 |nilm
 |fn (f:Fn) (first cap:List AV)
 |nilF
 |ifc (t:TypeId) (v:AV)
 |nilI
 |it (id:Nat)
 |gp (g:Nat)
 deriving Inhabited
def gc (cs:List AV)(i:Nat):AV:=cs.getD i .u
def AV.cells : AV→List AV
 |.agg cs=>cs
 |v=>[v]
def AV.one : AV→Bool
 |.u|.agg _|.tup _=>false
 |_=>true
structure Env where
 w:World
 st:Nat→Prop
 loc:Nat→Option (Nat×Option Nat)
 n:Nat
 base:Nat→Nat:=fun _=>0
def Row (w:World)(st:Nat→Prop)(b o m:Nat)(vs:Nat→Value):Prop:=
 m=0∨(st b∧∀ i,i<m→w.cell? ⟨b,o+i,none⟩=some (vs i))
def Env.ok (E:Env)(id ver:Nat):Prop:=id<E.n∧∀ v ob,E.loc id=some (v,ob)→ver≤v
inductive VR (E:Env):AV→Value→Prop
 |u (v:Value):VR E .u v
 |bool (b:Bool):VR E (.bool b) (.bool b)
 |int (k:IntKind) (n:Int):VR E (.int k n) (.int k n)
 |str (l:List UInt8) (s:ByteArray) (h:s.data.toList=l):VR E (.str l) (.string s)
 |agg (cs:List AV) (vs:Array Value) (hl:vs.size=cs.length) (h:∀ i,i<cs.length→VR E (gc cs i) (vs.getD i undef)):VR E (.agg cs) (.agg vs)
 |tup (cs:List AV) (vs:Array Value) (hl:vs.size=cs.length) (h:∀ i,i<cs.length→VR E (gc cs i) (vs.getD i undef)):VR E (.tup cs) (.tuple vs)
 |nilp:VR E .nilp (.pointer none)
 |op (id ver off:Nat) (a:Addr) (hk:E.ok id ver) (h:∀ b,E.loc id=some (ver,some b)→a=⟨b,E.base b+off,none⟩):VR E (.op id ver off) (.pointer (some a))
 |dp (cells:List AV) (off b o:Nat) (vs:Nat→Value) (hr:Row E.w E.st b o cells.length vs) (h:∀ i,i<cells.length→VR E (gc cells i) (vs i)):
  VR E (.dp cells off) (.pointer (some ⟨b,o+off,none⟩))
 |dsn (tight:Bool):VR E (.ds true [] 0 tight) (.slice none 0 0)
 |ds (nl:Bool) (cells:List AV) (len:Nat) (tight:Bool) (a:Addr) (cap:Nat) (vs:Nat→Value) (ha:cells=[]∨a.spot=none)
  (hr:Row E.w E.st a.block a.off cells.length vs) (h:∀ i,i<cells.length→VR E (gc cells i) (vs i)) (hc:len≤cap) (ht:tight=true→cap=len) (hB:len≤9223372036854775807):
  VR E (.ds nl cells len tight) (.slice (some a) len cap)
 |osn (sz id ver off:Nat) (tight:Bool) (a:Option Addr) (hk:E.ok id ver) (h:∀ ob,E.loc id=some (ver,ob)→ob=none):VR E (.os true sz id ver off 0 tight) (.slice a 0 0)
 |os (nl:Bool) (sz id ver off len:Nat) (tight:Bool) (a:Addr) (cap:Nat) (hk:E.ok id ver) (hc:len≤cap) (ht:tight=true→cap=len) (hB:len≤9223372036854775807)
  (h:∀ ob,E.loc id=some (ver,ob)→∃ b,ob=some b∧(cap=0∨a=⟨b,E.base b+off,none⟩)∧∃ t m,E.w.shape? b=some (t,m)∧tsize t=sz∧E.base b+off+cap*sz≤m):
  VR E (.os nl sz id ver off len tight) (.slice (some a) len cap)
 |mp (id b:Nat) (hk:E.ok id 0) (h:∀ ob,E.loc id=some (0,ob)→ob=some b):VR E (.mp id) (.map (some b))
 |nilm:VR E .nilm (.map none)
 |fn (f:Fn) (first cap:List AV) (vf vc:Array Value) (hf:vf.size=first.length) (hc:vc.size=cap.length)
  (h1:∀ i,i<first.length→VR E (gc first i) (vf.getD i undef)) (h2:∀ i,i<cap.length→VR E (gc cap i) (vc.getD i undef)):VR E (.fn f first cap) (.func f vf vc)
 |nilF:VR E .nilF .nilFunc
 |ifc (t:TypeId) (a:AV) (v:Value) (h:VR E a v):VR E (.ifc t a) (.iface t v)
 |nilI:VR E .nilI .nilIface
 |it (id b:Nat) (hk:E.ok id 0) (h:∀ ob,E.loc id=some (0,ob)→ob=some b):VR E (.it id) (.pointer (some ⟨b,0,none⟩))
 |gp (g:Nat):VR E (.gp g) (.pointer (some ⟨g,0,none⟩))
structure XU (k:Nat)(E E':Env):Prop where
 os:E'.w.os=E.w.os
 tape:E'.w.tape=E.w.tape
 output:E'.w.output=E.w.output
 size:E.w.heap.size≤E'.w.heap.size
 shape:∀ b m,E.w.shape? b=some m→E'.w.shape? b=some m
 st:∀ b,E.st b→E'.st b∧E'.w.heap[b]?=E.w.heap[b]?
 n:k≤E'.n
 loc:∀ id,id<k→∀ ver ob,E'.loc id=some (ver,ob)→∃ ver0 ob0,E.loc id=some (ver0,ob0)∧ver0≤ver∧(ver0=ver→ob0=ob)
 old:∀ b,b<E.w.heap.size→(∀ id v,E.loc id≠some (v,some b))→E'.w.heap[b]?=E.w.heap[b]?
 own:∀ id v b,E'.loc id=some (v,some b)→b<E.w.heap.size→∃ id' v',E.loc id'=some (v',some b)
 stn:∀ b,E'.st b→E.st b∨E.w.heap.size≤b∨∃ id v,E.loc id=some (v,some b)
 bas:∀ id,id<k→∀ ver b,E.loc id=some (ver,some b)→E'.loc id=some (ver,some b)→E'.base b=E.base b:=by intros; rfl
 basO:∀ b,b<E.w.heap.size→(∀ id v,E.loc id≠some (v,some b))→E'.base b=E.base b:=by intros; rfl
abbrev Ext (E E':Env):Prop:=XU E.n E E'
theorem XU.refl {k:Nat}(E:Env)(h:k≤E.n):XU k E E:=
 ⟨rfl,rfl,rfl,qx _,fun _ _ h=>h,fun _ h=>⟨h,rfl⟩,h,fun _ _ ver ob h=>⟨ver,ob,h,qx _,fun _=>rfl⟩,fun _ _ _=>rfl,fun id v _ h _=>⟨id,v,h⟩,fun _ h=>.inl h,fun _ _ _ _ _ _=>rfl,fun _ _ _=>rfl⟩
theorem Ext.refl (E:Env):Ext E E:=XU.refl E (qx _)
theorem XU.mono {k k':Nat}{A B:Env}(h:XU k A B)(hk:k'≤k):XU k' A B:=
 { h with n:=uB hk h.n,loc:=fun id hid=>h.loc id (ui hid hk),bas:=fun id hid=>h.bas id (ui hid hk) }
theorem XU.trans {k:Nat}{A B C:Env}(h:XU k A B)(k':XU k B C):XU k A C where
 os:=k'.os.trans h.os
 tape:=k'.tape.trans h.tape
 output:=k'.output.trans h.output
 size:=uB h.size k'.size
 shape:=fun b m hm=>k'.shape b m (h.shape b m hm)
 st:=fun b hb=>⟨(k'.st b (h.st b hb).1).1,(k'.st b (h.st b hb).1).2.trans (h.st b hb).2⟩
 n:=k'.n
 loc:=fun id hid ver ob hl=>by
  obtain⟨v1,o1,h1,l1,e1⟩:=k'.loc id hid ver ob hl;obtain⟨v0,o0,h0,l0,e0⟩:=h.loc id hid v1 o1 h1;refine⟨v0,o0,h0,uB l0 l1,fun he=>?_⟩
  have:v0=v1:=by omega
  rw[e0 this,e1 (by omega)]
 old:=fun b hb hn=>by
  rw[k'.old b (ui hb h.size) fun id v hl=>by
   obtain⟨id',v',h'⟩:=h.own id v b hl hb
   exact hn id' v' h']
  exact h.old b hb hn
 own:=fun id v b hl hb=>by
  obtain⟨id',v',h'⟩:=k'.own id v b hl (ui hb h.size);exact h.own id' v' b h' hb
 stn:=fun b hb=>by
  rcases k'.stn b hb with h1|h1|⟨id,v,h1⟩
  · exact h.stn b h1
  · exact .inr (.inl (uB h.size h1))
  by_cases hlt:b<A.w.heap.size
  · exact .inr (.inr (h.own id v b h1 hlt))
  exact .inr (.inl (u7 hlt))
 bas:=fun id hid ver b hA hC=>by
  obtain⟨v1,o1,h1,l1,e1⟩:=k'.loc id hid ver (some b) hC;obtain⟨v0,o0,h0,l0,e0⟩:=h.loc id hid v1 o1 h1;rw[hA] at h0;cases h0
  have hv:v1=ver:=by omega
  subst hv;rw[e1 rfl] at h1;rw[k'.bas id hid v1 b h1 hC,h.bas id hid v1 b hA h1]
 basO:=fun b hb hn=>by
  rw[k'.basO b (ui hb h.size) fun id v hl=>by
   obtain⟨id',v',h'⟩:=h.own id v b hl hb
   exact hn id' v' h']
  exact h.basO b hb hn
theorem Ext.trans {A B C:Env}(h:Ext A B)(k:Ext B C):Ext A C:=XU.trans h (k.mono h.n)
theorem cell_of_heap {w w':World}{b o:Nat}(h:w'.heap[b]?=w.heap[b]?):w'.cell? ⟨b,o,none⟩=w.cell? ⟨b,o,none⟩:=by
 simp only[World.cell?,h]
structure ExtV (E E':Env):Prop where
 shape:∀ b m,E.w.shape? b=some m→E'.w.shape? b=some m
 st:∀ b,E.st b→E'.st b∧E'.w.heap[b]?=E.w.heap[b]?
 n:E.n≤E'.n
 loc:∀ id,id<E.n→∀ ver ob,E'.loc id=some (ver,ob)→∃ ver0 ob0,E.loc id=some (ver0,ob0)∧ver0≤ver∧(ver0=ver→ob0=ob)
 bas:∀ id,id<E.n→∀ ver b,E.loc id=some (ver,some b)→E'.loc id=some (ver,some b)→E'.base b=E.base b:=by intros; rfl
theorem Ext.toV {E E':Env}(h:Ext E E'):ExtV E E':=⟨h.shape,h.st,h.n,h.loc,h.bas⟩
theorem Row.extV {E E':Env}(hx:ExtV E E'){b o m:Nat}{vs:Nat→Value}(h:Row E.w E.st b o m vs):Row E'.w E'.st b o m vs:=by
 rcases h with h|⟨hs,hc⟩
 · exact .inl h
 exact .inr ⟨(hx.st b hs).1,fun i hi=>(cell_of_heap (hx.st b hs).2).trans (hc i hi)⟩
theorem Env.ok.extV {E E':Env}(hx:ExtV E E'){id ver:Nat}(h:E.ok id ver):E'.ok id ver:=
 ⟨ui h.1 hx.n,fun v ob hl=>by
  obtain⟨v0,o0,h0,l0,_⟩:=hx.loc id h.1 v ob hl
  exact uB (h.2 v0 o0 h0) l0⟩
theorem ExtV.back {E E':Env}(hx:ExtV E E'){id ver:Nat}(hk:E.ok id ver){ob:Option Nat}(h:E'.loc id=some (ver,ob)):E.loc id=some (ver,ob):=by
 obtain⟨v0,o0,h0,l0,e0⟩:=hx.loc id hk.1 ver ob h;have:ver≤v0:=hk.2 v0 o0 h0
 have hv:v0=ver:=by omega
 subst hv;rw[h0,e0 rfl]
theorem VR.extV {E E':Env}(hx:ExtV E E'){a:AV}{v:Value}(h:VR E a v):VR E' a v:=by
 induction h with
 |u v=>exact .u v
 |bool b=>exact .bool b
 |int k n=>exact .int k n
 |str l s h=>exact .str l s h
 |agg cs vs hl _ ih=>exact .agg cs vs hl ih
 |tup cs vs hl _ ih=>exact .tup cs vs hl ih
 |nilp=>exact .nilp
 |op id ver off a hk h=>exact .op id ver off a (hk.extV hx) fun b hb=>by rw[hx.bas id hk.1 ver b (hx.back hk hb) hb]; exact h b (hx.back hk hb)
 |dp cells off b o vs hr _ ih=>exact .dp cells off b o vs (hr.extV hx) ih
 |dsn t=>exact .dsn t
 |ds nl cells len t a cap vs ha hr _ hc ht hB ih=>exact .ds nl cells len t a cap vs ha (hr.extV hx) ih hc ht hB
 |osn sz id ver off t a hk h=>exact .osn sz id ver off t a (hk.extV hx) fun ob hb=>h ob (hx.back hk hb)
 |os nl sz id ver off len t a cap hk hc ht hB h=>
  refine .os nl sz id ver off len t a cap (hk.extV hx) hc ht hB fun ob hb=>?_
  obtain⟨b,e1,e2,t',m,hs,hm⟩:=h ob (hx.back hk hb);subst e1;have e:=hx.bas id hk.1 ver b (hx.back hk hb) hb;exact⟨b,rfl,by rw[e]; exact e2,t',m,hx.shape _ _ hs,by rw[e]; exact hm⟩
 |mp id b hk h=>exact .mp id b (hk.extV hx) fun ob hb=>h ob (hx.back hk hb)
 |nilm=>exact .nilm
 |fn f first cap vf vc hf hc _ _ i1 i2=>exact .fn f first cap vf vc hf hc i1 i2
 |nilF=>exact .nilF
 |ifc t a v _ ih=>exact .ifc t a v ih
 |nilI=>exact .nilI
 |it id b hk h=>exact .it id b (hk.extV hx) fun ob hb=>h ob (hx.back hk hb)
 |gp g=>exact .gp g
theorem Row.ext {E E':Env}(hx:Ext E E'){b o m:Nat}{vs:Nat→Value}(h:Row E.w E.st b o m vs):Row E'.w E'.st b o m vs:=h.extV hx.toV
theorem Env.ok.ext {E E':Env}(hx:Ext E E'){id ver:Nat}(h:E.ok id ver):E'.ok id ver:=h.extV hx.toV
theorem Ext.back {E E':Env}(hx:Ext E E'){id ver:Nat}(hk:E.ok id ver){ob:Option Nat}(h:E'.loc id=some (ver,ob)):E.loc id=some (ver,ob):=hx.toV.back hk h
theorem VR.ext {E E':Env}(hx:Ext E E'){a:AV}{v:Value}(h:VR E a v):VR E' a v:=h.extV hx.toV
inductive Yq where
 |cells (ver:Nat) (cs:List AV)
 |map (es:List (AV×AV)) (gh:Option (List Nat×Nat):=none)
 |iter (s:List UInt8) (pos:Nat)
 |loop (l:Nat) (r:Loop) (tm:List AV)
 |mark (b:Nat)
 |dead
 deriving Inhabited
abbrev ze := List Yq
structure Blk (E:Env)(b:Nat)(cs:List AV):Prop where
 blk:∃ conc t fr,E.w.heap[b]?=some (.cells conc t fr)∧(fr.1=fr.2∨(conc.size≤fr.1∧tsize t=1))∧E.base b+cs.length≤conc.size∧∀ i,i<cs.length→VR E (gc cs i) (conc.getD (E.base b+i) undef)
def ObjR (E:Env)(id:Nat):Option Yq→Prop
 |some (.cells ver cs)=>(∃ b,E.loc id=some (ver,some b)∧Blk E b cs)∨(cs=[]∧E.loc id=some (ver,none))
 |some (.map es gh)=>∃ b ents clock,E.loc id=some (0,some b)∧E.w.heap[b]?=some (.map ents clock)∧ents.size=es.length∧
  (∀ i (h:i<es.length) (h':i<ents.size),VR E es[i].1 ents[i].key∧VR E es[i].2 ents[i].val)∧∀ g,gh=some g→ents.toList.map MapEntry.born=g.1∧clock=g.2
 |some (.iter s pos)=>∃ b,E.loc id=some (0,some b)∧E.w.heap[b]?=some (.stringIter ⟨s.toArray⟩ pos)
 |some (.loop l r tm)=>E.loc id=some (0,some l)∧E.w.heap[l]?=some (.loop r)∧r.tmps.size=tm.length∧∀ i,i<tm.length→VR E (gc tm i) (r.tmps.getD i undef)
 |some (.mark b)=>E.loc id=some (0,some b)∧E.w.heap[b]?=some (.deferred (some []))
 |some .dead=>E.loc id=none
 |none=>E.loc id=none
structure SR (E:Env)(σ:ze):Prop where
 len:σ.length=E.n
 obj:∀ id,ObjR E id σ[id]?
 inj:∀ id id' v v' b,E.loc id=some (v,some b)→E.loc id'=some (v',some b)→id=id'
 blk:∀ id v b,E.loc id=some (v,some b)→b<E.w.heap.size∧¬ E.st b
 stb:∀ b,E.st b→b<E.w.heap.size
 glb:Glb E.w E.st
 bas:∀ b,E.w.heap.size≤b→E.base b=0
theorem SR.out {E E':Env}{σ:ze}(hS:SR E σ){id:Nat}(h:¬ id<E.n)(hl:E'.loc id=E.loc id):ObjR E' id σ[id]?:=by
 have h0:=hS.obj id;rw[uw (by have:=hS.len; omega)] at h0 ⊢;exact hl.trans h0
theorem VR.getRow {E:Env}{cells:List AV}{b o:Nat}{vs:Nat→Value}(h:∀ i,i<cells.length→VR E (gc cells i) (vs i))(hr:Row E.w E.st b o cells.length vs)(i:Nat)(hi:i<cells.length):
 ∃ v,E.w.cell? ⟨b,o+i,none⟩=some v∧VR E (gc cells i) v:=by
 rcases hr with hr|⟨_,hc⟩
 · omega
 exact⟨vs i,hc i hi,h i hi⟩
theorem Blk.zero {E:Env}{b:Nat}{cs:List AV}{conc:Array Value}{t:TypeId}(hz:E.base b=0)(h:E.w.heap[b]?=some (.cells conc t (0,0)))(hl:cs.length≤conc.size)(hv:∀ i,i<cs.length→VR E (gc cs i) (conc.getD i undef)):Blk E b cs:=
 ⟨conc,t,(0,0),h,by simp,by rw[hz]; omega,fun i hi=>by rw[hz,qn]; exact hv i hi⟩
theorem Blk.cell {E:Env}{b:Nat}{cs:List AV}(h:Blk E b cs)(i:Nat)(hi:i<cs.length):∃ v,E.w.cell? ⟨b,E.base b+i,none⟩=some v∧VR E (gc cs i) v:=by
 obtain⟨conc,t,fr,hb,_,hl,hv⟩:=h.blk;refine⟨conc.getD (E.base b+i) undef,?_,hv i hi⟩;simp only[World.cell?,hb,Option.isSome_none,uf,if_false]
 simp[uM (show E.base b+i<conc.size by omega)]
theorem Blk.frozen {E:Env}{b:Nat}{cs:List AV}(h:Blk E b cs)(i:Nat)(hi:i<cs.length):E.w.frozen? ⟨b,E.base b+i,none⟩=false:=by
 obtain⟨conc,t,fr,hb,hf,hl,hv⟩:=h.blk;obtain⟨lo,hi'⟩:=fr;simp only[World.frozen?,hb];simp only[Bool.and_eq_false_iff,decide_eq_false_iff_not];simp only at hf
 omega
end AM
end
section
namespace AM
open Go.RowKit
structure TI where
 desc:TypeDesc
 size:Nat
 bytes:Nat
 zero:AV
 cmp:Bool
def TypeDesc.isAgg : TypeDesc→Bool
 |.struct _|.array _ _=>true
 |_=>false
def TI.agg (t:TI):Bool:=TypeDesc.isAgg t.desc
abbrev TT := TypeId→Option TI
structure TI.OK (P:Program)(t:TypeId)(i:TI):Prop where
 desc:P.underlying t=some i.desc
 info:∃ f,P.info? t=some f∧f.size=i.size∧f.bytes=i.bytes∧∃ z,f.zero=some z∧z.cells.size=i.size∧∀ E,VR E i.zero z
 cmp:i.cmp=true→P.stoodInHeld t=false∧P.eqGuardType P.depth t=false
 ts:tsize t=i.size
def TOK (P:Program)(T:TT):Prop:=∀ t i,T t=some i→TI.OK P t i
def AllOK (P:Program):Nat→List (Option TI)→Prop
 |_,[]=>True
 |k,none::l=>AllOK P (k+1) l
 |k,some i::l=>TI.OK P k i∧AllOK P (k+1) l
theorem allOK_get {P:Program}:∀ {l:List (Option TI)} {k:Nat},AllOK P k l→∀ j i,(l[j]?).getD none=some i→TI.OK P (k+j) i:=by
 intro l
 induction l with
 |nil=>intro k _ j i h; simp at h
 |cons x l ih=>
  intro k h j i hj
  cases x with
  |none=>
   cases j with
   |zero=>simp at hj
   |succ j=>have:=ih h j i (by simpa using hj); rwa [show k+(j+1)=k+1+j by omega]
  |some y=>
   cases j with
   |zero=>simp at hj; subst hj; exact h.1
   |succ j=>have:=ih h.2 j i (by simpa using hj); rwa [show k+(j+1)=k+1+j by omega]
theorem tok_of {P:Program}{l:List (Option TI)}(h:AllOK P 0 l):TOK P fun t=>(l[t]?).getD none:=fun t i ht=>by
 have:=allOK_get h t i ht
 rwa [qn] at this
section
variable {P:Program} {T:TT} {t:TypeId} {i:TI} (w:World)
theorem yk (h:TI.OK P t i):(underlying t).run P w=.ok i.desc w:=by
 simp[underlying,h.desc]
theorem wF (h:TI.OK P t i):(sizeOf t).run P w=.ok i.size w:=by
 obtain⟨f,hf,hs,_⟩:=h.info
 simp[sizeOf,typeInfo,hf,hs]
theorem vdn (h:TI.OK P t i):∃ f,(typeInfo t).run P w=.ok f w∧f.bytes=i.bytes∧f.size=i.size:=by
 obtain⟨f,hf,hs,hb,_⟩:=h.info;exact⟨f,by simp[typeInfo,hf],hb,hs⟩
theorem YW (h:TI.OK P t i):∃ z,(zeroValue t).run P w=.ok z w∧z.cells.size=i.size∧∀ E,VR E i.zero z:=by
 obtain⟨f,hf,hs,hb,z,hz,hzs,hv⟩:=h.info;exact⟨z,by simp[zeroValue,typeInfo,hf,hz],hzs,hv⟩
theorem run_agg (h:TI.OK P t i):(isAgg t).run P w=.ok i.agg w:=by
 simp only[isAgg,qy,yk w h,ql,TI.agg]
 cases i.desc<;>rfl
end
def constCell : Value→AV
 |.bool b=>.bool b
 |.int k n=>.int k n
 |.string s=>.str s.data.toList
 |.pointer none=>.nilp
 |.slice none l c=>if l=0∧c=0 then .ds true [] 0 true else .u
 |.map none=>.nilm
 |.nilFunc=>.nilF
 |.nilIface=>.nilI
 |.func fn a b=>if a.size=0∧b.size=0 then .fn fn [] [] else .u
 |_=>.u
def constAV : Value→AV
 |.agg cs=>.agg (cs.toList.map constCell)
 |.iface t v=>.ifc t (constCell v)
 |.tuple vs=>if vs.size=0 then .tup [] else .u
 |v=>constCell v
theorem VR.constCell (E:Env)(v:Value):VR E (constCell v) v:=by
 cases v with
 |bool b=>exact .bool _
 |int k n=>exact .int _ _
 |string s=>exact .str _ _ rfl
 |pointer a=>cases a with
  |none=>exact .nilp
  |some a=>exact .u _
 |slice a l c=>cases a with
  |none=>
   show VR E (if l=0∧c=0 then .ds true [] 0 true else .u) _
   split
   · rename_i h; obtain⟨rfl,rfl⟩:=h; exact .dsn _
   exact .u _
  |some a=>exact .u _
 |map r=>cases r with
  |none=>exact .nilm
  |some r=>exact .u _
 |nilFunc=>exact .nilF
 |nilIface=>exact .nilI
 |func fn a b=>
  show VR E (if a.size=0∧b.size=0 then .fn fn [] [] else .u) _
  split
  · rename_i h
    exact .fn fn [] [] a b h.1 h.2 (fun i h=>absurd h (by simp)) (fun i h=>absurd h (by simp))
  exact .u _
 |_=>exact .u _
theorem gc_map {α:Type}(f:α→AV)(l:List α)(i:Nat)(h:i<l.length):gc (l.map f) i=f l[i]:=by
 simp[gc,h]
theorem VR.constAV_of (E:Env){v:Value}(h:AM.constAV v=AM.constCell v):VR E (AM.constAV v) v:=by
 rw[h]; exact VR.constCell E v
theorem VR.constAV (E:Env)(v:Value):VR E (constAV v) v:=by
 cases v with
 |agg cs=>
  refine .agg _ _ (by simp) fun i hi=>?_
  have hi':i<cs.toList.length:=by simpa using hi
  rw[gc_map _ _ _ hi']
  have:cs.getD i undef=cs.toList[i]:=by simp[show i<cs.size by simpa using hi']
  rw[this];exact VR.constCell E _
 |iface t v=>exact .ifc _ _ _ (VR.constCell E _)
 |tuple vs=>
  show VR E (if vs.size=0 then .tup [] else .u) _
  split
  · rename_i h; exact .tup [] vs h (fun i h=>absurd h (by simp))
  exact .u _
 |_=>exact VR.constAV_of E rfl
def evInt (op:BinOp)(k:IntKind)(a b:Int):Option AV:=
 match op with
 |.add=>some (.int k (k.wrap (a+b)))
 |.sub=>some (.int k (k.wrap (a-b)))
 |.mul=>some (.int k (k.wrap (a*b)))
 |.quo=>if b=0 then none else some (.int k (k.wrap (a.tdiv b)))
 |.rem=>if b=0 then none else some (.int k (a.tmod b))
 |.and=>some (.int k (k.wrap (qM k.bits a &&& qM k.bits b).toNat))
 |.or=>some (.int k (k.wrap (qM k.bits a ||| qM k.bits b).toNat))
 |.xor=>some (.int k (k.wrap (qM k.bits a ^^^ qM k.bits b).toNat))
 |.andNot=>some (.int k (k.wrap (qM k.bits a &&& ~~~ qM k.bits b).toNat))
 |.eql=>some (.bool (decide (a=b)))
 |.neq=>some (.bool (!decide (a=b)))
 |.lss=>some (.bool (decide (a<b)))
 |.leq=>some (.bool (decide (a≤b)))
 |.gtr=>some (.bool (decide (b<a)))
 |.geq=>some (.bool (decide (b≤a)))
 |_=>none
def lessB : List UInt8→List UInt8→Bool:=Op.bytesLess
def evStr (op:BinOp)(a b:List UInt8):Option AV:=
 match op with
 |.add=>if a.length+b.length<9223372036854775808 then some (.str (a++b)) else none
 |.eql=>some (.bool (decide (a=b)))
 |.neq=>some (.bool (!decide (a=b)))
 |.lss=>some (.bool (lessB a b))
 |.leq=>some (.bool (lessB a b||decide (a=b)))
 |.gtr=>some (.bool (!(lessB a b||decide (a=b))))
 |.geq=>some (.bool (!lessB a b))
 |_=>none
def Zp (d:TypeDesc)(x y:AV):Option Bool:=
 match d,x,y with
 |.bool,.bool a,.bool b=>some (a==b)
 |.pointer _,.nilp,.nilp=>some true
 |.pointer _,.nilp,.op ..=>some false
 |.pointer _,.op ..,.nilp=>some false
 |.pointer _,.nilp,.dp ..=>some false
 |.pointer _,.dp ..,.nilp=>some false
 |.map _ _,.nilm,.nilm=>some true
 |.map _ _,.mp _,.nilm=>some false
 |.func _ _ _,.nilF,.nilF=>some true
 |.func _ _ _,.fn _ _ _,.nilF=>some false
 |.interface _,.ifc _ _,.nilI=>some false
 |_,_,_=>none
def vag (op:BinOp)(k:IntKind)(a b:Int):Option AV:=
 if b<0 then none else
 match op with
 |.shl=>some (.int k (k.wrap (a*2^(min b.toNat k.bits))))
 |.shr=>some (.int k (a.fdiv (2^(min b.toNat k.bits))))
 |_=>none
def evBin (T:TT)(op:BinOp)(xt:TypeId)(x y:AV):Option AV:=
 match x,y with
 |.int k a,.int k' b=>
  match op with
  |.shl=>vag .shl k a b
  |.shr=>vag .shr k a b
  |op=>if k=k' then evInt op k a b else none
 |.str a,.str b=>evStr op a b
 |x,y=>
  match op with
  |.eql=>match T xt with
   |some i=>(Zp i.desc x y).map AV.bool
   |none=>none
  |.neq=>match T xt with
   |some i=>(Zp i.desc x y).map fun b=>AV.bool !b
   |none=>none
  |_=>none
theorem beq_dec (a b:Int):(a==b)=decide (a=b):=by
 by_cases h:a=b<;>simp[h]
theorem run_evInt {P:Program}{w:World}{op:BinOp}{k:IntKind}{a b:Int}{r:AV}(h:evInt op k a b=some r):
 ∃ v,(Go.binOp op 0 (.int k a) (.int k b)).run P w=.ok v w∧∀ E,VR E r v:=by
 cases op<;>simp only[evInt,reduceCtorEq,Option.some.injEq] at h
 case quo=>
  split at h
  · cases h
  rename_i hb
  cases h;exact⟨.int k (k.wrap (a.tdiv b)),by simp[Go.binOp,Op.intDiv,hb],fun _=>.int _ _⟩
 case rem=>
  split at h
  · cases h
  rename_i hb
  cases h;exact⟨.int k (a.tmod b),by simp[Go.binOp,Op.intDiv,hb],fun _=>.int _ _⟩
 all_goals subst h
 case add=>exact⟨.int k (k.wrap (a+b)),by simp[Go.binOp,Op.intArith],fun _=>.int _ _⟩
 case sub=>exact⟨.int k (k.wrap (a-b)),by simp[Go.binOp,Op.intArith],fun _=>.int _ _⟩
 case mul=>exact⟨.int k (k.wrap (a*b)),by simp[Go.binOp,Op.intArith],fun _=>.int _ _⟩
 case and=>exact⟨.int k (k.wrap (qM k.bits a &&& qM k.bits b).toNat),by simp[Go.binOp,Op.intBits],fun _=>.int _ _⟩
 case or=>exact⟨.int k (k.wrap (qM k.bits a ||| qM k.bits b).toNat),by simp[Go.binOp,Op.intBits],fun _=>.int _ _⟩
 case xor=>exact⟨.int k (k.wrap (qM k.bits a ^^^ qM k.bits b).toNat),by simp[Go.binOp,Op.intBits],fun _=>.int _ _⟩
 case andNot=>exact⟨.int k (k.wrap (qM k.bits a &&& ~~~qM k.bits b).toNat),by simp[Go.binOp,Op.intBits],fun _=>.int _ _⟩
 case eql=>exact⟨.bool (a==b),by simp[Go.binOp,Op.intCmp],fun _=>by rw[beq_dec]; exact .bool _⟩
 case neq=>exact⟨.bool (a != b),by simp[Go.binOp,Op.intCmp],fun _=>by rw[bne,beq_dec]; exact .bool _⟩
 case lss=>exact⟨.bool (decide (a<b)),by simp[Go.binOp,Op.intCmp],fun _=>.bool _⟩
 case leq=>exact⟨.bool (decide (a≤b)),by simp[Go.binOp,Op.intCmp],fun _=>.bool _⟩
 case gtr=>exact⟨.bool (decide (a>b)),by simp[Go.binOp,Op.intCmp],fun _=>.bool _⟩
 case geq=>exact⟨.bool (decide (a≥b)),by simp[Go.binOp,Op.intCmp],fun _=>.bool _⟩
theorem binOp_type_int (op:BinOp)(t t':TypeId)(k k':IntKind)(a b:Int):Go.binOp op t (.int k a) (.int k' b)=Go.binOp op t' (.int k a) (.int k' b):=by
 cases op<;>rfl
theorem binOp_type_str (op:BinOp)(t t':TypeId)(a b:ByteArray):Go.binOp op t (.string a) (.string b)=Go.binOp op t' (.string a) (.string b):=by
 cases op<;>rfl
theorem vc0 (s:ByteArray):∀ (n i:Nat) (r:List UInt8),s.size-i=n→ByteArray.toList.loop s i r=r.reverse++s.data.toList.drop i:=by
 intro n
 induction n with
 |zero=>
  intro i r h
  unfold ByteArray.toList.loop
  have:¬ i<s.size:=by omega
  rw[if_neg this,List.drop_eq_nil_of_le (by rw[uq]; exact u7 this)]
  simp
 |succ n ih=>
  intro i r h
  unfold ByteArray.toList.loop
  have hi:i<s.size:=by omega
  rw[if_pos hi,ih (i+1) _ (by omega)]
  have hi':i<s.data.toList.length:=by rw[uq]; exact hi
  rw[List.drop_eq_getElem_cons hi',List.reverse_cons,qA]
  congr 1
  simp only[List.singleton_append,List.cons.injEq,and_true];have hd:i<s.data.size:=hi
  show s.data[i]! = _
  rw[getElem!_pos s.data i hd]; simp
theorem Ya (s:ByteArray):s.toList=s.data.toList:=by
 have:=vc0 s _ 0 [] rfl
 simpa [ByteArray.toList] using this
theorem run_evStr {P:Program}{w:World}{op:BinOp}{a b:ByteArray}{r:AV}(h:evStr op a.data.toList b.data.toList=some r):
 ∃ v,(Go.binOp op 0 (.string a) (.string b)).run P w=.ok v w∧∀ E,VR E r v:=by
 have heq:(a.toList==b.toList)=decide (a.data.toList=b.data.toList):=by
  rw[Ya,Ya]
  by_cases h:a.data.toList=b.data.toList
  · rw[h]; simp
  rw[decide_eq_false h]; exact beq_eq_false_iff_ne.2 h
 have hlt:Op.bytesLess a.toList b.toList=lessB a.data.toList b.data.toList:=by rw[Ya,Ya]; rfl
 cases op<;>simp only[evStr,reduceCtorEq,Option.some.injEq] at h
 case add=>
  split at h
  · rename_i hl
    cases h;refine⟨.string (a++b),?_,fun _=>.str _ _ (by simp)⟩
    have hsz:a.data.toList.length+b.data.toList.length=a.size+b.size:=by rw[uq,uq]; rfl
    have hm:(IntKind.i64.max:Int)=9223372036854775807:=by decide
    have:¬ (((a.size+b.size:Nat):Int)>IntKind.i64.max):=by rw[hm]; omega
    simp only[Go.binOp,Op.stringOp]
    rw[if_neg this]; rfl
  cases h
 all_goals subst h
 all_goals refine⟨_,by simp only[Go.binOp,Op.stringOp]; rfl,fun E=>?_⟩
 all_goals simp only[heq,hlt]
 all_goals exact .bool _
theorem run_evEq_in {P:Program}{E:Env}{t:TypeId}{i:TI}(hT:TI.OK P t i){x y:AV}{vx vy:Value}(hx:VR E x vx)(hy:VR E y vy){r:Bool}(h:Zp i.desc x y=some r)(d:Nat):
 (Op.equalIn (d+1) t vx vy).run P E.w=.ok r E.w∧(∀ op ox oy,(eqGuard op t ox oy vx vy).run P E.w=.ok () E.w)∧
  Go.binOp .eql t vx vy=(do pure (.bool (← Op.equal t vx vy)))∧Go.binOp .neq t vx vy=(do pure (.bool (!(← Op.equal t vx vy)))):=by
 unfold Zp at h
 split at h<;>simp only[Option.some.injEq,reduceCtorEq] at h
 all_goals subst h
 all_goals rename_i hd
 all_goals cases hx
 all_goals cases hy
 all_goals refine⟨?_,?_,rfl,rfl⟩
 all_goals first
  |(intro op ox oy; cases op<;>rfl)
  |(simp only[Op.equalIn,qy,yk _ hT,ql,hd]; rfl)
theorem run_evEq {P:Program}{E:Env}{t:TypeId}{i:TI}(hT:TI.OK P t i){x y:AV}{vx vy:Value}(hx:VR E x vx)(hy:VR E y vy){r:Bool}(h:Zp i.desc x y=some r):
 (Op.equal t vx vy).run P E.w=.ok r E.w∧(∀ op ox oy,(eqGuard op t ox oy vx vy).run P E.w=.ok () E.w)∧
  Go.binOp .eql t vx vy=(do pure (.bool (← Op.equal t vx vy)))∧Go.binOp .neq t vx vy=(do pure (.bool (!(← Op.equal t vx vy)))):=
 run_evEq_in hT hx hy h 9999
theorem run_evBin {P:Program}{T:TT}(hT:TOK P T){E:Env}{op:BinOp}{t:TypeId}{x y:AV}{ox oy:Operand}{vx vy:Value}(hx:VR E x vx)(hy:VR E y vy){r:AV}
 (h:evBin T op t x y=some r):∃ v,(do eqGuard op t ox oy vx vy; Go.binOp op t vx vy).run P E.w=.ok v E.w∧VR E r v:=by
 unfold evBin at h
 split at h
 · rename_i k a k' b
   cases hx; cases hy
   have hg:(eqGuard op t ox oy (.int k a) (.int k' b)).run P E.w=.ok () E.w:=by cases op<;>rfl
   simp only[qy,hg,ql]
   split at h
   · unfold vag at h
     split at h
     · cases h
     rename_i hb
     cases h;refine⟨_,?_,.int _ _⟩;simp only[Go.binOp,Op.shift,if_neg hb,qR]
   · unfold vag at h
     split at h
     · cases h
     rename_i hb
     cases h;refine⟨_,?_,.int _ _⟩;simp only[Go.binOp,Op.shift,if_neg hb,qR]
   split at h
   · rename_i hk
     subst hk;obtain⟨v,hv,hr⟩:=run_evInt (P:=P) (w:=E.w) h;exact⟨v,by rw[binOp_type_int op t 0]; exact hv,hr E⟩
   cases h
 · rename_i a b
   cases hx with|str _ s hs=>cases hy with|str _ s' hs'=>
   subst hs; subst hs'
   have hg:(eqGuard op t ox oy (.string s) (.string s')).run P E.w=.ok () E.w:=by cases op<;>rfl
   simp only[qy,hg,ql];obtain⟨v,hv,hr⟩:=run_evStr (P:=P) (w:=E.w) h;exact⟨v,by rw[binOp_type_str op t 0]; exact hv,hr E⟩
 split at h
 · split at h
   · rename_i i hi
     cases he:Zp i.desc x y with
     |none=>rw[he] at h; cases h
     |some q=>
      rw[he] at h; cases h
      obtain⟨h1,h2,h3,h4⟩:=run_evEq (hT _ _ hi) hx hy he;refine⟨.bool q,?_,.bool _⟩;rw[qy,h2 .eql ox oy,ql,h3]
      simp[h1]
   cases h
 · split at h
   · rename_i i hi
     cases he:Zp i.desc x y with
     |none=>rw[he] at h; cases h
     |some q=>
      rw[he] at h; cases h
      obtain⟨h1,h2,h3,h4⟩:=run_evEq (hT _ _ hi) hx hy he;refine⟨.bool (!q),?_,.bool _⟩;rw[qy,h2 .neq ox oy,ql,h4]
      simp[h1]
   cases h
 cases h
def evUn (op:UnOp)(x:AV):Option AV:=
 match op,x with
 |.neg,.int k n=>some (.int k (k.wrap (0-n)))
 |.xor,.int k n=>some (.int k (k.wrap (qM k.bits (if k.signed then -1 else k.max) ^^^ qM k.bits n).toNat))
 |.not,.bool b=>some (.bool !b)
 |_,_=>none
theorem run_evUn {P:Program}{E:Env}{op:UnOp}{x:AV}{vx:Value}(hx:VR E x vx){r:AV}(h:evUn op x=some r):
 ∃ v,(Op.unary op vx).run P E.w=.ok v E.w∧VR E r v:=by
 unfold evUn at h
 split at h
 · cases hx; cases h; exact⟨_,rfl,.int _ _⟩
 · cases hx; cases h; exact⟨_,rfl,.int _ _⟩
 · cases hx; cases h; exact⟨_,rfl,.bool _⟩
 cases h
end AM
end
section
namespace AM
open Go.RowKit
theorem Yj (b o j:Nat):(⟨b,o,none⟩:Addr).add j=⟨b,o+j,none⟩:=by
 unfold Addr.add; split<;>simp_all
def vcL (cs:List AV)(off size:Nat)(agg:Bool):Option AV:=
 if agg then (if off+size≤cs.length then some (.agg ((cs.drop off).take size)) else none)
 else (if off<cs.length then some (gc cs off) else none)
theorem X8 (cs:List AV)(off size i:Nat)(hi:i<size)(h:off+size≤cs.length):gc ((cs.drop off).take size) i=gc cs (off+i):=by
 simp only[gc,qC,List.getElem?_take,hi,if_true,List.getElem?_drop]
theorem vbw {P:Program}{E:Env}{t:TypeId}{i:TI}(hT:TI.OK P t i){b o off:Nat}{cs:List AV}{r:AV}
 (hc:∀ j,off+j<cs.length→∃ v,E.w.cell? ⟨b,o+j,none⟩=some v∧VR E (gc cs (off+j)) v) (h:vcL cs off i.size i.agg=some r):
 ∃ cv,(loadVar t ⟨b,o,none⟩).run P E.w=.ok cv E.w∧VR E r cv:=by
 unfold vcL at h;unfold loadVar;simp only[qy,run_agg _ hT,ql]
 cases hg:i.agg with
 |true=>
  simp only[hg,if_true] at h
  split at h
  · rename_i hl
    cases h
    have hf:∀ j,∃ v,j<i.size→E.w.cell? ⟨b,o+j,none⟩=some v∧VR E (gc cs (off+j)) v:=by
     intro j
     by_cases hj:j<i.size
     · obtain⟨v,hv⟩:=hc j (by omega); exact⟨v,fun _=>hv⟩
     exact⟨undef,fun h=>absurd h hj⟩
    obtain⟨f,hf⟩:=Classical.skolem.1 hf;refine⟨.agg ((uJ i.size).map f).toArray,?_,?_⟩
    · simp only[if_true,qy,wF _ hT,ql];rw[run_loadCells E.w ⟨b,o,none⟩ i.size f (fun j hj=>by rw[Yj]; exact (hf j hj).1)]
      rfl
    refine .agg _ _ (by simp; omega) fun j hj=>?_
    have hj':j<i.size:=by simp at hj; omega
    rw[X8 _ _ _ _ hj' hl]
    have:(((uJ i.size).map f).toArray).getD j undef=f j:=by simp[hj']
    rw[this];exact (hf j hj').2
  cases h
 |false=>
  simp only[hg,uf,if_false] at h
  split at h
  · rename_i hl
    cases h;obtain⟨v,hv,hr⟩:=hc 0 (by omega);refine⟨v,?_,by simpa using hr⟩;simp only[qF] at hv
    simp[hv]
  cases h
def ze.at (σ:ze)(id ver:Nat):Option (List AV):=
 match σ[id]? with
 |some (.cells v cs)=>if v=ver then some cs else none
 |_=>none
theorem ze.at_some {σ:ze}{id ver:Nat}{cs:List AV}(h:ze.at σ id ver=some cs):σ[id]?=some (.cells ver cs):=by
 unfold ze.at at h
 split at h
 · rename_i v c hs
   split at h
   · rename_i hv; cases h; rw[hs,hv]
   cases h
 cases h
theorem SR.at {E:Env}{σ:ze}(hS:SR E σ){id ver:Nat}{cs:List AV}(h:ze.at σ id ver=some cs):
 (∃ b,E.loc id=some (ver,some b)∧Blk E b cs)∨(cs=[]∧E.loc id=some (ver,none)):=by
 have:=hS.obj id;rw[ze.at_some h] at this;exact this
theorem ze.at_lt {σ:ze}{id ver:Nat}{cs:List AV}(h:ze.at σ id ver=some cs):id<σ.length:=
 (qQ.1 (ze.at_some h)).1
def Env.put (E:Env)(b o:Nat)(v:Value):Env := { E with w:=E.w.setCell ⟨b,o,none⟩ v }
theorem vao {w:World}{b o:Nat}{v:Value}{conc:Array Value}{t:TypeId}{fr:Nat×Nat}(h:w.heap[b]?=some (.cells conc t fr)):
 (w.setCell ⟨b,o,none⟩ v).heap[b]?=some (.cells (conc.setIfInBounds o v) t fr):=by
 simp[World.setCell,vq,h]
theorem Yn {w:World}{b b' o:Nat}{v:Value}(h:b'≠b):(w.setCell ⟨b,o,none⟩ v).heap[b']?=w.heap[b']?:=by
 simp only[World.setCell,vq];rw[if_neg (by exact fun e=>h e.symm)]
theorem shape_setCell (w:World)(b o b':Nat)(v:Value):(w.setCell ⟨b,o,none⟩ v).shape? b'=w.shape? b':=by
 by_cases hb:b'=b
 · subst hb
   cases h:w.heap[b']? with
   |none=>
    have:(w.setCell ⟨b',o,none⟩ v).heap[b']?=none:=by simp[World.setCell,vq,h]
    simp only[World.shape?,h,this]
   |some x=>
    cases x with
    |cells c t fr=>simp only[World.shape?,h,vao h]; simp
    |_=>
     have:(w.setCell ⟨b',o,none⟩ v).heap[b']?=w.heap[b']?:=by simp[World.setCell,vq,h]
     simp only[World.shape?,this]
 simp only[World.shape?,Yn hb]
theorem Ext.put {E:Env}{b:Nat}(hb:¬ E.st b)(hown:∃ id v,E.loc id=some (v,some b))(o:Nat)(v:Value):Ext E (E.put b o v) where
 os:=rfl
 tape:=rfl
 output:=rfl
 size:=by simp[Env.put]
 shape:=fun b' m h=>by rw[Env.put,shape_setCell]; exact h
 st:=fun b' h=>⟨h,Yn (fun e=>hb (e▸h))⟩
 n:=qx _
 loc:=fun _ _ ver ob h=>⟨ver,ob,h,qx _,fun _=>rfl⟩
 old:=fun b' _ hn=>Yn (fun e=>by subst e; obtain⟨id,v',h⟩:=hown; exact hn id v' h)
 own:=fun id v _ h _=>⟨id,v,h⟩
 stn:=fun _ h=>.inl h
theorem gc_set (cs:List AV)(i j:Nat)(x:AV)(hi:i<cs.length):gc (cs.set i x) j=if j=i then x else gc cs j:=by
 simp only[gc,qC,List.getElem?_set]
 by_cases h:j=i
 · subst h; simp[hi]
 have:¬ i=j:=fun e=>h e.symm
 simp[h,this]
theorem ObjR.extV {E E':Env}(hx:ExtV E E'){id:Nat}{o:Option Yq}(hn:id<E.n∨E'.base=E.base)(hl:E'.loc id=E.loc id)(hb:∀ v b,E.loc id=some (v,some b)→E'.w.heap[b]?=E.w.heap[b]?)
 (h:ObjR E id o):ObjR E' id o:=by
 cases o with
 |none=>exact hl.trans h
 |some x=>
  cases x with
  |cells ver cs=>
   rcases h with ⟨b,h1,h2⟩|⟨h1,h2⟩
   · refine .inl ⟨b,hl.trans h1,?_⟩;obtain⟨conc,t,fr,a1,a2,a3,a4⟩:=h2.blk
     have e:E'.base b=E.base b:=hn.elim (fun hn=>hx.bas id hn ver b h1 (hl.trans h1)) fun h=>by rw[h]
     exact⟨conc,t,fr,(hb _ _ h1).trans a1,a2,by rw[e]; exact a3,fun i hi=>by rw[e]; exact (a4 i hi).extV hx⟩
   exact .inr ⟨h1,hl.trans h2⟩
  |map es gh=>
   obtain⟨b,ents,clock,h1,h2,h3,h4,h5⟩:=h;exact⟨b,ents,clock,hl.trans h1,(hb _ _ h1).trans h2,h3,fun i h h'=>⟨(h4 i h h').1.extV hx,(h4 i h h').2.extV hx⟩,h5⟩
  |iter s pos=>
   obtain⟨b,h1,h2⟩:=h;exact⟨b,hl.trans h1,(hb _ _ h1).trans h2⟩
  |loop l r tm=>exact⟨hl.trans h.1,(hb _ _ h.1).trans h.2.1,h.2.2.1,fun i hi=>(h.2.2.2 i hi).extV hx⟩
  |mark b=>exact⟨hl.trans h.1,(hb _ _ h.1).trans h.2⟩
  |dead=>exact hl.trans h
theorem ObjR.ext {E E':Env}(hx:Ext E E'){id:Nat}{o:Option Yq}(hn:id<E.n∨E'.base=E.base)(hl:E'.loc id=E.loc id)(hb:∀ v b,E.loc id=some (v,some b)→E'.w.heap[b]?=E.w.heap[b]?)
 (h:ObjR E id o):ObjR E' id o:=h.extV hx.toV hn hl hb
theorem SR.put {E:Env}{σ:ze}(hS:SR E σ){id ver b:Nat}{cs:List AV}(h:ze.at σ id ver=some cs)(hl:E.loc id=some (ver,some b)){o:Nat}(ho:o<cs.length)
 {x:AV} {v:Value} (hv:VR E x v):SR (E.put b (E.base b+o) v) (σ.set id (.cells ver (cs.set o x)))∧Ext E (E.put b (E.base b+o) v):=by
 have hb:=(hS.blk id ver b hl);have hx:Ext E (E.put b (E.base b+o) v):=Ext.put hb.2 ⟨id,ver,hl⟩ (E.base b+o) v;refine⟨⟨by simpa [Env.put] using hS.len,fun id'=>?_,hS.inj,fun id' v' b' h'=>?_,fun b' h'=>?_,?_,fun b' h'=>hS.bas b' (by simpa [Env.put] using h')⟩,hx⟩
 · by_cases hid:id'=id
   · subst hid;have hlt:id'<σ.length:=ze.at_lt h;simp only[uv hlt];refine .inl ⟨b,hl,?_⟩
     rcases hS.at h with ⟨b',h1,h2⟩|⟨h1,_⟩
     · rw[hl] at h1; cases h1
       obtain⟨conc,t,fr,a1,a2,a3,a4⟩:=h2.blk;refine⟨conc.setIfInBounds (E.base b+o) v,t,fr,vao a1,by simpa using a2,by simpa [Env.put] using a3,fun i hi=>?_⟩
       show VR _ _ ((conc.setIfInBounds (E.base b+o) v).getD (E.base b+i) undef)
       rw[gc_set _ _ _ _ ho];simp only[List.length_set] at hi
       by_cases hio:i=o
       · subst hio;simp only[if_true]
         have:(conc.setIfInBounds (E.base b+i) v).getD (E.base b+i) undef=v:=by simp[show E.base b+i<conc.size by omega]
         rw[this]; exact hv.ext hx
       simp only[hio,if_false]
       have:(conc.setIfInBounds (E.base b+o) v).getD (E.base b+i) undef=conc.getD (E.base b+i) undef:=by
        simp[uS (show E.base b+o≠E.base b+i by omega)]
       rw[this]; exact (a4 i hi).ext hx
     subst h1; simp at ho
   rw[ue (fun e=>hid e.symm)]
   exact (hS.obj id').ext hx (.inr rfl) rfl fun v' b' h'=>Yn (fun e=>hid (hS.inj id' id v' ver b (e▸h') hl))
 · simpa [Env.put] using hS.blk id' v' b' h'
 · simpa [Env.put] using hS.stb b' h'
 exact hS.glb.mono hx.st
theorem VR.oneCell {E:Env}{x:AV}{v:Value}(h:VR E x v)(h1:x.one=true):v.oneCell'=true:=by
 cases h<;>first|rfl|(simp[AV.one] at h1)
theorem run_store_put {P:Program}{E:Env}{σ:ze}(hS:SR E σ){id ver b:Nat}{cs:List AV}(h:ze.at σ id ver=some cs)(hl:E.loc id=some (ver,some b)){o:Nat}(ho:o<cs.length)
 {x:AV} {v:Value} (hv:VR E x v) (h1:x.one=true):(store ⟨b,E.base b+o,none⟩ v).run P E.w=.ok () (E.put b (E.base b+o) v).w:=by
 rcases hS.at h with ⟨b',e1,h2⟩|⟨e1,_⟩
 · rw[hl] at e1; cases e1
   obtain⟨u,hu,_⟩:=h2.cell o ho;rw[run_store P _ _ _ _ (hv.oneCell h1),hu];simp only[h2.frozen o ho]
   rfl
 subst e1; simp at ho
def wk : List AV→Nat→List AV→List AV
 |cs,_,[]=>cs
 |cs,o,x::xs=>wk (cs.set o x) (o+1) xs
theorem XK (xs:List AV):∀ (cs:List AV) (o:Nat),(wk cs o xs).length=cs.length:=by
 induction xs with
 |nil=>intro cs o; rfl
 |cons x xs ih=>intro cs o; simp[wk,ih]
theorem ze.at_set {σ:ze}{id ver ver':Nat}{cs cs':List AV}(h:ze.at σ id ver=some cs):ze.at (σ.set id (.cells ver' cs')) id ver'=some cs':=by
 unfold ze.at;rw[uv (ze.at_lt h)]
 simp
theorem YX {P:Program}(xs:List AV):∀ {E:Env} {σ:ze} (_:SR E σ) {id ver b:Nat} {cs:List AV} (_:ze.at σ id ver=some cs) (_:E.loc id=some (ver,some b))
 (vs:List Value) (o i:Nat) (_:o+i+xs.length≤cs.length) (_:vs.length=xs.length) (_:∀ j,j<xs.length→VR E (gc xs j) (vs.getD j undef)) (_:∀ x∈xs,x.one=true),
 ∃ E',(storeCells ⟨b,E.base b+o,none⟩ vs i).run P E.w=.ok () E'.w∧SR E' (σ.set id (.cells ver (wk cs (o+i) xs)))∧Ext E E':=by
 induction xs with
 |nil=>
  intro E σ hS id ver b cs h hl vs o i hle hvs hv h1
  have:vs=[]:=qS.1 hvs;subst this;refine⟨E,by simp[storeCells],?_,Ext.refl E⟩
  have:σ.set id (.cells ver (wk cs (o+i) []))=σ:=by
   rw[wk];apply uX
   intro j
   by_cases hj:j=id
   · subst hj; rw[uv (ze.at_lt h),ze.at_some h]
   rw[ue (fun e=>hj e.symm)]
  rw[this]; exact hS
 |cons x xs ih=>
  intro E σ hS id ver b cs h hl vs o i hle hvs hv h1
  cases vs with
  |nil=>simp at hvs
  |cons v vs=>
   have hle':o+i+(xs.length+1)≤cs.length:=by simpa using hle
   have hv0:VR E x v:=by have:=hv 0 (by simp); simpa [gc] using this
   have hr:=run_store_put (P:=P) hS h hl (show o+i<cs.length by omega) hv0 (h1 x (by simp));obtain⟨hS1,hx1⟩:=hS.put h hl (show o+i<cs.length by omega) hv0
   obtain⟨E',hr',hS',hx'⟩:=ih (E:=E.put b (E.base b+(o+i)) v) hS1 (id:=id) (ver:=ver) (b:=b) (cs:=cs.set (o+i) x) (ze.at_set h) hl vs o (i+1)
    (by simp; omega) (by simpa using hvs) (fun j hj=>by
     have:=hv (j+1) (by simp; omega)
     have e1:gc (x::xs) (j+1)=gc xs j:=by simp[gc]
     have e2:(v::vs).getD (j+1) undef=vs.getD j undef:=by simp
     rw[e1,e2] at this
     exact this.ext hx1) (fun y hy=>h1 y (by simp[hy]))
   refine⟨E',?_,?_,hx1.trans hx'⟩
   · simp only[storeCells,qy,Yj,ux,hr,ql];exact hr'
   rw[List.set_set] at hS';rw[wk];exact hS'
def Env.new (E:Env)(w:World)(ob:Option Nat):Env := { w:=w,st:=E.st,loc:=fun i=>if i=E.n then some (0,ob) else E.loc i,n:=E.n+1,base:=E.base }
theorem heap_push_old {w:World}{o:Obj}{b:Nat}(h:b<w.heap.size):(w.alloc o).heap[b]?=w.heap[b]?:=by
 show (w.heap.push o)[b]?=_
 rw[Array.getElem?_push,if_neg (by omega)]
theorem xK (w:World)(o:Obj):(w.alloc o).heap[w.heap.size]?=some o:=by
 show (w.heap.push o)[w.heap.size]?=_
 rw[Array.getElem?_push,if_pos rfl]
theorem shape_lt {w:World}{b:Nat}{m:TypeId×Nat}(h:w.shape? b=some m):b<w.heap.size:=by
 unfold World.shape? at h
 cases hh:w.heap[b]? with
 |none=>rw[hh] at h; cases h
 |some x=>exact (Array.getElem?_eq_some_iff.1 hh).1
structure XB (w w':World):Prop where
 os:w'.os=w.os
 tape:w'.tape=w.tape
 output:w'.output=w.output
 size:w.heap.size≤w'.heap.size
 old:∀ b,b<w.heap.size→w'.heap[b]?=w.heap[b]?
theorem XB.refl (w:World):XB w w:=⟨rfl,rfl,rfl,qx _,fun _ _=>rfl⟩
theorem XB.alloc (w:World)(o:Obj):XB w (w.alloc o):=⟨rfl,rfl,rfl,by simp,fun _ h=>heap_push_old h⟩
theorem XB.drew (w:World):XB w w.drew:=⟨rfl,rfl,rfl,by simp,fun _ _=>rfl⟩
theorem XB.trans {a b c:World}(h:XB a b)(k:XB b c):XB a c:=
 ⟨k.os.trans h.os,k.tape.trans h.tape,k.output.trans h.output,uB h.size k.size,fun i hi=>(k.old i (ui hi h.size)).trans (h.old i hi)⟩
theorem XB.shape {w w':World}(h:XB w w'){b:Nat}{m:TypeId×Nat}(hm:w.shape? b=some m):w'.shape? b=some m:=by
 have:=h.old b (shape_lt hm);simp only[World.shape?,this] at *;exact hm
theorem Ext.grew {E:Env}{w':World}(hst:∀ b,E.st b→b<E.w.heap.size)(h:XB E.w w'):Ext E { E with w:=w' } where
 os:=h.os
 tape:=h.tape
 output:=h.output
 size:=h.size
 shape:=fun _ _ hm=>h.shape hm
 st:=fun b hb=>⟨hb,h.old b (hst b hb)⟩
 n:=qx _
 loc:=fun _ _ ver ob hl=>⟨ver,ob,hl,qx _,fun _=>rfl⟩
 old:=fun b hb _=>h.old b hb
 own:=fun id v _ h _=>⟨id,v,h⟩
 stn:=fun _ h=>.inl h
theorem SR.grew {E:Env}{σ:ze}(hS:SR E σ){w':World}(h:XB E.w w'):SR { E with w:=w' } σ∧Ext E { E with w:=w' }:=by
 have hx:Ext E { E with w:=w' }:=Ext.grew hS.stb h;refine⟨⟨hS.len,fun id=>(hS.obj id).ext hx (.inr rfl) rfl fun v b hl=>h.old b (hS.blk id v b hl).1,hS.inj,fun id v b hl=>?_,fun b hb=>?_,hS.glb.mono hx.st,fun b hb=>hS.bas b (uB h.size hb)⟩,hx⟩
 · exact⟨ui (hS.blk id v b hl).1 h.size,(hS.blk id v b hl).2⟩
 exact ui (hS.stb b hb) h.size
theorem Ext.new {E:Env}{w':World}(hst:∀ b,E.st b→b<E.w.heap.size)(h:XB E.w w')(ob:Option Nat)(hob:∀ b,ob=some b→E.w.heap.size≤b):Ext E (E.new w' ob) where
 os:=h.os
 tape:=h.tape
 output:=h.output
 size:=h.size
 shape:=fun _ _ hm=>h.shape hm
 st:=fun b hb=>⟨hb,h.old b (hst b hb)⟩
 n:=Nat.le_succ _
 loc:=fun id hid ver ob' hl=>by
  have:id≠E.n:=by omega
  simp only[Env.new,this,if_false] at hl;exact⟨ver,ob',hl,qx _,fun _=>rfl⟩
 old:=fun b hb _=>h.old b hb
 own:=fun id v b hl hb=>by
  simp only[Env.new] at hl
  split at hl
  · simp only[Option.some.injEq,Prod.mk.injEq] at hl
    have:=hob b hl.2; omega
  exact⟨id,v,hl⟩
 stn:=fun _ h=>.inl h
theorem SR.new {E:Env}{σ:ze}(hS:SR E σ){w':World}(h:XB E.w w'){ob:Option Nat}(hob:∀ b,ob=some b→E.w.heap.size≤b∧b<w'.heap.size){o:Yq}
 (ho:ObjR (E.new w' ob) E.n (some o)):SR (E.new w' ob) (σ++[o])∧Ext E (E.new w' ob):=by
 have hx:Ext E (E.new w' ob):=Ext.new hS.stb h ob fun b hb=>(hob b hb).1
 have hne:∀ id,id≠E.n→(E.new w' ob).loc id=E.loc id:=fun id hid=>by simp[Env.new,hid]
 refine⟨⟨by simp[Env.new,hS.len],fun id=>?_,?_,?_,?_,?_,fun b hb=>hS.bas b (uB h.size hb)⟩,hx⟩
 · by_cases hid:id=E.n
   · subst hid
     have:(σ++[o])[E.n]?=some o:=by rw[← hS.len]; simp
     rw[this]; exact ho
   have:(σ++[o])[id]?=σ[id]?:=by
    by_cases hl:id<σ.length
    · rw[qY hl]
    rw[uw (show σ.length≤id by omega),uw (by have:=hS.len; simp; omega)]
   rw[this]
   exact (hS.obj id).ext hx (.inr rfl) (hne id hid) fun v b hl=>h.old b (hS.blk id v b hl).1
 · intro id id' v v' b h1 h2
   have new:∀ id v,(E.new w' ob).loc id=some (v,some b)→id≠E.n→b<E.w.heap.size:=fun id v hl hid=>by
    rw[hne id hid] at hl; exact (hS.blk id v b hl).1
   have old:∀ v,(E.new w' ob).loc E.n=some (v,some b)→E.w.heap.size≤b:=fun v hl=>by
    simp only[Env.new,if_true,Option.some.injEq,Prod.mk.injEq] at hl; exact (hob b hl.2).1
   by_cases e1:id=E.n
   · by_cases e2:id'=E.n
     · rw[e1,e2]
     subst e1; have:=old v h1; have:=new id' v' h2 e2; omega
   by_cases e2:id'=E.n
   · subst e2; have:=old v' h2; have:=new id v h1 e1; omega
   rw[hne _ e1] at h1; rw[hne _ e2] at h2; exact hS.inj id id' v v' b h1 h2
 · intro id v b hl
   by_cases e1:id=E.n
   · subst e1;simp only[Env.new,if_true,Option.some.injEq,Prod.mk.injEq] at hl;refine⟨(hob b hl.2).2,fun hs=>?_⟩
     have:=hS.stb b hs; have:=(hob b hl.2).1; omega
   rw[hne _ e1] at hl;exact⟨ui (hS.blk id v b hl).1 h.size,(hS.blk id v b hl).2⟩
 · intro b hb
   exact ui (hS.stb b hb) h.size
 exact hS.glb.mono hx.st
theorem Env.ok_new {E:Env}{σ:ze}(hS:SR E σ)(w':World)(ob:Option Nat):(E.new w' ob).ok σ.length 0:=by
 have:=hS.len;refine⟨by simp[Env.new]; omega,fun v o h=>?_⟩;rw[this] at h;simp only[Env.new,if_true,Option.some.injEq,Prod.mk.injEq] at h
 omega
theorem Env.loc_new {E:Env}{σ:ze}(hS:SR E σ)(w':World)(ob:Option Nat):(E.new w' ob).loc σ.length=some (0,ob):=by
 rw[hS.len]; simp[Env.new]
inductive Born (E:Env)(id b:Nat):AV→Value→Prop
 |op:Born E id b (.op id 0 0) (.pointer (some ⟨b,0,none⟩))
 |os (sz len:Nat) (t:TypeId) (m:Nat) (hB:len≤9223372036854775807) (hs:E.w.shape? b=some (t,m)) (ht:tsize t=sz) (hm:0+len*sz≤m):Born E id b (.os true sz id 0 0 len true) (.slice (some ⟨b,0,none⟩) len len)
theorem Born.mono {E E':Env}{id b:Nat}{r:AV}{v:Value}(h:Born E id b r v)(hs:∀ b m,E.w.shape? b=some m→E'.w.shape? b=some m):Born E' id b r v:=by
 cases h with
 |op=>exact .op
 |os sz len t m hB h1 ht hm=>exact .os sz len t m hB (hs _ _ h1) ht hm
structure Flt (lo:Nat)(E:Env)(cs:List AV)(id:Nat)(r:AV)(v:Value)(b:Nat):Prop where
 v:Born E id b r v
 lo:lo≤b
 hi:b<E.w.heap.size
 st:¬ E.st b
 own:∀ id v,E.loc id≠some (v,some b)
 blk:Blk E b cs
 bas:E.base b=0
theorem Flt.ext {lo:Nat}{E E':Env}(hx:Ext E E'){cs:List AV}{id:Nat}{r:AV}{v:Value}{b:Nat}(h:Flt lo E cs id r v b):Flt lo E' cs id r v b where
 v:=h.v.mono hx.shape
 lo:=h.lo
 hi:=ui h.hi hx.size
 st:=fun hs=>by
  rcases hx.stn b hs with h1|h1|⟨id,v,h1⟩
  · exact h.st h1
  · exact absurd h.hi (by omega)
  exact h.own id v h1
 own:=fun id v hl=>by
  obtain⟨id',v',h'⟩:=hx.own id v b hl h.hi;exact h.own id' v' h'
 blk:=by
  obtain⟨conc,t,fr,a1,a2,a3,a4⟩:=h.blk.blk;have e:=hx.basO b h.hi h.own;exact⟨conc,t,fr,(hx.old b h.hi h.own).trans a1,a2,by rw[e]; exact a3,fun i hi=>by rw[e]; exact (a4 i hi).ext hx⟩
 bas:=(hx.basO b h.hi h.own).trans h.bas
theorem ExtV.adopt (E:Env)(b:Nat):ExtV E (E.new E.w (some b)) where
 shape:=fun _ _ h=>h
 st:=fun _ h=>⟨h,rfl⟩
 n:=Nat.le_succ _
 loc:=fun id hid ver ob hl=>by
  have:id≠E.n:=by omega
  simp only[Env.new,this,if_false] at hl;exact⟨ver,ob,hl,qx _,fun _=>rfl⟩
theorem SR.adopt {E:Env}{σ:ze}(hS:SR E σ){lo:Nat}{cs:List AV}{r:AV}{v:Value}{b:Nat}(h:Flt lo E cs σ.length r v b):
 SR (E.new E.w (some b)) (σ++[.cells 0 cs])∧VR (E.new E.w (some b)) r v:=by
 have hx:=ExtV.adopt E b
 have hne:∀ id,id≠E.n→(E.new E.w (some b)).loc id=E.loc id:=fun id hid=>by simp[Env.new,hid]
 have heq:(E.new E.w (some b)).loc E.n=some (0,some b):=by simp[Env.new]
 refine⟨⟨by simp[Env.new,hS.len],fun id=>?_,fun id id' v v' b' h1 h2=>?_,fun id v b' h1=>?_,hS.stb,hS.glb,hS.bas⟩,?_⟩
 · by_cases hid:id=E.n
   · subst hid
     have:(σ++[Yq.cells 0 cs])[E.n]?=some (.cells 0 cs):=by rw[← hS.len]; simp
     rw[this];obtain⟨conc,t,fr,a1,a2,a3,a4⟩:=h.blk.blk;exact .inl ⟨b,heq,conc,t,fr,a1,a2,a3,fun i hi=>(a4 i hi).extV hx⟩
   have:(σ++[Yq.cells 0 cs])[id]?=σ[id]?:=by
    by_cases hl:id<σ.length
    · rw[qY hl]
    rw[uw (show σ.length≤id by omega),uw (by have:=hS.len; simp; omega)]
   rw[this]
   exact (hS.obj id).extV hx (.inr rfl) (hne id hid) fun v b hl=>rfl
 · by_cases e1:id=E.n
   · by_cases e2:id'=E.n
     · rw[e1,e2]
     rw[hne id' e2] at h2;rw[e1,heq] at h1;cases h1;exact absurd h2 (h.own id' v')
   rw[hne id e1] at h1
   by_cases e2:id'=E.n
   · rw[e2,heq] at h2;cases h2;exact absurd h1 (h.own id v)
   rw[hne id' e2] at h2;exact hS.inj id id' v v' b' h1 h2
 · by_cases e1:id=E.n
   · rw[e1,heq] at h1;cases h1;exact⟨h.hi,h.st⟩
   rw[hne id e1] at h1;exact hS.blk id v b' h1
 have hz:(E.new E.w (some b)).base b=0:=h.bas;obtain⟨hv,_,_,_,_,_⟩:=h;have hk:(E.new E.w (some b)).ok σ.length 0:=⟨by simp[Env.new,hS.len],fun v ob hl=>qU _⟩
 cases hv with
 |op=>
  refine .op _ _ _ _ hk fun b' hb=>?_
  rw[hS.len,heq] at hb
  cases hb; rw[hz]
 |os sz len t m hB hs ht hm=>
  refine .os _ _ _ _ _ _ _ _ _ hk (qx _) (fun _=>rfl) hB fun ob hob=>?_
  rw[hS.len,heq] at hob;cases hob;exact⟨b,rfl,.inr (by rw[hz]),t,m,hs,ht,by rw[hz]; omega⟩
theorem Flt.adopt {lo:Nat}{E:Env}{cs:List AV}{id:Nat}{r:AV}{v:Value}{b b':Nat}(h:Flt lo E cs id r v b)(hb:b≠b'):Flt lo (E.new E.w (some b')) cs id r v b where
 v:=h.v.mono fun _ _ h=>h
 lo:=h.lo
 hi:=h.hi
 st:=h.st
 own:=fun id v hl=>by
  by_cases e:id=E.n
  · subst e;simp only[Env.new,if_true,Option.some.injEq,Prod.mk.injEq] at hl;exact hb hl.2.symm
  simp only[Env.new,e,if_false] at hl;exact h.own id v hl
 blk:=by
  obtain⟨conc,t,fr,a1,a2,a3,a4⟩:=h.blk.blk;exact⟨conc,t,fr,a1,a2,a3,fun i hi=>(a4 i hi).extV (ExtV.adopt E b')⟩
 bas:=h.bas
theorem XU.adopt {k:Nat}{E0 E:Env}(h:XU k E0 E){b:Nat}(hb:E0.w.heap.size≤b):XU k E0 (E.new E.w (some b)):=
 { os:=h.os,tape:=h.tape,output:=h.output,size:=h.size,shape:=h.shape,st:=h.st,n:=Nat.le_succ_of_le h.n,old:=h.old,stn:=h.stn,basO:=h.basO,
   bas:=fun id hid ver b hl hl'=>by
    have:id≠E.n:=by have:=h.n; omega
    simp only[Env.new,this,if_false] at hl';exact h.bas id hid ver b hl hl'
   loc:=fun id hid ver ob hl=>by
    have:id≠E.n:=by have:=h.n; omega
    simp only[Env.new,this,if_false] at hl;exact h.loc id hid ver ob hl
   own:=fun id v b' hl hb'=>by
    by_cases e:id=E.n
    · subst e;simp only[Env.new,if_true,Option.some.injEq,Prod.mk.injEq] at hl
      omega
    simp only[Env.new,e,if_false] at hl
    exact h.own id v b' hl hb' }
theorem SR.newRow {E:Env}{σ:ze}(hS:SR E σ)(conc:Array Value)(t:TypeId)(cs:List AV)(hl:cs.length≤conc.size)(hv:∀ i,i<cs.length→VR E (gc cs i) (conc.getD i undef)):
 let E':=E.new (E.w.alloc (.cells conc t)) (some E.w.heap.size)
 SR E' (σ++[.cells 0 cs])∧Ext E E':=by
 intro E'
 have hg:=XB.alloc E.w (.cells conc t)
 have hx:Ext E E':=Ext.new hS.stb hg _ fun b hb=>by cases hb; exact qx _
 have hz:(E.new (E.w.alloc (.cells conc t)) (some E.w.heap.size)).base E.w.heap.size=0:=hS.bas _ (qx _);refine hS.new hg (fun b hb=>by cases hb; simp) (.inl ⟨E.w.heap.size,by simp[Env.new],conc,t,(0,0),xK _ _,by simp,by rw[hz]; omega,fun i hi=>by rw[hz,qn]; exact (hv i hi).ext hx⟩)
end AM
end
section
namespace AM
open Go.RowKit
def Out (P:Program)(E:Env)(s:Sem Value)(r:AV)(σ':ze):Prop:=
 ∃ cv E',s.run P E.w=.ok cv E'.w∧VR E' r cv∧SR E' σ'∧Ext E E'
theorem Out.same {P:Program}{E:Env}{σ:ze}(hS:SR E σ){s:Sem Value}{r:AV}{cv:Value}(h:s.run P E.w=.ok cv E.w)(hv:VR E r cv):Out P E s r σ:=
 ⟨cv,E,h,hv,hS,Ext.refl E⟩
def YL (T:TT)(t:TypeId)(a:AV)(σ:ze):Option AV:=
 match T t,a with
 |some i,.op id ver off=>match ze.at σ id ver with
  |some cs=>vcL cs off i.size i.agg
  |none=>none
 |some i,.dp cells off=>vcL cells off i.size i.agg
 |_,_=>none
theorem evRd_ne {cs:List AV}{off size:Nat}{agg:Bool}{r:AV}(h:vcL cs off size agg=some r)(hz:agg=true→0<size):off<cs.length:=by
 unfold vcL at h
 split at h
 · rename_i ha
   split at h
   · have:=hz ha; omega
   cases h
 split at h
 · assumption
 cases h
theorem SR.block_of {E:Env}{σ:ze}(hS:SR E σ){id ver:Nat}{cs:List AV}(h:ze.at σ id ver=some cs){i:Nat}(hi:i<cs.length):∃ b,E.loc id=some (ver,some b)∧Blk E b cs:=by
 rcases hS.at h with h|⟨h,_⟩
 · exact h
 subst h; simp at hi
theorem va8 {P:Program}{T:TT}(hT:TOK P T){E:Env}{σ:ze}(hS:SR E σ){t:TypeId}{a:AV}{va:Value}(ha:VR E a va){r:AV}(h:YL T t a σ=some r)
 (hz:∀ i,T t=some i→i.agg=true→0<i.size):∃ cv,(Instr.loadAt t va).run P E.w=.ok cv E.w∧VR E r cv:=by
 unfold YL at h
 split at h
 · rename_i i id ver off hi
   split at h
   · rename_i cs hcs
     have hoff:=evRd_ne h (hz i hi);obtain⟨b,hl,hb⟩:=hS.block_of hcs hoff
     cases ha with|op _ _ _ ad hk hp=>
     have:=hp b hl; subst this
     obtain⟨cv,hr,hv⟩:=vbw (hT _ _ hi) (b:=b) (o:=E.base b+off) (off:=off) (cs:=cs) (fun j hj=>by rw[ux]; exact hb.cell (off+j) hj) h;refine⟨cv,?_,hv⟩;simp only[Instr.loadAt,Instr.sureAddr,qy,qR,ql];exact hr
   cases h
 · rename_i i cells off hi
   cases ha with|dp _ _ b o vs hr hv=>
   obtain⟨cv,hr',hv'⟩:=vbw (hT _ _ hi) (b:=b) (o:=o+off) (off:=off) (cs:=cells) (fun j hj=>by
    obtain⟨v,h1,h2⟩:=VR.getRow hv hr (off+j) hj
    exact⟨v,by rw[show o+off+j=o+(off+j) by omega]; exact h1,h2⟩) h
   refine⟨cv,?_,hv'⟩;simp only[Instr.loadAt,Instr.sureAddr,qy,qR,ql];exact hr'
 cases h
theorem run_evLoad {P:Program}{T:TT}(hT:TOK P T){E:Env}{σ:ze}(hS:SR E σ){t:TypeId}{a:AV}{va:Value}(ha:VR E a va){r:AV}(h:YL T t a σ=some r)
 (hz:∀ i,T t=some i→i.agg=true→0<i.size):Out P E (Instr.loadAt t va) r σ:=by
 obtain⟨cv,h1,h2⟩:=va8 hT hS ha h hz;exact .same hS h1 h2
def AV.okc : AV→Bool
 |.u|.tup _=>false
 |.agg cs=>cs.all AV.one
 |_=>true
theorem VR.cellsOf {E:Env}{x:AV}{v:Value}(h:VR E x v)(hx:x.okc=true):v.cells.size=x.cells.length∧∀ i,i<x.cells.length→VR E (gc x.cells i) (v.cells.getD i undef):=by
 cases h
 case u=>simp[AV.okc] at hx
 case tup=>simp[AV.okc] at hx
 case agg cs vs hl hv=>exact⟨hl,hv⟩
 all_goals refine⟨rfl,fun i hi=>?_⟩
 all_goals simp only[AV.cells,ub,Nat.lt_one_iff] at hi
 all_goals subst hi
 case bool=>exact .bool _
 case int=>exact .int _ _
 case str l s h=>exact .str l s h
 case nilp=>exact .nilp
 case op id ver off a hk h=>exact .op id ver off a hk h
 case dp cells off b o vs hr h=>exact .dp cells off b o vs hr h
 case dsn t=>exact .dsn t
 case ds nl cells len t a cap vs ha hr h hc ht hB=>exact .ds nl cells len t a cap vs ha hr h hc ht hB
 case osn sz id ver off t a hk h=>exact .osn sz id ver off t a hk h
 case os nl sz id ver off len t a cap hk hc ht hB h=>exact .os nl sz id ver off len t a cap hk hc ht hB h
 case mp id b hk h=>exact .mp id b hk h
 case nilm=>exact .nilm
 case fn f first cap vf vc hf hc h1 h2=>exact .fn f first cap vf vc hf hc h1 h2
 case nilF=>exact .nilF
 case ifc t a v h=>exact .ifc t a v h
 case nilI=>exact .nilI
 case it id b hk h=>exact .it id b hk h
 case gp g=>exact .gp g
theorem AV.okc_one {x:AV}(hx:x.okc=true):∀ y∈x.cells,y.one=true:=by
 cases x<;>simp_all [AV.okc,AV.cells,AV.one]
def evStore (T:TT)(t:TypeId)(a x:AV)(σ:ze):Option ze:=
 match T t,a with
 |some i,.op id ver off=>match ze.at σ id ver with
  |some cs=>if x.okc=true∧x.cells.length=i.size∧off+i.size≤cs.length then some (σ.set id (.cells ver (wk cs off x.cells))) else none
  |none=>none
 |_,_=>none
theorem run_evStore {P:Program}{T:TT}(hT:TOK P T){E:Env}{σ σ':ze}(hS:SR E σ){t:TypeId}{a x:AV}{va vx:Value}(ha:VR E a va)(hx:VR E x vx)(h:evStore T t a x σ=some σ')
 (hz:∀ i,T t=some i→0<i.size):∃ E',(Instr.storeAt t va vx).run P E.w=.ok () E'.w∧SR E' σ'∧Ext E E':=by
 unfold evStore at h
 split at h
 · rename_i i id ver off hi
   split at h
   · rename_i cs hcs
     split at h
     · rename_i hc
       obtain⟨h1,h2,h3⟩:=hc;cases h;have:=hz i hi;obtain⟨b,hl,hb⟩:=hS.block_of hcs (show off<cs.length by omega)
       cases ha with|op _ _ _ ad hk hp=>
       have:=hp b hl; subst this
       obtain⟨hs,hv⟩:=hx.cellsOf h1
       obtain⟨E',hr,hS',hx'⟩:=YX (P:=P) x.cells hS hcs hl vx.cells.toList off 0 (by omega) (by simpa using hs) (fun j hj=>by
        have:=hv j hj
        have e:vx.cells.toList.getD j undef=vx.cells.getD j undef:=by simp
        rw[e]; exact this) (AV.okc_one h1)
       refine⟨E',?_,by simpa using hS',hx'⟩;simp only[Instr.storeAt,Instr.sureAddr,qy,qR,ql,storeVar,wF _ (hT _ _ hi)]
       have:¬ (vx.cells.size≠i.size):=by omega
       rw[if_neg this];exact hr
     cases h
   cases h
 cases h
def YO (T:TT)(t:TypeId)(a:AV)(f:Nat):Option AV:=
 match T t with
 |some i=>match i.desc with
  |.struct fields=>match fields[f]? with
   |some fd=>match T fd.type with
    |some j=>if j.size=0 then none else
     match a with
     |.op id ver off=>some (.op id ver (off+fd.offset))
     |.dp cells off=>some (.dp cells (off+fd.offset))
     |_=>none
    |none=>none
   |none=>none
  |_=>none
 |none=>none
theorem vdl {P:Program}{T:TT}(hT:TOK P T){E:Env}{σ:ze}(hS:SR E σ){t:TypeId}{a:AV}{va:Value}(ha:VR E a va){f:Nat}{r:AV}(h:YO T t a f=some r):
 Out P E (Instr.fieldAt t va f) r σ:=by
 unfold YO at h
 split at h
 · rename_i i hi
   split at h
   · rename_i fields hd
     split at h
     · rename_i fd hf
       split at h
       · rename_i j hj
         split at h
         · cases h
         rename_i hsz
         have run:∀ ad:Addr,(Instr.fieldAt t (.pointer (some ad)) f).run P E.w=.ok (.pointer (some (ad.add fd.offset))) E.w:=fun ad=>by
          simp only[Instr.fieldAt,qy,yk _ (hT _ _ hi),ql,hd,hf,Instr.sureAddr,qR,fieldPlace,wF _ (hT _ _ hj),if_neg hsz]
         split at h
         · cases h
           cases ha with|op _ _ _ ad hk hp=>
           exact .same hS (run ad) (.op _ _ _ _ hk fun b hb=>by rw[hp b hb,Yj,ux])
         · cases h
           cases ha with|dp _ _ b o vs hr hv=>
           exact .same hS (run _) (by rw[Yj,ux]; exact .dp _ _ b o vs hr hv)
         cases h
       cases h
     cases h
   cases h
 cases h
def Zu (T:TT)(t:TypeId)(x ix:AV):Option AV:=
 match T t,ix with
 |some i,.int _ k=>
  match i.desc with
  |.slice e=>match T e with
   |some j=>
    match x with
    |.os _ _ id ver off len _=>if 0≤k∧k<len then some (.op id ver (off+k.toNat*j.size)) else none
    |.ds _ cells len _=>if 0≤k∧k<len∧k.toNat*j.size<cells.length then some (.dp cells (k.toNat*j.size)) else none
    |_=>none
   |none=>none
  |.array len e=>match T e with
   |some j=>
    match x with
    |.op id ver off=>if 0≤k∧k<len then some (.op id ver (off+k.toNat*j.size)) else none
    |.dp cells off=>if 0≤k∧k<len then some (.dp cells (off+k.toNat*j.size)) else none
    |_=>none
   |none=>none
  |_=>none
 |_,_=>none
theorem Row.zero {w:World}{st:Nat→Prop}{b o:Nat}{vs:Nat→Value}:Row w st b o 0 vs:=.inl rfl
theorem addr_eta (a:Addr)(h:a.spot=none):a=⟨a.block,a.off,none⟩:=by
 cases a; simp_all
theorem vdk {P:Program}{T:TT}(hT:TOK P T){E:Env}{σ:ze}(hS:SR E σ){t:TypeId}{x ix:AV}{vx vi:Value}(hx:VR E x vx)(hi:VR E ix vi){r:AV}
 (h:Zu T t x ix=some r):Out P E (Instr.indexAt t vx vi) r σ:=by
 unfold Zu at h
 split at h
 · rename_i i kk k hti
   cases hi
   split at h
   · rename_i e hd
     split at h
     · rename_i j hj
       have run:∀ (ad:Addr) (len cap:Nat),0≤k∧k<len→(Instr.indexAt t (.slice (some ad) len cap) (.int kk k)).run P E.w=.ok (.pointer (some (ad.add (k.toNat*j.size)))) E.w:=fun ad len cap hk=>by
        simp only[Instr.indexAt,asIntOf,qy,qR,ql,yk _ (hT _ _ hti),hd];rw[if_pos hk];simp only[qy,wF _ (hT _ _ hj),ql,qR]
       split at h
       · split at h
         · rename_i hk
           cases h
           cases hx with
           |osn=>omega
           |os _ _ _ _ _ _ _ ad cap hok hc ht hB hp=>
            refine .same hS (run ad _ cap hk) (.op _ _ _ _ hok fun b hb=>?_);obtain⟨b',e1,e2,_⟩:=hp _ hb;cases e1;rw[e2.resolve_left (by omega),Yj,ux]
         cases h
       · split at h
         · rename_i cells len tight hk
           cases h
           cases hx with
           |dsn=>simp at hk
           |ds _ _ _ _ ad cap vs hsp hr hv hc ht hB=>
            have hsp':ad.spot=none:=hsp.resolve_left (by intro e; subst e; simp at hk);refine .same hS (run ad _ cap ⟨hk.1,hk.2.1⟩) ?_;rw[addr_eta ad hsp',Yj];exact .dp _ _ _ _ vs hr hv
         cases h
       all_goals cases h
     cases h
   · rename_i len e hd
     split at h
     · rename_i j hj
       have run:∀ (ad:Addr),0≤k∧k<len→(Instr.indexAt t (.pointer (some ad)) (.int kk k)).run P E.w=.ok (.pointer (some (ad.add (k.toNat*j.size)))) E.w:=fun ad hk=>by
        simp only[Instr.indexAt,asIntOf,qy,qR,ql,yk _ (hT _ _ hti),hd,Instr.sureAddr];rw[if_pos hk];simp only[qy,wF _ (hT _ _ hj),ql,qR]
       split at h
       · split at h
         · rename_i hk
           cases h
           cases hx with|op _ _ _ ad hok hp=>
           exact .same hS (run ad hk) (.op _ _ _ _ hok fun b hb=>by rw[hp b hb,Yj,ux])
         cases h
       · split at h
         · rename_i hk
           cases h
           cases hx with|dp _ _ b o vs hr hv=>
           exact .same hS (run _ hk) (by rw[Yj,ux]; exact .dp _ _ b o vs hr hv)
         cases h
       cases h
     cases h
   cases h
 cases h
def evField (T:TT)(t:TypeId)(x:AV)(f:Nat):Option AV:=
 match T t,x with
 |some i,.agg cs=>match i.desc with
  |.struct fields=>match fields[f]? with
   |some fd=>match T fd.type with
    |some j=>vcL cs fd.offset j.size j.agg
    |none=>none
   |none=>none
  |_=>none
 |_,_=>none
theorem vb3 {P:Program}{E:Env}{t:TypeId}{i:TI}(hT:TI.OK P t i){cs:List AV}{vs:Array Value}(hl:vs.size=cs.length)(hv:∀ i,i<cs.length→VR E (gc cs i) (vs.getD i undef)){off:Nat}{r:AV}
 (h:vcL cs off i.size i.agg=some r):∃ cv,(part t vs off).run P E.w=.ok cv E.w∧VR E r cv:=by
 unfold vcL at h;unfold part;simp only[qy,run_agg _ hT,ql]
 cases hg:i.agg with
 |true=>
  simp only[hg,if_true] at h
  split at h
  · rename_i hle
    cases h;refine⟨.agg (vs.extract off (off+i.size)),by simp only[if_true,qy,wF _ hT,ql]; rfl,.agg _ _ (by simp; omega) fun j hj=>?_⟩
    have hj':j<i.size:=by simp at hj; omega
    rw[X8 _ _ _ _ hj' hle]
    have:(vs.extract off (off+i.size)).getD j undef=vs.getD (off+j) undef:=by
     simp only[uG,Array.getElem?_extract];rw[if_pos (by omega)]
    rw[this]; exact hv _ (by omega)
  cases h
 |false=>
  simp only[hg,uf,if_false] at h
  split at h
  · rename_i hlt
    cases h;refine⟨vs.getD off undef,?_,hv off hlt⟩
    have:vs[off]?=some (vs.getD off undef):=by simp[show off<vs.size by omega]
    simp only[uf,if_false,this,qR]
  cases h
theorem run_evField {P:Program}{T:TT}(hT:TOK P T){E:Env}{σ:ze}(hS:SR E σ){t:TypeId}{x:AV}{vx:Value}(hx:VR E x vx){f:Nat}{r:AV}(h:evField T t x f=some r):
 Out P E (Instr.field t vx f) r σ:=by
 unfold evField at h
 split at h
 · rename_i i cs hi
   cases hx with|agg _ vs hl hv=>
   split at h
   · rename_i fields hd
     split at h
     · rename_i fd hf
       split at h
       · rename_i j hj
         obtain⟨cv,hr,hv'⟩:=vb3 (hT _ _ hj) hl hv h;refine .same hS (cv:=cv) ?_ hv';simp only[Instr.field,qy,yk _ (hT _ _ hi),ql,hd,hf,asAgg,qR];exact hr
       cases h
     cases h
   cases h
 cases h
def vdw (T:TT)(t:TypeId)(x ix:AV):Option AV:=
 match T t,x,ix with
 |some i,.agg cs,.int _ k=>match i.desc with
  |.array len e=>match T e with
   |some j=>if 0≤k∧k<len then vcL cs (k.toNat*j.size) j.size j.agg else none
   |none=>none
  |_=>none
 |some i,.str s,.int _ k=>match i.desc with
  |.string=>if 0≤k∧k<s.length then some (.int .u8 ((s.getD k.toNat 0).toNat)) else none
  |_=>none
 |_,_,_=>none
theorem run_evIndex {P:Program}{T:TT}(hT:TOK P T){E:Env}{σ:ze}(hS:SR E σ){t:TypeId}{x ix:AV}{vx vi:Value}(hx:VR E x vx)(hi:VR E ix vi){r:AV}(h:vdw T t x ix=some r):
 Out P E (Instr.index t vx vi) r σ:=by
 unfold vdw at h
 split at h
 · rename_i i cs kk k hti
   cases hi
   cases hx with|agg _ vs hl hv=>
   split at h
   · rename_i len e hd
     split at h
     · rename_i j hj
       split at h
       · rename_i hk
         obtain⟨cv,hr,hv'⟩:=vb3 (hT _ _ hj) hl hv h;refine .same hS (cv:=cv) ?_ hv';simp only[Instr.index,asIntOf,qy,qR,ql,yk _ (hT _ _ hti),hd];rw[if_pos hk];simp only[qy,wF _ (hT _ _ hj),ql];exact hr
       cases h
     cases h
   cases h
 · rename_i i s kk k hti
   cases hi
   cases hx with|str _ b hb=>
   split at h
   · rename_i hd
     split at h
     · rename_i hk
       cases h;subst hb
       have hlt:k.toNat<b.size:=by have:=hk.2; rw[uq] at this; have:k<(b.size:Int):=this; omega
       refine .same hS (cv:=.int .u8 (b[k.toNat].toNat)) ?_ ?_
       · simp only[Instr.index,asIntOf,qy,qR,ql,yk _ (hT _ _ hti),hd];rw[if_pos hk.1,getElem?_pos b k.toNat hlt]
         rfl
       have:b.data.toList.getD k.toNat 0=b[k.toNat]:=by
        have h2:k.toNat<b.data.toList.length:=by rw[uq]; exact hlt
        rw[qC,qX h2]; rfl
       rw[this]; exact .int _ _
     cases h
   cases h
 cases h
def vcc (x:AV)(i:Nat):Option AV:=
 match x with
 |.tup vs=>if i<vs.length then some (gc vs i) else none
 |_=>none
theorem run_evExtract {P:Program}{E:Env}{σ:ze}(hS:SR E σ){x:AV}{vx:Value}(hx:VR E x vx){i:Nat}{r:AV}(h:vcc x i=some r):Out P E (Instr.extract vx i) r σ:=by
 unfold vcc at h
 split at h
 · cases hx with|tup cs vs hl hv=>
   split at h
   · rename_i hi
     cases h;refine .same hS (cv:=vs.getD i undef) ?_ (hv i hi)
     have:vs[i]?=some (vs.getD i undef):=by simp[show i<vs.size by omega]
     simp only[Instr.extract,this,qR]
   cases h
 cases h
def evBox (T:TT)(t:TypeId)(x:AV)(σ:ze):Option (AV×ze):=
 match T t with
 |some i=>if x.okc=true∧x.cells.length=i.size then some (.op σ.length 0 0,σ++[.cells 0 x.cells]) else none
 |none=>none
theorem run_newVar {P:Program}{E:Env}{σ:ze}(hS:SR E σ){x:AV}{vx:Value}(hx:VR E x vx)(ho:x.okc=true)(t:TypeId):
 ∃ E',(do pure (.pointer (some (← newVar t vx))):Sem Value).run P E.w=.ok (.pointer (some ⟨E.w.heap.size,0,none⟩)) E'.w∧VR E' (.op σ.length 0 0) (.pointer (some ⟨E.w.heap.size,0,none⟩))∧
  SR E' (σ++[.cells 0 x.cells])∧Ext E E':=by
 obtain⟨hs,hv⟩:=hx.cellsOf ho;obtain⟨hS',hx'⟩:=hS.newRow vx.cells t x.cells (by omega) hv;refine⟨_,?_,?_,hS',hx'⟩
 · simp only[newVar,Go.newRow,qy,run_newObj,ql,qR]; rfl
 refine .op _ _ _ _ (Env.ok_new hS _ _) fun b hb=>?_
 rw[Env.loc_new hS] at hb;cases hb
 show _=(⟨_,E.base E.w.heap.size+0,none⟩:Addr)
 rw[hS.bas _ (qx _)]
theorem run_evBox {P:Program}{T:TT}{E:Env}{σ σ':ze}(hS:SR E σ){t:TypeId}{x:AV}{vx:Value}(hx:VR E x vx){r:AV}(h:evBox T t x σ=some (r,σ')):
 Out P E (Instr.box t vx) r σ':=by
 unfold evBox at h
 split at h
 · split at h
   · rename_i hc
     cases h;obtain⟨E',h1,h2,h3,h4⟩:=run_newVar (P:=P) hS hx hc.1 t;exact⟨_,E',h1,h2,h3,h4⟩
   cases h
 cases h
def vbQ (T:TT)(t:TypeId)(σ:ze):Option (AV×ze):=
 match T t with
 |some i=>if i.zero.okc=true then some (.op σ.length 0 0,σ++[.cells 0 i.zero.cells]) else none
 |none=>none
theorem run_evAlloc {P:Program}{T:TT}(hT:TOK P T){E:Env}{σ σ':ze}(hS:SR E σ){t:TypeId}{r:AV}(h:vbQ T t σ=some (r,σ')):
 Out P E (Instr.alloc t true (.tuple #[])) r σ':=by
 unfold vbQ at h
 split at h
 · rename_i i hi
   split at h
   · rename_i hc
     cases h;obtain⟨z,hz,_,hv⟩:=YW (w:=E.w) (hT _ _ hi);obtain⟨E',h1,h2,h3,h4⟩:=run_newVar (P:=P) hS (hv E) hc t;refine⟨_,E',?_,h2,h3,h4⟩;simp only[Instr.alloc,qy,hz,ql];exact h1
   cases h
 cases h
theorem run_float {P:Program}{T:TT}(hT:TOK P T){E:Env}{σ σ' σ0:ze}(hS:SR E σ0){t:TypeId}{r:AV}(h:vbQ T t σ=some (r,σ')):
 ∃ cs w' v,σ'=σ++[.cells 0 cs]∧(Instr.alloc t true (.tuple #[])).run P E.w=.ok v w'∧XB E.w w'∧E.w.heap.size<w'.heap.size∧Flt E.w.heap.size { E with w:=w' } cs σ.length r v E.w.heap.size:=by
 unfold vbQ at h
 split at h
 · rename_i i hi
   split at h
   · rename_i hc
     cases h;obtain⟨z,hz,_,hv⟩:=YW (w:=E.w) (hT _ _ hi);obtain⟨hs,hv'⟩:=(hv E).cellsOf hc;have hg:=XB.alloc E.w (.cells z.cells t);have hx:Ext E { E with w:=E.w.alloc (.cells z.cells t) }:=Ext.grew hS.stb hg;refine⟨_,_,_,rfl,?_,hg,by simp,.op,qx _,by simp,fun hs=>Nat.lt_irrefl _ (hS.stb _ hs),fun id v hl=>Nat.lt_irrefl _ (hS.blk id v _ hl).1,.zero (hS.bas _ (qx _)) (xK _ _) (by omega) fun i hi=>(hv' i hi).ext hx,hS.bas _ (qx _)⟩
     simp only[Instr.alloc,qy,hz,ql,newVar,Go.newRow,run_newObj,qR]; rfl
   cases h
 cases h
theorem run_floatB {P:Program}{T:TT}{E:Env}{σ σ' σ0:ze}(hS:SR E σ0){t:TypeId}{x:AV}{vx:Value}(hx:VR E x vx){r:AV}(h:evBox T t x σ=some (r,σ')):
 ∃ cs w' v,σ'=σ++[.cells 0 cs]∧(Instr.box t vx).run P E.w=.ok v w'∧XB E.w w'∧E.w.heap.size<w'.heap.size∧Flt E.w.heap.size { E with w:=w' } cs σ.length r v E.w.heap.size:=by
 unfold evBox at h
 split at h
 · split at h
   · rename_i hc
     cases h;obtain⟨hs,hv⟩:=hx.cellsOf hc.1;have hg:=XB.alloc E.w (.cells vx.cells t);have hx':Ext E { E with w:=E.w.alloc (.cells vx.cells t) }:=Ext.grew hS.stb hg;refine⟨_,_,_,rfl,?_,hg,by simp,.op,qx _,by simp,fun hs=>Nat.lt_irrefl _ (hS.stb _ hs),fun id v hl=>Nat.lt_irrefl _ (hS.blk id v _ hl).1,.zero (hS.bas _ (qx _)) (xK _ _) (by omega) fun i hi=>(hv i hi).ext hx',hS.bas _ (qx _)⟩
     simp only[Instr.box,newVar,Go.newRow,qy,run_newObj,ql,qR]; rfl
   cases h
 cases h
end AM
end
section
namespace AM
open Go.RowKit
def bys (l:List UInt8):List AV:=l.map fun b=>.int .u8 b.toNat
theorem van (l:List UInt8):(bys l).length=l.length:=by simp[bys]
def vcI (d:Int):Option AV→Option Int
 |none=>some d
 |some (.int _ k)=>some k
 |_=>none
def va0 (cells:List AV)(sz l h:Nat):List AV:=(cells.drop (l*sz)).take ((h-l)*sz)
def ZN (T:TT)(t:TypeId)(x:AV)(lo hi mx:Option AV):Option AV:=
 match T t with
 |some i=>
  match i.desc,x with
  |.string,.str s=>
   match vcI 0 lo,vcI s.length hi,mx with
   |some l,some h,none=>if 0≤l∧l≤h∧h≤s.length then some (.str ((s.drop l.toNat).take (h.toNat-l.toNat))) else none
   |_,_,_=>none
  |.slice e,.ds nl cells len tight=>
   match T e,vcI 0 lo,vcI len hi,mx with
   |some j,some l,some h,none=>if 0≤l∧l≤h∧h≤len then some (.ds nl (va0 cells j.size l.toNat h.toNat) (h.toNat-l.toNat) (tight&&decide (h=len))) else none
   |some j,some l,some h,some (.int _ m)=>if 0≤l∧l≤h∧h≤m∧m≤len∧hi.isSome then some (.ds nl (va0 cells j.size l.toNat h.toNat) (h.toNat-l.toNat) (decide (m=h))) else none
   |_,_,_,_=>none
  |.slice e,.os nl sz id ver off len tight=>
   match T e,vcI 0 lo,vcI len hi,mx with
   |some j,some l,some h,none=>if 0≤l∧l≤h∧h≤len∧sz=j.size then some (.os nl sz id ver (off+l.toNat*sz) (h.toNat-l.toNat) (tight&&decide (h=len))) else none
   |some j,some l,some h,some (.int _ m)=>if 0≤l∧l≤h∧h≤m∧m≤len∧hi.isSome∧sz=j.size then some (.os nl sz id ver (off+l.toNat*sz) (h.toNat-l.toNat) (decide (m=h))) else none
   |_,_,_,_=>none
  |_,_=>none
 |none=>none
theorem va9 {P:Program}{w:World}{k:IntKind}{i:Int}{y:Nat}{c:BoundsCode}(h:0≤i∧i≤y):(Instr.sliceBound (.int k i) y c).run P w=.ok i.toNat w:=by
 simp only[Instr.sliceBound,asIntOf,qy,qR,ql]
 rw[if_pos h]; rfl
def OptR (E:Env):Option AV→Option Value→Prop
 |none,none=>True
 |some a,some v=>VR E a v
 |_,_=>False
theorem vam {P:Program}{E:Env}{lo hi:Option AV}{vlo vhi:Option Value}(hlo:OptR E lo vlo)(hhi:OptR E hi vhi){b:Bool}{len cap:Nat}{l h:Int}
 (h1:vcI 0 lo=some l) (h2:vcI len hi=some h) (hl:0≤l) (hlh:l≤h) (hh:h≤len) (hc:len≤cap):(Instr.sliceBounds b len cap vlo vhi none).run P E.w=.ok (l.toNat,h.toNat,cap) E.w:=by
 have eh:(match (vhi,(none:Option Value)) with
  |(some v,some _)=>Instr.sliceBound v cap .slice3B
  |(some v,none)=>Instr.sliceBound v cap (if b then .sliceAcap else .sliceAlen)
  |(none,none)=>pure len
  |(none,some _)=>stuck "Slice: max without high").run P E.w=.ok h.toNat E.w:=by
  cases hi with
  |none=>
   cases vhi with
   |none=>simp only[vcI,Option.some.injEq] at h2; subst h2; simp
   |some v=>exact hhi.elim
  |some a=>
   cases vhi with
   |none=>exact hhi.elim
   |some v=>
    cases a<;>simp only[vcI,reduceCtorEq,Option.some.injEq] at h2
    subst h2;cases hhi;exact va9 ⟨by omega,by omega⟩
 have el:(match vlo with
  |some v=>Instr.sliceBound v h.toNat (if (none:Option Value).isSome then .slice3C else .sliceB)
  |none=>pure 0).run P E.w=.ok l.toNat E.w:=by
  cases lo with
  |none=>
   cases vlo with
   |none=>simp only[vcI,Option.some.injEq] at h1; subst h1; simp
   |some v=>exact hlo.elim
  |some a=>
   cases vlo with
   |none=>exact hlo.elim
   |some v=>
    cases a<;>simp only[vcI,reduceCtorEq,Option.some.injEq] at h1
    subst h1;cases hlo;exact va9 ⟨by omega,by omega⟩
 unfold Instr.sliceBounds;simp only[qy,qR,ql]
 cases vhi<;>cases vlo<;>simp only[] at eh el ⊢<;>(simp only[qy]; rw[eh]; simp only[ql]; rw[el]; rfl)
theorem vaI {P:Program}{E:Env}{lo hi:Option AV}{vlo vhi:Option Value}(hlo:OptR E lo vlo)(hhi:OptR E hi vhi){b:Bool}{len cap:Nat}{l h m:Int}{k:IntKind}
 (h1:vcI 0 lo=some l) (h2:vcI len hi=some h) (hs:hi.isSome=true) (hl:0≤l) (hlh:l≤h) (hhm:h≤m) (hm:m≤cap):
 (Instr.sliceBounds b len cap vlo vhi (some (.int k m))).run P E.w=.ok (l.toNat,h.toNat,m.toNat) E.w:=by
 cases hi with
 |none=>cases hs
 |some a=>
  cases vhi with
  |none=>exact hhi.elim
  |some v=>
   cases a<;>simp only[vcI,reduceCtorEq,Option.some.injEq] at h2
   subst h2;cases hhi;unfold Instr.sliceBounds;simp only[qy,qR,ql];rw[va9 ⟨by omega,hm⟩];simp only[ql];rw[va9 ⟨by omega,by omega⟩];simp only[ql]
   cases lo with
   |none=>
    cases vlo with
    |none=>simp only[vcI,Option.some.injEq] at h1; subst h1; simp
    |some v=>exact hlo.elim
   |some a=>
    cases vlo with
    |none=>exact hlo.elim
    |some v=>
     cases a<;>simp only[vcI,reduceCtorEq,Option.some.injEq] at h1
     subst h1;cases hlo;simp only[qy];rw[va9 ⟨by omega,by omega⟩]
     simp
theorem VR.cutds {E:Env}{nl:Bool}{cells:List AV}{a:Addr}{cap:Nat}{vs:Nat→Value}(ha:cells=[]∨a.spot=none)(hr:Row E.w E.st a.block a.off cells.length vs)
 (h:∀ i,i<cells.length→VR E (gc cells i) (vs i)) (sz l hh m:Nat) (hl:l≤hh) (hhm:hh≤m) (hmc:m≤cap) (hB:hh≤9223372036854775807) (tight:Bool) (ht:tight=true→m=hh):
 VR E (.ds nl (va0 cells sz l hh) (hh-l) tight) (.slice (some (if m=l then a else a.add (l*sz))) (hh-l) (m-l)):=by
 have hlen:(va0 cells sz l hh).length=min ((hh-l)*sz) (cells.length-l*sz):=by simp[va0]
 by_cases hml:m=l
 · have h0:hh-l=0:=by omega
   have hnil:va0 cells sz l hh=[]:=by simp[va0,h0]
   rw[if_pos hml,hnil];exact .ds _ _ _ _ a _ vs (.inl rfl) Row.zero (fun i hi=>absurd hi (by simp)) (by omega) (fun e=>by have:=ht e; omega) (by omega)
 rw[if_neg hml]
 by_cases hc:va0 cells sz l hh=[]
 · rw[hc];exact .ds _ _ _ _ _ _ vs (.inl rfl) Row.zero (fun i hi=>absurd hi (by simp)) (by omega) (fun e=>by have:=ht e; omega) (by omega)
 have hne:cells≠[]:=by intro e; subst e; simp[va0] at hc
 have hsp:=ha.resolve_left hne
 have e:a.add (l*sz)=⟨a.block,a.off+l*sz,none⟩:=by rw[addr_eta a hsp,Yj]
 have hpos:0<(va0 cells sz l hh).length:=List.length_pos_iff.2 hc;rw[e];refine .ds _ _ _ _ _ _ (fun i=>vs (l*sz+i)) (.inr rfl) ?_ (fun i hi=>?_) (by omega) (fun e=>by have:=ht e; omega) (by omega)
 · rcases hr with hr|⟨h1,h2⟩
   · exact absurd (qS.1 hr) hne
   exact .inr ⟨h1,fun i hi=>by rw[ux]; exact h2 _ (by omega)⟩
 have hg:gc (va0 cells sz l hh) i=gc cells (l*sz+i):=by
  simp only[va0,gc,qC,List.getElem?_take,List.getElem?_drop];rw[if_pos (by omega)]
 rw[hg]; exact h _ (by omega)
theorem VR.cutos {E:Env}{nl:Bool}{sz id ver off:Nat}{a:Addr}{cap:Nat}(hk:E.ok id ver)
 (h:∀ ob,E.loc id=some (ver,ob)→∃ b,ob=some b∧(cap=0∨a=⟨b,E.base b+off,none⟩)∧∃ t m,E.w.shape? b=some (t,m)∧tsize t=sz∧E.base b+off+cap*sz≤m) (l hh m:Nat) (hl:l≤hh) (hhm:hh≤m) (hmc:m≤cap) (hB:hh≤9223372036854775807) (tight:Bool) (ht:tight=true→m=hh):
 VR E (.os nl sz id ver (off+l*sz) (hh-l) tight) (.slice (some (if m=l then a else a.add (l*sz))) (hh-l) (m-l)):=by
 refine .os _ _ _ _ _ _ _ _ _ hk (by omega) (fun e=>by have:=ht e; omega) (by omega) fun ob hob=>?_
 obtain⟨b,e1,e2,t,q,e3,e5,e4⟩:=h ob hob;refine⟨b,e1,?_,t,q,e3,e5,?_⟩
 · by_cases hml:m=l
   · exact .inl (by omega)
   rw[if_neg hml,e2.resolve_left (by omega),Yj,ux]; exact .inr rfl
 have:l*sz+(m-l)*sz=m*sz:=by rw[← u6]; congr 1; omega
 have:m*sz≤cap*sz:=ud _ hmc
 omega
theorem run_evSlice {P:Program}{T:TT}(hT:TOK P T){E:Env}{σ:ze}(hS:SR E σ){t:TypeId}{x:AV}{vx:Value}(hx:VR E x vx){lo hi mx:Option AV}{vlo vhi vmx:Option Value}
 (hlo:OptR E lo vlo) (hhi:OptR E hi vhi) (hmx:OptR E mx vmx) {r:AV} (h:ZN T t x lo hi mx=some r):Out P E (Instr.sliceAt t vx vlo vhi vmx) r σ:=by
 unfold ZN at h
 split at h
 · rename_i i hti
   have at_:∀ (d:TypeDesc),i.desc=d→(∀ n e,d≠.array n e)→(Instr.sliceAt t vx vlo vhi vmx).run P E.w=(Instr.slice t vx vlo vhi vmx).run P E.w:=fun d hd hne=>by
    simp only[Instr.sliceAt,qy,yk _ (hT _ _ hti),ql,hd]
    all_goals (cases d<;>first|rfl|exact absurd rfl (hne _ _))
   split at h
   · rename_i s hd
     cases hx with|str _ b hb=>
     split at h
     · rename_i l hh h1 h2
       split at h
       · rename_i hc
         cases h;subst hb
         cases vmx with
         |some v=>exact hmx.elim
         |none=>
         have hsz:b.data.toList.length=b.size:=by rw[uq]; rfl
         rw[hsz] at h2 hc;have hb:=vam (P:=P) hlo hhi (b:=false) (cap:=b.size) h1 h2 hc.1 hc.2.1 hc.2.2 (qx _);refine .same hS (cv:=.string (b.extract l.toNat hh.toNat)) ?_ (.str _ _ ?_)
         · rw[at_ _ hd (by simp)];simp only[Instr.slice,qy,yk _ (hT _ _ hti),ql,hd];simp only[Option.isSome_none,uf,if_false,qy,qR,ql,hb]
         simp[List.take_drop]
       cases h
     cases h
   · rename_i e nl cells len tight hd
     split at h
     · rename_i j l hh hj h1 h2
       split at h
       · rename_i hc
         cases h
         cases vmx with
         |some v=>exact hmx.elim
         |none=>
         cases hx with
         |dsn=>
          have hh0:hh=0:=by have:=hc.2.2; omega
          have hl0:l=0:=by omega
          subst hh0; subst hl0
          refine .same hS (cv:=.slice none 0 0) ?_ ?_
          · rw[at_ _ hd (by simp)];simp only[Instr.slice,qy,yk _ (hT _ _ hti),ql,hd];rw[vam (P:=P) hlo hhi (b:=true) (cap:=0) h1 h2 (by omega) (by omega) (by omega) (qx _)]
            simp[wF _ (hT _ _ hj)]
          simp only[va0,Int.toNat_zero,uy,uQ,List.drop_nil,List.take_nil];exact .dsn _
         |ds _ _ _ _ a cap vs ha hr hv hcap ht hB=>
          refine .same hS (cv:=.slice (some (if cap=l.toNat then a else a.add (l.toNat*j.size))) (hh.toNat-l.toNat) (cap-l.toNat)) ?_ ?_
          · rw[at_ _ hd (by simp)];simp only[Instr.slice,qy,yk _ (hT _ _ hti),ql,hd];rw[vam (P:=P) hlo hhi (b:=true) (cap:=cap) h1 h2 hc.1 hc.2.1 hc.2.2 hcap];simp only[ql,wF _ (hT _ _ hj),qR]
            split<;>rfl
          refine VR.cutds (cap:=cap) ha hr hv j.size _ _ cap (by omega) (by omega) (qx _) (by omega) _ fun e=>?_
          simp only[qJ,decide_eq_true_eq] at e
          have:=ht e.1; omega
       cases h
     · rename_i j l hh k m hj h1 h2
       split at h
       · rename_i hc
         obtain⟨c1,c2,c3,c4,c5⟩:=hc;cases h
         cases vmx with
         |none=>exact hmx.elim
         |some v=>
         cases hmx
         cases hx with
         |dsn=>
          have hm0:m=0:=by omega
          have hh0:hh=0:=by omega
          have hl0:l=0:=by omega
          subst hm0; subst hh0; subst hl0
          refine .same hS (cv:=.slice none 0 0) ?_ ?_
          · rw[at_ _ hd (by simp)];simp only[Instr.slice,qy,yk _ (hT _ _ hti),ql,hd];rw[vaI (P:=P) hlo hhi (b:=true) (cap:=0) h1 h2 c5 (by omega) (by omega) (by omega) (by omega)]
            simp[wF _ (hT _ _ hj)]
          simp only[va0,Int.toNat_zero,uy,uQ,List.drop_nil,List.take_nil];exact .dsn _
         |ds _ _ _ _ a cap vs ha hr hv hcap ht hB=>
          refine .same hS (cv:=.slice (some (if m.toNat=l.toNat then a else a.add (l.toNat*j.size))) (hh.toNat-l.toNat) (m.toNat-l.toNat)) ?_ ?_
          · rw[at_ _ hd (by simp)];simp only[Instr.slice,qy,yk _ (hT _ _ hti),ql,hd];rw[vaI (P:=P) hlo hhi (b:=true) (cap:=cap) h1 h2 c5 c1 c2 c3 (by omega)];simp only[ql,wF _ (hT _ _ hj),qR]
            split<;>rfl
          refine VR.cutds (cap:=cap) ha hr hv j.size _ _ m.toNat (by omega) (by omega) (by omega) (by omega) _ fun e=>?_
          simp only[decide_eq_true_eq] at e
          omega
       cases h
     cases h
   · rename_i e nl sz id ver off len tight hd
     split at h
     · rename_i j l hh hj h1 h2
       split at h
       · rename_i hc
         obtain⟨c1,c2,c3,c4⟩:=hc;subst c4;cases h
         cases vmx with
         |some v=>exact hmx.elim
         |none=>
         cases hx with
         |osn _ _ _ _ _ a0 hk hn=>
          have hh0:hh=0:=by omega
          have hl0:l=0:=by omega
          subst hh0; subst hl0
          refine .same hS (cv:=.slice a0 0 0) ?_ (.osn _ _ _ _ _ _ hk hn);rw[at_ _ hd (by simp)];simp only[Instr.slice,qy,yk _ (hT _ _ hti),ql,hd];rw[vam (P:=P) hlo hhi (b:=true) (cap:=0) h1 h2 (by omega) (by omega) (by omega) (qx _)]
          cases a0<;>simp[wF _ (hT _ _ hj)]
         |os _ _ _ _ _ _ _ a cap hk hcap ht hB hp=>
          refine .same hS (cv:=.slice (some (if cap=l.toNat then a else a.add (l.toNat*j.size))) (hh.toNat-l.toNat) (cap-l.toNat)) ?_ ?_
          · rw[at_ _ hd (by simp)];simp only[Instr.slice,qy,yk _ (hT _ _ hti),ql,hd];rw[vam (P:=P) hlo hhi (b:=true) (cap:=cap) h1 h2 c1 c2 c3 hcap];simp only[ql,wF _ (hT _ _ hj),qR]
            split<;>rfl
          refine VR.cutos (cap:=cap) hk hp _ _ cap (by omega) (by omega) (qx _) (by omega) _ fun e=>?_
          simp only[qJ,decide_eq_true_eq] at e
          have:=ht e.1; omega
       cases h
     · rename_i j l hh k m hj h1 h2
       split at h
       · rename_i hc
         obtain⟨c1,c2,c3,c4,c5,c6⟩:=hc;subst c6;cases h
         cases vmx with
         |none=>exact hmx.elim
         |some v=>
         cases hmx
         cases hx with
         |osn _ _ _ _ _ a0 hk hn=>
          have hm0:m=0:=by omega
          have hh0:hh=0:=by omega
          have hl0:l=0:=by omega
          subst hm0; subst hh0; subst hl0
          refine .same hS (cv:=.slice a0 0 0) ?_ (.osn _ _ _ _ _ _ hk hn);rw[at_ _ hd (by simp)];simp only[Instr.slice,qy,yk _ (hT _ _ hti),ql,hd];rw[vaI (P:=P) hlo hhi (b:=true) (cap:=0) h1 h2 c5 (by omega) (by omega) (by omega) (by omega)]
          cases a0<;>simp[wF _ (hT _ _ hj)]
         |os _ _ _ _ _ _ _ a cap hk hcap ht hB hp=>
          refine .same hS (cv:=.slice (some (if m.toNat=l.toNat then a else a.add (l.toNat*j.size))) (hh.toNat-l.toNat) (m.toNat-l.toNat)) ?_ ?_
          · rw[at_ _ hd (by simp)];simp only[Instr.slice,qy,yk _ (hT _ _ hti),ql,hd];rw[vaI (P:=P) hlo hhi (b:=true) (cap:=cap) h1 h2 c5 c1 c2 c3 (by omega)];simp only[ql,wF _ (hT _ _ hj),qR]
            split<;>rfl
          refine VR.cutos (cap:=cap) hk hp _ _ m.toNat (by omega) (by omega) (by omega) (by omega) _ fun e=>?_
          simp only[decide_eq_true_eq] at e
          omega
       cases h
     cases h
   cases h
 cases h
end AM
end
section
namespace AM
open Go.RowKit
def y1 (σ:ze)(size:Nat):AV→Option (Nat×List AV)
 |.ds _ cells len _=>if len*size≤cells.length then some (len,cells.take (len*size)) else none
 |.os _ _ id ver off len _=>match ze.at σ id ver with
  |some cs=>if off+len*size≤cs.length then some (len,(cs.drop off).take (len*size)) else none
  |none=>none
 |.str s=>if size=1 then some (s.length,bys s) else none
 |_=>none
def va1 (E:Env)(vs:Array Value)(cs:List AV):Prop:=vs.size=cs.length∧∀ i,i<cs.length→VR E (gc cs i) (vs.getD i undef)
theorem gc_take (cs:List AV)(n i:Nat)(h:i<n):gc (cs.take n) i=gc cs i:=by
 simp only[gc,qC,List.getElem?_take,h,if_true]
theorem va1.take {E:Env}{vs:Array Value}{cs:List AV}(h:va1 E vs cs)(n:Nat):va1 E (vs.extract 0 n) (cs.take n):=by
 refine⟨by simp[h.1],fun i hi=>?_⟩
 have hi':i<n∧i<cs.length:=by simp at hi; omega
 rw[gc_take _ _ _ hi'.1]
 have:(vs.extract 0 n).getD i undef=vs.getD i undef:=by
  simp only[uG,Array.getElem?_extract];rw[if_pos (by have:=h.1; omega),qn]
 rw[this]; exact h.2 i hi'.2
theorem X5 {P:Program}{E:Env}{b o off n:Nat}{cs:List AV}(hc:∀ j,j<n→∃ v,E.w.cell? ⟨b,o+j,none⟩=some v∧VR E (gc cs (off+j)) v)(hl:off+n≤cs.length):
 ∃ vs,(loadCells ⟨b,o,none⟩ n).run P E.w=.ok vs E.w∧va1 E vs ((cs.drop off).take n):=by
 have hf:∀ j,∃ v,j<n→E.w.cell? ⟨b,o+j,none⟩=some v∧VR E (gc cs (off+j)) v:=by
  intro j
  by_cases hj:j<n
  · obtain⟨v,hv⟩:=hc j hj; exact⟨v,fun _=>hv⟩
  exact⟨undef,fun h=>absurd h hj⟩
 obtain⟨f,hf⟩:=Classical.skolem.1 hf;refine⟨((uJ n).map f).toArray,run_loadCells E.w ⟨b,o,none⟩ n f (fun j hj=>by rw[Yj]; exact (hf j hj).1),by simp; omega,fun j hj=>?_⟩
 have hj':j<n:=by simp at hj; omega
 rw[X8 _ _ _ _ hj' hl]
 have:(((uJ n).map f).toArray).getD j undef=f j:=by simp[hj']
 rw[this]; exact (hf j hj').2
theorem va1.nil (E:Env):va1 E #[] []:=⟨rfl,fun i hi=>absurd hi (by simp)⟩
theorem gc_bys (l:List UInt8)(i:Nat)(h:i<l.length):gc (bys l) i=.int .u8 (l[i].toNat):=gc_map _ _ _ h
theorem va5 {P:Program}{E:Env}{σ:ze}(hS:SR E σ){size:Nat}{x:AV}{vx:Value}(hx:VR E x vx){n:Nat}{cs:List AV}(h:y1 σ size x=some (n,cs)):
 (Builtin.lenOf vx).run P E.w=.ok n E.w∧cs.length=n*size∧∀ m,m≤n→∃ vs,(Builtin.firstCells size m vx).run P E.w=.ok vs E.w∧va1 E vs (cs.take (m*size)):=by
 unfold y1 at h
 split at h
 · rename_i nl cells len tight
   split at h
   · rename_i hle
     cases h
     cases hx with
     |dsn=>exact⟨rfl,by simp,fun m hm=>⟨#[],rfl,by simp; exact va1.nil E⟩⟩
     |ds _ _ _ _ a cap vs ha hr hv hc ht hB=>
      refine⟨rfl,by simp; omega,fun m hm=>?_⟩;have hmul:m*size≤n*size:=ud _ hm
      have htake:(cells.take (n*size)).take (m*size)=(cells.drop 0).take (m*size):=by rw[List.take_take,qq]; congr 1; omega
      rw[htake]
      by_cases hz:m*size=0
      · refine⟨#[],?_,by rw[hz]; simp; exact va1.nil E⟩
        show (loadCells a (m*size)).run P E.w=_
        rw[hz]; rfl
      have hne:cells≠[]:=by intro e; subst e; simp at hle; omega
      have hsp:=ha.resolve_left hne
      obtain⟨vs',h1,h2⟩:=X5 (P:=P) (E:=E) (b:=a.block) (o:=a.off) (off:=0) (n:=m*size) (cs:=cells) (fun j hj=>by
       obtain⟨v,h1,h2⟩:=VR.getRow hv hr j (by omega)
       exact⟨v,h1,by rw[qn]; exact h2⟩) (by omega)
      refine⟨vs',?_,h2⟩
      show (loadCells a (m*size)).run P E.w=_
      rw[addr_eta a hsp]; exact h1
   cases h
 · rename_i nl sz id ver off len tight
   split at h
   · rename_i cs0 hcs
     split at h
     · rename_i hle
       cases h
       cases hx with
       |osn _ _ _ _ _ a0 hk hn=>
        refine⟨rfl,by simp,fun m hm=>⟨#[],?_,by simp; exact va1.nil E⟩⟩
        obtain rfl:m=0:=by omega
        cases a0 with
        |none=>rfl
        |some a=>
         show (loadCells a (0*size)).run P E.w=_
         rw[uy]; rfl
       |os _ _ _ _ _ _ _ a cap hk hc ht hB hp=>
        refine⟨rfl,by simp; omega,fun m hm=>?_⟩;have hmul:m*size≤n*size:=ud _ hm
        have htake:((cs0.drop off).take (n*size)).take (m*size)=(cs0.drop off).take (m*size):=by rw[List.take_take]; congr 1; omega
        rw[htake]
        by_cases hz:m*size=0
        · refine⟨#[],?_,by rw[hz]; simp; exact va1.nil E⟩
          show (loadCells a (m*size)).run P E.w=_
          rw[hz]; rfl
        obtain⟨b,hl,hb⟩:=hS.block_of hcs (show off<cs0.length by omega);obtain⟨b',e1,e2,_⟩:=hp _ hl;cases e1
        have hm0:m≠0:=by intro e; subst e; simp at hz
        have:=e2.resolve_left (by omega);subst this;obtain⟨vs',h1,h2⟩:=X5 (P:=P) (E:=E) (b:=b) (o:=E.base b+off) (off:=off) (n:=m*size) (cs:=cs0) (fun j hj=>by rw[ux]; exact hb.cell (off+j) (by omega)) (by omega);exact⟨vs',h1,h2⟩
     cases h
   cases h
 · rename_i s
   split at h
   · rename_i hsz
     subst hsz;cases h
     cases hx with|str _ b hb=>
     subst hb
     have hl:b.data.toList.length=b.size:=by rw[uq]; rfl
     refine⟨by rw[hl]; rfl,by simp[van],fun m hm=>⟨(b.extract 0 m).data.map fun b=>.int .u8 b.toNat,rfl,?_⟩⟩;rw[hl] at hm
     have hd:(b.extract 0 m).data.toList=b.data.toList.take m:=by simp
     have hsz:(b.extract 0 m).data.size=m:=by rw[← uq,hd]; simp; omega
     refine⟨by simp only[Array.size_map,hsz,uR,van]; omega,fun i hi=>?_⟩
     have hi':i<m:=by simp[van] at hi; omega
     rw[Nat.mul_one,gc_take _ _ _ hi',gc_bys _ _ (by omega)]
     have h1:i<(b.extract 0 m).data.size:=by omega
     have:((b.extract 0 m).data.map fun b=>Value.int .u8 b.toNat).getD i undef=.int .u8 (b.data.toList[i]'(by omega)).toNat:=by
      simp only[uG,Array.getElem?_map,uM h1,uN,uO]
      have:(b.extract 0 m).data[i]=(b.extract 0 m).data.toList[i]'(by rw[uq]; exact h1):=by simp
      rw[this]
      congr 2
      simp only[hd]
      simp
     rw[this]; exact .int _ _
   cases h
 cases h
def vcY (T:TT)(t:TypeId)(x:AV)(σ:ze):Option AV:=
 match T t with
 |some i=>
  match i.desc,x with
  |.slice _,.ds _ _ len _=>some (.int .i64 len)
  |.slice _,.os _ _ _ _ _ len _=>some (.int .i64 len)
  |.string,.str s=>some (.int .i64 s.length)
  |.map _ _,.nilm=>some (.int .i64 0)
  |.map _ _,.mp id=>match σ[id]? with
   |some (.map es _)=>some (.int .i64 es.length)
   |_=>none
  |.array n _,_=>some (.int .i64 n)
  |_,_=>none
 |none=>none
theorem run_evLen {P:Program}{T:TT}(hT:TOK P T){E:Env}{σ:ze}(hS:SR E σ){t ty:TypeId}{x:AV}{vx:Value}(hx:VR E x vx){r:AV}(h:vcY T t x σ=some r):
 Out P E (Builtin.len_ #[t] ty #[vx]) r σ:=by
 unfold vcY at h
 split at h
 · rename_i i hi
   split at h
   · rename_i hd
     cases h
     cases hx with
     |dsn=>exact .same hS (by simp[Builtin.len_,yk _ (hT _ _ hi),hd]; rfl) (.int _ _)
     |ds=>exact .same hS (by simp[Builtin.len_,yk _ (hT _ _ hi),hd]; rfl) (.int _ _)
   · rename_i hd
     cases h
     cases hx with
     |osn=>exact .same hS (by simp[Builtin.len_,yk _ (hT _ _ hi),hd]; rfl) (.int _ _)
     |os=>exact .same hS (by simp[Builtin.len_,yk _ (hT _ _ hi),hd]; rfl) (.int _ _)
   · rename_i hd
     cases h
     cases hx with|str _ s hs=>
     subst hs;refine .same hS (by simp[Builtin.len_,yk _ (hT _ _ hi),hd]; rfl) ?_;rw[uq];exact .int _ _
   · rename_i hd
     cases h;cases hx;exact .same hS (by simp[Builtin.len_,yk _ (hT _ _ hi),hd]; rfl) (.int _ _)
   · rename_i id hd
     split at h
     · rename_i es hes
       cases h
       cases hx with|mp _ b hk hp=>
       have:=hS.obj id;rw[hes] at this;obtain⟨b',ents,clock,h1,h2,h3,_⟩:=this;have:=hp _ h1;cases this;refine .same hS (cv:=.int .i64 ents.size) ?_ (by rw[h3]; exact .int _ _)
       simp[Builtin.len_,yk _ (hT _ _ hi),hd,getObj,Sem.run,h2]
       rfl
     cases h
   · rename_i n e hd
     cases h;exact .same hS (by simp[Builtin.len_,yk _ (hT _ _ hi),hd]; rfl) (.int _ _)
   cases h
 cases h
def yI (zc:List AV)(m:Nat):List AV:=(uJ m).map fun i=>gc zc (i % zc.length)
theorem gc_zeroRun (zc:List AV)(m i:Nat)(h:i<m):gc (yI zc m) i=gc zc (i % zc.length):=by
 unfold yI;rw[gc_map _ _ _ (by simpa using h)]
 simp
theorem vc9 (z:AV)(m:Nat):yI [z] m=qV m z:=by
 apply uX
 intro i
 by_cases h:i<m
 · simp[yI,h,gc]; simp[Nat.mod_one]
 simp[yI,h]
theorem vbZ {E:Env}{zero:AV}{z:Value}(hz:VR E zero z)(ho:zero.okc=true)(hp:0<zero.cells.length)(m:Nat):
 va1 E ((Array.range m).map fun i=>z.cells[i % z.cells.size]!) (yI zero.cells m):=by
 obtain⟨hs,hv⟩:=hz.cellsOf ho;refine⟨by simp[yI],fun i hi=>?_⟩
 have hi':i<m:=by simpa [yI] using hi
 rw[gc_zeroRun _ _ _ hi'];have hlt:i % zero.cells.length<zero.cells.length:=Nat.mod_lt _ hp
 have:((Array.range m).map fun i=>z.cells[i % z.cells.size]!).getD i undef=z.cells.getD (i % zero.cells.length) undef:=by
  have hlt':i % zero.cells.length<z.cells.size:=by omega
  simp only[uG,Array.getElem?_map,Array.getElem?_range,if_pos hi',uN,uO,hs]
  rw[getElem!_pos z.cells _ hlt',uM hlt']; rfl
 rw[this]; exact hv _ hlt
theorem va6 {P:Program}{E:Env}{σ:ze}(hS:SR E σ){vs:Array Value}{cs:List AV}(ht:va1 E vs cs)(e:TypeId):
 ∃ E',(Go.newRow e vs).run P E.w=.ok ⟨E.w.heap.size,0,none⟩ E'.w∧SR E' (σ++[.cells 0 cs])∧Ext E E'∧E'.ok σ.length 0∧E'.loc σ.length=some (0,some E.w.heap.size)∧
  E'.w.shape? E.w.heap.size=some (e,vs.size)∧E'.base E.w.heap.size=0:=by
 obtain⟨hS',hx'⟩:=hS.newRow vs e cs (by rw[ht.1]; exact qx _) ht.2;refine⟨_,?_,hS',hx',Env.ok_new hS _ _,Env.loc_new hS _ _,?_,hS.bas _ (qx _)⟩
 · simp only[Go.newRow,qy,run_newObj,ql,qR]; rfl
 simp only[Env.new,World.shape?,xK]
theorem map_none (a b:Array Value):((Array.range 0).map fun i=>a[i % a.size]!)=(Array.range 0).map fun i=>b[i % b.size]! := by simp
def evMake (T:TT)(t:TypeId)(len cap:AV)(σ:ze):Option (AV×ze):=
 match T t,len,cap with
 |some i,.int _ l,.int _ c=>match i.desc with
  |.slice e=>match T e with
   |some j=>
    if 0≤l∧l≤c∧j.bytes*c≤281474976710656∧c<9223372036854775807∧j.zero.okc=true∧j.zero.cells.length=j.size∧0<j.size then
     some (.os true j.size σ.length 0 0 l.toNat (decide (l=c)),σ++[.cells 0 (yI j.zero.cells (l.toNat*j.size))])
    else none
   |none=>none
  |_=>none
 |_,_,_=>none
theorem vda {x:Int}(h : -9223372036854775808≤x)(h':x<9223372036854775808):IntKind.i64.wrap x=x:=by
 rw[IntKind.wrap_i64]; omega
theorem SR.short {E:Env}{σ:ze}(hS:SR E σ){id ver:Nat}{cs:List AV}(h:ze.at σ id ver=some cs)(n:Nat):SR E (σ.set id (.cells ver (cs.take n))):=by
 refine⟨by simpa using hS.len,fun id'=>?_,hS.inj,hS.blk,hS.stb,hS.glb,hS.bas⟩
 by_cases hid:id'=id
 · subst hid;rw[uv (ze.at_lt h)]
   rcases hS.at h with ⟨b,h1,h2⟩|⟨h1,h2⟩
   · obtain⟨conc,t,fr,a1,a2,a3,a4⟩:=h2.blk;refine .inl ⟨b,h1,conc,t,fr,a1,a2,by simp; omega,fun i hi=>?_⟩
     have hi':i<n∧i<cs.length:=by simp at hi; omega
     rw[gc_take _ _ _ hi'.1]; exact a4 i hi'.2
   exact .inr ⟨by rw[h1]; simp,h2⟩
 rw[ue (fun e=>hid e.symm)]; exact hS.obj id'
theorem zeroRun_take (zc:List AV)(m n:Nat)(h:n≤m):(yI zc m).take n=yI zc n:=by
 unfold yI;rw[← List.map_take,List.take_range,Nat.min_eq_left h]
theorem ze.at_new (σ:ze)(ver:Nat)(cs:List AV):ze.at (σ++[.cells ver cs]) σ.length ver=some cs:=by
 simp[ze.at]
theorem set_new (σ:ze)(x y:Yq):(σ++[x]).set σ.length y=σ++[y]:=by
 simp
theorem run_evMake {P:Program}{T:TT}(hT:TOK P T){E:Env}{σ σ':ze}(hS:SR E σ){t:TypeId}{len cap:AV}{vl vc:Value}(hl:VR E len vl)(hc:VR E cap vc){r:AV}
 (h:evMake T t len cap σ=some (r,σ')):Out P E (Instr.makeSlice t vl vc) r σ':=by
 unfold evMake at h
 split at h
 · rename_i i k1 l k2 c hi
   cases hl; cases hc
   split at h
   · rename_i e hd
     split at h
     · rename_i j hj
       split at h
       · rename_i hcnd
         obtain⟨c1,c2,c3,c4,c5,c6,c7⟩:=hcnd;cases h;obtain⟨f,hf,hfb,hfs⟩:=vdn E.w (hT _ _ hj);obtain⟨z,hz,hzs,hzv⟩:=YW (w:=E.w) (hT _ _ hj);have wl:IntKind.i64.wrap l=l:=vda (by omega) (by omega);have wc:IntKind.i64.wrap c=c:=vda (by omega) (by omega);have ht:=vbZ (E:=E) (hzv E) c5 (by omega) (c.toNat*j.size);obtain⟨E',h1,h2,h3,h4,h5,h6,h7⟩:=va6 (P:=P) hS ht e;have hle:l.toNat*j.size≤c.toNat*j.size:=ud _ (by omega);have h2':=h2.short (ze.at_new σ 0 _) (l.toNat*j.size);rw[set_new,zeroRun_take _ _ _ hle] at h2';refine⟨.slice (some ⟨E.w.heap.size,0,none⟩) l.toNat c.toNat,E',?_,?_,h2',h3⟩
         · have hbig:¬ ((f.bytes:Int)*c>2^48):=by rw[hfb]; omega
           have htl:(decide (c<0)||decide ((f.bytes:Int)*c>2^48)||decide (l<0)||decide (l>c))=false:=by
            simp only[Bool.or_eq_false_iff,decide_eq_false_iff_not];exact⟨⟨⟨by omega,hbig⟩,by omega⟩,by omega⟩
           simp only[Instr.makeSlice,qy,yk _ (hT _ _ hi),ql,hd,asInt,asIntOf,qR,hf,wl,wc];rw[if_neg (by rw[htl]; simp)];simp only[qy,qR,ql,run_askRoom,wF _ (hT _ _ hj)]
           by_cases hn:c.toNat*j.size=0
           · simp only[hn,if_true,qy,qR,ql];rw[hn] at h1
             rw[map_none (#[]:Array Value) z.cells,h1]; rfl
           simp only[hn,if_false,qy,hz,ql,qR]
           rw[h1]; rfl
         refine .os _ _ _ _ _ _ _ _ _ h4 (by omega) (fun e=>by simp at e; omega) (by omega) fun ob hob=>?_
         rw[h5] at hob;cases hob;exact⟨_,rfl,.inr (by rw[h7]),e,_,h6,(hT _ _ hj).ts,by rw[h7]; simp⟩
       cases h
     cases h
   cases h
 cases h
def Xg (place:Nat→Option (Nat×Nat)):List AV→List (Nat×AV)→Option (List AV)
 |cs,[]=>some cs
 |cs,(i,x)::rest=>
  match place i with
  |some (off,size)=>if x.okc=true∧x.cells.length=size∧off+size≤cs.length then Xg place (wk cs off x.cells) rest else none
  |none=>none
theorem told_set {E:Env}{vs:Array Value}{cs:List AV}(h:va1 E vs cs){o:Nat}(ho:o<cs.length){x:AV}{v:Value}(hv:VR E x v):va1 E (vs.setIfInBounds o v) (cs.set o x):=by
 refine⟨by simp[h.1],fun i hi=>?_⟩;simp only[List.length_set] at hi;rw[gc_set _ _ _ _ ho]
 by_cases hio:i=o
 · subst hio
   have:(vs.setIfInBounds i v).getD i undef=v:=by have:=h.1; simp[show i<vs.size by omega]
   rw[if_pos rfl,this]; exact hv
 have:(vs.setIfInBounds o v).getD i undef=vs.getD i undef:=by simp[uS (show o≠i from fun e=>hio e.symm)]
 rw[if_neg hio,this]; exact h.2 i hi
theorem told_run {E:Env}(xs:List AV):∀ {vs:Array Value} {cs:List AV} (_:va1 E vs cs) (o:Nat) (ws:List Value) (_:ws.length=xs.length) (_:o+xs.length≤cs.length)
 (_:∀ i,i<xs.length→VR E (gc xs i) (ws.getD i undef)) (n:Nat),va1 E ((ws.zipIdx n).foldl (fun cs (c,j)=>cs.setIfInBounds (o-n+j) c) vs) (wk cs o xs)∨o<n:=by
 induction xs with
 |nil=>
  intro vs cs h o ws hw hl hv n
  have:ws=[]:=qS.1 hw;subst this;exact .inl h
 |cons x xs ih=>
  intro vs cs h o ws hw hl hv n
  by_cases hn:o<n
  · exact .inr hn
  cases ws with
  |nil=>simp at hw
  |cons v ws=>
   simp only[qp] at hl hw
   have hv0:VR E x v:=by have:=hv 0 (by simp); simpa [gc] using this
   have h1:=told_set h (show o<cs.length by omega) hv0
   have h2:=ih h1 (o+1) ws (by omega) (by simp; omega) (fun i hi=>by
    have:=hv (i+1) (by simp; omega)
    have e1:gc (x::xs) (i+1)=gc xs i:=by simp[gc]
    have e2:(v::ws).getD (i+1) undef=ws.getD i undef:=by simp
    rw[e1,e2] at this; exact this) (n+1)
   refine .inl ?_;rw[wk]
   rcases h2 with h2|h2
   · simp only[List.zipIdx_cons,List.foldl_cons]
     have e:o+1-(n+1)=o-n:=by omega
     rw[e] at h2
     have e':o-n+n=o:=by omega
     rw[e']; exact h2
   omega
theorem told_run0 {E:Env}{xs:List AV}{vs:Array Value}{cs:List AV}(h:va1 E vs cs)(o:Nat)(ws:Array Value)(hw:ws.size=xs.length)(hl:o+xs.length≤cs.length)
 (hv:∀ i,i<xs.length→VR E (gc xs i) (ws.getD i undef)):va1 E (ws.zipIdx.foldl (fun cs (c,j)=>cs.setIfInBounds (o+j) c) vs) (wk cs o xs):=by
 have:=told_run xs h o ws.toList (by simpa using hw) hl (fun i hi=>by have:=hv i hi; simpa using this) 0
 rcases this with h1|h1
 · have e:ws.zipIdx.foldl (fun cs (c,j)=>cs.setIfInBounds (o+j) c) vs=(ws.toList.zipIdx 0).foldl (fun cs (c,j)=>cs.setIfInBounds (o+j) c) vs:=by
    rw[← Array.foldl_toList]; simp
   rw[e]; simpa using h1
 omega
theorem vb0 {E:Env}{place:Nat→Option (Nat×Nat)}(parts:List (Nat×AV)):∀ {vs:Array Value} {cs cs':List AV} (_:va1 E vs cs) (ps:List (Nat×Value))
 (_:ps.length=parts.length) (_:∀ i (h:i<parts.length) (h':i<ps.length),ps[i].1=parts[i].1∧VR E parts[i].2 ps[i].2) (_:Xg place cs parts=some cs'),
 ∃ vs',Instr.fill place vs ps=some vs'∧va1 E vs' cs':=by
 induction parts with
 |nil=>
  intro vs cs cs' h ps hps hv hf
  have:ps=[]:=qS.1 hps;subst this;cases hf;exact⟨vs,rfl,h⟩
 |cons p parts ih=>
  intro vs cs cs' h ps hps hv hf
  cases ps with
  |nil=>simp at hps
  |cons q ps=>
   obtain⟨i,x⟩:=p;obtain⟨i',v⟩:=q;have h0:=hv 0 (by simp) (by simp);simp only[List.getElem_cons_zero] at h0;obtain⟨e,hx⟩:=h0;subst e;simp only[Xg] at hf
   split at hf
   · rename_i off size hpl
     split at hf
     · rename_i hc
       obtain⟨hxs,hxv⟩:=hx.cellsOf hc.1
       have hsz:v.cells.size=size:=by omega
       have h1:=told_run0 h off v.cells hxs (by omega) hxv
       obtain⟨vs',h2,h3⟩:=ih h1 ps (by simpa using hps) (fun i h h'=>by
        have:=hv (i+1) (by simp; omega) (by simp; omega)
        simpa using this) hf
       refine⟨vs',?_,h3⟩;simp only[Instr.fill,hpl]
       rw[if_neg (by
        have:=h.1;simp only[ut,decide_eq_true_eq,bne_iff_ne,ne_eq,not_or,Decidable.not_not]
        omega)]
       exact h2
     cases hf
   cases hf
def PartsR (E:Env)(parts:List (Nat×AV))(ps:List (Nat×Value)):Prop:=
 ps.length=parts.length∧∀ i (h:i<parts.length) (h':i<ps.length),ps[i].1=parts[i].1∧VR E parts[i].2 ps[i].2
def zV (T:TT)(t:TypeId)(len:Nat)(parts:List (Nat×AV))(σ:ze):Option (AV×ze):=
 match T t with
 |some i=>match i.desc with
  |.slice e=>match T e with
   |some j=>
    if len*j.size≤16777216∧j.zero.okc=true∧j.zero.cells.length=j.size∧0<j.size then
     match Xg (fun i=>some (i*j.size,j.size)) (yI j.zero.cells (len*j.size)) parts with
     |some cs=>some (.os true j.size σ.length 0 0 len true,σ++[.cells 0 cs])
     |none=>none
    else none
   |none=>none
  |_=>none
 |none=>none
theorem vcT {P:Program}{T:TT}(hT:TOK P T){E:Env}{σ σ':ze}(hS:SR E σ){t:TypeId}{len:Nat}{parts:List (Nat×AV)}{ps:Array (Nat×Value)}(hp:PartsR E parts ps.toList){r:AV}
 (h:zV T t len parts σ=some (r,σ')):Out P E (Instr.buildSlice t len ps) r σ':=by
 unfold zV at h
 split at h
 · rename_i i hi
   split at h
   · rename_i e hd
     split at h
     · rename_i j hj
       split at h
       · rename_i hc
         obtain⟨c1,c2,c3,c4⟩:=hc
         split at h
         · rename_i cs hcs
           cases h;obtain⟨z,hz,hzs,hzv⟩:=YW (w:=E.w) (hT _ _ hj);have ht:=vbZ (E:=E) (hzv E) c2 (by omega) (len*j.size);obtain⟨vs',hf,ht'⟩:=vb0 parts ht ps.toList hp.1 hp.2 hcs;obtain⟨E',h1,h2,h3,h4,h5,h6,h7⟩:=va6 (P:=P) hS ht' e
           have hlen:cs.length=len*j.size:=by
            have:∀ (parts:List (Nat×AV)) (cs cs':List AV),Xg (fun i=>some (i*j.size,j.size)) cs parts=some cs'→cs'.length=cs.length:=by
             intro parts
             induction parts with
             |nil=>intro cs cs' h; cases h; rfl
             |cons p parts ih=>
              intro cs cs' h
              obtain⟨i,x⟩:=p;simp only[Xg] at h
              split at h
              · rw[ih _ _ h,XK]
              cases h
            rw[this _ _ _ hcs]; simp[yI]
           refine⟨.slice (some ⟨E.w.heap.size,0,none⟩) len len,E',?_,?_,h2,h3⟩
           · simp only[Instr.buildSlice,qy,yk _ (hT _ _ hi),ql,hd,wF _ (hT _ _ hj)];rw[if_neg (by omega)]
             by_cases hn:len*j.size=0
             · simp only[hn,if_true,qy,qR,ql];rw[hn] at hf;rw[map_none (#[]:Array Value) z.cells,hf];simp only[qy]
               rw[h1]; rfl
             simp only[hn,if_false,qy,hz,ql,qR];rw[hf];simp only[qy]
             rw[h1]; rfl
           refine .os _ _ _ _ _ _ _ _ _ h4 (qx _) (fun _=>rfl) (by have:=Nat.le_mul_of_pos_right len c4; omega) fun ob hob=>?_
           rw[h5] at hob;cases hob;exact⟨_,rfl,.inr (by rw[h7]),e,_,h6,(hT _ _ hj).ts,by rw[h7,ht'.1,hlen]; simp⟩
         cases h
       cases h
     cases h
   cases h
 cases h
theorem vbA {place:Nat→Option (Nat×Nat)}:∀ {parts:List (Nat×AV)} {cs cs':List AV},Xg place cs parts=some cs'→cs'.length=cs.length
 |[],cs,cs',h=>by cases h; rfl
 |(i,x)::parts,cs,cs',h=>by
  simp only[Xg] at h
  split at h
  · split at h
    · rw[vbA h,XK]
    cases h
  cases h
theorem run_floatS {P:Program}{T:TT}(hT:TOK P T){E:Env}{σ σ' σ0:ze}(hS:SR E σ0){t:TypeId}{len:Nat}{parts:List (Nat×AV)}{ps:Array (Nat×Value)}(hp:PartsR E parts ps.toList){r:AV}
 (h:zV T t len parts σ=some (r,σ')):∃ cs w' v,σ'=σ++[.cells 0 cs]∧(Instr.buildSlice t len ps).run P E.w=.ok v w'∧XB E.w w'∧E.w.heap.size<w'.heap.size∧Flt E.w.heap.size { E with w:=w' } cs σ.length r v E.w.heap.size:=by
 unfold zV at h
 split at h
 · rename_i i hi
   split at h
   · rename_i e hd
     split at h
     · rename_i j hj
       split at h
       · rename_i hc
         obtain⟨c1,c2,c3,c4⟩:=hc
         split at h
         · rename_i cs hcs
           cases h;obtain⟨z,hz,hzs,hzv⟩:=YW (w:=E.w) (hT _ _ hj);have ht:=vbZ (E:=E) (hzv E) c2 (by omega) (len*j.size);obtain⟨vs',hf,ht'⟩:=vb0 parts ht ps.toList hp.1 hp.2 hcs
           have hlen:cs.length=len*j.size:=by rw[vbA hcs]; simp[yI]
           have hg:=XB.alloc E.w (.cells vs' e);have hx:Ext E { E with w:=E.w.alloc (.cells vs' e) }:=Ext.grew hS.stb hg;refine⟨cs,_,.slice (some ⟨E.w.heap.size,0,none⟩) len len,rfl,?_,hg,by simp,.os _ _ e vs'.size (by have:=Nat.le_mul_of_pos_right len c4; omega) (by simp only[World.shape?,xK]) (hT _ _ hj).ts (by rw[ht'.1,hlen]; simp),qx _,by simp,fun hs=>Nat.lt_irrefl _ (hS.stb _ hs),fun id v hl=>Nat.lt_irrefl _ (hS.blk id v _ hl).1,.zero (hS.bas _ (qx _)) (xK _ _) (by rw[ht'.1]; exact qx _) fun i hi=>(ht'.2 i hi).ext hx,hS.bas _ (qx _)⟩
           have hrow:(Go.newRow e vs').run P E.w=.ok ⟨E.w.heap.size,0,none⟩ (E.w.alloc (.cells vs' e)):=by
            simp only[Go.newRow,qy,run_newObj,ql,qR]; rfl
           simp only[Instr.buildSlice,qy,yk _ (hT _ _ hi),ql,hd,wF _ (hT _ _ hj)];rw[if_neg (by omega)]
           by_cases hn:len*j.size=0
           · simp only[hn,if_true,qy,qR,ql];rw[hn] at hf;rw[map_none (#[]:Array Value) z.cells,hf];simp only[qy]
             rw[hrow]; rfl
           simp only[hn,if_false,qy,hz,ql,qR];rw[hf];simp only[qy]
           rw[hrow]; rfl
         cases h
       cases h
     cases h
   cases h
 cases h
def vbb (T:TT)(fields:Array Go.Field)(k:Nat):Option (Nat×Nat):=
 match fields[k]? with
 |some f=>match T f.type with
  |some j=>some (f.offset,j.size)
  |none=>none
 |none=>none
def evBuild (T:TT)(t:TypeId)(parts:List (Nat×AV)):Option AV:=
 match T t with
 |some i=>if i.zero.okc=true then
  match i.desc with
  |.struct fields=>if fields.toList.all (fun f=>(T f.type).isSome) then (Xg (vbb T fields) i.zero.cells parts).map AV.agg else none
  |.array _ e=>match T e with
   |some j=>(Xg (fun k=>some (k*j.size,j.size)) i.zero.cells parts).map AV.agg
   |none=>none
  |_=>none
  else none
 |none=>none
theorem run_places {P:Program}{T:TT}(hT:TOK P T)(w:World):∀ (fs:List Go.Field),fs.all (fun f=>(T f.type).isSome)=true→
 ∃ ps:List (Nat×Nat),(fs.mapM fun (f:Go.Field)=>(do pure (f.offset,← sizeOf f.type):Sem (Nat×Nat))).run P w=.ok ps w∧∀ k,ps[k]?=vbb T fs.toArray k:=by
 intro fs
 induction fs with
 |nil=>intro _; exact⟨[],by simp,fun k=>by simp[vbb]⟩
 |cons f fs ih=>
  intro h
  simp only[qZ,qJ] at h;obtain⟨ps,h1,h2⟩:=ih h.2;obtain⟨j,hj⟩:=Option.isSome_iff_exists.1 h.1;refine⟨(f.offset,j.size)::ps,?_,fun k=>?_⟩
  · rw[List.mapM_cons];simp only[qy,wF _ (hT _ _ hj),ql,qR,h1]
  cases k with
  |zero=>simp[vbb,hj]
  |succ k=>simpa [vbb] using h2 k
theorem run_evBuild {P:Program}{T:TT}(hT:TOK P T){E:Env}{σ:ze}(hS:SR E σ){t:TypeId}{parts:List (Nat×AV)}{ps:Array (Nat×Value)}(hp:PartsR E parts ps.toList){r:AV}
 (h:evBuild T t parts=some r):Out P E (Instr.build t ps) r σ:=by
 unfold evBuild at h
 split at h
 · rename_i i hi
   split at h
   · rename_i ho
     obtain⟨z,hz,hzs,hzv⟩:=YW (w:=E.w) (hT _ _ hi);have ht:va1 E z.cells i.zero.cells:=(hzv E).cellsOf ho
     split at h
     · rename_i fields hd
       split at h
       · rename_i hall
         obtain⟨pl,h1,h2⟩:=run_places hT E.w fields.toList hall
         cases hf:Xg (vbb T fields) i.zero.cells parts with
         |none=>rw[hf] at h; cases h
         |some cs=>
          rw[hf] at h; cases h
          obtain⟨vs',hv,ht'⟩:=vb0 parts ht ps.toList hp.1 hp.2 hf;refine .same hS (cv:=.agg vs') ?_ (.agg _ _ ht'.1 ht'.2)
          have hm:(fields.mapM fun (f:Go.Field)=>(do pure (f.offset,← sizeOf f.type):Sem (Nat×Nat))).run P E.w=.ok pl.toArray E.w:=by
           rw[Array.mapM_eq_mapM_toList];simp only[Sem.run_map,h1,ql]
          have hpl:(pl.toArray[·]?)=vbb T fields:=by funext k; simpa using h2 k
          simp only[Instr.build,qy,hz,ql,yk _ (hT _ _ hi),hd];rw[hm];simp only[ql]
          rw[hpl,hv]; rfl
       cases h
     · rename_i n e hd
       split at h
       · rename_i j hj
         cases hf:Xg (fun k=>some (k*j.size,j.size)) i.zero.cells parts with
         |none=>rw[hf] at h; cases h
         |some cs=>
          rw[hf] at h; cases h
          obtain⟨vs',hv,ht'⟩:=vb0 parts ht ps.toList hp.1 hp.2 hf;refine .same hS (cv:=.agg vs') ?_ (.agg _ _ ht'.1 ht'.2);simp only[Instr.build,qy,hz,ql,yk _ (hT _ _ hi),hd,wF _ (hT _ _ hj)]
          rw[hv]; rfl
       cases h
     cases h
   cases h
 cases h
end AM
end
section
namespace AM
open Go.RowKit
def Env.move (E:Env)(w:World)(id ver:Nat)(ob:Option Nat):Env := { E with w:=w,loc:=fun i=>if i=id then some (ver,ob) else E.loc i }
theorem Ext.move {E:Env}{w':World}(hst:∀ b,E.st b→b<E.w.heap.size)(h:XB E.w w'){id ver:Nat}{ob0:Option Nat}(hl:E.loc id=some (ver,ob0))(ob:Option Nat)(hob:∀ b,ob=some b→E.w.heap.size≤b∨ob0=some b):Ext E (E.move w' id (ver+1) ob) where
 os:=h.os
 tape:=h.tape
 output:=h.output
 size:=h.size
 shape:=fun _ _ hm=>h.shape hm
 st:=fun b hb=>⟨hb,h.old b (hst b hb)⟩
 n:=qx _
 loc:=fun id' _ v o hl'=>by
  by_cases hid:id'=id
  · subst hid;simp only[Env.move,if_true,Option.some.injEq,Prod.mk.injEq] at hl';exact⟨ver,ob0,hl,by omega,fun e=>by omega⟩
  simp only[Env.move,hid,if_false] at hl';exact⟨v,o,hl',qx _,fun _=>rfl⟩
 old:=fun b hb _=>h.old b hb
 own:=fun id' v b hl' hb=>by
  by_cases hid:id'=id
  · subst hid;simp only[Env.move,if_true,Option.some.injEq,Prod.mk.injEq] at hl'
    rcases hob b hl'.2 with h1|h1
    · omega
    subst h1; exact⟨id',ver,hl⟩
  simp only[Env.move,hid,if_false] at hl';exact⟨id',v,hl'⟩
 stn:=fun _ h=>.inl h
theorem SR.move {E:Env}{σ:ze}(hS:SR E σ){w':World}(h:XB E.w w'){id ver:Nat}{cs0 cs:List AV}(hcs:ze.at σ id ver=some cs0){ob0:Option Nat}(hl:E.loc id=some (ver,ob0)){ob:Option Nat}
 (hob:∀ b,ob=some b→(E.w.heap.size≤b∨ob0=some b)∧b<w'.heap.size) (ho:ObjR (E.move w' id (ver+1) ob) id (some (.cells (ver+1) cs))):
 SR (E.move w' id (ver+1) ob) (σ.set id (.cells (ver+1) cs))∧Ext E (E.move w' id (ver+1) ob):=by
 have hx:=Ext.move (ob0:=ob0) hS.stb h hl ob fun b hb=>(hob b hb).1
 have hne:∀ i,i≠id→(E.move w' id (ver+1) ob).loc i=E.loc i:=fun i hi=>by simp[Env.move,hi]
 have hself:(E.move w' id (ver+1) ob).loc id=some (ver+1,ob):=by simp[Env.move]
 have hlt:=ze.at_lt hcs;refine⟨⟨by simpa [Env.move] using hS.len,fun i=>?_,fun i i' v v' b h1 h2=>?_,fun i v b h1=>?_,fun b hb=>ui (hS.stb b hb) h.size,hS.glb.mono hx.st,fun b hb=>hS.bas b (uB h.size hb)⟩,hx⟩
 · by_cases hi:i=id
   · subst hi; rw[uv hlt]; exact ho
   rw[ue (fun e=>hi e.symm)]
   exact (hS.obj i).ext hx (.inr rfl) (hne i hi) fun v b hv=>h.old b (hS.blk i v b hv).1
 · have key:∀ i v,i≠id→(E.move w' id (ver+1) ob).loc i=some (v,some b)→ob≠some b:=fun i v hi hv he=>by
    rw[hne i hi] at hv
    rcases (hob b he).1 with h3|h3
    · have:=(hS.blk i v b hv).1; omega
    exact hi (hS.inj i id v ver b hv (h3▸hl))
   by_cases e1:i=id
   · by_cases e2:i'=id
     · rw[e1,e2]
     subst e1;rw[hself] at h1;simp only[Option.some.injEq,Prod.mk.injEq] at h1;exact absurd h1.2 (key i' v' e2 h2)
   by_cases e2:i'=id
   · subst e2;rw[hself] at h2;simp only[Option.some.injEq,Prod.mk.injEq] at h2;exact absurd h2.2 (key i v e1 h1)
   rw[hne _ e1] at h1; rw[hne _ e2] at h2; exact hS.inj i i' v v' b h1 h2
 by_cases e1:i=id
 · subst e1;rw[hself] at h1;simp only[Option.some.injEq,Prod.mk.injEq] at h1;refine⟨(hob b h1.2).2,fun hs=>?_⟩
   rcases (hob b h1.2).1 with h3|h3
   · have:=hS.stb b hs; omega
   exact (hS.blk i ver b (h3▸hl)).2 hs
 rw[hne _ e1] at h1;exact⟨ui (hS.blk i v b h1).1 h.size,(hS.blk i v b h1).2⟩
theorem vaf (cs ds:List AV)(i:Nat)(h:i<cs.length):gc (cs++ds) i=gc cs i:=by
 simp[gc,qY h]
theorem Y4 (cs ds:List AV)(i:Nat)(h:cs.length≤i):gc (cs++ds) i=gc ds (i-cs.length):=by
 simp[gc,uo h]
theorem gc_replicate_u (k i:Nat):gc (qV k .u) i=.u:=by
 simp only[gc,qC,List.getElem?_replicate]
 split<;>rfl
theorem SR.widen {E:Env}{σ:ze}(hS:SR E σ){id ver b:Nat}{cs:List AV}(hcs:ze.at σ id ver=some cs)(hl:E.loc id=some (ver,some b)){t:TypeId}{m:Nat}(hm:E.w.shape? b=some (t,m))(k:Nat)
 (hk:E.base b+(cs.length+k)≤m):SR E (σ.set id (.cells ver (cs++qV k .u))):=by
 refine⟨by simpa using hS.len,fun i=>?_,hS.inj,hS.blk,hS.stb,hS.glb,hS.bas⟩
 by_cases hi:i=id
 · subst hi;rw[uv (ze.at_lt hcs)]
   rcases hS.at hcs with ⟨b',h1,h2⟩|⟨_,h2⟩
   · rw[hl] at h1; cases h1
     obtain⟨conc,t',fr,a1,a2,a3,a4⟩:=h2.blk
     have hsz:conc.size=m:=by simp only[World.shape?,a1,Option.some.injEq,Prod.mk.injEq] at hm; exact hm.2
     refine .inl ⟨b,hl,conc,t',fr,a1,a2,by simp; omega,fun i hi=>?_⟩
     by_cases hlt:i<cs.length
     · rw[vaf _ _ _ hlt]; exact a4 i hlt
     rw[Y4 _ _ _ (by omega),gc_replicate_u]; exact .u _
   rw[hl] at h2; cases h2
 rw[ue (fun e=>hi e.symm)]; exact hS.obj i
theorem setRun_end (xs:List AV):∀ (cs us:List AV),us.length=xs.length→wk (cs++us) cs.length xs=cs++xs:=by
 induction xs with
 |nil=>intro cs us h; have:us=[]:=qS.1 h; subst this; simp[wk]
 |cons x xs ih=>
  intro cs us h
  cases us with
  |nil=>simp at h
  |cons u us=>
   have h1:(cs++u::us).set cs.length x=(cs++[x])++us:=by simp
   have h2:=ih (cs++[x]) us (by simpa using h);rw[wk,h1];rw[qj,ub] at h2
   rw[h2]; simp
def yG (size:Nat)(s:AV)(n:Nat)(new:List AV)(σ:ze):Option (AV×ze):=
 match s with
 |.ds nl cells len true=>if len=0 then some (.os true size σ.length 0 0 n false,σ++[.cells 0 new]) else
  if n=0 then some (.ds nl cells len true,σ) else
  match y1 σ size (.ds nl cells len true) with
  |some (_,old)=>some (.os true size σ.length 0 0 (len+n) false,σ++[.cells 0 (old++new)])
  |none=>none
 |.os _ sz id ver off len false=>
  match ze.at σ id ver with
  |some cs=>if off=0∧sz=size∧cs.length=len*size then some (.os true sz id (ver+1) 0 (len+n) false,σ.set id (.cells (ver+1) (cs++new))) else none
  |none=>none
 |.os nl sz id ver off len true=>if n=0 then some (.os nl sz id ver off len true,σ) else
  match y1 σ size (.os nl sz id ver off len true) with
  |some (_,old)=>some (.os true size σ.length 0 0 (len+n) false,σ++[.cells 0 (old++new)])
  |none=>none
 |_=>none
def xg : AV→Nat
 |.ds _ _ len _=>len
 |.os _ _ _ _ _ len _=>len
 |_=>0
def xj (T:TT)(st xt:TypeId)(s x:AV)(σ:ze):Option (AV×ze):=
 match T st,T xt with
 |some i,some ix=>
  match i.desc,ix.desc with
  |.slice e,.slice _|.slice e,.string=>match T e with
   |some j=>match y1 σ j.size x with
    |some (n,new)=>if (xg s+n)*j.bytes≤140737488355328∧0<j.bytes∧0<j.size∧new.all AV.one=true then yG j.size s n new σ else none
    |none=>none
   |none=>none
  |_,_=>none
 |_,_=>none
theorem vdd {E:Env}{vs ws:Array Value}{cs ds:List AV}(h:va1 E vs cs)(k:va1 E ws ds):va1 E (vs++ws) (cs++ds):=by
 refine⟨by simp[h.1,k.1],fun i hi=>?_⟩;have h1:=h.1;have k1:=k.1
 by_cases hlt:i<cs.length
 · rw[vaf _ _ _ hlt]
   have:(vs++ws).getD i undef=vs.getD i undef:=by simp[Array.getElem?_append_left (show i<vs.size by omega)]
   rw[this]; exact h.2 i hlt
 rw[Y4 _ _ _ (by omega)]
 have:(vs++ws).getD i undef=ws.getD (i-cs.length) undef:=by simp[Array.getElem?_append_right (show vs.size≤i by omega),h1]
 rw[this]; exact k.2 _ (by simp at hi; omega)
theorem va1.more {E:Env}{vs ws:Array Value}{cs:List AV}(h:va1 E vs cs):cs.length≤(vs++ws).size∧∀ i,i<cs.length→VR E (gc cs i) ((vs++ws).getD i undef):=by
 have h1:=h.1;refine⟨by simp; omega,fun i hi=>?_⟩
 have:(vs++ws).getD i undef=vs.getD i undef:=by simp[Array.getElem?_append_left (show i<vs.size by omega)]
 rw[this]; exact h.2 i hi
section
variable {P:Program} {T:TT} (hT:TOK P T) {st xt e:TypeId} {i ix j:TI} (hi:T st=some i) (hix:T xt=some ix) (hd:i.desc=.slice e) (hdx:(∃ e',ix.desc=.slice e')∨ix.desc=.string) (hj:T e=some j)
include hT hi hix hd hdx hj
theorem ZT {w:World}{base:Option Addr}{sLen sCap n:Nat}{vx:Value}{ty:TypeId}{vs:Array Value}(hn:(Builtin.lenOf vx).run P w=.ok n w)(hv:(Builtin.firstCells j.size n vx).run P w=.ok vs w)(hc:sLen+n≤sCap){w':World}
 (hs:(match base with|some a=>storeCells (a.add (sLen*j.size)) vs.toList|none=>pure ()).run P w=.ok () w'):
 (Builtin.append_ #[st,xt] ty #[.slice base sLen sCap,vx]).run P w=.ok (.slice base (sLen+n) sCap) w':=by
 simp only[Builtin.append_]
 rcases hdx with ⟨e',hx⟩|hx
 all_goals simp only[List.getElem?_toArray,uL,uP,qy,yk _ (hT _ _ hi),ql,hd,wF _ (hT _ _ hj),yk _ (hT _ _ hix),hx,qR]
 all_goals simp only[ql,uf,if_false,hn,if_pos hc,qy,qm,if_true,hv]
 all_goals cases base with
 |none=>simp only[] at hs ⊢; rw[qR] at hs; cases hs; rfl
 |some a=>simp only[qy] at hs ⊢; rw[hs]; rfl
theorem vcU {w:World}{base:Option Addr}{sLen sCap n:Nat}{vx:Value}{ty:TypeId}{vs os:Array Value}(hn:(Builtin.lenOf vx).run P w=.ok n w)
 (hv:(Builtin.firstCells j.size n vx).run P w.drew=.ok vs w.drew) (ho:(Builtin.firstCells j.size sLen (.slice base sLen sCap)).run P w.drew=.ok os w.drew) (hc:¬ (sLen+n≤sCap)) (hb:(sLen+n)*j.bytes≤140737488355328) (hb0:0<j.bytes):
 ∃ cap rest w1,w1=w.drew∧sLen+n≤cap∧rest.size=(cap-(sLen+n))*j.size∧
  (Builtin.append_ #[st,xt] ty #[.slice base sLen sCap,vx]).run P w=.ok (.slice (some ⟨w.heap.size,0,none⟩) (sLen+n) cap) (w1.alloc (.cells (os++vs++rest) e)):=by
 obtain⟨z,hz0,hzs,_⟩:=YW (w:=w.drew) (hT _ _ hj);obtain⟨f,hf,hfb,hfs⟩:=vdn w (hT _ _ hj);obtain⟨f',hf',hfb',hfs'⟩:=vdn w.drew (hT _ _ hj);refine⟨(Question.appendCap (sLen+n) sCap e).cut (w.tape w.drawn (.appendCap (sLen+n) sCap e)),Builtin.zeroCells z.cells ((Question.appendCap (sLen+n) sCap e).cut (w.tape w.drawn (.appendCap (sLen+n) sCap e))-(sLen+n)),w.drew,rfl,?_,?_,?_⟩
 · simp only[Question.cut]; omega
 · simp[Builtin.zeroCells,hzs]
 have hg:=growslice_fits (need:=sLen+n) (old:=sCap) (bytes:=j.bytes) (by omega) hb;simp only[Builtin.append_]
 rcases hdx with ⟨e',hx⟩|hx
 all_goals simp only[List.getElem?_toArray,uL,uP,qy,yk _ (hT _ _ hi),ql,hd,wF _ (hT _ _ hj),yk _ (hT _ _ hix),hx,qR]
 all_goals simp only[ql,uf,if_false,hn,if_neg hc,qy,hf,hfb]
 all_goals rw[if_neg (by simp; omega)]
 all_goals simp only[qy,hf,ql,hfb,qR]
 all_goals rw[if_neg (by omega)]
 all_goals simp only[qy,run_choose,ql,Question.forced,uf,if_false,World.drew_eq,hf',run_askRoom]
 all_goals rw[ho]
 all_goals simp only[ql,qm,if_true]
 all_goals rw[hv]
 all_goals simp only[ql,hz0,Go.newRow,qy,run_newObj,qR,World.alloc_eq]
 all_goals rfl
end
theorem base0 {x:Nat}(b:Nat)(h:x=0):(⟨b,0,none⟩:Addr)=⟨b,x+0,none⟩:=by rw[h]
theorem base1 {x m n:Nat}(h:x=0)(hm:m≤n):x+0+m≤n:=by omega
theorem ze.set_at {σ:ze}{id ver:Nat}{cs:List AV}(h:ze.at σ id ver=some cs):σ.set id (.cells ver cs)=σ:=by
 apply uX
 intro k
 by_cases hk:k=id
 · subst hk; rw[uv (ze.at_lt h),ze.at_some h]
 rw[ue (fun e=>hk e.symm)]
theorem srcCells_ds {σ:ze}{size len q:Nat}{nl tight:Bool}{cells old:List AV}(h:y1 σ size (.ds nl cells len tight)=some (q,old)):q=len:=by
 simp only[y1] at h
 split at h
 · simp only[Option.some.injEq,Prod.mk.injEq] at h; exact h.1.symm
 cases h
theorem srcCells_os {σ:ze}{size len q sz id ver off:Nat}{nl tight:Bool}{old:List AV}(h:y1 σ size (.os nl sz id ver off len tight)=some (q,old)):q=len:=by
 simp only[y1] at h
 split at h
 · split at h
   · simp only[Option.some.injEq,Prod.mk.injEq] at h; exact h.1.symm
   cases h
 cases h
theorem run_evAppend {P:Program}{T:TT}(hT:TOK P T){E:Env}{σ σ':ze}(hS:SR E σ){st xt ty:TypeId}{s x:AV}{vs vx:Value}(hs:VR E s vs)(hx:VR E x vx){r:AV}
 (h:xj T st xt s x σ=some (r,σ')):Out P E (Builtin.append_ #[st,xt] ty #[vs,vx]) r σ':=by
 unfold xj at h
 split at h
 case h_2=>cases h
 rename_i i ix hi hix
 have main:∀ e,i.desc=.slice e→((∃ e',ix.desc=.slice e')∨ix.desc=.string)→(match T e with
  |some j=>match y1 σ j.size x with
   |some (n,new)=>if (xg s+n)*j.bytes≤140737488355328∧0<j.bytes∧0<j.size∧new.all AV.one=true then yG j.size s n new σ else none
   |none=>none
  |none=>none)=some (r,σ')→Out P E (Builtin.append_ #[st,xt] ty #[vs,vx]) r σ':=by
  clear h
  intro e hd hdx h
  split at h
  case h_2=>cases h
  rename_i j hj
  split at h
  case h_2=>cases h
  rename_i n new hsrc
  split at h
  case isFalse=>cases h
  rename_i hcnd
  obtain⟨hbig,hb0,hsz0,hone⟩:=hcnd;have hlB0:xg s+n≤140737488355328:=uB (Nat.le_mul_of_pos_right _ hb0) hbig;obtain⟨hlen,hnew,hread⟩:=va5 (P:=P) hS hx hsrc;have hg1:=XB.drew E.w;obtain⟨hS1,hx1⟩:=hS.grew hg1;obtain⟨_,_,hread1⟩:=va5 (P:=P) hS1 (hx.ext hx1) hsrc
  -- a new row
  have fresh:∀ (base:Option Addr) (sLen sCap:Nat) (old:List AV) (os:Array Value),vs=.slice base sLen sCap→¬ (sLen+n≤sCap)→(sLen+n)*j.bytes≤140737488355328→
   (Builtin.firstCells j.size sLen (.slice base sLen sCap)).run P E.w.drew=.ok os E.w.drew→va1 { E with w:=E.w.drew } os old→
   ∃ cap conc E',(Builtin.append_ #[st,xt] ty #[vs,vx]).run P E.w=.ok (.slice (some ⟨E.w.heap.size,0,none⟩) (sLen+n) cap) E'.w∧sLen+n≤cap∧E'.w=E.w.drew.alloc (.cells conc e)∧(old++new).length≤conc.size∧
    (∀ k,k<(old++new).length→VR E (gc (old++new) k) (conc.getD k undef)∨VR { E with w:=E.w.drew } (gc (old++new) k) (conc.getD k undef))∧(old.length=sLen*j.size→cap*j.size≤conc.size)∧
    E' = { E with w:=E.w.drew.alloc (.cells conc e) }:=by
   intro base sLen sCap old os hvs hc hb ho hto
   obtain⟨nv,hnv,htn⟩:=hread1 n (qx _);rw[uu (by omega)] at htn;obtain⟨cap,rest,w1,hw1,hcap,hrest,hrun⟩:=vcU hT hi hix hd hdx hj (w:=E.w) (ty:=ty) hlen hnv ho hc hb hb0;subst hw1;have hta:=vdd hto htn;have hmore:=va1.more (ws:=rest) hta;refine⟨cap,os++nv++rest,{ E with w:=E.w.drew.alloc (.cells (os++nv++rest) e) },by rw[hvs]; exact hrun,hcap,rfl,hmore.1,fun k hk=>.inr (hmore.2 k hk),fun hol=>?_,rfl⟩;have h1:(os++nv).size=(old++new).length:=hta.1
   have h2:(old++new).length=(sLen+n)*j.size:=by rw[qj,hol,hnew,u6]
   have h3:cap*j.size=(sLen+n)*j.size+(cap-(sLen+n))*j.size:=by rw[← u6]; congr 1; omega
   simp only[Array.size_append] at h1 ⊢
   omega
  have grewA:∀ conc,XB E.w (E.w.drew.alloc (.cells conc e)):=fun conc=>(XB.drew _).trans (XB.alloc _ _)
  -- as a new object
  have asNew:∀ (base:Option Addr) (sLen sCap:Nat) (old:List AV) (os:Array Value),vs=.slice base sLen sCap→¬ (sLen+n≤sCap)→(sLen+n)*j.bytes≤140737488355328→old.length=sLen*j.size→
   (Builtin.firstCells j.size sLen (.slice base sLen sCap)).run P E.w.drew=.ok os E.w.drew→va1 { E with w:=E.w.drew } os old→
   Out P E (Builtin.append_ #[st,xt] ty #[vs,vx]) (.os true j.size σ.length 0 0 (sLen+n) false) (σ++[.cells 0 (old++new)]):=by
   intro base sLen sCap old os hvs hc hb hol ho hto
   obtain⟨cap,conc,E',hrun,hcap,hw,hl,hv,hroom,hE'⟩:=fresh base sLen sCap old os hvs hc hb ho hto;subst hE'
   have hxn:Ext E (E.new (E.w.drew.alloc (.cells conc e)) (some E.w.heap.size)):=Ext.new hS.stb (grewA conc) _ fun b hb=>by cases hb; exact qx _
   have hxn1:Ext { E with w:=E.w.drew } (E.new (E.w.drew.alloc (.cells conc e)) (some E.w.heap.size)):=Ext.new (E := { E with w:=E.w.drew }) hS1.stb (XB.alloc _ _) (some E.w.heap.size) fun b hb=>by cases hb; exact qx _
   obtain⟨hS',hx'⟩:=hS.new (grewA conc) (ob:=some E.w.heap.size) (fun b hb=>by cases hb; simp) (o:=.cells 0 (old++new)) (.inl ⟨E.w.heap.size,by simp[Env.new],.zero (hS.bas _ (qx _)) (xK E.w.drew _) hl fun k hk=>by
    rcases hv k hk with h|h
    · exact h.ext hxn
    exact h.ext hxn1⟩)
   refine⟨_,E.new (E.w.drew.alloc (.cells conc e)) (some E.w.heap.size),hrun,?_,hS',hx'⟩
   refine .os _ _ _ _ _ _ _ _ _ (Env.ok_new hS _ _) hcap (fun e=>by cases e) (by first|(have h:=hlB0; simp only[xg] at h; omega)|(have:=Nat.le_mul_of_pos_right (sLen+n) hb0; omega)) fun ob hob=>?_
   rw[Env.loc_new hS] at hob;cases hob;refine⟨_,rfl,.inr (base0 _ (hS.bas _ (qx _))),e,conc.size,?_,(hT _ _ hj).ts,base1 (hS.bas _ (qx _)) (hroom hol)⟩;have:=xK E.w.drew (.cells conc e);simp only[Env.new,World.shape?];rw[show E.w.heap.size=E.w.drew.heap.size from rfl,this]
  unfold yG at h
  split at h
  · -- data,tight
    rename_i nl cells len
    simp only[xg] at hbig;obtain⟨nv,hnv,htn⟩:=hread n (qx _);rw[uu (by omega)] at htn;have hsx:=hs
    have hform:∃ base,vs=.slice base len len:=by
     cases hs with
     |dsn=>exact⟨none,rfl⟩
     |ds _ _ _ _ a cap vsf ha hr hv hcap ht hB=>have:=ht rfl; subst this; exact⟨some a,rfl⟩
    obtain⟨base,hbase⟩:=hform
    have hst:n=0→(match base with|some a=>storeCells (a.add (len*j.size)) nv.toList|none=>pure ()).run P E.w=.ok () E.w:=by
     intro hn
     have hnil:new=[]:=qS.1 (by rw[hnew,hn,uy]);have:nv.toList=[]:=qS.1 (by rw[uq,htn.1,hnil]; rfl)
     cases base<;>simp[this,storeCells]
    split at h
    · rename_i hl0
      cases h;subst hl0
      by_cases hn:n=0
      · have hrun:=ZT hT hi hix hd hdx hj (w:=E.w) (ty:=ty) hlen hnv (show 0+n≤0 by omega) (hst hn);subst hn;have hnil:new=[]:=qS.1 (by omega);subst hnil;rw[← hbase] at hrun;obtain⟨hS',hx'⟩:=hS.new (XB.refl E.w) (ob:=none) (fun b hb=>by cases hb) (o:=.cells 0 []) (.inr ⟨rfl,by simp[Env.new]⟩);refine⟨_,E.new E.w none,hrun,?_,hS',hx'⟩;rw[hbase]
        exact .osn _ _ _ _ _ _ (Env.ok_new hS _ _) fun ob hob=>by rw[Env.loc_new hS] at hob; cases hob; rfl
      have:=asNew base 0 0 [] #[] hbase (by omega) (by simpa using hbig) (by simp) (by
       cases base with
       |none=>rfl
       |some a=>show (loadCells a (0*j.size)).run P E.w.drew=_; rw[uy]; rfl) (va1.nil _)
      simpa using this
    split at h
    · rename_i hn
      cases h;have hrun:=ZT hT hi hix hd hdx hj (w:=E.w) (ty:=ty) hlen hnv (show len+n≤len by omega) (hst hn);rw[hn,qF,← hbase] at hrun;exact .same hS hrun hsx
    rename_i hn
    split at h
    · rename_i q old hold
      cases h;obtain⟨_,hol,hrdo⟩:=va5 (P:=P) hS1 (hsx.ext hx1) hold;have hq:q=len:=srcCells_ds hold;subst hq;obtain⟨ov,hov,hto⟩:=hrdo q (qx _);rw[uu (by omega)] at hto;rw[hbase] at hov;exact asNew base q q old ov hbase (by omega) hbig hol hov hto
    cases h
  · -- owned,not tight
    rename_i nl sz id ver off len
    split at h
    · rename_i cs hcs
      split at h
      · rename_i hc
        obtain⟨c1,c2,c3⟩:=hc
        subst c1; subst c2
        cases h;simp only[xg] at hbig
        have hne:∀ w' ob,(E.move w' id (ver+1) ob).ok id (ver+1):=fun w' ob=>⟨by have:=ze.at_lt hcs; have:=hS.len; simp[Env.move]; omega,fun v o hvo=>by simp[Env.move] at hvo; omega⟩
        cases hs with
        |osn _ _ _ _ _ a0 hk hn0=>
         have hl:E.loc id=some (ver,none):=by
          rcases hS.at hcs with ⟨b,h1,_⟩|⟨_,h2⟩
          · have:=hn0 _ h1; cases this
          exact h2
         have hcs0:cs=[]:=by
          rcases hS.at hcs with ⟨b,h1,_⟩|⟨h2,_⟩
          · rw[hl] at h1; cases h1
          exact h2
         subst hcs0;obtain⟨nv,hnv,htn⟩:=hread n (qx _);rw[uu (by omega)] at htn;simp only[qn,qG]
         by_cases hn:n=0
         · subst hn;have hnil:new=[]:=qS.1 (by omega);subst hnil
           have hst:(match a0 with|some a=>storeCells (a.add (0*j.size)) nv.toList|none=>pure ()).run P E.w=.ok () E.w:=by
            have:nv.toList=[]:=qS.1 (by rw[uq,htn.1]; rfl)
            cases a0<;>simp[this,storeCells]
           have hrun:=ZT hT hi hix hd hdx hj (w:=E.w) (base:=a0) (sLen:=0) (sCap:=0) (ty:=ty) hlen hnv (qx _) (w':=E.w) hst;obtain⟨hS',hx'⟩:=hS.move (XB.refl E.w) hcs hl (ob:=none) (fun b hb=>by cases hb) (cs:=[]) (.inr ⟨rfl,by simp[Env.move]⟩);refine⟨_,E.move E.w id (ver+1) none,hrun,?_,hS',hx'⟩
           exact .osn _ _ _ _ _ _ (hne _ _) fun ob hob=>by simp[Env.move] at hob; exact hob.symm
         obtain⟨cap,conc,E',hrun,hcap,hw,hl',hv,hroom,hE'⟩:=fresh a0 0 0 [] #[] rfl (by omega) (by simpa using hbig) (by
          cases a0 with
          |none=>rfl
          |some a=>show (loadCells a (0*j.size)).run P E.w.drew=_; rw[uy]; rfl) (va1.nil _)
         subst hE'
         have hxm:Ext E (E.move (E.w.drew.alloc (.cells conc e)) id (ver+1) (some E.w.heap.size)):=Ext.move hS.stb (grewA conc) hl _ fun b hb=>by cases hb; exact .inl (qx _)
         have hxm1:Ext { E with w:=E.w.drew } (E.move (E.w.drew.alloc (.cells conc e)) id (ver+1) (some E.w.heap.size)):=Ext.move (E := { E with w:=E.w.drew }) hS1.stb (XB.alloc _ _) hl _ fun b hb=>by cases hb; exact .inl (qx _)
         obtain⟨hS',hx'⟩:=hS.move (grewA conc) hcs hl (ob:=some E.w.heap.size) (fun b hb=>by cases hb; exact⟨.inl (qx _),by simp⟩) (cs:=new) (.inl ⟨E.w.heap.size,by simp[Env.move],.zero (hS.bas _ (qx _)) (xK E.w.drew _) (by simpa using hl') fun k hk=>by
          rcases hv k (by simpa using hk) with h|h
          · exact (by simpa using h:VR E _ _).ext hxm
          exact (by simpa using h:VR { E with w:=E.w.drew } _ _).ext hxm1⟩)
         refine⟨_,E.move (E.w.drew.alloc (.cells conc e)) id (ver+1) (some E.w.heap.size),hrun,?_,hS',hx'⟩;simp only[qn] at hcap ⊢
         refine .os _ _ _ _ _ _ _ _ _ (hne _ _) hcap (fun e=>by cases e) (by first|(have h:=hlB0; simp only[xg] at h; omega)|(have:=Nat.le_mul_of_pos_right (sLen+n) hb0; omega)) fun ob hob=>?_
         simp only[Env.move,if_true,Option.some.injEq,Prod.mk.injEq,true_and] at hob;subst hob;refine⟨_,rfl,.inr (base0 _ (hS.bas _ (qx _))),e,conc.size,?_,(hT _ _ hj).ts,base1 (hS.bas _ (qx _)) (hroom (by simp))⟩;have:=xK E.w.drew (.cells conc e);simp only[Env.move,World.shape?];rw[show E.w.heap.size=E.w.drew.heap.size from rfl,this]
        |os _ _ _ _ _ _ _ a cap hk hcap ht hB hp=>
         have hlive:∃ b,E.loc id=some (ver,some b)∧Blk E b cs:=by
          rcases hS.at hcs with h1|⟨_,h2⟩
          · exact h1
          obtain⟨b,e1,_⟩:=hp _ h2; cases e1
         obtain⟨b,hl,hblk⟩:=hlive;obtain⟨b',e1,e2,t,m,hm,hmts,hmle⟩:=hp _ hl;cases e1;obtain⟨nv,hnv,htn⟩:=hread n (qx _);rw[uu (by omega)] at htn
         by_cases hfit:len+n≤cap
         · -- it lies
           have hle:(len+n)*j.size≤cap*j.size:=ud _ hfit;rw[u6] at hle;have hSw:=hS.widen hcs hl hm new.length (by omega);have hcs1:=ze.at_set (ver':=ver) (cs':=cs++qV new.length .u) hcs
           by_cases hn:n=0
           · subst hn;have hnil:new=[]:=qS.1 (by omega);subst hnil
             have hst:(match (some a:Option Addr) with|some a=>storeCells (a.add (len*j.size)) nv.toList|none=>pure ()).run P E.w=.ok () E.w:=by
              have:nv.toList=[]:=qS.1 (by rw[uq,htn.1]; rfl)
              simp[this,storeCells]
             have hrun:=ZT hT hi hix hd hdx hj (w:=E.w) (base:=some a) (ty:=ty) hlen hnv hfit hst;simp only[qF,qD] at hrun ⊢
             obtain⟨hS',hx'⟩:=hS.move (XB.refl E.w) hcs hl (ob:=some b) (fun b hb=>by cases hb; exact⟨.inr rfl,(hS.blk _ _ _ hl).1⟩) (cs:=cs) (.inl ⟨b,by simp[Env.move],by
              obtain⟨conc,t,fr,a1,a2,a3,a4⟩:=hblk.blk
              exact⟨conc,t,fr,a1,a2,a3,fun k hk=>(a4 k hk).ext (Ext.move hS.stb (XB.refl _) hl _ fun b hb=>by cases hb; exact .inr rfl)⟩⟩)
             refine⟨_,E.move E.w id (ver+1) (some b),hrun,?_,hS',hx'⟩
             refine .os _ _ _ _ _ _ _ _ _ (hne _ _) hcap (fun e=>by cases e) (by first|(have h:=hlB0; simp only[xg] at h; omega)|(have:=Nat.le_mul_of_pos_right (sLen+n) hb0; omega)) fun ob hob=>?_
             simp only[Env.move,if_true,Option.some.injEq,Prod.mk.injEq,true_and] at hob;subst hob;exact⟨_,rfl,e2,t,m,hm,hmts,hmle⟩
           have hcap0:cap≠0:=by omega
           have:=e2.resolve_left hcap0;subst this
           obtain⟨E1,hr1,hS2,hx2⟩:=YX (P:=P) new hSw hcs1 hl nv.toList cs.length 0 (by simp) (by rw[uq]; exact htn.1) (fun k hk=>by
            have:=htn.2 k hk
            have e:nv.toList.getD k undef=nv.getD k undef:=by simp
            rw[e]; exact this) (fun x hx=>un.1 hone x hx)
           rw[List.set_set,qF,setRun_end _ _ _ (by simp)] at hS2
           have hst:(match (some ⟨b,E.base b+0,none⟩:Option Addr) with|some a=>storeCells (a.add (len*j.size)) nv.toList|none=>pure ()).run P E.w=.ok () E1.w:=by
            simp only[Yj,qF]
            rw[← c3]; exact hr1
           have hrun:=ZT hT hi hix hd hdx hj (w:=E.w) (base:=some ⟨b,E.base b+0,none⟩) (ty:=ty) hlen hnv hfit hst;have hcs2:ze.at (σ.set id (.cells ver (cs++new))) id ver=some (cs++new):=ze.at_set hcs
           have hl1:E1.loc id=some (ver,some b):=by
            have hobj:=hS2.at hcs2
            rcases hobj with ⟨b1,h1,_⟩|⟨h1,_⟩
            · have:=hx2.back hk h1
              rw[hl] at this; cases this; exact h1
            have:(cs++new).length=0:=by rw[h1]; rfl
            simp at this
            have:new.length=0:=by rw[this.2]; rfl
            have h0:n*j.size=0:=by omega
            rcases Nat.mul_eq_zero.1 h0 with h|h<;>omega
           obtain⟨hS3,hx3⟩:=hS2.move (XB.refl E1.w) hcs2 hl1 (ob:=some b) (fun b hb=>by cases hb; exact⟨.inr rfl,(hS2.blk _ _ _ hl1).1⟩) (cs:=cs++new) (.inl ⟨b,by simp[Env.move],by
            rcases hS2.at hcs2 with ⟨b1,h1,hblk1⟩|⟨_,h1⟩
            · rw[hl1] at h1; cases h1
              obtain⟨conc,t,fr,a1,a2,a3,a4⟩:=hblk1.blk;exact⟨conc,t,fr,a1,a2,a3,fun k hk=>(a4 k hk).ext (Ext.move hS2.stb (XB.refl _) hl1 _ fun b hb=>by cases hb; exact .inr rfl)⟩
            rw[hl1] at h1; cases h1⟩)
           rw[List.set_set] at hS3;refine⟨_,E1.move E1.w id (ver+1) (some b),hrun,?_,hS3,hx2.trans hx3⟩;have hok:(E1.move E1.w id (ver+1) (some b)).ok id (ver+1):=⟨ui hk.1 hx2.n,fun v o hvo=>by simp[Env.move] at hvo; omega⟩
           refine .os _ _ _ _ _ _ _ _ _ hok hfit (fun e=>by cases e) (by first|(have h:=hlB0; simp only[xg] at h; omega)|(have:=Nat.le_mul_of_pos_right (sLen+n) hb0; omega)) fun ob hob=>?_
           simp only[Env.move,if_true,Option.some.injEq,Prod.mk.injEq,true_and] at hob;subst hob;have eb:E1.base b=E.base b:=hx2.bas id hk.1 ver b hl hl1;exact⟨_,rfl,.inr (by show _=(⟨b,E1.base b+0,none⟩:Addr); rw[eb]),t,m,hx2.shape _ _ hm,hmts,by show E1.base b+0+_≤_; rw[eb]; exact hmle⟩
         -- it grows
         obtain⟨_,_,hrdo⟩:=va5 (P:=P) hS1 ((VR.os true j.size id ver 0 len false a cap hk hcap ht hB hp).ext hx1) (size:=j.size) (n:=len) (cs:=cs) (by
          simp only[y1,hcs,qq,qn]
          rw[if_pos (by omega),← c3,uk])
         obtain⟨ov,hov,hto⟩:=hrdo len (qx _);rw[← c3,uk] at hto;obtain⟨capn,conc,E',hrun,hcapn,hw,hl',hv,hroom,hE'⟩:=fresh (some a) len cap cs ov rfl hfit hbig hov hto;subst hE'
         have hxm:Ext E (E.move (E.w.drew.alloc (.cells conc e)) id (ver+1) (some E.w.heap.size)):=Ext.move hS.stb (grewA conc) hl _ fun b hb=>by cases hb; exact .inl (qx _)
         have hxm1:Ext { E with w:=E.w.drew } (E.move (E.w.drew.alloc (.cells conc e)) id (ver+1) (some E.w.heap.size)):=Ext.move (E := { E with w:=E.w.drew }) hS1.stb (XB.alloc _ _) hl _ fun b hb=>by cases hb; exact .inl (qx _)
         obtain⟨hS',hx'⟩:=hS.move (grewA conc) hcs hl (ob:=some E.w.heap.size) (fun b hb=>by cases hb; exact⟨.inl (qx _),by simp⟩) (cs:=cs++new) (.inl ⟨E.w.heap.size,by simp[Env.move],.zero (hS.bas _ (qx _)) (xK E.w.drew _) hl' fun k hk=>by
          rcases hv k hk with h|h
          · exact h.ext hxm
          exact h.ext hxm1⟩)
         refine⟨_,E.move (E.w.drew.alloc (.cells conc e)) id (ver+1) (some E.w.heap.size),hrun,?_,hS',hx'⟩
         refine .os _ _ _ _ _ _ _ _ _ (hne _ _) hcapn (fun e=>by cases e) (by first|(have h:=hlB0; simp only[xg] at h; omega)|(have:=Nat.le_mul_of_pos_right (sLen+n) hb0; omega)) fun ob hob=>?_
         simp only[Env.move,if_true,Option.some.injEq,Prod.mk.injEq,true_and] at hob;subst hob;refine⟨_,rfl,.inr (base0 _ (hS.bas _ (qx _))),e,conc.size,?_,(hT _ _ hj).ts,base1 (hS.bas _ (qx _)) (hroom c3)⟩;have:=xK E.w.drew (.cells conc e);simp only[Env.move,World.shape?];rw[show E.w.heap.size=E.w.drew.heap.size from rfl,this]
      cases h
    cases h
  · -- owned,tight
    rename_i nl sz id ver off len
    simp only[xg] at hbig;obtain⟨nv,hnv,htn⟩:=hread n (qx _);rw[uu (by omega)] at htn;have hsx:=hs
    have hform:∃ base,vs=.slice base len len:=by
     cases hs with
     |osn=>exact⟨_,rfl⟩
     |os _ _ _ _ _ _ _ a cap hk hcap ht hB hp=>have:=ht rfl; subst this; exact⟨some a,rfl⟩
    obtain⟨base,hbase⟩:=hform
    split at h
    · rename_i hn
      cases h;have hnil:new=[]:=qS.1 (by rw[hnew,hn,uy])
      have hst:(match base with|some a=>storeCells (a.add (len*j.size)) nv.toList|none=>pure ()).run P E.w=.ok () E.w:=by
       have:nv.toList=[]:=qS.1 (by rw[uq,htn.1,hnil]; rfl)
       cases base<;>simp[this,storeCells]
      have hrun:=ZT hT hi hix hd hdx hj (w:=E.w) (ty:=ty) hlen hnv (show len+n≤len by omega) hst;rw[hn,qF,← hbase] at hrun;exact .same hS hrun hsx
    rename_i hn
    split at h
    · rename_i q old hold
      cases h;obtain⟨_,hol,hrdo⟩:=va5 (P:=P) hS1 (hsx.ext hx1) hold;have hq:q=len:=srcCells_os hold;subst hq;obtain⟨ov,hov,hto⟩:=hrdo q (qx _);rw[uu (by omega)] at hto;rw[hbase] at hov;exact asNew base q q old ov hbase (by omega) hbig hol hov hto
    cases h
  cases h
 split at h
 · rename_i e e' hd hd'
   exact main e hd (.inl ⟨e',hd'⟩) h
 · rename_i e hd hd'
   exact main e hd (.inr hd') h
 cases h
end AM
end
section
namespace AM
open Go.RowKit
def Yv (σ:ze)(d:AV)(m:Nat)(size:Nat)(new:List AV):Option ze:=
 if m=0∨size=0 then some σ else
 match d with
 |.os _ sz id ver off _ _=>match ze.at σ id ver with
  |some cs=>if sz=size∧off+new.length≤cs.length∧new.all AV.one=true then some (σ.set id (.cells ver (wk cs off new))) else none
  |none=>none
 |_=>none
theorem vdj {P:Program}{E:Env}{σ σ':ze}(hS:SR E σ){d:AV}{base:Option Addr}{len cap:Nat}(hd:VR E d (.slice base len cap)){m size:Nat}{new:List AV}{vs:Array Value}(hv:va1 E vs new)
 (hl:new.length=m*size) (hm:m≤len) (h:Yv σ d m size new=some σ'):
 ∃ E',(match base with|some a=>storeCells a vs.toList|none=>pure ()).run P E.w=.ok () E'.w∧SR E' σ'∧Ext E E':=by
 unfold Yv at h
 split at h
 · rename_i h0
   cases h;have hnil:vs.toList=[]:=qS.1 (by rw[uq,hv.1,hl]; rcases h0 with h|h<;>rw[h]<;>simp);refine⟨E,?_,hS,Ext.refl E⟩
   cases base<;>simp[hnil,storeCells]
 rename_i h0
 split at h
 · rename_i nl sz id ver off len' tight
   split at h
   · rename_i cs hcs
     split at h
     · rename_i hc
       obtain⟨c1,c2,c3⟩:=hc;cases h
       have hnew:new.length≠0:=by rw[hl]; intro e; rcases Nat.mul_eq_zero.1 e with e|e<;>exact h0 (by simp[e])
       cases hd with
       |osn=>omega
       |os _ _ _ _ _ _ _ a _ hk hcap ht hB hp=>
        obtain⟨b,hlo,hb⟩:=hS.block_of hcs (show off<cs.length by omega);obtain⟨b',e1,e2,_⟩:=hp _ hlo;cases e1;have:=e2.resolve_left (by intro e; apply h0; left; omega);subst this
        obtain⟨E',h1,h2,h3⟩:=YX (P:=P) new hS hcs hlo vs.toList off 0 (by omega) (by rw[uq]; exact hv.1) (fun k hk=>by
         have:=hv.2 k hk
         have e:vs.toList.getD k undef=vs.getD k undef:=by simp
         rw[e]; exact this) (fun x hx=>un.1 c3 x hx)
        exact⟨E',h1,by simpa using h2,h3⟩
     cases h
   cases h
 cases h
def vas (T:TT)(dt:TypeId)(d s:AV)(σ:ze):Option (AV×ze):=
 match T dt with
 |some i=>match i.desc with
  |.slice e=>match T e with
   |some j=>match d with
    |.ds _ _ dlen _|.os _ _ _ _ _ dlen _=>match y1 σ j.size s with
     |some (n,new)=>match Yv σ d (min n dlen) j.size (new.take (min n dlen*j.size)) with
      |some σ'=>some (.int .i64 (min n dlen:Nat),σ')
      |none=>none
     |none=>none
    |_=>none
   |none=>none
  |_=>none
 |none=>none
theorem vak {P:Program}{T:TT}(hT:TOK P T){E:Env}{σ σ':ze}(hS:SR E σ){dt st ty:TypeId}{d s:AV}{vd vs:Value}(hd:VR E d vd)(hs:VR E s vs){r:AV}(h:vas T dt d s σ=some (r,σ')):
 Out P E (Builtin.copy_ #[dt,st] ty #[vd,vs]) r σ':=by
 unfold vas at h
 split at h
 case h_2=>cases h
 rename_i i hi
 split at h
 case h_2=>cases h
 rename_i e hde
 split at h
 case h_2=>cases h
 rename_i j hj
 have main:∀ base dlen cap,vd=.slice base dlen cap→(match y1 σ j.size s with
         |some (n,new)=>match Yv σ d (min n dlen) j.size (new.take (min n dlen*j.size)) with
          |some σ'=>some (AV.int .i64 (min n dlen:Nat),σ')
          |none=>none
         |none=>none)=some (r,σ')→Out P E (Builtin.copy_ #[dt,st] ty #[vd,vs]) r σ':=by
  intro base dlen cap hvd h
  subst hvd
  split at h
  case h_2=>cases h
  rename_i n new hsrc
  split at h
  case h_2=>cases h
  rename_i σ1 hput
  cases h;obtain⟨h1,h2,h3⟩:=va5 (P:=P) hS hs hsrc;obtain⟨ws,hw,hwt⟩:=h3 (min n dlen) (Nat.min_le_left _ _)
  obtain⟨E',hr,hS',hx'⟩:=vdj (P:=P) hS hd hwt (by
   rw[uR,h2]
   exact Nat.min_eq_left (ud _ (Nat.min_le_left _ _))) (Nat.min_le_right _ _) hput
  refine⟨goInt ((min n dlen:Nat):Int),E',?_,.int _ _,hS',hx'⟩;simp only[Builtin.copy_];simp only[List.getElem?_toArray,uL,uP,qy,yk _ (hT _ _ hi),ql,hde,h1,wF _ (hT _ _ hj),Nat.min_def] at hw ⊢;rw[show (if n≤dlen then n else dlen)=min n dlen from rfl] at *;rw[hw];simp only[ql]
  cases base with
  |none=>simp only[qR,Result.ok.injEq,true_and] at hr ⊢; rw[hr]
  |some a=>simp only[qy] at hr ⊢; rw[hr]; simp
 split at h
 · cases hd with
   |dsn=>exact main _ _ _ rfl h
   |ds=>exact main _ _ _ rfl h
 · cases hd with
   |osn=>exact main _ _ _ rfl h
   |os=>exact main _ _ _ rfl h
 cases h
def vdx (T:TT)(t:TypeId)(x:AV)(σ:ze):Option (AV×ze):=
 match T t with
 |some i=>match i.desc with
  |.slice e=>match T e with
   |some j=>match x with
    |.ds _ _ len _|.os _ _ _ _ _ len _=>
     if j.zero.okc=true∧j.zero.cells.length=j.size∧0<j.size then
      match Yv σ x len j.size (yI j.zero.cells (len*j.size)) with
      |some σ'=>some (.tup [],σ')
      |none=>none
     else none
    |_=>none
   |none=>none
  |_=>none
 |none=>none
theorem told_zeroCells {E:Env}{zero:AV}{z:Value}(hz:VR E zero z)(ho:zero.okc=true)(hp:0<zero.cells.length)(n:Nat):
 va1 E (Builtin.zeroCells z.cells n) (yI zero.cells (n*zero.cells.length)):=by
 have h:=vbZ hz ho hp (n*zero.cells.length);obtain⟨hs,_⟩:=hz.cellsOf ho;unfold Builtin.zeroCells;rw[hs] at h ⊢;exact h
theorem run_evClear {P:Program}{T:TT}(hT:TOK P T){E:Env}{σ σ':ze}(hS:SR E σ){t ty:TypeId}{x:AV}{vx:Value}(hx:VR E x vx){r:AV}(h:vdx T t x σ=some (r,σ')):
 Out P E (Builtin.clear_ #[t] ty #[vx]) r σ':=by
 unfold vdx at h
 split at h
 case h_2=>cases h
 rename_i i hi
 split at h
 case h_2=>cases h
 rename_i e hde
 split at h
 case h_2=>cases h
 rename_i j hj
 have main:∀ base len cap,vx=.slice base len cap→(base=none→len=0)→(if j.zero.okc=true∧j.zero.cells.length=j.size∧0<j.size then
          match Yv σ x len j.size (yI j.zero.cells (len*j.size)) with
          |some σ'=>some (AV.tup [],σ')
          |none=>none
         else none)=some (r,σ')→Out P E (Builtin.clear_ #[t] ty #[vx]) r σ':=by
  intro base len cap hv hb h
  subst hv
  split at h
  case isFalse=>cases h
  rename_i hc
  obtain⟨c1,c2,c3⟩:=hc
  split at h
  case h_2=>cases h
  rename_i σ1 hput
  cases h;obtain⟨z,hz,hzs,hzv⟩:=YW (w:=E.w) (hT _ _ hj);have ht:=told_zeroCells (E:=E) (hzv E) c1 (by omega) len;rw[c2] at ht;obtain⟨E',hr,hS',hx'⟩:=vdj (P:=P) hS hx ht (by simp[yI]) (qx _) hput;refine⟨.tuple #[],E',?_,.tup [] #[] rfl (fun i h=>absurd h (by simp)),hS',hx'⟩;simp only[Builtin.clear_];simp only[List.getElem?_toArray,uL,qy,yk _ (hT _ _ hi),ql,hde]
  cases base with
  |none=>
   have:=hb rfl;subst this;simp only[qR,Result.ok.injEq,true_and] at hr ⊢;rw[hr]
  |some a=>
   by_cases hl:len=0
   · subst hl
     have:(Builtin.zeroCells z.cells 0).toList=[]:=by simp[Builtin.zeroCells]
     simp only[this,storeCells,qR,Result.ok.injEq,true_and] at hr ⊢;rw[hr]
   obtain⟨k,rfl⟩:∃ k,len=k+1:=⟨len-1,by omega⟩
   simp only[qy,hz,ql] at hr ⊢
   rw[hr]; simp
 split at h
 · cases hx with
   |dsn=>exact main _ _ _ rfl (fun _=>rfl) h
   |ds=>exact main _ _ _ rfl (fun h=>by cases h) h
 · cases hx with
   |osn=>exact main _ _ _ rfl (fun _=>rfl) h
   |os=>exact main _ _ _ rfl (fun h=>by cases h) h
 cases h
def vcN : AV→AV→Option AV
 |.int k x,.int _ y=>some (.int k (if x<y then y else x))
 |_,_=>none
def vcM : AV→AV→Option AV
 |.int k x,.int _ y=>some (.int k (if y<x then y else x))
 |_,_=>none
def foldO (f:AV→AV→Option AV):AV→List AV→Option AV
 |x,[]=>some x
 |x,y::l=>match f x y with
  |some z=>foldO f z l
  |none=>none
def vcb (f:AV→AV→Option AV):List AV→Option AV
 |[]=>none
 |x::l=>foldO f x l
theorem run_foldO {P:Program}{E:Env}{f:AV→AV→Option AV}{g:Value→Value→Sem Value}(hf:∀ x y z vx vy,VR E x vx→VR E y vy→f x y=some z→∃ vz,(g vx vy).run P E.w=.ok vz E.w∧VR E z vz):
 ∀ (l:List AV) (vl:List Value) (x:AV) (vx:Value) (r:AV),vl.length=l.length→(∀ i,i<l.length→VR E (gc l i) (vl.getD i undef))→VR E x vx→foldO f x l=some r→
  ∃ v,(vl.foldlM g vx).run P E.w=.ok v E.w∧VR E r v:=by
 intro l
 induction l with
 |nil=>
  intro vl x vx r hl hv hx h
  have:vl=[]:=qS.1 hl;subst this;cases h;exact⟨vx,by simp,hx⟩
 |cons y l ih=>
  intro vl x vx r hl hv hx h
  cases vl with
  |nil=>simp at hl
  |cons vy vl=>
   simp only[foldO] at h
   split at h
   · rename_i z hz
     have hy:VR E y vy:=by have:=hv 0 (by simp); simpa [gc] using this
     obtain⟨vz,h1,h2⟩:=hf _ _ _ _ _ hx hy hz;obtain⟨v,h3,h4⟩:=ih vl z vz r (by simpa using hl) (fun i h=>by have:=hv (i+1) (by simp; omega); simpa [gc] using this) h2 h;exact⟨v,by simp[List.foldlM_cons,h1,h3],h4⟩
   cases h
def X1 (E:Env)(l:List AV)(vl:List Value):Prop:=vl.length=l.length∧∀ i,i<l.length→VR E (gc l i) (vl.getD i undef)
theorem run_evMax {P:Program}{E:Env}{σ:ze}(hS:SR E σ){l:List AV}{vl:Array Value}(hl:X1 E l vl.toList){ats:Array TypeId}{ty:TypeId}{r:AV}(h:vcb vcN l=some r):Out P E (Builtin.max_ ats ty vl) r σ:=by
 obtain⟨h1,h2⟩:=hl
 cases l with
 |nil=>cases h
 |cons x l=>
  unfold Builtin.max_
  generalize vl.toList=ws at *
  cases ws with
  |nil=>simp at h1
  |cons vx ws=>
   obtain⟨v,h3,h4⟩:=run_foldO (P:=P) (E:=E) (f:=vcN) (g:=Builtin.max2) (fun x y z vx vy hx hy hz=>by
    unfold vcN at hz
    split at hz
    · cases hz; cases hx; cases hy
      exact⟨_,rfl,.int _ _⟩
    cases hz) l ws x vx r (by simpa using h1) (fun i h=>by have:=h2 (i+1) (by simp; omega); simpa [gc] using this) (by have:=h2 0 (by simp); simpa [gc] using this) h
   exact .same hS h3 h4
theorem run_evMin {P:Program}{E:Env}{σ:ze}(hS:SR E σ){l:List AV}{vl:Array Value}(hl:X1 E l vl.toList){ats:Array TypeId}{ty:TypeId}{r:AV}(h:vcb vcM l=some r):Out P E (Builtin.min_ ats ty vl) r σ:=by
 obtain⟨h1,h2⟩:=hl
 cases l with
 |nil=>cases h
 |cons x l=>
  unfold Builtin.min_
  generalize vl.toList=ws at *
  cases ws with
  |nil=>simp at h1
  |cons vx ws=>
   obtain⟨v,h3,h4⟩:=run_foldO (P:=P) (E:=E) (f:=vcM) (g:=Builtin.min2) (fun x y z vx vy hx hy hz=>by
    unfold vcM at hz
    split at hz
    · cases hz; cases hx; cases hy
      exact⟨_,rfl,.int _ _⟩
    cases hz) l ws x vx r (by simpa using h1) (fun i h=>by have:=h2 (i+1) (by simp; omega); simpa [gc] using this) (by have:=h2 0 (by simp); simpa [gc] using this) h
   exact .same hS h3 h4
def unb : AV→Option UInt8
 |.int .u8 n=>some (ur n.toNat)
 |_=>none
def unbs : List AV→Option (List UInt8)
 |[]=>some []
 |x::l=>match unb x,unbs l with
  |some b,some r=>some (b::r)
  |_,_=>none
theorem unbs_bys (l:List UInt8):unbs (bys l)=some l:=by
 induction l with
 |nil=>rfl
 |cons b l ih=>
  have:bys (b::l)=.int .u8 b.toNat::bys l:=rfl;rw[this]
  simp[unbs,unb,ih]
def vaX (T:TT)(src dst:TypeId)(x:AV)(σ:ze):Option (AV×ze):=
 match T src,T dst with
 |some i,some k=>
  match k.desc,x with
  |.int q,.int _ n=>some (.int q (q.wrap n),σ)
  |.string,.str s=>some (.str s,σ)
  |.slice e,.str s=>match T e with
   |some j=>match j.desc with
    |.int .u8=>if s.length≤9223372036854775807∧j.size=1 then some (.os true 1 σ.length 0 0 s.length false,σ++[.cells 0 (bys s)]) else none
    |_=>none
   |none=>none
  |.string,.ds nl cells len t=>match i.desc with
   |.slice e=>match T e with
    |some j=>match j.desc,y1 σ 1 (.ds nl cells len t) with
     |.int .u8,some (_,cs)=>(unbs cs).map fun l=>(.str l,σ)
     |_,_=>none
    |none=>none
   |_=>none
  |.string,.os nl sz id ver off len t=>match i.desc with
   |.slice e=>match T e with
    |some j=>match j.desc,y1 σ 1 (.os nl sz id ver off len t) with
     |.int .u8,some (_,cs)=>(unbs cs).map fun l=>(.str l,σ)
     |_,_=>none
    |none=>none
   |_=>none
  |.slice e,.os nl sz id ver off len t=>match i.desc with
   |.slice _=>if src=dst then match T e with
    |some j=>match j.desc,ze.at σ id ver with
     |.int .u8,some cs=>if off<cs.length∧0<len∧sz=1 then some (.os nl sz id ver off len t,σ) else none
     |_,_=>none
    |none=>none
    else none
   |_=>none
  |_,_=>none
 |_,_=>none
theorem run_bytesOf {P:Program}{E:Env}{f:Value→ByteArray→Sem (ForInStep ByteArray)}(hf:∀ n s,(f (.int .u8 n) s).run P E.w=.ok (.yield (s.push (ur n.toNat))) E.w)(vs:List Value):
 ∀ (cs:List AV) (l:List UInt8) (acc:ByteArray),vs.length=cs.length→(∀ i,i<cs.length→VR E (gc cs i) (vs.getD i undef))→unbs cs=some l→(forIn vs acc f).run P E.w=.ok (⟨acc.data++l.toArray⟩) E.w:=by
 induction vs with
 |nil=>
  intro cs l acc hl hv h
  have:cs=[]:=qS.1 hl.symm;subst this;cases h
  simp
 |cons v vs ih=>
  intro cs l acc hl hv h
  cases cs with
  |nil=>simp at hl
  |cons c cs=>
   simp only[unbs] at h
   split at h
   · rename_i b r h1 h2
     cases h
     have hc:VR E c v:=by have:=hv 0 (by simp); simpa [gc] using this
     unfold unb at h1
     split at h1
     · cases h1;cases hc;rw[List.forIn_cons];simp only[qy,hf,ql]
       rw[ih cs r _ (by simpa using hl) (fun i hi=>by
        have:=hv (i+1) (by simp; omega)
        simpa [gc] using this) h2]
       simp[ByteArray.push]
     cases h1
   cases h
theorem run_b2s {P:Program}{E:Env}{σ:ze}(hS:SR E σ){x:AV}{vx:Value}(hx:VR E x vx)(hsl:∃ a n c,vx=.slice a n c∧(a=none→n=0)){n:Nat}{cs:List AV}(h:y1 σ 1 x=some (n,cs)){l:List UInt8}(hl:unbs cs=some l):
 Out P E (Conv.bytesToString vx) (.str l) σ:=by
 obtain⟨h1,h2,h3⟩:=va5 (P:=P) hS hx h;obtain⟨vs,hv,ht⟩:=h3 n (qx _);rw[uu (by omega)] at ht;obtain⟨a,n',c,rfl,hnil⟩:=hsl
 have hn:n'=n:=by simpa [Builtin.lenOf] using h1
 subst hn
 cases a with
 |none=>
  have:=hnil rfl;subst this;have:cs=[]:=qS.1 (by omega);subst this;cases hl;exact .same hS (cv:=.string .empty) rfl (.str _ _ rfl)
 |some a=>
  refine .same hS (cv:=.string ⟨l.toArray⟩) ?_ (.str _ _ rfl)
  have hv':(loadCells a n').run P E.w=.ok vs E.w:=by simpa [Builtin.firstCells] using hv
  simp only[Conv.bytesToString,qy,hv',ql];rw[← Array.forIn_toList,run_bytesOf (P:=P) (E:=E) (fun n s=>by simp) vs.toList cs l ByteArray.empty (by rw[uq]; exact ht.1) (fun i hi=>by have:=ht.2 i hi; simpa using this) hl]
  simp
theorem vaW {w:World}{b o n:Nat}{conc:Array Value}{t:TypeId}{fr:Nat×Nat}(hn:n≠0)(h:w.heap[b]?=some (.cells conc t fr)):
 (w.freeze ⟨b,o,none⟩ n).heap[b]?=some (.cells conc t (if fr.1==fr.2 then (o,o+n) else (min fr.1 o,max fr.2 (o+n)))):=by
 obtain⟨lo,hi⟩:=fr
 simp[World.freeze,hn,vq,h]
theorem YF {w:World}{b b' o n:Nat}(h:b'≠b):(w.freeze ⟨b,o,none⟩ n).heap[b']?=w.heap[b']?:=by
 unfold World.freeze
 split
 · rfl
 simp only[vq];rw[if_neg (fun e=>h e.symm)]
theorem shape_freeze (w:World)(b o n b':Nat):(w.freeze ⟨b,o,none⟩ n).shape? b'=w.shape? b':=by
 by_cases hn:n=0
 · subst hn; simp[World.freeze]
 by_cases hb:b'=b
 · subst hb
   cases h:w.heap[b']? with
   |none=>
    have:(w.freeze ⟨b',o,none⟩ n).heap[b']?=none:=by simp[World.freeze,hn,vq,h]
    simp only[World.shape?,h,this]
   |some x=>
    cases x with
    |cells c t fr=>simp only[World.shape?,h,vaW hn h]
    |_=>
     have:(w.freeze ⟨b',o,none⟩ n).heap[b']?=w.heap[b']?:=by simp[World.freeze,hn,vq,h]
     simp only[World.shape?,this]
 simp only[World.shape?,YF hb]
theorem SR.freezeEnd {E:Env}{σ:ze}(hS:SR E σ){id ver b:Nat}{cs:List AV}(hcs:ze.at σ id ver=some cs)(hl:E.loc id=some (ver,some b)){t:TypeId}{m:Nat}(hm:E.w.shape? b=some (t,m))(hts:tsize t=1):
 SR { E with w:=E.w.freeze ⟨b,m,none⟩ 1 } σ∧Ext E { E with w:=E.w.freeze ⟨b,m,none⟩ 1 }:=by
 have hb:=hS.blk _ _ _ hl
 have hsz:(E.w.freeze ⟨b,m,none⟩ 1).heap.size=E.w.heap.size:=by simp[World.freeze]
 have hx:Ext E { E with w:=E.w.freeze ⟨b,m,none⟩ 1 } := {
  os:=rfl
  tape:=rfl
  output:=rfl
  size:=by rw[hsz]; exact qx _
  shape:=fun b' q h=>by rw[shape_freeze]; exact h
  st:=fun b' h=>⟨h,YF (fun e=>hb.2 (e▸h))⟩
  n:=qx _
  loc:=fun _ _ v o h=>⟨v,o,h,qx _,fun _=>rfl⟩
  old:=fun b' _ hn=>YF (fun e=>by subst e; exact hn _ _ hl)
  own:=fun id v _ h _=>⟨id,v,h⟩
  stn:=fun _ h=>.inl h }
 refine⟨⟨hS.len,fun i=>?_,hS.inj,fun i v b' h=>⟨by rw[hsz]; exact (hS.blk i v b' h).1,(hS.blk i v b' h).2⟩,fun b' h=>by rw[hsz]; exact hS.stb b' h,hS.glb.mono hx.st,fun b' h=>hS.bas b' (by rw[hsz] at h; exact h)⟩,hx⟩
 by_cases hi:i=id
 · subst hi;rw[ze.at_some hcs]
   rcases hS.at hcs with ⟨b',h1,h2⟩|⟨_,h1⟩
   · rw[hl] at h1; cases h1
     obtain⟨conc,t',fr,a1,a2,a3,a4⟩:=h2.blk
     have hcm:conc.size=m:=by simp only[World.shape?,a1,Option.some.injEq,Prod.mk.injEq] at hm; exact hm.2
     refine .inl ⟨b,hl,conc,t',_,vaW (by decide) a1,.inr ⟨?_,?_⟩,a3,fun k hk=>(a4 k hk).ext hx⟩
     · by_cases he:fr.1=fr.2
       · rw[if_pos (by rw[he]; simp)]; simp only; omega
       rw[if_neg (by simpa using he)]; simp only; have:=(a2.resolve_left he).1; omega
     simp only[World.shape?,a1,Option.some.injEq,Prod.mk.injEq] at hm; rw[hm.1]; exact hts
   rw[hl] at h1; cases h1
 exact (hS.obj i).ext hx (.inr rfl) rfl fun v b' h=>YF (fun e=>hi (hS.inj i id v ver b (e▸h) hl))
theorem told_bytes (E:Env)(s:ByteArray):va1 E (s.data.map fun b=>.int .u8 b.toNat) (bys s.data.toList):=by
 refine⟨by simp[van],fun i hi=>?_⟩
 have hi':i<s.data.toList.length:=by simpa [van] using hi
 rw[gc_bys _ _ hi']
 have h2:i<s.data.size:=by rw[uq] at hi'; exact hi'
 have:(s.data.map fun b=>Value.int .u8 b.toNat).getD i undef=.int .u8 (s.data.toList[i]).toNat:=by
  simp only[uG,Array.getElem?_map,uM h2,uN,uO]
  simp
 rw[this]; exact .int _ _
theorem run_s2b {P:Program}{E:Env}{σ:ze}(hS:SR E σ)(s:ByteArray)(e:TypeId)(hts:tsize e=1)(hlB:s.data.toList.length≤9223372036854775807):Out P E (Conv.stringToBytes e s) (.os true 1 σ.length 0 0 s.data.toList.length false) (σ++[.cells 0 (bys s.data.toList)]):=by
 obtain⟨hS1,hx1⟩:=hS.grew (XB.drew E.w)
 have hcap:s.size≤(Question.appendCap s.size 0 e).cut (E.w.tape E.w.drawn (.appendCap s.size 0 e)):=by simp only[Question.cut]; omega
 generalize hc:(Question.appendCap s.size 0 e).cut (E.w.tape E.w.drawn (.appendCap s.size 0 e))=cap at hcap
 have ht:=told_bytes { E with w:=E.w.drew } s;have hmore:=va1.more (ws:=u5 (cap-s.size) (.int .u8 0)) ht
 obtain⟨A,hA⟩:∃ A,A=s.data.map (fun b=>Value.int .u8 b.toNat)++u5 (cap-s.size) (Value.int .u8 0):=⟨_,rfl⟩
 rw[← hA] at hmore;obtain⟨hS2,hx2⟩:=hS1.newRow A e _ hmore.1 hmore.2
 have hsl:s.data.toList.length=s.size:=by rw[uq]; rfl
 have hlen:A.size=cap:=by
  rw[hA];simp only[Array.size_append,Array.size_map,Array.size_replicate];have:s.data.size=s.size:=rfl
  omega
 have hnew:=xK E.w.drew (.cells A e)
 have hsh:(E.w.drew.alloc (.cells A e)).shape? E.w.heap.size=some (e,cap):=by
  simp only[World.shape?];rw[show E.w.heap.size=E.w.drew.heap.size from rfl,hnew];simp only[hlen]
 have hloc:=Env.loc_new (E := { E with w:=E.w.drew }) hS1 (E.w.drew.alloc (.cells A e)) (some E.w.drew.heap.size);obtain⟨hS3,hx3⟩:=hS2.freezeEnd (ze.at_new σ 0 _) hloc hsh hts;refine⟨.slice (some ⟨E.w.heap.size,0,none⟩) s.size cap,_,?_,?_,hS3,(hx1.trans hx2).trans hx3⟩
 · simp only[Conv.stringToBytes,qy,run_choose,Question.forced,uf,if_false,World.drew_eq,ql,Go.newRow,run_newObj,qR,hc,World.alloc_eq,markStringish,run_shape];rw[← hA];rw[show E.w.drew.heap.size=E.w.heap.size from rfl,hsh];simp only[qy,run_freeze,ql]
   rfl
 rw[hsl]
 refine .os _ _ _ _ _ _ _ _ _ ((Env.ok_new hS1 _ _).ext hx3) hcap (fun e=>by cases e) hlB fun ob hob=>?_
 have:some (0,ob)=some (0,some E.w.heap.size):=by rw[← hob]; exact hloc
 cases this;exact⟨_,rfl,.inr (base0 _ (hS.bas _ (qx _))),e,cap,hx3.shape _ _ hsh,hts,base1 (hS.bas _ (qx _)) (by omega)⟩
theorem run_evConv {P:Program}{T:TT}(hT:TOK P T){E:Env}{σ σ':ze}(hS:SR E σ){src dst:TypeId}{x:AV}{vx:Value}(hx:VR E x vx){r:AV}(h:vaX T src dst x σ=some (r,σ')):
 Out P E (Go.convert src dst vx) r σ':=by
 unfold vaX at h
 split at h
 case h_2=>cases h
 rename_i i k hi hk
 have u1:=yk E.w (hT _ _ hi);have u2:=yk E.w (hT _ _ hk)
 split at h
 · rename_i q kk n hd
   cases h;cases hx;refine .same hS (cv:=.int q (q.wrap n)) ?_ (.int _ _);simp only[Go.convert,qy,u1,u2,ql,hd]
   rfl
 · rename_i s hd
   cases h;have hx':=hx
   cases hx with|str _ b hb=>
   refine .same hS (cv:=.string b) ?_ hx';simp only[Go.convert,qy,u1,u2,ql,hd]
   rfl
 · rename_i e s hd
   split at h
   · rename_i j hj
     split at h
     · rename_i hjd
       split at h
       · rename_i hlB
         cases h
         cases hx with|str _ b hb=>
         subst hb;have:=run_s2b (P:=P) hS b e ((hT _ _ hj).ts.trans hlB.2) hlB.1;obtain⟨cv,E',h1,h2,h3,h4⟩:=this;refine⟨cv,E',?_,h2,h3,h4⟩;simp only[Go.convert,qy,u1,u2,ql,hd,yk _ (hT _ _ hj),hjd];exact h1
       cases h
     cases h
   cases h
 · rename_i nl cells len t hd
   split at h
   · rename_i e hid
     split at h
     · rename_i j hj
       split at h
       · rename_i q cs hjd hsrc
         cases hu:unbs cs with
         |none=>rw[hu] at h; cases h
         |some l=>
          rw[hu] at h; cases h
          have hsl:∃ a n c,vx=.slice a n c∧(a=none→n=0):=by
           cases hx with
           |dsn=>exact⟨_,_,_,rfl,fun _=>rfl⟩
           |ds=>exact⟨_,_,_,rfl,fun h=>by cases h⟩
          obtain⟨cv,E',h1,h2,h3,h4⟩:=run_b2s (P:=P) hS hx hsl hsrc hu;refine⟨cv,E',?_,h2,h3,h4⟩;obtain⟨a,n,c,rfl,_⟩:=hsl;simp only[Go.convert,qy,u1,u2,ql,hd,hid,yk _ (hT _ _ hj),hjd];exact h1
       cases h
     cases h
   cases h
 · rename_i nl sz id ver off len t hd
   split at h
   · rename_i e hid
     split at h
     · rename_i j hj
       split at h
       · rename_i q cs hjd hsrc
         cases hu:unbs cs with
         |none=>rw[hu] at h; cases h
         |some l=>
          rw[hu] at h; cases h
          have hsl:∃ a n c,vx=.slice a n c∧(a=none→n=0):=by
           cases hx with
           |osn=>exact⟨_,_,_,rfl,fun _=>rfl⟩
           |os=>exact⟨_,_,_,rfl,fun h=>by cases h⟩
          obtain⟨cv,E',h1,h2,h3,h4⟩:=run_b2s (P:=P) hS hx hsl hsrc hu;refine⟨cv,E',?_,h2,h3,h4⟩;obtain⟨a,n,c,rfl,_⟩:=hsl;simp only[Go.convert,qy,u1,u2,ql,hd,hid,yk _ (hT _ _ hj),hjd];exact h1
       cases h
     cases h
   cases h
 · rename_i e nl sz id ver off len t hd
   split at h
   · rename_i e' hid
     split at h
     · rename_i heq
       subst heq
       split at h
       · rename_i j hj
         split at h
         · rename_i cs hjd hcs
           split at h
           · rename_i hoff
             cases h;have hx':=hx
             cases hx with
             |osn=>omega
             |os _ _ _ _ _ _ _ a cap hok hc ht hB hp=>
             obtain⟨b,hl,hb⟩:=hS.block_of hcs hoff.1;obtain⟨b',e1,e2,t',m,hm,hts,hle⟩:=hp _ hl;cases e1
             have ha:a.block=b:=by rw[e2.resolve_left (by omega)]
             have hbk:∀ w:World,(markStringish a).run P w=(match w.shape? a.block with|some (_,n)=>.ok () (w.freeze ⟨a.block,n,none⟩ 1)|none=>.ok () w):=fun w=>by
              simp only[markStringish,qy,run_shape,ql]
              cases w.shape? a.block with
              |none=>rfl
              |some p=>obtain⟨x,y⟩:=p; rfl
             obtain⟨hS3,hx3⟩:=hS.freezeEnd hcs hl hm (hts.trans hoff.2.2);refine⟨.slice (some a) len cap,_,?_,hx'.ext hx3,hS3,hx3⟩
             have hik:i=k:=by rw[hi] at hk; cases hk; rfl
             subst hik
             have:e'=e:=by rw[hd] at hid; cases hid; rfl
             subst this;simp only[Go.convert,qy,u1,ql,hd,beq_self_eq_true];simp only[yk _ (hT _ _ hj),ql,hjd,qy,hbk,ha,hm]
             rfl
           cases h
         cases h
       cases h
     cases h
   cases h
 cases h
def evIface (T:TT)(t:TypeId)(x:AV):Option AV:=
 match T t with
 |some i=>match i.desc with
  |.interface _=>none
  |_=>some (.ifc t x)
 |none=>none
theorem run_evIface {P:Program}{T:TT}(hT:TOK P T){E:Env}{σ:ze}(hS:SR E σ){t:TypeId}{x:AV}{vx:Value}(hx:VR E x vx){r:AV}(h:evIface T t x=some r):Out P E (Instr.makeInterface t vx) r σ:=by
 unfold evIface at h
 split at h
 · rename_i i hi
   split at h
   · cases h
   rename_i hne
   cases h;refine .same hS (cv:=.iface t vx) ?_ (.ifc _ _ _ hx);simp only[Instr.makeInterface,qy,yk _ (hT _ _ hi),ql]
   cases hd:i.desc<;>first|rfl|exact absurd hd (hne _)
 cases h
def xC (zero x:AV)(asserted:TypeId)(ok:Bool):Option AV:=
 match x with
 |.ifc t v=>if t=asserted then some (if ok then .tup [v,.bool true] else v) else if ok then some (.tup [zero,.bool false]) else none
 |.nilI=>if ok then some (.tup [zero,.bool false]) else none
 |_=>none
def TypeDesc.isIface : TypeDesc→Bool
 |.interface _=>true
 |_=>false
def xA (T:TT)(x:AV)(asserted:TypeId)(ok:Bool):Option AV:=
 match T asserted with
 |some i=>if TypeDesc.isIface i.desc then none else xC i.zero x asserted ok
 |none=>none
theorem VR.tup2 {E:Env}{a b:AV}{va vb:Value}(ha:VR E a va)(hb:VR E b vb):VR E (.tup [a,b]) (.tuple #[va,vb]):=by
 refine .tup _ _ rfl fun i hi=>?_
 match i,hi with
 |0,_=>exact ha
 |1,_=>exact hb
theorem run_evAssert {P:Program}{T:TT}(hT:TOK P T){E:Env}{σ:ze}(hS:SR E σ){x:AV}{vx:Value}(hx:VR E x vx){xt asserted:TypeId}{ok:Bool}{r:AV}(h:xA T x asserted ok=some r):
 Out P E (Instr.typeAssert vx xt asserted ok) r σ:=by
 unfold xA at h
 split at h
 case h_2=>cases h
 rename_i i hi
 split at h
 · cases h
 rename_i hnif
 have hne:∀ ms,i.desc≠.interface ms:=by
  intro ms hd
  rw[hd] at hnif;exact hnif rfl
 obtain⟨z,hz,hzs,hzv⟩:=YW (w:=E.w) (hT _ _ hi);unfold xC at h
 split at h
 · rename_i t v
   cases hx with|ifc _ _ cv hv=>
   split at h
   · rename_i ht
     subst ht;cases h
     cases ok with
     |true=>
      refine .same hS (cv:=.tuple #[cv,.bool true]) ?_ (.tup2 hv (.bool _));simp only[Instr.typeAssert,qy,yk _ (hT _ _ hi),ql]
      cases hd:i.desc<;>first|exact absurd hd (hne _)|simp
     |false=>
      refine .same hS (cv:=cv) ?_ hv;simp only[Instr.typeAssert,qy,yk _ (hT _ _ hi),ql]
      cases hd:i.desc<;>first|exact absurd hd (hne _)|simp
   rename_i ht
   split at h
   · rename_i hok
     subst hok;cases h;refine .same hS (cv:=.tuple #[z,.bool false]) ?_ (.tup2 (hzv E) (.bool _));simp only[Instr.typeAssert,qy,yk _ (hT _ _ hi),ql]
     cases hd:i.desc<;>first|exact absurd hd (hne _)|simp[ht,hz]
   cases h
 · cases hx
   split at h
   · rename_i hok
     subst hok;cases h;refine .same hS (cv:=.tuple #[z,.bool false]) ?_ (.tup2 (hzv E) (.bool _));simp only[Instr.typeAssert,qy,yk _ (hT _ _ hi),ql]
     cases hd:i.desc<;>first|exact absurd hd (hne _)|simp[hz]
   cases h
 cases h
end AM
end
section
namespace AM
open Go.RowKit
def ceq : TypeDesc→AV→AV→Option Bool
 |.int _,.int k a,.int k' b=>if k=k' then some (decide (a=b)) else none
 |.string,.str a,.str b=>some (decide (a=b))
 |.bool,.bool a,.bool b=>some (a==b)
 |_,_,_=>none
def vab : List TypeDesc→List AV→List AV→Option Bool
 |[],[],[]=>some true
 |d::ds,a::l,b::m=>match ceq d a b,vab ds l m with
  |some p,some q=>some (p&&q)
  |_,_=>none
 |_,_,_=>none
theorem vdD : ∀ {d e:List TypeDesc} {a b c x:List AV},a.length=d.length→c.length=d.length→∀ {r:Bool},vab (d++e) (a++b) (c++x)=some r→∃ p q,vab d a c=some p∧vab e b x=some q∧r=(p&&q):=by
 intro d
 induction d with
 |nil=>
  intro e a b c x hl hm r h
  obtain rfl:a=[]:=qS.1 hl;obtain rfl:c=[]:=qS.1 hm;exact⟨true,r,rfl,h,by simp⟩
 |cons dd d ih=>
  intro e a b c x hl hm r h
  cases a with
  |nil=>simp at hl
  |cons y a=>cases c with
   |nil=>simp at hm
   |cons z c=>
    simp only[qI,vab] at h
    cases h1:ceq dd y z with
    |none=>rw[h1] at h; cases h
    |some p0=>
     rw[h1] at h
     cases h2:vab (d++e) (a++b) (c++x) with
     |none=>rw[h2] at h; cases h
     |some q0=>
      rw[h2] at h;simp only[Option.some.injEq] at h;obtain⟨p,q,h3,h4,rfl⟩:=ih (by simpa using hl) (by simpa using hm) h2;exact⟨p0&&p,q,by simp only[vab,h1,h3],h4,by rw[← h,Bool.and_assoc]⟩
theorem Yh : ∀ {d:List TypeDesc} {a b:List AV} {r:Bool},vab d a b=some r→a.length=d.length∧b.length=d.length:=by
 intro d
 induction d with
 |nil=>
  intro a b r h
  cases a with
  |nil=>cases b with
   |nil=>exact⟨rfl,rfl⟩
   |cons y b=>cases h
  |cons y a=>cases h
 |cons x d ih=>
  intro a b r h
  cases a with
  |nil=>cases h
  |cons y a=>cases b with
   |nil=>cases h
   |cons z b=>
    simp only[vab] at h
    cases h2:vab d a b with
    |none=>rw[h2] at h; cases h1:ceq x y z<;>rw[h1] at h<;>cases h
    |some q=>have:=ih h2; exact⟨by simp[this.1],by simp[this.2]⟩
def Scal (v:Value):Prop:=(∃ k n,v=.int k n)∨(∃ s,v=.string s)∨∃ b,v=.bool b
theorem str_eq {s s':ByteArray}(h:s.data.toList=s'.data.toList):s=s':=by
 obtain⟨⟨l⟩⟩:=s;obtain⟨⟨l'⟩⟩:=s';simp only at h;rw[h]
theorem ceq_true {E:Env}{d:TypeDesc}{x y:AV}{vx vy:Value}{r:Bool}(h:ceq d x y=some r)(hx:VR E x vx)(hy:VR E y vy):Scal vx∧Scal vy∧(r=true→vx=vy):=by
 unfold ceq at h
 split at h
 · split at h
   · rename_i hk
     cases h;subst hk
     cases hx; cases hy
     exact⟨.inl ⟨_,_,rfl⟩,.inl ⟨_,_,rfl⟩,fun h=>by rw[of_decide_eq_true h]⟩
   cases h
 · cases h
   cases hx with|str _ s hs=>cases hy with|str _ s' hs'=>
   exact⟨.inr (.inl ⟨_,rfl⟩),.inr (.inl ⟨_,rfl⟩),fun h=>by rw[str_eq (hs.trans ((of_decide_eq_true h).trans hs'.symm))]⟩
 · cases h
   cases hx; cases hy
   exact⟨.inr (.inr ⟨_,rfl⟩),.inr (.inr ⟨_,rfl⟩),fun h=>by rw[eq_of_beq h]⟩
 cases h
theorem run_ceq {P:Program}{E:Env}{t:TypeId}{d:TypeDesc}(hd:P.underlying t=some d){x y:AV}{vx vy:Value}{r:Bool}(h:ceq d x y=some r)(hx:VR E x vx)(hy:VR E y vy)(n:Nat):
 (Op.equalIn (n+1) t vx vy).run P E.w=.ok r E.w:=by
 have hu:(underlying t).run P E.w=.ok d E.w:=by simp[underlying,hd]
 unfold ceq at h
 split at h
 · split at h
   · rename_i hk; subst hk
     cases h; cases hx; cases hy
     simp only[Op.equalIn,qy,hu,ql,if_true,qR,beq_dec]
   cases h
 · cases h
   cases hx with|str _ s hs=>cases hy with|str _ s' hs'=>
   subst hs; subst hs'
   simp only[Op.equalIn,qy,hu,ql,qR];rw[beq_toListBytes,Ya,Ya]
   by_cases he:s.data.toList=s'.data.toList
   · rw[he]; simp
   rw[decide_eq_false he,beq_eq_false_iff_ne.2 he]
 · cases h; cases hx; cases hy
   simp only[Op.equalIn,qy,hu,ql,qR]
 cases h
theorem ceqL_get : ∀ {d:List TypeDesc} {a b:List AV} {r:Bool},vab d a b=some r→∀ i,i<a.length→∃ dd q,ceq dd (gc a i) (gc b i)=some q∧(r=true→q=true):=by
 intro d
 induction d with
 |nil=>
  intro a b r h i hi
  have:=(Yh h).1
  simp at this; subst this; simp at hi
 |cons x d ih=>
  intro a b r h i hi
  cases a with
  |nil=>cases h
  |cons y a=>cases b with
   |nil=>cases h
   |cons z b=>
    simp only[vab] at h
    cases h1:ceq x y z with
    |none=>rw[h1] at h; cases h
    |some p=>
     cases h2:vab d a b with
     |none=>rw[h1,h2] at h; cases h
     |some q=>
      rw[h1,h2] at h;simp only[Option.some.injEq] at h;subst h
      cases i with
      |zero=>exact⟨x,p,by simpa [gc] using h1,by simp; intro a _; exact a⟩
      |succ i=>
       obtain⟨dd,q',e1,e2⟩:=ih h2 i (by simpa using hi);exact⟨dd,q',by simpa [gc] using e1,by simp; intro _ b; exact e2 b⟩
def vbR (p:TypeId→Option (List TypeDesc)):List Go.Field→Nat→Option (List TypeDesc)
 |[],_=>some []
 |f::fs,off=>if f.name ≠ "_" ∧ f.offset=off then
  match p f.type with
  |some l=>match vbR p fs (off+l.length) with
   |some m=>some (l++m)
   |none=>none
  |none=>none
  else none
def xG (T:TT):Nat→TypeId→Option (List TypeDesc)
 |0,_=>none
 |f+1,t=>match T t with
  |some i=>match i.desc with
   |.int k=>if i.size=1 then some [.int k] else none
   |.string=>if i.size=1 then some [.string] else none
   |.bool=>if i.size=1 then some [.bool] else none
   |.struct fs=>match vbR (xG T f) fs.toList 0 with
    |some l=>if i.cmp=true∧l.length=i.size then some l else none
    |none=>none
   |.array n e=>match xG T f e with
    |some l=>if i.cmp=true∧n*l.length=i.size∧(T e).isSome then some (qV n l).flatten else none
    |none=>none
   |_=>none
  |none=>none
def vaj (i:TI)(x:AV)(cs:List AV):Prop:=cs.length=i.size∧if i.agg then x=.agg cs else cs=[x]
theorem vbP {cs:List AV}{off:Nat}{j:TI}(h1:j.agg=false→j.size=1)(h:off+j.size≤cs.length):∃ x,vcL cs off j.size j.agg=some x∧vaj j x ((cs.drop off).take j.size):=by
 unfold vcL vaj
 cases hg:j.agg with
 |true=>exact⟨.agg ((cs.drop off).take j.size),by simp[h],by simp; omega,by simp⟩
 |false=>
  have:=h1 hg;refine⟨gc cs off,by simp; omega,by simp; omega,?_⟩;simp only[uf,if_false,this]
  have hlt:off<cs.length:=by omega
  rw[List.drop_eq_getElem_cons hlt];simp only[List.take_succ_cons,List.take_zero,gc,qC,qX hlt,uO]
theorem YU {i:TI}{x:AV}{cs:List AV}(h:vaj i x cs)(hag:i.agg=true):x=.agg cs∧cs.length=i.size:=by
 unfold vaj at h; rw[hag] at h; exact⟨h.2,h.1⟩
section
variable {P:Program} {T:TT} (hT:TOK P T)
include hT
omit hT in
theorem Zi : ∀ (f:Nat) (t:TypeId) (i:TI) (l:List TypeDesc),xG T f t=some l→T t=some i→l.length=i.size∧(i.agg=false→i.size=1):=by
 intro f
 cases f with
 |zero=>intro t i l h; cases h
 |succ f=>
  intro t i l h hi
  simp only[xG,hi] at h
  split at h
  · rename_i hd; split at h
    · rename_i hs; cases h; exact⟨hs.symm,fun _=>hs⟩
    cases h
  · rename_i hd; split at h
    · rename_i hs; cases h; exact⟨hs.symm,fun _=>hs⟩
    cases h
  · rename_i hd; split at h
    · rename_i hs; cases h; exact⟨hs.symm,fun _=>hs⟩
    cases h
  · rename_i fs hd
    split at h
    · split at h
      · rename_i hc; cases h; exact⟨hc.2,fun e=>by simp[TI.agg,hd,TypeDesc.isAgg] at e⟩
      cases h
    cases h
  · rename_i n e hd
    split at h
    · split at h
      · rename_i hc; cases h
        refine⟨?_,fun e=>by simp[TI.agg,hd,TypeDesc.isAgg] at e⟩
        rw[← hc.2.1]; simp
      cases h
    cases h
  cases h
theorem vdm {E:Env}:∀ (f:Nat) (t:TypeId) (i:TI) (l:List TypeDesc),xG T f t=some l→T t=some i→∀ (x y:AV) (vx vy:Value) (cs ds:List AV) (r:Bool),VR E x vx→VR E y vy→vaj i x cs→vaj i y ds→vab l cs ds=some r→
 ∀ d,(Op.equalIn (d+f) t vx vy).run P E.w=.ok r E.w:=by
 intro f
 induction f with
 |zero=>intro t i l h; cases h
 |succ f ih=>
  intro t i l h hi x y vx vy cs ds r hx hy sx sy hr d
  have ht:=hT _ _ hi;rw[show d+(f+1)=(d+f)+1 by omega]
  -- one cell
  have one:∀ dd,i.desc=dd→i.agg=false→l=[dd]→(∃ q,ceq dd x y=some q∧r=q):=by
   intro dd hd hag hl
   subst hl;simp only[vaj,hag,uf,if_false] at sx sy;rw[sx.2,sy.2] at hr;simp only[vab] at hr
   cases hc:ceq dd x y with
   |none=>rw[hc] at hr; cases hr
   |some q=>
    rw[hc] at hr;simp only[qo,Option.some.injEq] at hr;exact⟨q,rfl,hr.symm⟩
  -- a part
  have step:∀ (e:TypeId) (j:TI) (m:List TypeDesc) (off:Nat) (cs ds:List AV) (xs ys:Array Value) (q:Bool),xG T f e=some m→T e=some j→xs.size=cs.length→ys.size=ds.length→
   (∀ i,i<cs.length→VR E (gc cs i) (xs.getD i undef))→(∀ i,i<ds.length→VR E (gc ds i) (ys.getD i undef))→off+j.size≤cs.length→off+j.size≤ds.length→vab m ((cs.drop off).take j.size) ((ds.drop off).take j.size)=some q→
   ∃ a b,(part e xs off).run P E.w=.ok a E.w∧(part e ys off).run P E.w=.ok b E.w∧(Op.equalIn (d+f) e a b).run P E.w=.ok q E.w:=by
   intro e j m off cs ds xs ys q hm hj hxs hys hvx hvy h1 h2 hq
   have hsz:=Zi f e j m hm hj;obtain⟨a,ha,sa⟩:=vbP hsz.2 h1;obtain⟨b,hb,sb⟩:=vbP hsz.2 h2;obtain⟨va,ra,rva⟩:=vb3 (hT _ _ hj) hxs hvx ha;obtain⟨vb,rb,rvb⟩:=vb3 (hT _ _ hj) hys hvy hb;exact⟨va,vb,ra,rb,ih e j m hm hj a b va vb _ _ q rva rvb sa sb hq d⟩
  simp only[xG,hi] at h
  split at h
  · rename_i k hd
    split at h
    · cases h;obtain⟨q,hc,rfl⟩:=one _ hd (by simp[TI.agg,hd,TypeDesc.isAgg]) rfl;exact run_ceq (ht.desc.trans (by rw[hd])) hc hx hy _
    cases h
  · rename_i hd
    split at h
    · cases h;obtain⟨q,hc,rfl⟩:=one _ hd (by simp[TI.agg,hd,TypeDesc.isAgg]) rfl;exact run_ceq (ht.desc.trans (by rw[hd])) hc hx hy _
    cases h
  · rename_i hd
    split at h
    · cases h;obtain⟨q,hc,rfl⟩:=one _ hd (by simp[TI.agg,hd,TypeDesc.isAgg]) rfl;exact run_ceq (ht.desc.trans (by rw[hd])) hc hx hy _
    cases h
  · rename_i fs hd
    split at h
    · rename_i m hm
      split at h
      · rename_i hc
        cases h;obtain⟨rfl,hlx⟩:=YU sx (by simp[TI.agg,hd,TypeDesc.isAgg]);obtain⟨rfl,hly⟩:=YU sy (by simp[TI.agg,hd,TypeDesc.isAgg])
        cases hx with|agg _ xs hxs hvx=>cases hy with|agg _ ys hys hvy=>
        have hfo:P.fieldsOf t=fs:=by simp[Program.fieldsOf,ht.desc,hd]
        rw[run_equalIn_struct E.w (d+f) t xs ys (by rw[hfo,← hd]; exact ht.desc) (ht.cmp hc.1).1,hfo]
        have key:∀ (fl:List Go.Field) (off:Nat) (m:List TypeDesc) (r:Bool),vbR (xG T f) fl off=some m→off+m.length=cs.length→vab m (cs.drop off) (ds.drop off)=some r→(Op.eqFields (d+f) xs ys fl).run P E.w=.ok r E.w:=by
         intro fl
         induction fl with
         |nil=>
          intro off m r h hl hr
          simp only[vbR,Option.some.injEq] at h;subst h;have:cs.drop off=[]:=List.drop_eq_nil_of_le (by simp at hl; omega);rw[this] at hr;have hr':=(Yh hr).2;have:ds.drop off=[]:=qS.1 hr';rw[this] at hr;cases hr
          simp[Op.eqFields]
         |cons fd fl ihf=>
          intro off m r h hl hr
          simp only[vbR] at h
          split at h
          · rename_i hcf
            split at h
            · rename_i l1 hl1
              split at h
              · rename_i m1 hm1
                cases h
                have hTe:∃ j,T fd.type=some j:=by
                 cases f with
                 |zero=>cases hl1
                 |succ f=>simp only[xG] at hl1; cases hq:T fd.type with
                  |none=>rw[hq] at hl1; cases hl1
                  |some j=>exact⟨j,rfl⟩
                obtain⟨j,hj⟩:=hTe;have hsz:=(Zi f fd.type j l1 hl1 hj).1;rw[qj] at hl
                have hsx:cs.drop off=(cs.drop off).take j.size++cs.drop (off+l1.length):=by rw[hsz,← vo,uA]
                have hsy:ds.drop off=(ds.drop off).take j.size++ds.drop (off+l1.length):=by rw[hsz,← vo,uA]
                have hdl:ds.length=cs.length:=by rw[hly,hlx]
                rw[hsx,hsy] at hr;obtain⟨p,q,e1,e2,rfl⟩:=vdD (by simp; omega) (by simp; omega) hr;obtain⟨a,b,r1,r2,r3⟩:=step fd.type j l1 off cs ds xs ys p hl1 hj hxs hys hvx hvy (by omega) (by omega) e1;have h4:=ihf (off+l1.length) m1 q hm1 (by omega) e2;simp only[Op.eqFields,if_pos hcf.1,hcf.2,qy,r1,r2,r3,ql]
                cases p with
                |false=>simp
                |true=>simpa using h4
              cases h
            cases h
          cases h
        exact key fs.toList 0 l r hm (by rw[hlx,← hc.2]; simp) (by simpa using hr)
      cases h
    cases h
  · rename_i n e hd
    split at h
    · rename_i m hm
      split at h
      · rename_i hc
        cases h;obtain⟨c1,c2,c3⟩:=hc;obtain⟨j,hj⟩:=Option.isSome_iff_exists.1 c3;obtain⟨rfl,hlx⟩:=YU sx (by simp[TI.agg,hd,TypeDesc.isAgg]);obtain⟨rfl,hly⟩:=YU sy (by simp[TI.agg,hd,TypeDesc.isAgg])
        cases hx with|agg _ xs hxs hvx=>cases hy with|agg _ ys hys hvy=>
        have hsz:=(Zi f e j m hm hj).1;obtain⟨fi,hfi,hfs,_⟩:=(hT _ _ hj).info
        have hco:P.cellsOf e=j.size:=by simp[Program.cellsOf,hfi,hfs]
        rw[run_equalIn_array E.w (d+f) xs ys (by rw[ht.desc,hd]) hfi,hco]
        have key:∀ (k s:Nat) (r:Bool),s+k=n→vab (qV k m).flatten (cs.drop (s*j.size)) (ds.drop (s*j.size))=some r→(Op.eqItems (d+f) e j.size xs ys (List.range' s k)).run P E.w=.ok r E.w:=by
         intro k
         induction k with
         |zero=>
          intro s r hs hr
          simp only[List.replicate_zero,List.flatten_nil] at hr;have h1:=(Yh hr).1;have h2:=(Yh hr).2;rw[qS.1 h1,qS.1 h2] at hr;cases hr
          simp[Op.eqItems]
         |succ k ihk=>
          intro s r hs hr
          rw[List.replicate_succ,List.flatten_cons] at hr
          have hsx:cs.drop (s*j.size)=(cs.drop (s*j.size)).take j.size++cs.drop ((s+1)*j.size):=by rw[uY,← vo,uA]
          have hsy:ds.drop (s*j.size)=(ds.drop (s*j.size)).take j.size++ds.drop ((s+1)*j.size):=by rw[uY,← vo,uA]
          have hle:s*j.size+j.size≤n*j.size:=by rw[← uY]; exact ud _ (by omega)
          rw[hsz] at c2;rw[hsx,hsy] at hr;obtain⟨p,q,e1,e2,rfl⟩:=vdD (by simp; omega) (by simp; omega) hr;obtain⟨a,b,r1,r2,r3⟩:=step e j m (s*j.size) cs ds xs ys p hm hj hxs hys hvx hvy (by omega) (by omega) e1;have h4:=ihk (s+1) q (by omega) e2;simp only[List.range'_succ,Op.eqItems,qy,r1,r2,r3,ql]
          cases p with
          |false=>simp
          |true=>simpa using h4
        have:=key n 0 r (by omega) (by simpa using hr)
        rw[List.range_eq_range']; exact this
      cases h
    cases h
  cases h
end
def evEqA (T:TT)(t:TypeId)(x y:AV):Option Bool:=
 match x,y with
 |.agg cs,.agg ds=>match T t,xG T 20 t with
  |some i,some l=>if i.agg=true∧i.cmp=true then vab l cs ds else none
  |_,_=>none
 |_,_=>none
theorem run_evEqA {P:Program}{T:TT}(hT:TOK P T){E:Env}{t:TypeId}{x y:AV}{vx vy:Value}(hx:VR E x vx)(hy:VR E y vy){r:Bool}(h:evEqA T t x y=some r):
 (Op.equal t vx vy).run P E.w=.ok r E.w∧(∀ op ox oy,(eqGuard op t ox oy vx vy).run P E.w=.ok () E.w)∧
  Go.binOp .eql t vx vy=(do pure (.bool (← Op.equal t vx vy)))∧Go.binOp .neq t vx vy=(do pure (.bool (!(← Op.equal t vx vy)))):=by
 unfold evEqA at h
 split at h
 · rename_i cs ds
   split at h
   · rename_i i l hi hl
     split at h
     · rename_i hc
       have hsz:=(Zi 20 t i l hl hi).1;have hln:=Yh h;have h1:=vdm hT 20 t i l hl hi (.agg cs) (.agg ds) vx vy cs ds r hx hy ⟨by omega,by simp[hc.1]⟩ ⟨by omega,by simp[hc.1]⟩ h 9980
       cases hx with|agg _ xs _ _=>cases hy with|agg _ ys _ _=>
       refine⟨h1,fun op ox oy=>?_,rfl,rfl⟩;exact run_eqGuard_agg E.w op t ox oy xs ys ((hT _ _ hi).cmp hc.2).2
     cases h
   cases h
 cases h
def Xz (i:TI)(x:AV):Option (List AV):=
 match x with
 |.agg cs=>if i.agg then some cs else none
 |x=>if i.agg then none else some [x]
theorem wG {i:TI}{x:AV}{cs:List AV}(h:Xz i x=some cs)(hl:cs.length=i.size):vaj i x cs:=by
 unfold Xz at h
 split at h
 · split at h
   · rename_i ha; cases h; exact⟨hl,by simp[ha]⟩
   cases h
 split at h
 · cases h
 rename_i ha; cases h; exact⟨hl,by simp[ha]⟩
def Yp (l:List TypeDesc)(i:TI)(kc:List AV):List (AV×AV)→Nat→Option (Option (Nat×AV))
 |[],_=>some none
 |e::es,n=>match Xz i e.1 with
  |some ec=>match vab l kc ec with
   |some b=>bif b then some (some (n,e.2)) else Yp l i kc es (n+1)
   |none=>none
  |none=>none
def FindR (E:Env):Option (Nat×AV)→Option (Nat×Value)→Prop
 |none,none=>True
 |some (n,a),some (m,v)=>n=m∧VR E a v
 |_,_=>False
def vbk (E:Env)(es:List (AV×AV))(ents:List MapEntry):Prop:=
 ents.length=es.length∧∀ i (h:i<es.length) (h':i<ents.length),VR E es[i].1 ents[i].key∧VR E es[i].2 ents[i].val
theorem vbk.tail {E:Env}{e:AV×AV}{es:List (AV×AV)}{x:MapEntry}{ents:List MapEntry}(h:vbk E (e::es) (x::ents)):VR E e.1 x.key∧VR E e.2 x.val∧vbk E es ents:=by
 refine⟨(h.2 0 (by simp) (by simp)).1,(h.2 0 (by simp) (by simp)).2,by simpa using h.1,fun i h1 h2=>?_⟩;have:=h.2 (i+1) (by simpa using h1) (by simpa using h2)
 simpa using this
section
variable {P:Program} {T:TT} (hT:TOK P T)
include hT
theorem run_findAsking {E:Env}{kt:TypeId}{i:TI}{l:List TypeDesc}(hi:T kt=some i)(hl:xG T 20 kt=some l){k:AV}{vk:Value}(hk:VR E k vk){kc:List AV}(hkc:Xz i k=some kc):
 ∀ (es:List (AV×AV)) (ents:List MapEntry) (n:Nat) (r:Option (Nat×AV)),vbk E es ents→Yp l i kc es n=some r→∃ q,(Instr.findAsking kt vk ents n).run P E.w=.ok q E.w∧FindR E r q:=by
 intro es
 induction es with
 |nil=>
  intro ents n r h hf
  have:ents=[]:=qS.1 h.1;subst this;cases hf;exact⟨none,by simp[Instr.findAsking],trivial⟩
 |cons e es ih=>
  intro ents n r h hf
  cases ents with
  |nil=>have:=h.1; simp at this
  |cons x ents=>
   obtain⟨h1,h2,h3⟩:=h.tail;simp only[Yp] at hf
   split at hf
   · rename_i ec hec
     split at hf
     · rename_i b hb
       have hsz:=(Zi 20 kt i l hl hi).1;have hln:=Yh hb;have heq:=vdm hT 20 kt i l hl hi k e.1 vk x.key kc ec b hk h1 (wG hkc (by omega)) (wG hec (by omega)) hb 9980;simp only[Instr.findAsking,qy];rw[show (Op.equal kt vk x.key).run P E.w=.ok b E.w from heq]
       cases b with
       |true=>cases hf; exact⟨some (n,x.val),by simp,rfl,h2⟩
       |false=>
        obtain⟨q,e1,e2⟩:=ih ents (n+1) r h3 hf;exact⟨q,by simpa using e1,e2⟩
     cases hf
   cases hf
omit hT in
theorem run_findNow {E:Env}{kt:TypeId}{i:TI}{l:List TypeDesc}(hi:T kt=some i)(hl:xG T 20 kt=some l)(hag:i.agg=false){k:AV}{vk:Value}(hk:VR E k vk){kc:List AV}(hkc:Xz i k=some kc):
 ∀ (es:List (AV×AV)) (ents:List MapEntry) (n:Nat) (r:Option (Nat×AV)),vbk E es ents→Yp l i kc es n=some r→∃ q,Instr.findNow i.desc vk ents n=some q∧FindR E r q:=by
 have hd:∃ d,l=[d]∧i.desc=d:=by
  have h20:xG T (19+1) kt=some l:=hl;simp only[xG,hi] at h20
  split at h20
  · rename_i hd; split at h20<;>cases h20; exact⟨_,rfl,hd⟩
  · rename_i hd; split at h20<;>cases h20; exact⟨_,rfl,hd⟩
  · rename_i hd; split at h20<;>cases h20; exact⟨_,rfl,hd⟩
  · rename_i hd; simp[TI.agg,hd,TypeDesc.isAgg] at hag
  · rename_i hd; simp[TI.agg,hd,TypeDesc.isAgg] at hag
  cases h20
 obtain⟨d,rfl,hdd⟩:=hd
 intro es
 induction es with
 |nil=>
  intro ents n r h hf
  have:ents=[]:=qS.1 h.1;subst this;cases hf;exact⟨none,rfl,trivial⟩
 |cons e es ih=>
  intro ents n r h hf
  cases ents with
  |nil=>have:=h.1; simp at this
  |cons x ents=>
   obtain⟨h1,h2,h3⟩:=h.tail;simp only[Yp] at hf
   split at hf
   · rename_i ec hec
     split at hf
     · rename_i b hb
       have hln:=Yh hb
       have s1:=wG hkc (show kc.length=i.size by
        have:=(Zi 20 kt i [d] hl hi).1; omega)
       have s2:=wG hec (show ec.length=i.size by
        have:=(Zi 20 kt i [d] hl hi).1; omega)
       simp only[vaj,hag,uf,if_false] at s1 s2;rw[s1.2,s2.2] at hb;simp only[vab] at hb
       cases hc:ceq d k e.1 with
       |none=>rw[hc] at hb; cases hb
       |some q=>
        rw[hc] at hb;simp only[qo,Option.some.injEq] at hb;subst hb
        have hnow:Instr.sameNow i.desc vk x.key=some q:=by
         rw[hdd];unfold ceq at hc
         generalize e.1=ek at hc h1
         generalize x.key=xk at h1 ⊢
         split at hc
         · split at hc
           · rename_i hkk; subst hkk
             cases hc; cases hk; cases h1
             simp[Instr.sameNow,beq_dec]
           cases hc
         · cases hc
           cases hk with|str _ s hs=>cases h1 with|str _ s' hs'=>
           subst hs; subst hs'
           simp only[Instr.sameNow];rw[beq_toListBytes,Ya,Ya]
           by_cases he:s.data.toList=s'.data.toList
           · rw[he]; simp
           rw[decide_eq_false he,beq_eq_false_iff_ne.2 he]
         · cases hc; cases hk; cases h1
           simp[Instr.sameNow]
         cases hc
        simp only[Instr.findNow,hnow]
        cases q with
        |true=>cases hf; exact⟨some (n,x.val),rfl,rfl,h2⟩
        |false=>exact ih ents (n+1) r h3 hf
     cases hf
   cases hf
theorem Yd {E:Env}{kt:TypeId}{i:TI}{l:List TypeDesc}(hi:T kt=some i)(hl:xG T 20 kt=some l){k:AV}{vk:Value}(hk:VR E k vk){kc:List AV}(hkc:Xz i k=some kc)
 (es:List (AV×AV)) (ents:List MapEntry) (r:Option (Nat×AV)) (he:vbk E es ents) (hf:Yp l i kc es 0=some r):∃ q,(Instr.findKey kt vk ents).run P E.w=.ok q E.w∧FindR E r q:=by
 have hT':=hT;simp only[Instr.findKey,qy,yk _ (hT _ _ hi),ql]
 cases hag:i.agg with
 |false=>
  obtain⟨q,h1,h2⟩:=run_findNow hi hl hag hk hkc es ents 0 r he hf;exact⟨q,by simp[h1],h2⟩
 |true=>
  obtain⟨q,h1,h2⟩:=run_findAsking hT' hi hl hk hkc es ents 0 r he hf
  cases ents with
  |nil=>
   have:es=[]:=qS.1 he.1.symm;subst this;cases hf;exact⟨none,by simp[Instr.findNow],trivial⟩
  |cons x ents=>
   have hn:Instr.findNow i.desc vk (x::ents) 0=none:=by
    have:Instr.sameNow i.desc vk x.key=none:=by
     unfold TI.agg TypeDesc.isAgg at hag
     split at hag
     · rename_i hd; rw[hd]; rfl
     · rename_i hd; rw[hd]; rfl
     cases hag
    simp[Instr.findNow,this]
   exact⟨q,by rw[hn]; exact h1,h2⟩
end
end AM
end
section
namespace AM
open Go.RowKit
section
variable {P:Program} {T:TT} (hT:TOK P T)
include hT
theorem XG {E:Env}(em:Bool):∀ (f:Nat) (t:TypeId) (i:TI) (l:List TypeDesc),xG T f t=some l→T t=some i→∀ (x:AV) (vx:Value) (cs:List AV),VR E x vx→vaj i x cs→
 ∀ d,(Instr.checkKey em (d+f) t vx).run P E.w=.ok () E.w:=by
 intro f
 induction f with
 |zero=>intro t i l h; cases h
 |succ f ih=>
  intro t i l h hi x vx cs hx sx d
  have ht:=hT _ _ hi;rw[show d+(f+1)=(d+f)+1 by omega]
  have step:∀ (e:TypeId) (j:TI) (m:List TypeDesc) (off:Nat) (cs:List AV) (xs:Array Value),xG T f e=some m→T e=some j→xs.size=cs.length→
   (∀ i,i<cs.length→VR E (gc cs i) (xs.getD i undef))→off+j.size≤cs.length→
   ∃ a,(part e xs off).run P E.w=.ok a E.w∧(Instr.checkKey em (d+f) e a).run P E.w=.ok () E.w:=by
   intro e j m off cs xs hm hj hxs hvx h1
   have hsz:=Zi f e j m hm hj;obtain⟨a,ha,sa⟩:=vbP hsz.2 h1;obtain⟨va,ra,rva⟩:=vb3 (hT _ _ hj) hxs hvx ha;exact⟨va,ra,ih e j m hm hj a va _ rva sa d⟩
  simp only[xG,hi] at h;unfold Instr.checkKey;simp only[qy,yk _ ht,ql]
  split at h
  · rename_i hd; simp[hd]
  · rename_i hd; simp[hd]
  · rename_i hd; simp[hd]
  · rename_i fs hd
    split at h
    · rename_i m hm
      split at h
      · rename_i hc
        cases h;obtain⟨rfl,hlx⟩:=YU sx (by simp[TI.agg,hd,TypeDesc.isAgg])
        cases hx with|agg _ xs hxs hvx=>
        simp only[hd];rw[← Array.forIn_toList]
        have key:∀ (fl:List Go.Field) (off:Nat) (m:List TypeDesc),vbR (xG T f) fl off=some m→off+m.length=cs.length→
         (forIn fl () fun (fd:Go.Field) (_:Unit)=>(do
          if fd.name ≠ "_" then
           Instr.checkKey em (d+f) fd.type (← part fd.type xs fd.offset)
           pure (ForInStep.yield ())
          else pure (ForInStep.yield ()):Sem (ForInStep Unit))).run P E.w=.ok () E.w:=by
         intro fl
         induction fl with
         |nil=>intro off m h hl; simp
         |cons fd fl ihf=>
          intro off m h hl
          simp only[vbR] at h
          split at h
          · rename_i hcf
            split at h
            · rename_i l1 hl1
              split at h
              · rename_i m1 hm1
                cases h
                have hTe:∃ j,T fd.type=some j:=by
                 cases f with
                 |zero=>cases hl1
                 |succ f=>simp only[xG] at hl1; cases hq:T fd.type with
                  |none=>rw[hq] at hl1; cases hl1
                  |some j=>exact⟨j,rfl⟩
                obtain⟨j,hj⟩:=hTe;have hsz:=(Zi f fd.type j l1 hl1 hj).1;rw[qj] at hl;obtain⟨a,r1,r2⟩:=step fd.type j l1 off cs xs hl1 hj hxs hvx (by omega);simp only[List.forIn_cons,if_pos hcf.1,hcf.2,qy,r1,r2,ql,qR];exact ihf (off+l1.length) m1 hm1 (by omega)
              cases h
            cases h
          cases h
        have:=key fs.toList 0 l hm (by rw[hlx,← hc.2]; simp)
        simpa using this
      cases h
    cases h
  · rename_i n e hd
    split at h
    · rename_i m hm
      split at h
      · rename_i hc
        cases h;obtain⟨c1,c2,c3⟩:=hc;obtain⟨j,hj⟩:=Option.isSome_iff_exists.1 c3;obtain⟨rfl,hlx⟩:=YU sx (by simp[TI.agg,hd,TypeDesc.isAgg])
        cases hx with|agg _ xs hxs hvx=>
        simp only[hd];have hsz:=(Zi f e j m hm hj).1;simp only[Std.Legacy.Range.forIn_eq_forIn_range',Std.Legacy.Range.size,uZ,Nat.add_one_sub_one,Nat.div_one]
        have key:∀ (k s:Nat),s+k=n→(forIn (List.range' s k) () fun (i:Nat) (_:Unit)=>(do
         Instr.checkKey em (d+f) e (← part e xs (i*(← sizeOf e)))
         pure (ForInStep.yield ()):Sem (ForInStep Unit))).run P E.w=.ok () E.w:=by
         intro k
         induction k with
         |zero=>intro s hs; simp
         |succ k ihk=>
          intro s hs
          have hle:s*j.size+j.size≤n*j.size:=by rw[← uY]; exact ud _ (by omega)
          rw[hsz] at c2;obtain⟨a,r1,r2⟩:=step e j m (s*j.size) cs xs hm hj hxs hvx (by omega);simp only[List.range'_succ,List.forIn_cons,qy,wF _ (hT _ _ hj),r1,r2,ql,qR];exact ihk (s+1) (by omega)
        have:=key n 0 (by omega)
        simpa using this
      cases h
    cases h
  cases h
end
def Env.setB (E:Env)(b:Nat)(o:Obj):Env := { E with w := { E.w with heap:=E.w.heap.setIfInBounds b o } }
theorem vae {w:World}{b:Nat}{o:Obj}(h:b<w.heap.size):({ w with heap:=w.heap.setIfInBounds b o }:World).heap[b]?=some o:=by
 simp[h]
theorem Y3 {w:World}{b b':Nat}{o:Obj}(h:b'≠b):({ w with heap:=w.heap.setIfInBounds b o }:World).heap[b']?=w.heap[b']?:=by
 simp only[Array.getElem?_setIfInBounds];rw[if_neg (fun e=>h e.symm)]
theorem shape_setB {w:World}{b b':Nat}{o:Obj}(h:w.shape? b=none){m:TypeId×Nat}(hm:w.shape? b'=some m):({ w with heap:=w.heap.setIfInBounds b o }:World).shape? b'=some m:=by
 have hne:b'≠b:=fun e=>by subst e; rw[h] at hm; cases hm
 simp only[World.shape?,Y3 hne] at *;exact hm
theorem SR.setB {E:Env}{σ:ze}(hS:SR E σ){id b:Nat}{x:Yq}(hl:E.loc id=some (0,some b))(hsh:E.w.shape? b=none){o:Obj}(hlt:id<σ.length)
 (ho:Ext E (E.setB b o)→ObjR (E.setB b o) id (some x)):SR (E.setB b o) (σ.set id x)∧Ext E (E.setB b o):=by
 have hb:=hS.blk _ _ _ hl
 have hx:Ext E (E.setB b o) := {
  os:=rfl
  tape:=rfl
  output:=rfl
  size:=by simp[Env.setB]
  shape:=fun b' m hm=>shape_setB hsh hm
  st:=fun b' h=>⟨h,Y3 (fun e=>hb.2 (e▸h))⟩
  n:=qx _
  loc:=fun _ _ v o h=>⟨v,o,h,qx _,fun _=>rfl⟩
  old:=fun b' _ hn=>Y3 (fun e=>by subst e; exact hn _ _ hl)
  own:=fun id v _ h _=>⟨id,v,h⟩
  stn:=fun _ h=>.inl h }
 refine⟨⟨by simpa [Env.setB] using hS.len,fun i=>?_,hS.inj,fun i v b' h=>⟨by simpa [Env.setB] using (hS.blk i v b' h).1,(hS.blk i v b' h).2⟩,fun b' h=>by simpa [Env.setB] using hS.stb b' h,hS.glb.mono hx.st,fun b' h=>hS.bas b' (by simpa [Env.setB] using h)⟩,hx⟩
 by_cases hi:i=id
 · subst hi;rw[uv hlt];exact ho hx
 rw[ue (fun e=>hi e.symm)]
 exact (hS.obj i).ext hx (.inr rfl) rfl fun v b' h=>Y3 (fun e=>hi (hS.inj i id v 0 b (e▸h) hl))
def ze.mapAt (σ:ze)(id:Nat):Option (List (AV×AV)):=
 match σ[id]? with
 |some (.map es _)=>some es
 |_=>none
def ze.ghAt (σ:ze)(id:Nat):Option (List Nat×Nat):=
 match σ[id]? with
 |some (.map _ gh)=>gh
 |_=>none
theorem SR.mapAt {E:Env}{σ:ze}(hS:SR E σ){id:Nat}{es:List (AV×AV)}(h:ze.mapAt σ id=some es):
 id<σ.length∧∃ b ents clock,E.loc id=some (0,some b)∧E.w.heap[b]?=some (.map ents clock)∧vbk E es ents.toList∧∀ g,ze.ghAt σ id=some g→ents.toList.map MapEntry.born=g.1∧clock=g.2:=by
 unfold ze.mapAt at h
 split at h
 · rename_i es' gh hσ
   cases h;have:=hS.obj id;rw[hσ] at this;obtain⟨b,ents,clock,h1,h2,h3,h4,h5⟩:=this;refine⟨(qQ.1 hσ).1,b,ents,clock,h1,h2,⟨by simpa using h3,fun i h h'=>?_⟩,fun g hg=>?_⟩
   · have:=h4 i h (by simpa using h')
     simpa using this
   unfold ze.ghAt at hg;rw[hσ] at hg;exact h5 g hg
 cases h
theorem shape_map {w:World}{b:Nat}{es:Array MapEntry}{c:Nat}(h:w.heap[b]?=some (.map es c)):w.shape? b=none:=by
 simp only[World.shape?,h]
theorem SR.setMap {E:Env}{σ:ze}(hS:SR E σ){id b:Nat}{ents ents':Array MapEntry}{clock clock':Nat}{es':List (AV×AV)}(hlt:id<σ.length)(hl:E.loc id=some (0,some b))(hb:E.w.heap[b]?=some (.map ents clock))
 (he:vbk E es' ents'.toList) (gh:Option (List Nat×Nat)) (hg:∀ g,gh=some g→ents'.toList.map MapEntry.born=g.1∧clock'=g.2):SR (E.setB b (.map ents' clock')) (σ.set id (.map es' gh))∧Ext E (E.setB b (.map ents' clock')):=by
 have hlb:=(hS.blk _ _ _ hl).1
 refine hS.setB hl (shape_map hb) hlt fun hx=>⟨b,ents',clock',hl,vae hlb,by simpa using he.1,fun i h h'=>?_,hg⟩
 have:=he.2 i h (by simpa using h');simp only[Array.getElem_toList] at this;exact⟨this.1.ext hx,this.2.ext hx⟩
theorem vaK {α β:Type}(f:α→β):∀ (l:List α) (n:Nat),(l.eraseIdx n).map f=(l.map f).eraseIdx n
 |[],_=>rfl
 |_::_,0=>rfl
 |a::l,n+1=>by simp only[List.eraseIdx_cons_succ,qu,vaK f l n]
theorem born_set {ents:Array MapEntry}{n:Nat}{x:MapEntry}(hn:n<ents.size)(hx:x.born=(ents[n]).born):(ents.toList.set n x).map MapEntry.born=ents.toList.map MapEntry.born:=by
 apply uX
 intro j
 rw[vp,vp,List.getElem?_set]
 by_cases hj:n=j
 · subst hj
   simp[hn,hx]
 simp[hj]
theorem born_push {gh:Option (List Nat×Nat)}{ents:Array MapEntry}{clock:Nat}{k v:Value}(h:∀ g,gh=some g→ents.toList.map MapEntry.born=g.1∧clock=g.2):
 ∀ g,(gh.map fun g=>(g.1++[g.2],g.2+1))=some g→(ents.push { key:=k,val:=v,born:=clock }).toList.map MapEntry.born=g.1∧clock+1=g.2:=by
 intro g hg
 cases gh with
 |none=>cases hg
 |some g0=>
  cases hg;obtain⟨e1,e2⟩:=h g0 rfl;rw[Array.toList_push,qs,e1];exact⟨by show g0.1++[clock]=g0.1++[g0.2]; rw[e2],by rw[e2]⟩
def Xv (ok:Bool)(v:AV)(b:Bool):AV:=if ok then .tup [v,.bool b] else v
def X9 (T:TT)(t:TypeId)(m k:AV)(ok:Bool)(σ:ze):Option AV:=
 match T t with
 |some i=>match i.desc with
  |.map kt et=>match T kt,T et,xG T 20 kt with
   |some ik,some ie,some l=>match Xz ik k with
    |some kc=>if kc.length=ik.size then match m with
     |.nilm=>some (Xv ok ie.zero false)
     |.mp id=>match ze.mapAt σ id with
      |some es=>match Yp l ik kc es 0 with
       |some (some (_,v))=>some (Xv ok v true)
       |some none=>some (Xv ok ie.zero false)
       |none=>none
      |none=>none
     |_=>none
     else none
    |none=>none
   |_,_,_=>none
  |_=>none
 |none=>none
theorem VR.pack {E:Env}{v:AV}{cv:Value}(h:VR E v cv)(ok b:Bool):VR E (Xv ok v b) (if ok then .tuple #[cv,.bool b] else cv):=by
 unfold Xv
 cases ok with
 |true=>exact VR.tup2 h (.bool b)
 |false=>exact h
theorem run_evLookup {P:Program}{T:TT}(hT:TOK P T){E:Env}{σ:ze}(hS:SR E σ){t:TypeId}{m k:AV}{vm vk:Value}(hm:VR E m vm)(hk:VR E k vk){ok:Bool}{r:AV}(h:X9 T t m k ok σ=some r):
 Out P E (Instr.lookup t vm vk ok) r σ:=by
 unfold X9 at h
 split at h
 · rename_i i hi
   split at h
   · rename_i kt et hd
     split at h
     · rename_i ik ie l hik hie hl
       split at h
       · rename_i kc hkc
         split at h
         · rename_i hlen
           have hch:=fun em=>XG hT em 20 kt ik l hl hik k vk kc hk (wG hkc hlen) 9980
           obtain⟨z,hz,_,hzv⟩:=YW (w:=E.w) (hT _ _ hie)
           split at h
           · cases h;cases hm;refine .same hS (cv:=if ok then .tuple #[z,.bool false] else z) ?_ ((hzv E).pack ok false);obtain⟨q,h1,h2⟩:=Yd hT hik hl hk hkc [] [] none ⟨rfl,fun i h=>absurd h (by simp)⟩ rfl
             have:q=none:=by cases q with|none=>rfl|some q=>exact h2.elim
             subst this;simp only[Instr.lookup,qy,yk _ (hT _ _ hi),hd,ql,qR,hch];simp only[show (#[]:Array MapEntry).toList=[] from rfl,h1,qy,hz,ql,qR]
           · rename_i id
             split at h
             · rename_i es hes
               obtain⟨_,b,ents,clock,hlc,hb,her,_⟩:=hS.mapAt hes
               cases hm with|mp _ b' hok hp=>
               have:=hp _ hlc;cases this;have hget:(getObj b).run P E.w=.ok (.map ents clock) E.w:=run_getObj_map E.w b ents clock hb
               split at h
               · rename_i n v hf
                 cases h;obtain⟨q,h1,h2⟩:=Yd hT hik hl hk hkc es ents.toList _ her hf
                 obtain⟨n',v',rfl⟩:∃ n' v',q=some (n',v'):=by cases q with|none=>exact h2.elim|some q=>exact⟨q.1,q.2,rfl⟩
                 refine .same hS (cv:=if ok then .tuple #[v',.bool true] else v') ?_ (h2.2.pack ok true);simp only[Instr.lookup,qy,yk _ (hT _ _ hi),hd,ql,hget,qR,hch,h1]
               · rename_i hf
                 cases h;obtain⟨q,h1,h2⟩:=Yd hT hik hl hk hkc es ents.toList _ her hf
                 have:q=none:=by cases q with|none=>rfl|some q=>exact h2.elim
                 subst this;refine .same hS (cv:=if ok then .tuple #[z,.bool false] else z) ?_ ((hzv E).pack ok false);simp only[Instr.lookup,qy,yk _ (hT _ _ hi),hd,ql,hget,qR,hch,h1,hz]
               cases h
             cases h
           cases h
         cases h
       cases h
     cases h
   cases h
 cases h
def Xh (T:TT)(t:TypeId)(m k v:AV)(σ:ze):Option ze:=
 match T t,m with
 |some i,.mp id=>match i.desc with
  |.map kt et=>match T kt,xG T 20 kt with
   |some ik,some l=>match Xz ik k,ze.mapAt σ id with
    |some kc,some es=>if kc.length=ik.size then match Yp l ik kc es 0 with
     |some (some (n,_))=>some (σ.set id (.map (es.set n (k,v)) (ze.ghAt σ id)))
     |some none=>some (σ.set id (.map (es++[(k,v)]) ((ze.ghAt σ id).map fun g=>(g.1++[g.2],g.2+1))))
     |none=>none
     else none
    |_,_=>none
   |_,_=>none
  |_=>none
 |_,_=>none
theorem vb2 {v:Value}(h:Scal v)(n:Nat):Instr.sameBits n v v=true:=by
 rcases h with ⟨k,m,rfl⟩|⟨s,rfl⟩|⟨b,rfl⟩
 · cases n<;>simp[Instr.sameBits]
 · cases n<;>simp[Instr.sameBits]<;>(rw[beq_toListBytes]; simp)
 cases n<;>simp[Instr.sameBits]
theorem same_key {E:Env}{i:TI}{l:List TypeDesc}{x y:AV}{vx vy:Value}{cs ds:List AV}(hx:VR E x vx)(hy:VR E y vy)(sx:vaj i x cs)(sy:vaj i y ds)(h:vab l cs ds=some true):Instr.sameBits 10000 vx vy=true:=by
 unfold vaj at sx sy
 cases hag:i.agg with
 |true=>
  rw[hag] at sx sy;obtain⟨h1,rfl⟩:=sx;obtain⟨h2,rfl⟩:=sy
  cases hx with|agg _ xs hxs hvx=>cases hy with|agg _ ys hys hvy=>
  have hlen:cs.length=ds.length:=by rw[h1,h2]
  have key:∀ j,j<cs.length→Scal (xs.getD j undef)∧xs.getD j undef=ys.getD j undef:=by
   intro j hj
   obtain⟨dd,q,e1,e2⟩:=ceqL_get h j hj;obtain⟨s1,s2,s3⟩:=ceq_true e1 (hvx j hj) (hvy j (by omega));exact⟨s1,s3 (e2 rfl)⟩
  have hxy:xs=ys:=by
   apply Array.ext
   · omega
   intro j h1 h2
   have:=(key j (by omega)).2
   simpa [uG,h1,h2] using this
  subst hxy
  show ((xs.size==xs.size)&&_)=true
  simp only[beq_self_eq_true,uh,un]
  intro p hp
  obtain⟨j,hj,rfl⟩:=List.getElem_of_mem hp;simp only[List.getElem_zip]
  have hj':j<xs.size:=by simpa using hj
  have:=(key j (by omega)).1
  have e:xs.getD j undef=xs.toList[j]'(by simpa using hj'):=by simp[hj']
  rw[e] at this;exact vb2 this _
 |false=>
  rw[hag] at sx sy;simp only[uf,if_false] at sx sy;rw[sx.2,sy.2] at h;obtain⟨dd,q,e1,e2⟩:=ceqL_get h 0 (by simp);obtain⟨s1,s2,s3⟩:=ceq_true e1 (by simpa [gc] using hx) (by simpa [gc] using hy);have:=s3 (e2 rfl);subst this;exact vb2 s1 _
theorem vaN {l:List TypeDesc}{i:TI}{kc:List AV}:∀ {es:List (AV×AV)} {s n:Nat} {v:AV},Yp l i kc es s=some (some (n,v))→s≤n∧∃ e ec,es[n-s]?=some e∧Xz i e.1=some ec∧vab l kc ec=some true:=by
 intro es
 induction es with
 |nil=>intro s n v h; cases h
 |cons e es ih=>
  intro s n v h
  simp only[Yp] at h
  split at h
  · rename_i ec hec
    split at h
    · rename_i b hb
      cases b with
      |true=>simp only[cond_true,Option.some.injEq,Prod.mk.injEq] at h; obtain⟨rfl,_⟩:=h; exact⟨qx _,e,ec,by simp,hec,hb⟩
      |false=>
       obtain⟨h1,e',ec',h2,h3,h4⟩:=ih h;exact⟨by omega,e',ec',by rw[show n-s=(n-(s+1))+1 by omega,uP]; exact h2,h3,h4⟩
    cases h
  cases h
theorem evFind_val {l:List TypeDesc}{i:TI}{kc:List AV}:∀ {es:List (AV×AV)} {s n:Nat} {v:AV} {e:AV×AV},Yp l i kc es s=some (some (n,v))→es[n-s]?=some e→v=e.2:=by
 intro es
 induction es with
 |nil=>intro s n v e h; cases h
 |cons a es ih=>
  intro s n v e h he
  have hle:=(vaN h).1;simp only[Yp] at h
  split at h
  · split at h
    · rename_i b hb
      cases b with
      |true=>
       simp only[cond_true,Option.some.injEq,Prod.mk.injEq] at h;obtain⟨rfl,rfl⟩:=h;rw[uQ] at he
       cases he; rfl
      |false=>
       simp only[cond_false] at h;have hle2:=(vaN h).1;refine ih h ?_;rw[show n-s=(n-(s+1))+1 by omega] at he
       simpa using he
    cases h
  cases h
theorem vbk.set {E:Env}{es:List (AV×AV)}{ents:List MapEntry}(h:vbk E es ents){n:Nat}{k v:AV}{x:MapEntry}(hk:VR E k x.key)(hv:VR E v x.val):vbk E (es.set n (k,v)) (ents.set n x):=by
 refine⟨by simp[h.1],fun i h1 h2=>?_⟩;simp only[List.length_set] at h1 h2;rw[List.getElem_set,List.getElem_set]
 by_cases hn:n=i
 · simp[hn,hk,hv]
 simp only[hn,if_false]; exact h.2 i h1 h2
theorem vbk.snoc {E:Env}{es:List (AV×AV)}{ents:List MapEntry}(h:vbk E es ents){k v:AV}{x:MapEntry}(hk:VR E k x.key)(hv:VR E v x.val):vbk E (es++[(k,v)]) (ents++[x]):=by
 refine⟨by simp[h.1],fun i h1 h2=>?_⟩;simp only[qj,ub] at h1 h2
 by_cases hi:i<es.length
 · rw[List.getElem_append_left hi,List.getElem_append_left (by have:=h.1; omega)];exact h.2 i hi _
 have e1:i=es.length:=by omega
 have e2:i=ents.length:=by have:=h.1; omega
 rw[List.getElem_append_right (by omega),List.getElem_append_right (by omega)]
 simp[e1,h.1,hk,hv]
theorem vbk.erase {E:Env}{es:List (AV×AV)}{ents:List MapEntry}(h:vbk E es ents)(n:Nat):vbk E (es.eraseIdx n) (ents.eraseIdx n):=by
 refine⟨by simp[List.length_eraseIdx,h.1],fun i h1 h2=>?_⟩;rw[List.getElem_eraseIdx,List.getElem_eraseIdx]
 split
 · exact h.2 _ _ _
 exact h.2 _ _ _
theorem Ys {P:Program}{w:World}{b:Nat}{o o':Obj}(h:w.heap[b]?=some o')(hm:∀ c t f,o'≠.cells c t f):(setObj b o).run P w=.ok () { w with heap:=w.heap.setIfInBounds b o }:=by
 cases o'<;>first|(simp[setObj,Sem.run,h]; done)|exact absurd rfl (hm _ _ _)
theorem va7 {P:Program}{T:TT}(hT:TOK P T){E:Env}{σ σ':ze}(hS:SR E σ){t:TypeId}{m k v:AV}{vm vk vv:Value}(hm:VR E m vm)(hk:VR E k vk)(hv:VR E v vv)(h:Xh T t m k v σ=some σ'):
 ∃ E',(Instr.mapUpdate t vm vk vv).run P E.w=.ok () E'.w∧SR E' σ'∧Ext E E':=by
 unfold Xh at h
 split at h
 · rename_i i id hi
   split at h
   · rename_i kt et hd
     split at h
     · rename_i ik l hik hl
       split at h
       · rename_i kc es hkc hes
         split at h
         · rename_i hlen
           have hch:=XG hT false 20 kt ik l hl hik k vk kc hk (wG hkc hlen) 9980;obtain⟨hlt,b,ents,clock,hlc,hb,her,hgh⟩:=hS.mapAt hes
           cases hm with|mp _ b' hok hp=>
           have:=hp _ hlc;cases this;have hget:(getObj b).run P E.w=.ok (.map ents clock) E.w:=run_getObj_map E.w b ents clock hb
           split at h
           · rename_i n v0 hf
             cases h;obtain⟨q,h1,h2⟩:=Yd hT hik hl hk hkc es ents.toList _ her hf
             obtain⟨n',v',rfl⟩:∃ n' v',q=some (n',v'):=by cases q with|none=>exact h2.elim|some q=>exact⟨q.1,q.2,rfl⟩
             obtain⟨rfl,_⟩:=h2;obtain⟨_,e,ec,he1,he2,he3⟩:=vaN hf;rw[uZ] at he1;have hn:=(qQ.1 he1).1
             have hn':n<ents.size:=by have:=her.1; simp at this; omega
             have hsz:=(Zi 20 kt ik l hl hik).1;have hln:=Yh he3;have hkey:=(her.2 n hn (by simpa using hn')).1;rw[(qQ.1 he1).2] at hkey
             have hsame:=same_key hkey hk (wG he2 (by omega)) (wG hkc hlen) (l:=l) (by
              -- the other way round
              have:∀ (l:List TypeDesc) (a b:List AV),vab l a b=some true→vab l b a=some true:=by
               intro l
               induction l with
               |nil=>intro a b h; cases a with
                |nil=>cases b with
                 |nil=>rfl
                 |cons y b=>cases h
                |cons y a=>cases h
               |cons d l ih=>
                intro a b h
                cases a with
                |nil=>cases h
                |cons x a=>cases b with
                 |nil=>cases h
                 |cons y b=>
                  simp only[vab] at h ⊢
                  cases h1:ceq d x y with
                  |none=>rw[h1] at h; cases h
                  |some p=>cases h2:vab l a b with
                   |none=>rw[h1,h2] at h; cases h
                   |some q=>
                    rw[h1,h2] at h;simp only[Option.some.injEq,qJ] at h;obtain⟨rfl,rfl⟩:=h;rw[ih a b h2]
                    have:ceq d y x=some true:=by
                     unfold ceq at h1 ⊢
                     split at h1
                     · split at h1
                       · rename_i hk; subst hk; simp only[Option.some.injEq,decide_eq_true_eq] at h1; subst h1; simp
                       cases h1
                     · simp only[Option.some.injEq,decide_eq_true_eq] at h1; subst h1; simp
                     · simp only[Option.some.injEq,beq_iff_eq] at h1; subst h1; simp
                     cases h1
                    rw[this]; rfl
              exact this l kc ec he3)
             let x:MapEntry := { ents[n] with key:=vk,val:=vv }
             have hmod:(ents.modify n fun e => { e with key:=vk,val:=vv }).toList=ents.toList.set n x:=by
              rw[Array.toList_modify];apply uX
              intro j
              rw[List.getElem?_modify,List.getElem?_set]
              by_cases hj:n=j
              · subst hj; simp[hn',x]
              simp[hj]
             obtain⟨hS',hx'⟩:=hS.setMap (clock':=clock) (ents':=ents.modify n fun e => { e with key:=vk,val:=vv }) (es':=es.set n (k,v)) hlt hlc hb (by rw[hmod]; exact her.set hk hv) (ze.ghAt σ id) (fun g hg=>by rw[hmod,born_set (x:=x) hn' rfl]; exact hgh g hg);refine⟨_,?_,hS',hx'⟩;simp only[Instr.mapUpdate,qy,yk _ (hT _ _ hi),hd,ql,hget,hch,h1,uM hn',uN,uO,Instr.keyThatStays];simp only[Array.getElem_toList] at hsame;rw[if_pos hsame];simp only[qR,ql];exact Ys hb (by intro _ _ _ h; cases h)
           · rename_i hf
             cases h;obtain⟨q,h1,h2⟩:=Yd hT hik hl hk hkc es ents.toList _ her hf
             have:q=none:=by cases q with|none=>rfl|some q=>exact h2.elim
             subst this
             obtain⟨hS',hx'⟩:=hS.setMap (clock':=clock+1) (ents':=ents.push { key:=vk,val:=vv,born:=clock }) (es':=es++[(k,v)]) hlt hlc hb (by
              rw[Array.toList_push]; exact her.snoc hk hv) ((ze.ghAt σ id).map fun g=>(g.1++[g.2],g.2+1)) (born_push hgh)
             refine⟨_,?_,hS',hx'⟩;simp only[Instr.mapUpdate,qy,yk _ (hT _ _ hi),hd,ql,hget,hch,h1];exact Ys hb (by intro _ _ _ h; cases h)
           cases h
         cases h
       cases h
     cases h
   cases h
 cases h
def vca (T:TT)(t:TypeId)(hint:Option AV)(σ:ze):Option (AV×ze):=
 match hint with
 |none=>some (.mp σ.length,σ++[.map [] (some ([],0))])
 |some (.int _ _)=>match T t with
  |some i=>match i.desc with
   |.map _ _=>some (.mp σ.length,σ++[.map [] (some ([],0))])
   |_=>none
  |none=>none
 |_=>none
theorem run_evMakeMap {P:Program}{T:TT}(hT:TOK P T){E:Env}{σ σ':ze}(hS:SR E σ){t:TypeId}{hint:Option AV}{vh:Option Value}(hh:OptR E hint vh){r:AV}(h:vca T t hint σ=some (r,σ')):
 Out P E (Instr.makeMap t vh) r σ':=by
 have main:∀ (hrun:(Instr.makeMap t vh).run P E.w=.ok (.map (some E.w.heap.size)) (E.w.alloc (.map #[] 0))),Out P E (Instr.makeMap t vh) (.mp σ.length) (σ++[.map [] (some ([],0))]):=by
  intro hrun
  obtain⟨hS',hx'⟩:=hS.new (XB.alloc E.w (.map #[] 0)) (ob:=some E.w.heap.size) (fun b hb=>by cases hb; simp) (o:=.map [] (some ([],0))) ⟨E.w.heap.size,#[],0,by simp[Env.new],xK _ _,rfl,fun i h=>absurd h (by simp),fun g hg=>by cases hg; exact⟨rfl,rfl⟩⟩;refine⟨_,_,hrun,?_,hS',hx'⟩
  refine .mp _ _ (Env.ok_new hS _ _) fun ob hob=>?_
  rw[Env.loc_new hS] at hob
  cases hob; rfl
 unfold vca at h
 split at h
 · cases h
   cases vh with
   |some v=>exact hh.elim
   |none=>exact main rfl
 · split at h
   · rename_i i hi
     split at h
     · rename_i kt et hd
       cases h
       cases vh with
       |none=>exact hh.elim
       |some v=>
        cases hh;refine main ?_;simp only[Instr.makeMap,qy,yk _ (hT _ _ hi),hd,ql,asInt,asIntOf,qR]
        rfl
     cases h
   cases h
 cases h
def vcd (T:TT)(t:TypeId)(m k:AV)(σ:ze):Option (AV×ze):=
 match T t,m with
 |some i,.mp id=>match i.desc with
  |.map kt et=>match T kt,xG T 20 kt with
   |some ik,some l=>match Xz ik k,ze.mapAt σ id with
    |some kc,some es=>if kc.length=ik.size then match Yp l ik kc es 0 with
     |some (some (n,_))=>some (.tup [],σ.set id (.map (es.eraseIdx n) ((ze.ghAt σ id).map fun g=>(g.1.eraseIdx n,g.2))))
     |some none=>some (.tup [],σ)
     |none=>none
     else none
    |_,_=>none
   |_,_=>none
  |_=>none
 |_,_=>none
theorem run_evDelete {P:Program}{T:TT}(hT:TOK P T){E:Env}{σ σ':ze}(hS:SR E σ){t kt' ty:TypeId}{m k:AV}{vm vk:Value}(hm:VR E m vm)(hk:VR E k vk){r:AV}(h:vcd T t m k σ=some (r,σ')):
 Out P E (Builtin.delete_ #[t,kt'] ty #[vm,vk]) r σ':=by
 unfold vcd at h
 split at h
 · rename_i i id hi
   split at h
   · rename_i kt et hd
     split at h
     · rename_i ik l hik hl
       split at h
       · rename_i kc es hkc hes
         split at h
         · rename_i hlen
           have hch:=fun em=>XG hT em 20 kt ik l hl hik k vk kc hk (wG hkc hlen) 9980
           obtain⟨hlt,b,ents,clock,hlc,hb,her,hgh⟩:=hS.mapAt hes
           cases hm with|mp _ b' hok hp=>
           have:=hp _ hlc;cases this;have hget:(getObj b).run P E.w=.ok (.map ents clock) E.w:=run_getObj_map E.w b ents clock hb;have nil2:VR E (.tup []) (.tuple #[]):=.tup [] #[] rfl (fun i h=>absurd h (by simp))
           split at h
           · rename_i n v0 hf
             cases h;obtain⟨q,h1,h2⟩:=Yd hT hik hl hk hkc es ents.toList _ her hf
             obtain⟨n',v',rfl⟩:∃ n' v',q=some (n',v'):=by cases q with|none=>exact h2.elim|some q=>exact⟨q.1,q.2,rfl⟩
             obtain⟨rfl,_⟩:=h2
             have hto:(ents.eraseIdxIfInBounds n).toList=ents.toList.eraseIdx n:=by
              unfold Array.eraseIdxIfInBounds
              split
              · simp
              rename_i hn; rw[List.eraseIdx_of_length_le (by simpa using hn)]
             obtain⟨hS',hx'⟩:=hS.setMap (clock':=clock) (ents':=ents.eraseIdxIfInBounds n) (es':=es.eraseIdx n) hlt hlc hb (by rw[hto]; exact her.erase n) ((ze.ghAt σ id).map fun g=>(g.1.eraseIdx n,g.2)) (fun g hg=>by
              cases hg0:ze.ghAt σ id with
              |none=>rw[hg0] at hg; cases hg
              |some g0=>
               rw[hg0] at hg; cases hg
               obtain⟨e1,e2⟩:=hgh g0 hg0;refine⟨?_,e2⟩
               show _=g0.1.eraseIdx n
               rw[hto,← e1,vaK])
             refine⟨_,_,?_,.tup [] #[] rfl (fun i h=>absurd h (by simp)),hS',hx'⟩;simp only[Builtin.delete_,List.getElem?_toArray,uL,uP,qy,yk _ (hT _ _ hi),hd,ql,hget,hch,h1]
             rw[Ys hb (by intro _ _ _ h; cases h)]; rfl
           · rename_i hf
             cases h;obtain⟨q,h1,h2⟩:=Yd hT hik hl hk hkc es ents.toList _ her hf
             have:q=none:=by cases q with|none=>rfl|some q=>exact h2.elim
             subst this;obtain⟨hS',hx'⟩:=hS.setMap (clock':=clock) (ents':=ents) (es':=es) hlt hlc hb her (ze.ghAt σ id) hgh
             have hset:σ.set id (.map es (ze.ghAt σ id))=σ:=by
              unfold ze.mapAt at hes
              split at hes
              · rename_i es' gh hσ
                cases hes
                have hgg:ze.ghAt σ id=gh:=by unfold ze.ghAt; rw[hσ]
                rw[hgg];apply uX
                intro j
                by_cases hj:j=id
                · subst hj; rw[uv hlt,hσ]
                rw[ue (fun e=>hj e.symm)]
              cases hes
             rw[hset] at hS';refine⟨_,_,?_,.tup [] #[] rfl (fun i h=>absurd h (by simp)),hS',hx'⟩;simp only[Builtin.delete_,List.getElem?_toArray,uL,uP,qy,yk _ (hT _ _ hi),hd,ql,hget,hch,h1]
             rw[Ys hb (by intro _ _ _ h; cases h)]; rfl
           cases h
         cases h
       cases h
     cases h
   cases h
 cases h
def var (T:TT)(t:TypeId)(m k:AV)(σ:ze):Option (AV×ze):=
 match T t,m with
 |some i,.mp id=>match i.desc with
  |.map kt et=>match T kt,T et,xG T 20 kt with
   |some ik,some ie,some l=>match Xz ik k,ze.mapAt σ id,ze.ghAt σ id with
    |some kc,some es,some g=>if kc.length=ik.size then match Yp l ik kc es 0 with
     |some (some (n,v))=>some (.tup [v,.int .i64 ((g.1.getD n 0:Nat):Int)],σ.set id (.map (es.set n (k,v)) (some g)))
     |some none=>some (.tup [ie.zero,.int .i64 (g.2:Int)],σ.set id (.map (es++[(k,ie.zero)]) (some (g.1++[g.2],g.2+1))))
     |none=>none
     else none
    |_,_,_=>none
   |_,_,_=>none
  |_=>none
 |_,_=>none
def XA (m s v:AV)(σ:ze):Option ze:=
 match m,s with
 |.mp id,.int _ n=>match ze.mapAt σ id,ze.ghAt σ id with
  |some es,some g=>match g.1.findIdx? (fun b:Nat=>((b:Int)==n)) with
   |some j=>match es[j]? with
    |some e=>some (σ.set id (.map (es.set j (e.1,v)) (some g)))
    |none=>none
   |none=>none
  |_,_=>none
 |_,_=>none
theorem ceqL_symm : ∀ (l:List TypeDesc) (a b:List AV),vab l a b=some true→vab l b a=some true:=by
 intro l
 induction l with
 |nil=>intro a b h; cases a with
  |nil=>cases b with
   |nil=>rfl
   |cons y b=>cases h
  |cons y a=>cases h
 |cons d l ih=>
  intro a b h
  cases a with
  |nil=>cases h
  |cons x a=>cases b with
   |nil=>cases h
   |cons y b=>
    simp only[vab] at h ⊢
    cases h1:ceq d x y with
    |none=>rw[h1] at h; cases h
    |some p=>cases h2:vab l a b with
     |none=>rw[h1,h2] at h; cases h
     |some q=>
      rw[h1,h2] at h;simp only[Option.some.injEq,qJ] at h;obtain⟨rfl,rfl⟩:=h;rw[ih a b h2]
      have:ceq d y x=some true:=by
       unfold ceq at h1 ⊢
       split at h1
       · split at h1
         · rename_i hk; subst hk; simp only[Option.some.injEq,decide_eq_true_eq] at h1; subst h1; simp
         cases h1
       · simp only[Option.some.injEq,decide_eq_true_eq] at h1; subst h1; simp
       · simp only[Option.some.injEq,beq_iff_eq] at h1; subst h1; simp
       cases h1
      rw[this]; rfl
theorem run_evMapEntry {P:Program}{T:TT}(hT:TOK P T){E:Env}{σ σ':ze}(hS:SR E σ){t:TypeId}{m k:AV}{vm vk:Value}(hm:VR E m vm)(hk:VR E k vk){r:AV}(h:var T t m k σ=some (r,σ')):
 Out P E (Instr.mapEntry t vm vk) r σ':=by
 unfold var at h
 split at h
 · rename_i i id hi
   split at h
   · rename_i kt et hd
     split at h
     · rename_i ik ie l hik hie hl
       split at h
       · rename_i kc es g hkc hes hg0
         split at h
         · rename_i hlen
           have hch:=XG hT false 20 kt ik l hl hik k vk kc hk (wG hkc hlen) 9980;obtain⟨z,hz,_,hzv⟩:=YW (w:=E.w) (hT _ _ hie);obtain⟨hlt,b,ents,clock,hlc,hb,her,hgh⟩:=hS.mapAt hes
           cases hm with|mp _ b' hok hp=>
           have:=hp _ hlc;cases this;have hget:(getObj b).run P E.w=.ok (.map ents clock) E.w:=run_getObj_map E.w b ents clock hb;obtain⟨hb1,hb2⟩:=hgh g hg0
           split at h
           · rename_i n v0 hf
             cases h;obtain⟨q,h1,h2⟩:=Yd hT hik hl hk hkc es ents.toList _ her hf
             obtain⟨n',v',rfl⟩:∃ n' v',q=some (n',v'):=by cases q with|none=>exact h2.elim|some q=>exact⟨q.1,q.2,rfl⟩
             obtain⟨rfl,hv⟩:=h2;obtain⟨_,e,ec,he1,he2,he3⟩:=vaN hf;rw[uZ] at he1;have hn:=(qQ.1 he1).1
             have hn':n<ents.size:=by have:=her.1; simp at this; omega
             have hsz:=(Zi 20 kt ik l hl hik).1;have hln:=Yh he3;have hkey:=(her.2 n hn (by simpa using hn')).1;rw[(qQ.1 he1).2] at hkey;have hsame:=same_key hkey hk (wG he2 (by omega)) (wG hkc hlen) (l:=l) (ceqL_symm l kc ec he3)
             let x:MapEntry := { ents[n] with key:=vk }
             have hmod:(ents.modify n fun e => { e with key:=vk }).toList=ents.toList.set n x:=by
              rw[Array.toList_modify];apply uX
              intro j
              rw[List.getElem?_modify,List.getElem?_set]
              by_cases hj:n=j
              · subst hj; simp[hn',x]
              simp[hj]
             have hve:v0=e.2∧True:=⟨evFind_val hf he1,trivial⟩;have hval:=(her.2 n hn (by simpa using hn')).2;rw[(qQ.1 he1).2,← hve.1] at hval;obtain⟨hS',hx'⟩:=hS.setMap (clock':=clock) (ents':=ents.modify n fun e => { e with key:=vk }) (es':=es.set n (k,v0)) hlt hlc hb (by rw[hmod]; exact her.set (v:=v0) hk (by simpa [x] using hval)) (some g) (fun g' hg'=>by cases hg'; rw[hmod,born_set (x:=x) hn' rfl]; exact⟨hb1,hb2⟩)
             have hbn:g.1.getD n 0=(ents[n]).born:=by
              rw[← hb1,qC,vp,qX (by simpa using hn')]
              simp
             refine⟨.tuple #[v',goInt (((ents[n]?).map (·.born)).getD 0:Nat)],_,?_,?_,hS',hx'⟩
             · simp only[Instr.mapEntry,qy,yk _ (hT _ _ hi),hd,ql,hget,hch,h1,uM hn',uN,uO,Instr.keyThatStays];simp only[Array.getElem_toList] at hsame;rw[if_pos hsame];simp only[qR,ql];rw[Ys hb (by intro _ _ _ h; cases h)]
               rfl
             rw[hbn,uM hn'];exact VR.tup2 (hv.ext hx') (.int _ _)
           · rename_i hf
             cases h;obtain⟨q,h1,h2⟩:=Yd hT hik hl hk hkc es ents.toList _ her hf
             have:q=none:=by cases q with|none=>rfl|some q=>exact h2.elim
             subst this
             obtain⟨hS',hx'⟩:=hS.setMap (clock':=clock+1) (ents':=ents.push { key:=vk,val:=z,born:=clock }) (es':=es++[(k,ie.zero)]) hlt hlc hb (by
              rw[Array.toList_push]; exact her.snoc hk (hzv E)) (some (g.1++[g.2],g.2+1)) (fun g' hg'=>by
              cases hg';rw[Array.toList_push,qs,hb1]
              exact⟨by show g.1++[clock]=g.1++[g.2]; rw[hb2],by rw[hb2]⟩)
             refine⟨.tuple #[z,goInt clock],_,?_,?_,hS',hx'⟩
             · simp only[Instr.mapEntry,qy,yk _ (hT _ _ hi),hd,ql,hget,hch,h1,hz];rw[Ys hb (by intro _ _ _ h; cases h)]
               rfl
             rw[← hb2]; exact VR.tup2 (hzv _) (.int _ _)
           cases h
         cases h
       cases h
     cases h
   cases h
 cases h
theorem vcS {P:Program}{E:Env}{σ σ':ze}(hS:SR E σ){t:TypeId}{m st v:AV}{vm vs vv:Value}(hm:VR E m vm)(hs:VR E st vs)(hv:VR E v vv)(h:XA m st v σ=some σ'):
 ∃ E',(Instr.entryStore t vm vs vv).run P E.w=.ok () E'.w∧SR E' σ'∧Ext E E':=by
 unfold XA at h
 split at h
 · rename_i id q n
   split at h
   · rename_i es g hes hg0
     split at h
     · rename_i j hj
       split at h
       · rename_i e he
         cases h;obtain⟨hlt,b,ents,clock,hlc,hb,her,hgh⟩:=hS.mapAt hes
         cases hm with|mp _ b' hok hp=>
         have:=hp _ hlc;cases this;cases hs;have hget:(getObj b).run P E.w=.ok (.map ents clock) E.w:=run_getObj_map E.w b ents clock hb;obtain⟨hb1,hb2⟩:=hgh g hg0;have hlt':j<es.length:=(qQ.1 he).1
         have hn':j<ents.size:=by have:=her.1; simp at this; omega
         have hfi:ents.findIdx? (fun e=>(e.born:Int)==n)=some j:=by
          rw[← hb1,List.findIdx?_map] at hj;rw[show ents=ents.toList.toArray by simp,List.findIdx?_toArray];exact hj
         let x:MapEntry := { ents[j] with val:=vv }
         have hmod:(ents.modify j fun e => { e with val:=vv }).toList=ents.toList.set j x:=by
          rw[Array.toList_modify];apply uX
          intro i
          rw[List.getElem?_modify,List.getElem?_set]
          by_cases hi:j=i
          · subst hi; simp[hn',x]
          simp[hi]
         have hkey:=(her.2 j hlt' (by simpa using hn')).1;rw[(qQ.1 he).2] at hkey;obtain⟨hS',hx'⟩:=hS.setMap (clock':=clock) (ents':=ents.modify j fun e => { e with val:=vv }) (es':=es.set j (e.1,v)) hlt hlc hb (by rw[hmod]; exact her.set (by simpa [x] using hkey) hv) (some g) (fun g' hg'=>by cases hg'; rw[hmod,born_set (x:=x) hn' rfl]; exact⟨hb1,hb2⟩);refine⟨_,?_,hS',hx'⟩;simp only[Instr.entryStore,qy,hget,ql,asInt,asIntOf,qR,hfi];exact Ys hb (by intro _ _ _ h; cases h)
       cases h
     cases h
   cases h
 cases h
def vdA (s:List UInt8)(pos:Nat):Nat×Nat:=Utf8.decode ⟨s.toArray⟩ pos
def ze.iterAt (σ:ze)(id:Nat):Option (List UInt8×Nat):=
 match σ[id]? with
 |some (.iter s p)=>some (s,p)
 |_=>none
def evRange (T:TT)(t:TypeId)(x:AV)(σ:ze):Option (AV×ze):=
 match T t,x with
 |some i,.str s=>match i.desc with
  |.string=>some (.it σ.length,σ++[.iter s 0])
  |_=>none
 |_,_=>none
theorem run_evRange {P:Program}{T:TT}(hT:TOK P T){E:Env}{σ σ':ze}(hS:SR E σ){t:TypeId}{x:AV}{vx:Value}(hx:VR E x vx){r:AV}(h:evRange T t x σ=some (r,σ')):Out P E (Instr.range t vx) r σ':=by
 unfold evRange at h
 split at h
 · rename_i i s hi
   split at h
   · rename_i hd
     cases h
     cases hx with|str _ b hb=>
     subst hb;obtain⟨hS',hx'⟩:=hS.new (XB.alloc E.w (.stringIter b 0)) (ob:=some E.w.heap.size) (fun b hb=>by cases hb; simp) (o:=.iter b.data.toList 0) ⟨E.w.heap.size,by simp[Env.new],xK _ _⟩;refine⟨.pointer (some ⟨E.w.heap.size,0,none⟩),_,?_,?_,hS',hx'⟩
     · simp only[Instr.range,qy,yk _ (hT _ _ hi),hd,ql,qR]; rfl
     refine .it _ _ (Env.ok_new hS _ _) fun ob hob=>?_
     rw[Env.loc_new hS] at hob
     cases hob; rfl
   cases h
 cases h
def vb9 (x:AV)(isString:Bool)(σ:ze):Option (AV×ze):=
 match x with
 |.it id=>match ze.iterAt σ id with
  |some (s,p)=>if isString then
   if p<s.length then some (.tup [.bool true,.int .i64 p,.int .i32 (vdA s p).1],σ.set id (.iter s (p+(vdA s p).2))) else some (.tup [.bool false],σ)
   else none
  |none=>none
 |_=>none
theorem shape_iter {w:World}{b:Nat}{s:ByteArray}{c:Nat}(h:w.heap[b]?=some (.stringIter s c)):w.shape? b=none:=by
 simp only[World.shape?,h]
theorem run_evNext {P:Program}{E:Env}{σ σ':ze}(hS:SR E σ){x:AV}{vx:Value}(hx:VR E x vx){isString:Bool}{ty:TypeId}{r:AV}(h:vb9 x isString σ=some (r,σ')):Out P E (Instr.next vx isString ty) r σ':=by
 unfold vb9 at h
 split at h
 · rename_i id
   split at h
   · rename_i s p hit
     split at h
     · rename_i hs
       subst hs;have hobj:=hS.obj id;unfold ze.iterAt at hit
       split at hit
       · rename_i s' p' hσ
         cases hit;rw[hσ] at hobj;obtain⟨b,hl,hb⟩:=hobj;have hlt:=(qQ.1 hσ).1
         cases hx with|it _ b' hok hp=>
         have:=hp _ hl;cases this
         have hget:(getObj b).run P E.w=.ok (.stringIter ⟨s.toArray⟩ p) E.w:=by simp[getObj,Sem.run,hb]
         have hsz:(ByteArray.mk s.toArray).size=s.length:=by show s.toArray.size=_; simp
         split at h
         · rename_i hlt2
           cases h
           obtain⟨hS',hx'⟩:=hS.setB (o:=.stringIter ⟨s.toArray⟩ (p+(vdA s p).2)) (x:=.iter s (p+(vdA s p).2)) hl (shape_iter hb) hlt fun _=>⟨b,hl,vae (hS.blk _ _ _ hl).1⟩
           refine⟨.tuple #[.bool true,.int .i64 p,.int .i32 (vdA s p).1],_,?_,?_,hS',hx'⟩
           · simp only[Instr.next,qy,hget,ql,hsz];rw[if_pos hlt2];simp only[qy];rw[show (setObj b (.stringIter ⟨s.toArray⟩ (p+(Utf8.decode ⟨s.toArray⟩ p).2))).run P E.w=_ from Ys hb (by intro _ _ _ h; cases h)]
             rfl
           refine .tup _ _ rfl fun i hi=>?_
           match i,hi with
           |0,_=>exact .bool _
           |1,_=>exact .int _ _
           |2,_=>exact .int _ _
         rename_i hlt2
         cases h;refine .same hS (cv:=.tuple #[.bool false]) ?_ (.tup _ _ rfl fun i hi=>?_)
         · simp only[Instr.next,qy,hget,ql,hsz]
           rw[if_neg hlt2]; rfl
         simp only[ub,Nat.lt_one_iff] at hi
         subst hi; exact .bool _
       cases hit
     cases h
   cases h
 cases h
end AM
end
section
namespace AM
open Go.RowKit
abbrev Fr := Nat→AV
def upd (F:Fr)(d:Nat)(v:AV):Fr:=fun t=>if t=d then v else F t
def Zn (F:Fr):Option Tmp→AV→Fr
 |some d,v=>upd F d v
 |none,_=>F
def ev (F:Fr):Operand→AV
 |.tmp t=>F t
 |.const v=>constAV v
 |.global g=>.gp g
 |.func f=>.fn (.func f) [] []
structure Ctx where
 round:Option Nat
 ds:List Deferred
def own0 : Ctx:=⟨none,[]⟩
variable {Φ:Ctx}
structure FR (Φ:Ctx)(E:Env)(n:Nat)(F:Fr)(a:Act):Prop where
 size:a.tmps.size=n
 defers:a.defers=Φ.ds
 tmps:∀ t,VR E (F t) (a.tmps.getD t undef)
theorem FR.ext {E E':Env}{n:Nat}{F:Fr}{a:Act}(hx:Ext E E')(h:FR Φ E n F a):FR Φ E' n F a:=⟨h.size,h.defers,fun t=>(h.tmps t).ext hx⟩
theorem FR.ev {E:Env}{n:Nat}{F:Fr}{a:Act}(h:FR Φ E n F a)(x:Operand):VR E (ev F x) (a.eval x):=by
 cases x with
 |tmp t=>exact h.tmps t
 |const v=>exact VR.constAV E v
 |global g=>exact .gp g
 |func f=>exact .fn _ _ _ #[] #[] rfl rfl (fun i h=>absurd h (by simp)) (fun i h=>absurd h (by simp))
theorem FR.put {E:Env}{n:Nat}{F:Fr}{a:Act}(h:FR Φ E n F a){d:Option Tmp}(hd:∀ t,d=some t→t<n){r:AV}{v:Value}(hv:VR E r v):FR Φ E n (Zn F d r) (a.put d v):=by
 cases d with
 |none=>exact h
 |some t=>
  refine⟨by simp[Act.put,h.size],h.defers,fun t'=>?_⟩;have ht:=hd t rfl
  by_cases e:t'=t
  · subst e
    have:(a.put (some t') v).tmps.getD t' undef=v:=by simp[Act.put,h.size,ht]
    rw[this]; simp only[Zn,upd,if_true]; exact hv
  have:(a.put (some t) v).tmps.getD t' undef=a.tmps.getD t' undef:=by
   simp[Act.put,uS (show t≠t' from fun h=>e h.symm)]
  rw[this]; simp only[Zn,upd,e,if_false]; exact h.tmps t'
theorem FR.putU {E:Env}{n:Nat}{F:Fr}{a:Act}(h:FR Φ E n F a)(d:Option Tmp)(v:Value)(hd:∀ t,d=some t→t<n):FR Φ E n (Zn F d .u) (a.put d v):=h.put hd (.u v)
def sized (T:TT)(t:TypeId):Bool:=
 match T t with
 |some i=>decide (0<i.size)
 |none=>false
def XI (σ:ze):Option AV→Option (AV×ze)
 |some r=>some (r,σ)
 |none=>none
def vbh (T:TT)(b:Builtin)(ats:List TypeId)(args:List AV)(σ:ze):Option (AV×ze):=
 match b,ats,args with
 |.len,[t],[x]=>XI σ (vcY T t x σ)
 |.append,[st,xt],[s,x]=>xj T st xt s x σ
 |.copy,[dt,_],[d,s]=>vas T dt d s σ
 |.clear,[t],[x]=>vdx T t x σ
 |.delete,[t,_],[m,k]=>vcd T t m k σ
 |.max,_,l=>XI σ (vcb vcN l)
 |.min,_,l=>XI σ (vcb vcM l)
 |_,_,_=>none
def evNil : AV→Option AV
 |.op a b c=>some (.op a b c)
 |.dp a b=>some (.dp a b)
 |.fn (.func f) a b=>some (.fn (.func f) a b)
 |.ifc t v=>some (.ifc t v)
 |.it a=>some (.it a)
 |.gp g=>some (.gp g)
 |_=>none
def evPick : AV→AV→AV→Option AV
 |.bool c,a,b=>some (bif c then a else b)
 |_,_,_=>none
def evBinA (T:TT)(op:BinOp)(t:TypeId)(x y:AV):Option AV:=
 match x with
 |.agg _=>match op with
  |.eql=>match evEqA T t x y with
   |some b=>some (.bool b)
   |none=>none
  |.neq=>match evEqA T t x y with
   |some b=>some (.bool !b)
   |none=>none
  |_=>none
 |_=>evBin T op t x y
theorem run_evBinA {P:Program}{T:TT}(hT:TOK P T){E:Env}{op:BinOp}{t:TypeId}{x y:AV}{ox oy:Operand}{vx vy:Value}(hx:VR E x vx)(hy:VR E y vy){r:AV}
 (h:evBinA T op t x y=some r):∃ v,(do eqGuard op t ox oy vx vy; Go.binOp op t vx vy).run P E.w=.ok v E.w∧VR E r v:=by
 unfold evBinA at h
 split at h
 · split at h
   · split at h
     · rename_i b hb
       cases h;obtain⟨h1,h2,h3,h4⟩:=run_evEqA hT hx hy hb;refine⟨.bool b,?_,.bool _⟩;rw[qy,h2 .eql ox oy,ql,h3]
       simp[h1]
     cases h
   · split at h
     · rename_i b hb
       cases h;obtain⟨h1,h2,h3,h4⟩:=run_evEqA hT hx hy hb;refine⟨.bool (!b),?_,.bool _⟩;rw[qy,h2 .neq ox oy,ql,h4]
       simp[h1]
     cases h
   cases h
 exact run_evBin hT hx hy h
def vb8 (T:TT)(o:Op)(ρ:Operand→AV)(σ:ze):Option (AV×ze):=
 match o with
 |.move x|.assign x=>some (ρ x,σ)
 |.pick c a b=>XI σ (evPick (ρ c) (ρ a) (ρ b))
 |.alloc e=>vbQ T e σ
 |.box e x=>evBox T e (ρ x) σ
 |.build t ps=>XI σ (evBuild T t (ps.toList.map fun p=>(p.1,ρ p.2)))
 |.buildSlice t n ps=>zV T t n (ps.toList.map fun p=>(p.1,ρ p.2)) σ
 |.load t a=>if sized T t then XI σ (YL T t (ρ a) σ) else none
 |.store t a x=>if sized T t then match evStore T t (ρ a) (ρ x) σ with
  |some σ'=>some (.u,σ')
  |none=>none
  else none
 |.nilCheck x=>XI σ (evNil (ρ x))
 |.binOp op xt x y _=>XI σ (evBinA T op xt (ρ x) (ρ y))
 |.unOp op _ x=>XI σ (evUn op (ρ x))
 |.convert s d x=>vaX T s d (ρ x) σ
 |.makeInterface t x=>XI σ (evIface T t (ρ x))
 |.makeFunc f a b=>some (.fn f (a.toList.map ρ) (b.toList.map ρ),σ)
 |.makeSlice t l c=>evMake T t (ρ l) (ρ c) σ
 |.slice t x lo hi mx=>XI σ (ZN T t (ρ x) (lo.map ρ) (hi.map ρ) (mx.map ρ))
 |.fieldAddr t x f=>XI σ (YO T t (ρ x) f)
 |.field t x f=>XI σ (evField T t (ρ x) f)
 |.indexAddr t x i=>XI σ (Zu T t (ρ x) (ρ i))
 |.index t x i=>XI σ (vdw T t (ρ x) (ρ i))
 |.typeAssert x _ t ok=>XI σ (xA T (ρ x) t ok)
 |.lookup t m k ok=>XI σ (X9 T t (ρ m) (ρ k) ok σ)
 |.mapUpdate t m k v=>match Xh T t (ρ m) (ρ k) (ρ v) σ with
  |some σ'=>some (.u,σ')
  |none=>none
 |.mapEntry t m k=>var T t (ρ m) (ρ k) σ
 |.entryStore _ m s v=>match XA (ρ m) (ρ s) (ρ v) σ with
  |some σ'=>some (.u,σ')
  |none=>none
 |.insert t m k v=>match Xh T t (ρ m) (ρ k) (ρ v) σ with
  |some σ'=>some (.u,σ')
  |none=>none
 |.makeMap t r=>vca T t (r.map ρ) σ
 |.range t x=>evRange T t (ρ x) σ
 |.next it s=>vb9 (ρ it) s σ
 |.extract x i=>XI σ (vcc (ρ x) i)
 |.call { callee:=.builtin b,args:=args,argTypes:=ats }=>vbh T b ats.toList (args.toList.map ρ) σ
 |_=>none
def YC (P:Program)(E:Env)(s:Sem Next)(r:AV)(σ':ze):Prop:=
 ∃ E',SR E' σ'∧Ext E E'∧((∃ cv,s.run P E.w=.ok (.value cv) E'.w∧VR E' r cv)∨(s.run P E.w=.ok .skip E'.w∧r=.u))
theorem YC.of {P:Program}{E:Env}{s:Sem Value}{r:AV}{σ':ze}(h:Out P E s r σ'):YC P E (do pure (.value (← s))) r σ':=by
 obtain⟨cv,E',h1,h2,h3,h4⟩:=h;exact⟨E',h3,h4,.inl ⟨cv,by simp[h1],h2⟩⟩
theorem wr {σ σ':ze}{x:Option AV}{r:AV}(h:XI σ x=some (r,σ')):x=some r∧σ'=σ:=by
 cases x with
 |none=>cases h
 |some y=>cases h; exact⟨rfl,rfl⟩
theorem vcq {T:TT}{t:TypeId}(h:sized T t=true)(i:TI)(hi:T t=some i):0<i.size:=by
 simp only[sized,hi,decide_eq_true_eq] at h; exact h
theorem parts_ev {E:Env}{F:Fr}{ρ:Operand→Value}(h:∀ x,VR E (ev F x) (ρ x))(ps:Array (Nat×Operand)):
 PartsR E (ps.toList.map fun p=>(p.1,ev F p.2)) ((ps.map fun (i,x)=>(i,ρ x)).toList):=by
 refine⟨by simp,fun i h1 h2=>?_⟩;simp only[Array.toList_map,List.getElem_map];exact⟨trivial,h _⟩
theorem vbK {E:Env}{F:Fr}{ρ:Operand→Value}(h:∀ x,VR E (ev F x) (ρ x))(xs:Array Operand):X1 E (xs.toList.map (ev F)) ((xs.map ρ).toList):=by
 refine⟨by simp,fun i hi=>?_⟩
 have hi':i<xs.toList.length:=by simpa using hi
 rw[gc_map _ _ _ hi']
 have:(xs.map ρ).toList.getD i undef=ρ xs.toList[i]:=by
  have h2:i<xs.size:=by simpa using hi'
  simp[h2]
 rw[this]; exact h _
theorem X1.arr {E:Env}{l:List AV}{vs:Array Value}(h:X1 E l vs.toList):vs.size=l.length∧∀ i,i<l.length→VR E (gc l i) (vs.getD i undef):=by
 refine⟨by have:=h.1; simpa using this,fun i hi=>?_⟩;have:=h.2 i hi
 simpa using this
theorem opt_ev {E:Env}{F:Fr}{ρ:Operand→Value}(h:∀ x,VR E (ev F x) (ρ x))(x:Option Operand):OptR E (x.map (ev F)) (x.map ρ):=by
 cases x with
 |none=>trivial
 |some x=>exact h x
theorem run_evNil {P:Program}{E:Env}{σ:ze}(hS:SR E σ){x:AV}{vx:Value}(hx:VR E x vx){r:AV}(h:evNil x=some r){o:Oper}{ρ:Operand→Value}{y:Operand}(ho:o.op=.nilCheck y)(hy:ρ y=vx):
 YC P E (execOp ρ o) r σ:=by
 refine⟨E,hS,Ext.refl E,.inl ⟨vx,?_,?_⟩⟩
 · unfold evNil at h
   split at h
   all_goals first
    |(cases h; cases hx; simp only[execOp,ho,hy]; rfl)
    |cases h
 unfold evNil at h
 split at h
 all_goals first
  |(cases h; exact hx)
  |cases h
theorem run_evPick {P:Program}{E:Env}{σ:ze}(hS:SR E σ){c a b:AV}{vc va vb:Value}(hc:VR E c vc)(ha:VR E a va)(hb:VR E b vb){r:AV}(h:evPick c a b=some r):
 YC P E (do pure (.value (if ← asBool vc then va else vb))) r σ:=by
 unfold evPick at h
 split at h
 · rename_i q
   cases h;cases hc
   cases q with
   |true=>exact⟨E,hS,Ext.refl E,.inl ⟨va,rfl,ha⟩⟩
   |false=>exact⟨E,hS,Ext.refl E,.inl ⟨vb,rfl,hb⟩⟩
 cases h
theorem vbl {α:Type}{a:Array α}{x:α}(h:a.toList=[x]):a = #[x]:=by
 apply Array.ext'; simpa using h
theorem run_evBuiltin {P:Program}{T:TT}(hT:TOK P T){E:Env}{σ σ':ze}(hS:SR E σ){b:Builtin}{ats:Array TypeId}{ty:TypeId}{l:List AV}{vs:Array Value}(hl:X1 E l vs.toList){consts:Array Bool}{r:AV}
 (h:vbh T b ats.toList l σ=some (r,σ')):YC P E (Go.builtin b ats ty consts vs) r σ':=by
 unfold vbh at h
 split at h
 · rename_i t x hat
   obtain⟨h1,rfl⟩:=wr h;obtain⟨hl1,hl2⟩:=hl
   obtain⟨v,rfl⟩:∃ v,vs = #[v]:=by
    match hv:vs.toList,hl1 with
    |[v],_=>exact⟨v,vbl hv⟩
   rw[vbl hat];exact YC.of (run_evLen hT hS (by have:=hl2 0 (by simp); simpa [gc] using this) h1)
 · rename_i st xt s x hat
   obtain⟨hl1,hl2⟩:=hl
   obtain⟨v,w,rfl⟩:∃ v w,vs = #[v,w]:=by
    match hv:vs.toList,hl1 with
    |[v,w],_=>exact⟨v,w,by apply Array.ext'; simpa using hv⟩
   have:ats = #[st,xt]:=by apply Array.ext'; simpa using hat
   subst this;exact YC.of (run_evAppend hT hS (by have:=hl2 0 (by simp); simpa [gc] using this) (by have:=hl2 1 (by simp); simpa [gc] using this) h)
 · rename_i dt q d s hat
   obtain⟨hl1,hl2⟩:=hl
   obtain⟨v,w,rfl⟩:∃ v w,vs = #[v,w]:=by
    match hv:vs.toList,hl1 with
    |[v,w],_=>exact⟨v,w,by apply Array.ext'; simpa using hv⟩
   have:ats = #[dt,q]:=by apply Array.ext'; simpa using hat
   subst this;exact YC.of (vak hT hS (by have:=hl2 0 (by simp); simpa [gc] using this) (by have:=hl2 1 (by simp); simpa [gc] using this) h)
 · rename_i t x hat
   obtain⟨hl1,hl2⟩:=hl
   obtain⟨v,rfl⟩:∃ v,vs = #[v]:=by
    match hv:vs.toList,hl1 with
    |[v],_=>exact⟨v,vbl hv⟩
   rw[vbl hat];exact YC.of (run_evClear hT hS (by have:=hl2 0 (by simp); simpa [gc] using this) h)
 · rename_i t q m k hat
   obtain⟨hl1,hl2⟩:=hl
   obtain⟨v,w,rfl⟩:∃ v w,vs = #[v,w]:=by
    match hv:vs.toList,hl1 with
    |[v,w],_=>exact⟨v,w,by apply Array.ext'; simpa using hv⟩
   have:ats = #[t,q]:=by apply Array.ext'; simpa using hat
   subst this;exact YC.of (run_evDelete hT hS (by have:=hl2 0 (by simp); simpa [gc] using this) (by have:=hl2 1 (by simp); simpa [gc] using this) h)
 · obtain⟨h1,rfl⟩:=wr h;exact YC.of (run_evMax hS hl h1)
 · obtain⟨h1,rfl⟩:=wr h;exact YC.of (run_evMin hS hl h1)
 cases h
theorem run_evOp {P:Program}{T:TT}(hT:TOK P T){E:Env}{σ σ':ze}(hS:SR E σ){o:Oper}{F:Fr}{ρ:Operand→Value}(hρ:∀ x,VR E (ev F x) (ρ x)){r:AV}(h:vb8 T o.op (ev F) σ=some (r,σ')):
 YC P E (execOp ρ o) r σ':=by
 obtain⟨dst,op,ty,pos,after,guard⟩:=o;simp only at h
 cases op<;>simp only[vb8,reduceCtorEq] at h
 case move x=>cases h; exact⟨E,hS,Ext.refl E,.inl ⟨_,rfl,hρ x⟩⟩
 case assign x=>cases h; exact⟨E,hS,Ext.refl E,.inl ⟨_,rfl,hρ x⟩⟩
 case pick c a b=>obtain⟨h1,rfl⟩:=wr h; exact run_evPick hS (hρ c) (hρ a) (hρ b) h1
 case alloc e=>exact YC.of (run_evAlloc hT hS h)
 case box e x=>exact YC.of (run_evBox hS (hρ x) h)
 case build t ps=>obtain⟨h1,rfl⟩:=wr h; exact YC.of (run_evBuild hT hS (parts_ev hρ ps) h1)
 case buildSlice t n ps=>exact YC.of (vcT hT hS (parts_ev hρ ps) h)
 case load t a=>
  split at h
  · rename_i hs
    obtain⟨h1,rfl⟩:=wr h;exact YC.of (run_evLoad hT hS (hρ a) h1 fun i hi _=>vcq hs i hi)
  cases h
 case store t a x=>
  split at h
  · rename_i hs
    split at h
    · rename_i σ1 h1
      cases h;obtain⟨E',h2,h3,h4⟩:=run_evStore hT hS (hρ a) (hρ x) h1 (vcq hs);exact⟨E',h3,h4,.inr ⟨by simp[execOp,h2],rfl⟩⟩
    cases h
  cases h
 case nilCheck x=>obtain⟨h1,rfl⟩:=wr h; exact run_evNil hS (hρ x) h1 rfl rfl
 case binOp op xt x y yt=>obtain⟨h1,rfl⟩:=wr h; exact YC.of (.same hS (run_evBinA hT (hρ x) (hρ y) h1).choose_spec.1 (run_evBinA hT (hρ x) (hρ y) h1).choose_spec.2)
 case unOp op xt x=>obtain⟨h1,rfl⟩:=wr h; exact YC.of (.same hS (run_evUn (hρ x) h1).choose_spec.1 (run_evUn (hρ x) h1).choose_spec.2)
 case convert s d x=>exact YC.of (run_evConv hT hS (hρ x) h)
 case makeInterface t x=>obtain⟨h1,rfl⟩:=wr h; exact YC.of (run_evIface hT hS (hρ x) h1)
 case makeFunc f a b=>
  cases h;obtain⟨a1,a2⟩:=(vbK hρ a).arr;obtain⟨b1,b2⟩:=(vbK hρ b).arr;exact⟨E,hS,Ext.refl E,.inl ⟨.func f (a.map ρ) (b.map ρ),rfl,.fn _ _ _ _ _ a1 b1 a2 b2⟩⟩
 case makeSlice t l c=>exact YC.of (run_evMake hT hS (hρ l) (hρ c) h)
 case slice t x lo hi mx=>obtain⟨h1,rfl⟩:=wr h; exact YC.of (run_evSlice hT hS (hρ x) (opt_ev hρ lo) (opt_ev hρ hi) (opt_ev hρ mx) h1)
 case fieldAddr t x f=>obtain⟨h1,rfl⟩:=wr h; exact YC.of (vdl hT hS (hρ x) h1)
 case field t x f=>obtain⟨h1,rfl⟩:=wr h; exact YC.of (run_evField hT hS (hρ x) h1)
 case indexAddr t x i=>obtain⟨h1,rfl⟩:=wr h; exact YC.of (vdk hT hS (hρ x) (hρ i) h1)
 case index t x i=>obtain⟨h1,rfl⟩:=wr h; exact YC.of (run_evIndex hT hS (hρ x) (hρ i) h1)
 case typeAssert x xt t ok=>obtain⟨h1,rfl⟩:=wr h; exact YC.of (run_evAssert hT hS (hρ x) h1)
 case extract x i=>obtain⟨h1,rfl⟩:=wr h; exact YC.of (run_evExtract hS (hρ x) h1)
 case lookup t m k ok=>obtain⟨h1,rfl⟩:=wr h; exact YC.of (run_evLookup hT hS (hρ m) (hρ k) h1)
 case mapUpdate t m k v=>
  split at h
  · rename_i σ1 h1
    cases h;obtain⟨E',h2,h3,h4⟩:=va7 hT hS (hρ m) (hρ k) (hρ v) h1;exact⟨E',h3,h4,.inr ⟨by simp[execOp,h2],rfl⟩⟩
  cases h
 case mapEntry t m k=>exact YC.of (run_evMapEntry hT hS (hρ m) (hρ k) h)
 case entryStore t m s v=>
  split at h
  · rename_i σ1 h1
    cases h;obtain⟨E',h2,h3,h4⟩:=vcS (P:=P) (t:=t) hS (hρ m) (hρ s) (hρ v) h1;exact⟨E',h3,h4,.inr ⟨by simp[execOp,h2],rfl⟩⟩
  cases h
 case insert t m k v=>
  split at h
  · rename_i σ1 h1
    cases h;obtain⟨E',h2,h3,h4⟩:=va7 hT hS (hρ m) (hρ k) (hρ v) h1;exact⟨E',h3,h4,.inr ⟨by simp[execOp,h2],rfl⟩⟩
  cases h
 case makeMap t r=>exact YC.of (run_evMakeMap hT hS (opt_ev hρ r) h)
 case range t x=>exact YC.of (run_evRange hT hS (hρ x) h)
 case next it s=>exact YC.of (run_evNext hS (hρ it) h)
 case call c=>
  obtain⟨callee,args,ats⟩:=c
  cases callee<;>simp only[reduceCtorEq] at h
  have:=run_evBuiltin (ty:=ty) (consts:=args.map fun|.const _=>true|_=>false) hT hS (vbK hρ args) h;exact this
end AM
end
section
namespace AM
variable {Φ:Ctx}
open Go.RowKit
def post (Φ:Ctx)(n k:Nat)(Q:Exit→Fr→ze→Prop)(E:Env):Exit→Act→World→Prop:=
 fun e a w=>∃ E' F σ,E'.w=w∧SR E' σ∧FR Φ E' n F a∧XU k E E'∧Q e F σ
theorem Xd {n k:Nat}{Q:Exit→Fr→ze→Prop}{E E':Env}(hx:XU k E E'){e:Exit}{a:Act}{w:World}(h:post Φ n k Q E' e a w):post Φ n k Q E e a w:=by
 obtain⟨E2,F,σ,h1,h2,h3,h4,h5⟩:=h;exact⟨E2,F,σ,h1,h2,h3,hx.trans h4,h5⟩
def fen (Φ:Ctx):Fence := { fn:=fun _=>True,depth:=none,alive:=false,round:=Φ.round }
theorem Xk {Φ:Ctx}{n:Nat}{P:Program}{f:FuncId}{args:Array Value}{w:World}{K:Ending→World→Prop}:CallsIn (fen Φ) n P f args w K↔Calls P f args w K:=
 ⟨fun h=>callsIn_wide.1 (show CallsIn Fence.wide n P f args w K from h),fun h=>show CallsIn Fence.wide n P f args w K from callsIn_wide.2 h⟩
theorem vaB {Φ:Ctx}{P:Program}{o:Oper}{a:Act}{w:World}{K:Act→World→Prop}{Q:Exit→Act→World→Prop}(hd:∀ c,o.op≠.defer c)(h:o.uponIn (fen Φ) 0 P a K Q ((execOp a.eval o).run P w)):o.wpIn (fen Φ) 0 P a w K Q:=
 ⟨fun _ _=>trivial,by rw[Oper.semAt_eq _ _ _ hd]; exact h⟩
def awp (Φ:Ctx)(P:Program)(n k:Nat)(c:Code)(Q:Exit→Fr→ze→Prop)(F:Fr)(σ:ze):Prop:=
 ∀ E a,k≤E.n→SR E σ→FR Φ E n F a→c.wpIn (fen Φ) 0 P (post Φ n k Q E) a E.w
def ACalls (P:Program)(f:FuncId)(args:List AV)(σ:ze)(R:AV→ze→Prop):Prop:=
 (∀ vs w,(callFunc f vs).run P w=.ok (.enter f vs) w)∧
  ∀ E (vs:Array Value),SR E σ→X1 E args vs.toList→Calls P f vs E.w fun e w=>∃ v r σ' E',e=.returned v∧E'.w=w∧VR E' r v∧SR E' σ'∧Ext E E'∧R r σ'
theorem ACalls.mono {P:Program}{f:FuncId}{args:List AV}{σ:ze}{R R':AV→ze→Prop}(h:ACalls P f args σ R)(hr:∀ r σ',R r σ'→R' r σ'):ACalls P f args σ R':=
 ⟨h.1,fun E vs hS hl=>(h.2 E vs hS hl).mono fun _ _ ⟨v,r,σ',E',h1,h2,h3,h4,h5,h6⟩=>⟨v,r,σ',E',h1,h2,h3,h4,h5,hr _ _ h6⟩⟩
theorem vcj {Φ:Ctx}{P:Program}{n k:Nat}{c:Code}{Q Q':Exit→Fr→ze→Prop}{F:Fr}{σ:ze}(h:awp Φ P n k c Q F σ)(hq:∀ e F σ,Q e F σ→Q' e F σ):awp Φ P n k c Q' F σ:=
 fun E a hk hS hF=>wpIn_mono (h E a hk hS hF) fun _ _ _ ⟨E',F',σ',h1,h2,h3,h4,h5⟩=>⟨E',F',σ',h1,h2,h3,h4,hq _ _ _ h5⟩
theorem upon_mono {Φ:Ctx}{P:Program}{ops:Array Oper}{Q1 Q2:Exit→Act→World→Prop}(hq:∀ e a w,e≠.normal→Q1 e a w→Q2 e a w)(o:Oper)(K K':Act→World→Prop)(a:Act)(w:World)(J:∀ a w,K a w→K' a w)(h:o.wpIn (fen Φ) 0 P a w K Q1):o.wpIn (fen Φ) 0 P a w K' Q2:=by
 unfold Oper.wpIn at *;refine⟨h.1,?_⟩;have h:=h.2
 generalize (o.semAt (fen Φ).round a.eval).run P w=r at *
 cases r with
 |ok x w'=>
  cases x<;>simp only[Oper.uponIn] at h ⊢
  case value v=>exact J _ _ h
  case skip=>exact J _ _ h
  case defer d=>exact J _ _ h
  case enter f args=>
   refine⟨h.1,h.2.mono fun e w'' he=>?_⟩
   cases e with
   |returned v=>exact J _ _ he
   |panicked c=>exact hq _ _ _ (by simp) he
   |outgrown=>obtain⟨a,w,hp⟩:=he; exact⟨a,w,hq _ _ _ (by simp) hp⟩
  case round l f tmps assign body=>
   refine⟨h.1,h.2.mono fun e w'' he=>?_⟩
   cases e with
   |returned v=>exact J _ _ he
   |panicked c=>exact hq _ _ _ (by simp) he
   |outgrown=>obtain⟨a,w,hp⟩:=he; exact⟨a,w,hq _ _ _ (by simp) hp⟩
  case row row args=>exact⟨h.1,h.2.mono fun v w'' he=>J _ _ he⟩
 |halt x w'=>
  cases x<;>simp only[Oper.uponIn] at h ⊢
  case panic v=>exact hq _ _ _ (by simp) h
section rules
variable {Φ:Ctx} {P:Program} {n k:Nat} {Q:Exit→Fr→ze→Prop} {F:Fr} {σ:ze}
theorem zm (h:Q .normal F σ):awp Φ P n k .skip Q F σ:=fun E a hk hS hF=>wpIn_skip ⟨E,F,σ,rfl,hS,hF,XU.refl E hk,h⟩
theorem yl {i:Nat}(h:Q (.exit i) F σ):awp Φ P n k (.exit i) Q F σ:=fun E a hk hS hF=>wpIn_exit ⟨E,F,σ,rfl,hS,hF,XU.refl E hk,h⟩
theorem yg (h:Q .ret F σ):awp Φ P n k .ret Q F σ:=fun E a hk hS hF=>wpIn_ret ⟨E,F,σ,rfl,hS,hF,XU.refl E hk,h⟩
def vac (next:Fr→ze→Prop)(Q:Exit→Fr→ze→Prop):Exit→Fr→ze→Prop
 |.normal,F,σ=>next F σ
 |e,F,σ=>Q e F σ
theorem awp_seq {x y:Code}(h:awp Φ P n k x (vac (awp Φ P n k y Q) Q) F σ):awp Φ P n k (.seq x y) Q F σ:=by
 intro E a hk hS hF
 refine wpIn_seq (wpIn_mono (h E a hk hS hF) ?_);rintro e a' w' ⟨E',F',σ',rfl,h2,h3,h4,h5⟩
 cases e with
 |normal=>exact wpIn_mono (h5 E' a' h4.n h2 h3) fun e a w hp=>Xd h4 hp
 |exit i=>exact⟨E',F',σ',rfl,h2,h3,h4,h5⟩
 |goto l=>exact⟨E',F',σ',rfl,h2,h3,h4,h5⟩
 |ret=>exact⟨E',F',σ',rfl,h2,h3,h4,h5⟩
 |panic c=>exact⟨E',F',σ',rfl,h2,h3,h4,h5⟩
 |outgrown=>exact⟨E',F',σ',rfl,h2,h3,h4,h5⟩
theorem zY {c:Operand}{x y:Code}{b:Bool}(hc:ev F c=.bool b)(ht:b=true→awp Φ P n k x Q F σ)(hf:b=false→awp Φ P n k y Q F σ):awp Φ P n k (.cond c x y) Q F σ:=by
 intro E a hk hS hF
 have hv:=hF.ev c;rw[hc] at hv
 generalize hq:a.eval c=q at hv
 cases hv;exact wpIn_cond_split hq (fun h=>ht h E a hk hS hF) (fun h=>hf h E a hk hS hF)
def vbi (id:Nat)(Q:Exit→Fr→ze→Prop):Exit→Fr→ze→Prop
 |.exit i,F,σ=>if i=id then Q .normal F σ else Q (.exit i) F σ
 |e,F,σ=>Q e F σ
theorem zq {id:Nat}{c:Code}(h:awp Φ P n k c (vbi id Q) F σ):awp Φ P n k (.block id c) Q F σ:=by
 intro E a hk hS hF
 refine wpIn_block (wpIn_mono (h E a hk hS hF) ?_);rintro e a' w' ⟨E',F',σ',rfl,h2,h3,h4,h5⟩
 cases e with
 |exit i=>
  show if i=id then post Φ n k Q E .normal a' E'.w else post Φ n k Q E (.exit i) a' E'.w
  simp only[vbi] at h5
  split
  · rename_i hi; rw[if_pos hi] at h5; exact⟨E',F',σ',rfl,h2,h3,h4,h5⟩
  rename_i hi; rw[if_neg hi] at h5; exact⟨E',F',σ',rfl,h2,h3,h4,h5⟩
 |normal=>exact⟨E',F',σ',rfl,h2,h3,h4,h5⟩
 |goto l=>exact⟨E',F',σ',rfl,h2,h3,h4,h5⟩
 |ret=>exact⟨E',F',σ',rfl,h2,h3,h4,h5⟩
 |panic c=>exact⟨E',F',σ',rfl,h2,h3,h4,h5⟩
 |outgrown=>exact⟨E',F',σ',rfl,h2,h3,h4,h5⟩
theorem awp_loop {c:Code}(I:Nat→Fr→ze→Prop)(m:Nat)(h0:I m F σ)
 (round:∀ m F σ,I m F σ→awp Φ P n k c (vac (fun F' σ'=>∃ m',m'<m∧I m' F' σ') Q) F σ):awp Φ P n k (.loop c) Q F σ:=by
 intro E a hk0 hS hF b kk cs hro hb hrm
 have key:∀ m F σ E1 a1,SR E1 σ→FR Φ E1 n F a1→XU k E E1→I m F σ→
  ∃ e a' w',post Φ n k Q E e a' w'∧ArrivesIn (Machine.fenced P (fen Φ)) P (lone (b.atR a1 (.code c::.inLoop c::kk)) cs E1.w) b kk cs e a' w':=by
  intro m
  induction m using Nat.strongRecOn with
  |_ m ih=>
   intro F σ E1 a1 hS1 hF1 hx1 hI
   have hr:=round m F σ hI E1 a1 hx1.n hS1 hF1;obtain⟨e,a2,w2,⟨E2,F2,σ2,rfl,hS2,hF2,hx2,hQ⟩,harr⟩:=hr b (.inLoop c::kk) cs hro hb hrm
   cases e with
   |normal=>
    obtain⟨m',hm,hI'⟩:=hQ;obtain⟨e3,a3,w3,hq3,harr3⟩:=ih m' hm F2 σ2 E2 a2 hS2 hF2 (hx1.trans hx2) hI';exact⟨e3,a3,w3,hq3,.of_steps (StepsIn.trans harr (.one (fenced_calm hb hrm rfl) stepR_inLoop)) harr3⟩
   |exit i=>exact⟨_,a2,E2.w,⟨E2,F2,σ2,rfl,hS2,hF2,hx1.trans hx2,hQ⟩,.pass (x:=.inLoop c) rfl (fun _ _=>.inl (by simp)) harr⟩
   |goto l=>exact⟨_,a2,E2.w,⟨E2,F2,σ2,rfl,hS2,hF2,hx1.trans hx2,hQ⟩,.pass (x:=.inLoop c) rfl (fun _ _=>.inl (by simp)) harr⟩
   |ret=>exact⟨_,a2,E2.w,⟨E2,F2,σ2,rfl,hS2,hF2,hx1.trans hx2,hQ⟩,.pass (x:=.inLoop c) rfl (fun _ _=>.inl (by simp)) harr⟩
   |panic ch=>exact⟨_,a2,E2.w,⟨E2,F2,σ2,rfl,hS2,hF2,hx1.trans hx2,hQ⟩,.pass (x:=.inLoop c) rfl (fun _ _=>.inl (by simp)) harr⟩
   |outgrown=>exact⟨_,a2,E2.w,⟨E2,F2,σ2,rfl,hS2,hF2,hx1.trans hx2,hQ⟩,.pass (x:=.inLoop c) rfl (fun _ _=>.inl (by simp)) harr⟩
 obtain⟨e,a',w',hq,harr⟩:=key m F σ E a hS hF (XU.refl E hk0) h0;exact⟨e,a',w',hq,.of_steps (.one (fenced_calm hb hrm rfl) stepR_loop) harr⟩
def fr (l:List AV):Fr:=fun t=>l.getD t .u
def Keeps (F:Fr):Nat→List AV→Prop
 |_,[]=>True
 |i,a::l=>F i=a∧Keeps F (i+1) l
theorem Keeps.get {F:Fr}{l:List AV}:∀ {i:Nat},Keeps F i l→∀ j,j<l.length→F (i+j)=l.getD j .u:=by
 induction l with
 |nil=>intro i _ j hj; simp at hj
 |cons a l ih=>
  intro i h j hj
  cases j with
  |zero=>exact h.1
  |succ j=>
   have:=ih h.2 j (by simpa using hj);rw[show i+(j+1)=i+1+j by omega,this]
   simp
theorem FR.keep {E:Env}{F:Fr}{a:Act}(h:FR Φ E n F a){l:List AV}(hl:Keeps F 0 l):FR Φ E n (fr l) a:=by
 refine⟨h.size,h.defers,fun t=>?_⟩
 by_cases ht:t<l.length
 · have:=hl.get t ht;rw[qn] at this;unfold fr
   rw[← this]; exact h.tmps t
 unfold fr;rw[qC,uw (u7 ht)];exact .u _
def Zg (Φ:Ctx)(P:Program)(n k:Nat)(ops:Array Oper)(l:List Oper)(Q:Exit→Fr→ze→Prop)(F:Fr)(σ:ze):Prop:=
 ∀ E a,k≤E.n→SR E σ→FR Φ E n F a→wpListIn (fen Φ) 0 P ops (post Φ n k Q E) l a E.w
theorem vbr {id:Nat}{l:List Oper}(h:Zg Φ P n k l.toArray l Q F σ):awp Φ P n k (.region id l.toArray false) Q F σ:=
 fun E a hk hS hF=>wpIn_region_lit (h E a hk hS hF)
theorem zz {ops:Array Oper}(h:Q .normal F σ):Zg Φ P n k ops [] Q F σ:=fun E a hk hS hF=>⟨E,F,σ,rfl,hS,hF,XU.refl E hk,h⟩
theorem Y9 {ops:Array Oper}{E E':Env}(hx:XU k E E'):∀ (l:List Oper) (a:Act) (w:World),wpListIn (fen Φ) 0 P ops (post Φ n k Q E') l a w→wpListIn (fen Φ) 0 P ops (post Φ n k Q E) l a w:=by
 have mono:∀ (o:Oper) (K K':Act→World→Prop) (a:Act) (w:World),(∀ a w,K a w→K' a w)→o.wpIn (fen Φ) 0 P a w K (post Φ n k Q E')→o.wpIn (fen Φ) 0 P a w K' (post Φ n k Q E):=by
  intro o K K' a w J h
  exact upon_mono (ops:=ops) (fun e a w _=>Xd hx) o K K' a w J h
 intro l
 induction l with
 |nil=>intro a w h; exact Xd hx h
 |cons o l ih=>
  intro a w h
  unfold wpListIn at h ⊢
  split
  · rename_i hw
    rw[if_pos hw] at h;exact mono o _ _ a w (fun a w=>ih a w) h
  rename_i hw
  rw[if_neg hw] at h;exact⟨h.1,ih _ _ h.2⟩
def Yo (ops:Array Oper)(F:Fr)(o:Oper):Option Bool:=
 match o.guard with
 |none=>some true
 |some (j,want)=>match (ops[j]?).bind (·.dst) with
  |some t=>match F t with
   |.bool b=>some (b==want)
   |.tup _=>some false
   |_=>none
  |none=>none
theorem wY {E:Env}{a:Act}{ops:Array Oper}{o:Oper}{b:Bool}(hF:FR Φ E n F a)(h:Yo ops F o=some b):Region.wanted o (yielded ops a.tmps)=b:=by
 unfold Yo at h;unfold Region.wanted
 split at h
 · rename_i hg; cases h; simp only[hg]
 rename_i j want hg
 simp only[hg]
 split at h
 · rename_i t ht
   split at h
   · rename_i q hq
     cases h;have hv:=hF.tmps t;rw[hq] at hv
     have:yielded ops a.tmps j=some q:=by
      unfold yielded;rw[ht]
      generalize hx:a.tmps.getD t undef=x at hv
      cases hv
      have hlt:t<a.tmps.size:=by
       rcases ve t a.tmps.size with h|h
       · exact h
       rw[uG,Array.getElem?_eq_none h] at hx; cases hx
      rw[uG,uM hlt] at hx;simp only[uO] at hx;simp only[qk,uM hlt,hx]
     rw[this]
     cases q<;>cases want<;>rfl
   · rename_i l hq
     cases h;have hv:=hF.tmps t;rw[hq] at hv
     have:yielded ops a.tmps j=none:=by
      unfold yielded;rw[ht]
      generalize hx:a.tmps.getD t undef=x at hv
      cases hv with|tup _ vs _ _=>
      rcases ve t a.tmps.size with h|h
      · rw[uG,uM h] at hx;simp only[uO] at hx;simp only[qk,uM h,hx]
      simp only[qk,Array.getElem?_eq_none h]
     rw[this]; rfl
   cases h
 cases h
theorem opsWp_skip {ops:Array Oper}{o:Oper}{l:List Oper}(hg:Yo ops F o=some false)(hd:∀ t,o.dst=some t→t<n)(h:Zg Φ P n k ops l Q (Zn F o.dst (.tup [])) σ):Zg Φ P n k ops (o::l) Q F σ:=by
 intro E a hk hS hF
 unfold wpListIn;rw[if_neg (by rw[wY hF hg]; simp)];exact⟨fun _ _=>trivial,h E _ hk hS (hF.put hd (.tup [] #[] rfl (fun i h=>absurd h (by simp))))⟩
theorem op_wp {T:TT}(hT:TOK P T){o:Oper}{r:AV}{σ':ze}(h:vb8 T o.op (ev F) σ=some (r,σ'))(hd:∀ t,o.dst=some t→t<n){E:Env}{a:Act}(hS:SR E σ)(hF:FR Φ E n F a){next:Act→World→Prop}{Qc:Exit→Act→World→Prop}
 (hn:∀ E' a',SR E' σ'→FR Φ E' n (Zn F o.dst r) a'→Ext E E'→next a' E'.w):o.wpIn (fen Φ) 0 P a E.w next Qc:=by
 obtain⟨E',h1,h2,h3⟩:=run_evOp hT hS (o:=o) (fun x=>hF.ev x) h;refine vaB (fun c hc=>by rw[hc] at h; simp[vb8] at h) ?_
 rcases h3 with ⟨cv,h4,h5⟩|⟨h4,h5⟩
 · rw[h4];exact hn E' _ h1 ((hF.ext h2).put hd h5) h2
 subst h5;rw[h4];exact hn E' _ h1 ((hF.ext h2).putU _ _ hd) h2
theorem opsWp_op {T:TT}(hT:TOK P T){ops:Array Oper}{o:Oper}{l:List Oper}{r:AV}{σ':ze}(hg:Yo ops F o=some true)(h:vb8 T o.op (ev F) σ=some (r,σ'))(hd:∀ t,o.dst=some t→t<n)
 (kk:Zg Φ P n k ops l Q (Zn F o.dst r) σ'):Zg Φ P n k ops (o::l) Q F σ:=by
 intro E a hk hS hF
 unfold wpListIn;rw[if_pos (wY hF hg)];exact (op_wp hT h hd hS hF fun E' a' h1 h2 h3=>Y9 (h3.mono hk) l a' E'.w (kk E' a' (uB hk h3.n) h1 h2))
def callee (F:Fr)(o:Oper):Option (FuncId×List AV):=
 match o.op with
 |.call { callee:=.value f,args:=args,argTypes:=_ }=>match ev F f with
  |.fn (.func g) first cap=>some (g,first++args.toList.map (ev F)++cap)
  |_=>none
 |_=>none
theorem toList_getD (a:Array Value)(i:Nat):a.toList.getD i undef=a.getD i undef:=by
 rw[qC,Array.getElem?_toList,uG]
theorem Xy {E:Env}{l m:List AV}{vs ws:Array Value}(h:X1 E l vs.toList)(k:X1 E m ws.toList):X1 E (l++m) (vs++ws).toList:=by
 obtain⟨a1,a2⟩:=h.arr;obtain⟨b1,b2⟩:=k.arr;have:=vdd (E:=E) (vs:=vs) (ws:=ws) ⟨a1,a2⟩ ⟨b1,b2⟩;refine⟨by simpa using this.1,fun i hi=>?_⟩;rw[toList_getD];exact this.2 i hi
theorem vbp {E:Env}{l:List AV}{vs:Array Value}(h:vs.size=l.length)(k:∀ i,i<l.length→VR E (gc l i) (vs.getD i undef)):X1 E l vs.toList:=
 ⟨by simpa using h,fun i hi=>by have:=k i hi; simpa using this⟩
theorem call_wp {o:Oper}{f:FuncId}{args:List AV}{K:AV→ze→Prop}(hc:callee F o=some (f,args))(h:ACalls P f args σ K)(hd:∀ t,o.dst=some t→t<n){E:Env}{a:Act}(hS:SR E σ)(hF:FR Φ E n F a)
 {next:Act→World→Prop} {Qc:Exit→Act→World→Prop} (hn:∀ E' a' r σ',SR E' σ'→FR Φ E' n (Zn F o.dst r) a'→Ext E E'→K r σ'→next a' E'.w):o.wpIn (fen Φ) 0 P a E.w next Qc:=by
 obtain⟨dst,op,ty,pos,after,guard⟩:=o;unfold callee at hc;simp only at hc
 split at hc
 · rename_i fo ao ats
   split at hc
   · rename_i g first cap hfo
     cases hc;have hv:=hF.ev fo;rw[hfo] at hv
     generalize hfv:a.eval fo=fv at hv
     cases hv with|fn _ _ _ vf vc h1 h2 h3 h4=>
     have hargs:=Xy (Xy (vbp h1 h3) (vbK (fun x=>hF.ev x) ao)) (vbp h2 h4);refine vaB (fun c hc=>by cases hc) ?_
     have hrun:(execOp a.eval { dst:=dst,op:=.call { callee:=.value fo,args:=ao,argTypes:=ats },type:=ty,pos:=pos,after:=after,guard:=guard }).run P E.w=.ok (.enter f (vf++ao.map a.eval++vc)) E.w:=by
      simp only[execOp,resolve,hfv,Deferred.ofValue,qy,qR,ql,invoke];exact h.1 _ _
     rw[hrun];refine⟨(fun hh=>by cases hh),Xk.2 ((h.2 E _ hS hargs).mono ?_)⟩;rintro e w' ⟨v,r,σ',E',rfl,rfl,h5,h6,h7,h8⟩;exact hn E' _ r σ' h6 ((hF.ext h7).put hd h5) h7 h8
   cases hc
 cases hc
theorem opsWp_call {ops:Array Oper}{o:Oper}{l:List Oper}{f:FuncId}{args:List AV}{K:AV→ze→Prop}(hg:Yo ops F o=some true)(hc:callee F o=some (f,args))(h:ACalls P f args σ K)(hd:∀ t,o.dst=some t→t<n)
 (kk:∀ r σ',K r σ'→Zg Φ P n k ops l Q (Zn F o.dst r) σ'):Zg Φ P n k ops (o::l) Q F σ:=by
 intro E a hk hS hF
 unfold wpListIn;rw[if_pos (wY hF hg)];exact (call_wp hc h hd hS hF fun E' a' r σ' h1 h2 h3 h4=>Y9 (h3.mono hk) l a' E'.w (kk r σ' h4 E' a' (uB hk h3.n) h1 h2))
def isCall (o:Oper):Bool:=
 match o.op with
 |.call { callee:=.builtin _,args:=_,argTypes:=_ }=>false
 |.call _=>true
 |_=>false
def X4 (n:Nat):Option Tmp→Bool
 |some t=>decide (t<n)
 |none=>true
theorem Xt {d:Option Tmp}(h:X4 n d=true):∀ t,d=some t→t<n:=by
 intro t ht; subst ht; simpa [X4] using h
def vaq (T:TT)(n:Nat)(ops:Array Oper):List Oper→Fr→ze→Option (List Oper×Fr×ze)
 |[],F,σ=>some ([],F,σ)
 |o::l,F,σ=>
  match Yo ops F o with
  |some true=>bif isCall o then some (o::l,F,σ) else
   bif X4 n o.dst then
    match vb8 T o.op (ev F) σ with
    |some (r,σ')=>vaq T n ops l (Zn F o.dst r) σ'
    |none=>none
   else none
  |some false=>bif X4 n o.dst then vaq T n ops l (Zn F o.dst (.tup [])) σ else none
  |none=>none
theorem vdt {T:TT}(hT:TOK P T){ops:Array Oper}:∀ {l l':List Oper} {F F':Fr} {σ σ':ze},vaq T n ops l F σ=some (l',F',σ')→Zg Φ P n k ops l' Q F' σ'→Zg Φ P n k ops l Q F σ:=by
 intro l
 induction l with
 |nil=>intro l' F F' σ σ' h kk; cases h; exact kk
 |cons o l ih=>
  intro l' F F' σ σ' h kk
  simp only[vaq] at h
  split at h
  · rename_i hg
    cases hc:isCall o with
    |true=>rw[hc] at h; cases h; exact kk
    |false=>
     rw[hc] at h;simp only[cond_false] at h
     cases hdk:X4 n o.dst with
     |false=>rw[hdk] at h; cases h
     |true=>
      rw[hdk] at h;simp only[cond_true] at h
      split at h
      · rename_i r σ1 he
        exact opsWp_op hT hg he (Xt hdk) (ih h kk)
      cases h
  · rename_i hg
    cases hdk:X4 n o.dst with
    |false=>rw[hdk] at h; cases h
    |true=>
     rw[hdk] at h;exact opsWp_skip hg (Xt hdk) (ih h kk)
  cases h
theorem ZL {ops:Array Oper}{o:Oper}{l:List Oper}{f:FuncId}{args:List AV}{K:AV→ze→Prop}(hg:Yo ops F o=some true)(hc:callee F o=some (f,args))(hd:X4 n o.dst=true)(h:ACalls P f args σ K)
 (kk:∀ r σ',K r σ'→Zg Φ P n k ops l Q (Zn F o.dst r) σ'):Zg Φ P n k ops (o::l) Q F σ:=opsWp_call hg hc h (Xt hd) kk
end rules
end AM
end
section
namespace AM
variable {Φ:Ctx}
open Go.RowKit
def y5 (T:TT)(F:Fr)(σ:ze):ResultVar→Option AV
 |.tmp t=>some (F t)
 |.cell a t=>if sized T t then YL T t (F a) σ else none
def yQ (T:TT)(F:Fr)(σ:ze):List ResultVar→Option (List AV)
 |[]=>some []
 |r::l=>match y5 T F σ r,yQ T F σ l with
  |some a,some b=>some (a::b)
  |_,_=>none
def xN : List AV→AV
 |[a]=>a
 |l=>.tup l
def ZA (T:TT)(rs:List ResultVar)(R:AV→ze→Prop):Exit→Fr→ze→Prop
 |.normal,F,σ|.ret,F,σ=>∃ l,yQ T F σ rs=some l∧R (xN l) σ
 |_,_,_=>False
theorem run_resAll {P:Program}{T:TT}(hT:TOK P T){E:Env}{n:Nat}{F:Fr}{a:Act}{σ:ze}(hS:SR E σ)(hF:FR Φ E n F a):∀ (rs:List ResultVar) (l:List AV),yQ T F σ rs=some l→
 ∃ vs:List Value,(rs.mapM fun r=>(match r with
  |.tmp t=>pure (a.tmps.getD t undef)
  |.cell p t=>do loadVar t (← asAddr (a.tmps.getD p undef)):Sem Value)).run P E.w=.ok vs E.w∧vs.length=l.length∧∀ i,i<l.length→VR E (gc l i) (vs.getD i undef):=by
 intro rs
 induction rs with
 |nil=>intro l h; cases h; exact⟨[],by simp,rfl,fun i hi=>absurd hi (by simp)⟩
 |cons r rs ih=>
  intro l h
  simp only[yQ] at h
  split at h
  · rename_i x y h1 h2
    cases h;obtain⟨vs,h3,h4,h5⟩:=ih y h2
    have one:∃ v,(match r with
     |.tmp t=>pure (a.tmps.getD t undef)
     |.cell p t=>do loadVar t (← asAddr (a.tmps.getD p undef)):Sem Value).run P E.w=.ok v E.w∧VR E x v:=by
     cases r with
     |tmp t=>cases h1; exact⟨_,rfl,hF.tmps t⟩
     |cell p t=>
      simp only[y5] at h1
      split at h1
      · rename_i hs
        have hvr:=hF.tmps p
        obtain⟨cv,e1,e2⟩:=va8 hT hS hvr h1 fun i hi _=>vcq hs i hi
        refine⟨cv,?_,e2⟩
        show (do loadVar t (← asAddr (a.tmps.getD p undef)):Sem Value).run P E.w=_
        generalize a.tmps.getD p undef=v at hvr e1 ⊢
        have:∃ ad,v=.pointer (some ad):=by
         unfold YL at h1
         split at h1
         · rename_i heq; rw[heq] at hvr; cases hvr; exact⟨_,rfl⟩
         · rename_i heq; rw[heq] at hvr; cases hvr; exact⟨_,rfl⟩
         cases h1
        obtain⟨ad,rfl⟩:=this
        simpa [Instr.loadAt,Instr.sureAddr,asAddr] using e1
      cases h1
    obtain⟨v,h6,h7⟩:=one;refine⟨v::vs,?_,by simp[h4],fun i hi=>?_⟩
    · rw[List.mapM_cons];simp only[qy];rw[h6];simp only[ql];rw[h3]
      simp
    cases i with
    |zero=>simpa [gc] using h7
    |succ i=>have:=h5 i (by simpa using hi); simpa [gc] using this
  cases h
theorem vdi {P:Program}{T:TT}(hT:TOK P T){E:Env}{n:Nat}{F:Fr}{a:Act}{σ:ze}(hS:SR E σ)(hF:FR Φ E n F a){fn:Func}{rs:List ResultVar}(hr:fn.results.toList=rs){l:List AV}(h:yQ T F σ rs=some l):
 ∃ v,(results fn a.tmps).run P E.w=.ok v E.w∧VR E (xN l) v:=by
 obtain⟨vs,h1,h2,h3⟩:=run_resAll hT hS hF rs l h
 have hm:(fn.results.mapM fun (r:ResultVar)=>(match r with
  |.tmp t=>pure (a.tmps.getD t undef)
  |.cell p t=>do loadVar t (← asAddr (a.tmps.getD p undef)):Sem Value)).run P E.w=.ok vs.toArray E.w:=by
  rw[Array.mapM_eq_mapM_toList,hr];simp only[Sem.run_map];rw[h1]
  rfl
 have he:results fn a.tmps=(do
  let vs ← fn.results.mapM fun (r:ResultVar)=>(match r with
   |.tmp t=>pure (a.tmps.getD t undef)
   |.cell p t=>do loadVar t (← asAddr (a.tmps.getD p undef)):Sem Value)
  pure (if h:vs.size=1 then vs[0] else .tuple vs)):=rfl
 rw[he,qy,hm];simp only[ql,qR];refine⟨_,rfl,?_⟩
 rcases l with _|⟨x,_|⟨y,l⟩⟩
 · have:vs=[]:=qS.1 h2;subst this;exact .tup [] #[] rfl (fun i hi=>absurd hi (by simp))
 · match vs,h2,h3 with
   |[v],_,h3=>
    have:=h3 0 (by simp)
    simpa [gc,xN] using this
 have hne:¬ (vs.toArray.size=1):=by simp at h2 ⊢; omega
 rw[dif_neg hne]
 refine .tup _ _ (by simpa using h2) fun i hi=>?_
 have:=h3 i hi
 simpa using this
theorem ZO {P:Program}{T:TT}(hT:TOK P T){f:FuncId}{fn:Func}{c:Code}{n:Nat}{rs:List ResultVar}{args:List AV}{σ:ze}{R:AV→ze→Prop}(hf:P.funcs[f]?=some fn)(hb:fn.body=some c)
 (hn:fn.ntmps=n) (hr:fn.results.toList=rs) (hent:∀ vs w,(callFunc f vs).run P w=.ok (.enter f vs) w) (hl:args.length≤n) (h:awp own0 P n σ.length c (ZA T rs R) (fr args) σ):ACalls P f args σ R:=by
 refine⟨hent,fun E vs hS hvs=>?_⟩;obtain⟨v1,v2⟩:=hvs.arr
 have hF:FR own0 E n (fr args) { tmps:=vs++u5 (fn.ntmps-vs.size) undef,defers:=[] }:=by
  refine⟨by simp; omega,rfl,fun t=>?_⟩
  by_cases ht:t<args.length
  · have:(vs++u5 (fn.ntmps-vs.size) undef).getD t undef=vs.getD t undef:=by simp[Array.getElem?_append_left (show t<vs.size by omega)]
    show VR E (fr args t) ((vs++u5 (fn.ntmps-vs.size) undef).getD t undef)
    rw[this]; exact v2 t ht
  unfold fr;rw[qC,uw (u7 ht)];exact .u _
 refine Xk.1 (callsIn_of_wp (F:=fen own0) (n:=0) hf hb trivial (wpIn_mono (h E _ (by rw[hS.len]; exact qx _) hS hF) ?_));rintro e a w ⟨E',F',σ',rfl,h2,h3,h4,h5⟩;rw[hS.len] at h4
 have fin:∀ l,yQ T F' σ' rs=some l→R (xN l) σ'→a.defers=[]∧∃ v,(results fn a.tmps).run P E'.w=.ok v E'.w∧∃ v' r σ'' E'',Ending.returned v=.returned v'∧E''.w=E'.w∧VR E'' r v'∧SR E'' σ''∧Ext E E''∧R r σ'':=by
  intro l hl hR
  obtain⟨v,h6,h7⟩:=vdi hT h2 h3 hr hl;exact⟨h3.defers,v,h6,v,_,σ',E',rfl,rfl,h7,h2,h4,hR⟩
 cases e with
 |normal=>obtain⟨l,h6,h7⟩:=h5; exact fin l h6 h7
 |ret=>obtain⟨l,h6,h7⟩:=h5; exact fin l h6 h7
 |exit i=>exact h5.elim
 |goto i=>exact h5.elim
 |panic c=>exact h5.elim
 |outgrown=>exact h5.elim
end AM
end
section
namespace AM
variable {Φ:Ctx}
open Go.RowKit
mutual
def AV.canon (s:Bool):AV→Bool
 |.u=>true
 |.bool _|.int _ _|.str _|.nilp|.nilm|.nilF|.nilI|.gp _=>true
 |.agg cs=>xl s cs
 |.tup cs=>xl s cs
 |.dp cs _=>xl s cs
 |.ds nl cs _ t=>(!s||(nl && !t))&&xl s cs
 |.fn _ a b=>xl s a&&xl s b
 |.ifc _ a=>a.canon s
 |.op _ _ _|.os _ _ _ _ _ _ _|.mp _|.it _=>false
def xl (s:Bool):List AV→Bool
 |[]=>true
 |a::l=>a.canon s&&xl s l
end
mutual
def AV.flat : AV→Bool
 |.u=>true
 |.bool _|.int _ _|.str _|.nilp|.nilm|.nilF|.nilI|.gp _=>true
 |.agg cs=>flatL cs
 |.tup cs=>flatL cs
 |.ifc _ a=>a.flat
 |_=>false
def flatL : List AV→Bool
 |[]=>true
 |a::l=>a.flat&&flatL l
end
theorem XN (s:Bool)(l m:List AV):xl s (l++m)=(xl s l&&xl s m):=by
 induction l with
 |nil=>simp[xl]
 |cons a l ih=>simp[xl,ih,Bool.and_assoc]
theorem canonL_flatMap {α:Type}(s:Bool)(f:α→List AV)(h:∀ x,xl s (f x)=true)(l:List α):xl s (l.flatMap f)=true:=by
 induction l with
 |nil=>rfl
 |cons x l ih=>rw[qE,XN,h,ih]; rfl
def Y2 : List Nat→Nat→Nat→Option Nat
 |[],_,_=>none
 |x::l,id,j=>if x=id then some j else Y2 l id (j+1)
def tell (σ:ze)(keep:List Nat)(ls:Bool):Nat→AV→AV
 |0,a=>bif a.canon ls then a else .u
 |f+1,a=>
  match a with
  |.agg cs=>.agg (cs.map (tell σ keep ls f))
  |.tup cs=>.tup (cs.map (tell σ keep ls f))
  |.op id ver off=>match Y2 keep id 0 with
   |some j=>.op j ver off
   |none=>match ze.at σ id ver with
    |some (c::cs)=>.dp ((c::cs).map (tell σ keep ls f)) off
    |_=>.u
  |.os nl sz id ver off len t=>match Y2 keep id 0 with
   |some j=>.os nl sz j ver off len t
   |none=>match ze.at σ id ver with
    |some cs=>if off+len*sz≤cs.length then .ds true (((cs.drop off).take (len*sz)).map (tell σ keep ls f)) len false else .u
    |none=>.u
  |.dp cs off=>.dp (cs.map (tell σ keep ls f)) off
  |.ds nl cs len t=>.ds (nl||ls) (cs.map (tell σ keep ls f)) len (t && !ls)
  |.fn g a b=>.fn g (a.map (tell σ keep ls f)) (b.map (tell σ keep ls f))
  |.ifc t a=>.ifc t (tell σ keep ls f a)
  |.mp id=>match Y2 keep id 0 with
   |some j=>.mp j
   |none=>.u
  |.it id=>match Y2 keep id 0 with
   |some j=>.it j
   |none=>.u
  |.u=>.u
  |.bool b=>.bool b
  |.int k n=>.int k n
  |.str s=>.str s
  |.nilp=>.nilp
  |.nilm=>.nilm
  |.nilF=>.nilF
  |.nilI=>.nilI
  |.gp g=>.gp g
def va4 (σ:ze)(keep:List Nat)(ls:Bool)(f:Nat):Yq→Yq
 |.cells ver cs=>.cells ver (cs.map (tell σ keep ls f))
 |.map es gh=>.map (es.map fun e=>(tell σ keep ls f e.1,tell σ keep ls f e.2)) gh
 |.iter s p=>.iter s p
 |.loop l r tm=>.loop l r (tm.map (tell σ keep ls f))
 |.mark b=>.mark b
 |.dead=>.dead
def vbF (σ:ze)(keep:List Nat)(ls:Bool)(f:Nat):ze:=keep.map fun id=>va4 σ keep ls f (σ.getD id .dead)
mutual
theorem XR (σ:ze)(keep:List Nat)(ls:Bool):∀ (a:AV) (f:Nat),a.canon ls=true→tell σ keep ls f a=a
 |a,0,h=>by simp[tell,h]
 |.u,f+1,h=>rfl
 |.bool _,f+1,h=>rfl
 |.int _ _,f+1,h=>rfl
 |.str _,f+1,h=>rfl
 |.nilp,f+1,h=>rfl
 |.nilm,f+1,h=>rfl
 |.nilF,f+1,h=>rfl
 |.nilI,f+1,h=>rfl
 |.gp _,f+1,h=>rfl
 |.agg cs,f+1,h=>by simp only[AV.canon] at h; simp only[tell,Yc σ keep ls cs f h]
 |.tup cs,f+1,h=>by simp only[AV.canon] at h; simp only[tell,Yc σ keep ls cs f h]
 |.dp cs _,f+1,h=>by simp only[AV.canon] at h; simp only[tell,Yc σ keep ls cs f h]
 |.ds nl cs _ t,f+1,h=>by
  simp only[AV.canon,qJ,ut,u9] at h;obtain⟨h1,h2⟩:=h;simp only[tell,Yc σ keep ls cs f h2]
  rcases h1 with rfl|⟨rfl,rfl⟩<;>simp
 |.fn _ a b,f+1,h=>by
  simp only[AV.canon,qJ] at h;simp only[tell,Yc σ keep ls a f h.1,Yc σ keep ls b f h.2]
 |.ifc _ a,f+1,h=>by simp only[AV.canon] at h; simp only[tell,XR σ keep ls a f h]
theorem Yc (σ:ze)(keep:List Nat)(ls:Bool):∀ (l:List AV) (f:Nat),xl ls l=true→l.map (tell σ keep ls f)=l
 |[],_,_=>rfl
 |a::l,f,h=>by
  simp only[xl,qJ] at h;rw[qu,XR σ keep ls a f h.1,Yc σ keep ls l f h.2]
end
theorem Xf : ∀ (l:List Nat) (id j i:Nat),Y2 l id j=some i→j≤i∧l[i-j]?=some id:=by
 intro l
 induction l with
 |nil=>intro id j i h; cases h
 |cons x l ih=>
  intro id j i h
  simp only[Y2] at h
  split at h
  · rename_i hx; cases h; subst hx; simp
  obtain⟨h1,h2⟩:=ih id (j+1) i h;refine⟨by omega,?_⟩
  rw[show i-j=(i-(j+1))+1 by omega,uP]; exact h2
theorem vcy : ∀ (l:List Nat) (id j:Nat),Y2 l id j=none→id∉l:=by
 intro l
 induction l with
 |nil=>intro id j _ h; cases h
 |cons x l ih=>
  intro id j h hm
  simp only[Y2] at h
  split at h
  · cases h
  rename_i hx
  rcases q9.1 hm with h1|h1
  · exact hx h1.symm
  exact ih id (j+1) h h1
theorem idxOf_get {l:List Nat}(hn:l.Nodup){i id:Nat}(h:l[i]?=some id):Y2 l id 0=some i:=by
 cases hq:Y2 l id 0 with
 |none=>exact absurd (List.mem_of_getElem? h) (vcy l id 0 hq)
 |some j=>
  obtain⟨_,h2⟩:=Xf l id 0 j hq;rw[uZ] at h2;have h3:i<l.length:=(qQ.1 h).1
  congr 1
  exact ((List.getElem?_inj h3 hn).1 (h.trans h2.symm)).symm
def Env.ren (E:Env)(keep:List Nat):Env where
 w:=E.w
 st:=fun b=>E.st b∨∃ id v,id∉keep∧E.loc id=some (v,some b)
 loc:=fun j=>(keep[j]?).bind E.loc
 n:=keep.length
 base:=E.base
theorem Env.ren_loc {E:Env}{keep:List Nat}{j:Nat}{p:Nat×Option Nat}(h:(E.ren keep).loc j=some p):∃ id,keep[j]?=some id∧E.loc id=some p:=by
 simp only[Env.ren] at h
 cases hk:keep[j]? with
 |none=>rw[hk] at h; cases h
 |some id=>rw[hk] at h; exact⟨id,rfl,h⟩
theorem XU.ren {E:Env}{keep:List Nat}{k:Nat}(hst:∀ b,E.st b→b<E.w.heap.size)(hk:keep.take k=uJ k):XU k E (E.ren keep) where
 os:=rfl
 tape:=rfl
 output:=rfl
 size:=qx _
 shape:=fun _ _ h=>h
 st:=fun b hb=>⟨.inl hb,rfl⟩
 n:=by
  have:=congrArg qa hk;simp only[uR,List.length_range] at this
  show k≤keep.length; omega
 loc:=fun id hid ver ob h=>by
  obtain⟨i,h1,h2⟩:=Env.ren_loc h
  have:keep[id]?=some id:=by
   have h3:(keep.take k)[id]?=keep[id]?:=by rw[List.getElem?_take]; simp[hid]
   rw[← h3,hk]; simp[hid]
  rw[h1] at this;cases this;exact⟨ver,ob,h2,qx _,fun _=>rfl⟩
 old:=fun _ _ _=>rfl
 own:=fun id v b h _=>by obtain⟨i,_,h2⟩:=Env.ren_loc h; exact⟨i,v,h2⟩
 stn:=fun b h=>by
  rcases h with h|⟨id,v,_,h⟩
  · exact .inl h
  exact .inr (.inr ⟨id,v,h⟩)
theorem Row.ren {E:Env}{keep:List Nat}{b o m:Nat}{vs:Nat→Value}(h:Row E.w E.st b o m vs):Row E.w (E.ren keep).st b o m vs:=by
 rcases h with h|⟨h1,h2⟩
 · exact .inl h
 exact .inr ⟨.inl h1,h2⟩
theorem Env.ok.ren {E:Env}{keep:List Nat}{id ver j:Nat}(h:E.ok id ver)(hj:keep[j]?=some id):(E.ren keep).ok j ver:=by
 refine⟨(qQ.1 hj).1,fun v ob hl=>?_⟩;obtain⟨i,h1,h2⟩:=Env.ren_loc hl
 rw[hj] at h1; cases h1
 exact h.2 v ob h2
theorem vbO {f:AV→AV}{l:List AV}{i:Nat}(h:i<l.length):gc (l.map f) i=f (gc l i):=by
 simp[gc,h]
mutual
theorem VR.canonRen {E E':Env}{s:Bool}(hw:E'.w=E.w)(hst:∀ b,E.st b→E'.st b):∀ (a:AV) {v:Value},a.canon s=true→VR E a v→VR E' a v
 |.u,_,_,h=>.u _
 |.bool _,_,_,h=>by cases h; exact .bool _
 |.int _ _,_,_,h=>by cases h; exact .int _ _
 |.str _,_,_,h=>by cases h with|str _ s h=>exact .str _ _ h
 |.nilp,_,_,h=>by cases h; exact .nilp
 |.nilm,_,_,h=>by cases h; exact .nilm
 |.nilF,_,_,h=>by cases h; exact .nilF
 |.nilI,_,_,h=>by cases h; exact .nilI
 |.gp _,_,_,h=>by cases h; exact .gp _
 |.agg cs,_,hc,h=>by
  cases h with|agg _ vs hl hv=>exact .agg _ vs hl fun i hi=>VR.canonRenL hw hst cs (by simpa [AV.canon] using hc) i hi (hv i hi)
 |.tup cs,_,hc,h=>by
  cases h with|tup _ vs hl hv=>exact .tup _ vs hl fun i hi=>VR.canonRenL hw hst cs (by simpa [AV.canon] using hc) i hi (hv i hi)
 |.dp cs off,_,hc,h=>by
  cases h with|dp _ _ b o vs hr hv=>
  refine .dp _ off b o vs ?_ fun i hi=>VR.canonRenL hw hst cs (by simpa [AV.canon] using hc) i hi (hv i hi)
  rcases hr with hr|⟨h1,h2⟩
  · exact .inl hr
  exact .inr ⟨hst _ h1,by rw[hw]; exact h2⟩
 |.ds nl cs len t,_,hc,h=>by
  have hc':xl s cs=true:=by simp only[AV.canon,qJ] at hc; exact hc.2
  cases h with
  |dsn=>exact .dsn _
  |ds _ _ _ _ a cap vs ha hr hv hcap ht hB=>
   refine .ds _ _ _ _ a cap vs ha ?_ (fun i hi=>VR.canonRenL hw hst cs hc' i hi (hv i hi)) hcap ht hB
   rcases hr with hr|⟨h1,h2⟩
   · exact .inl hr
   exact .inr ⟨hst _ h1,by rw[hw]; exact h2⟩
 |.fn f a b,_,hc,h=>by
  simp only[AV.canon,qJ] at hc
  cases h with|fn _ _ _ vf vc hf hcc h1 h2=>
  exact .fn f a b vf vc hf hcc (fun i hi=>VR.canonRenL hw hst a hc.1 i hi (h1 i hi)) (fun i hi=>VR.canonRenL hw hst b hc.2 i hi (h2 i hi))
 |.ifc t a,_,hc,h=>by
  cases h with|ifc _ _ v h=>exact .ifc t a v (VR.canonRen hw hst a (by simpa [AV.canon] using hc) h)
theorem VR.canonRenL {E E':Env}{s:Bool}(hw:E'.w=E.w)(hst:∀ b,E.st b→E'.st b):∀ (cs:List AV) (hc:xl s cs=true) (i:Nat) (hi:i<cs.length) {v:Value},VR E (gc cs i) v→VR E' (gc cs i) v
 |[],_,_,hi,_,_=>absurd hi (by simp)
 |a::cs,hc,0,_,_,h=>by
  simp only[xl,qJ] at hc;exact VR.canonRen hw hst a hc.1 h
 |a::cs,hc,i+1,hi,_,h=>by
  simp only[xl,qJ] at hc
  have e:gc (a::cs) (i+1)=gc cs i:=by simp[gc]
  rw[e] at h ⊢;exact VR.canonRenL hw hst cs hc.2 i (by simpa using hi) h
end
theorem VR.tell {E:Env}{σ:ze}(hS:SR E σ){keep:List Nat}{ls:Bool}:∀ (f:Nat) (a:AV) {v:Value},VR E a v→VR (E.ren keep) (tell σ keep ls f a) v:=by
 intro f
 induction f with
 |zero=>
  intro a v h
  simp only[AM.tell]
  cases hc:a.canon ls with
  |true=>exact VR.canonRen (E:=E) (E':=E.ren keep) rfl (fun b hb=>Or.inl hb) a hc h
  |false=>exact .u _
 |succ f ih=>
  have lst:∀ (cs:List AV) (vs:Nat→Value),(∀ i,i<cs.length→VR E (gc cs i) (vs i))→∀ i,i<(cs.map (AM.tell σ keep ls f)).length→VR (E.ren keep) (gc (cs.map (AM.tell σ keep ls f)) i) (vs i):=by
   intro cs vs h i hi
   rw[ul] at hi
   rw[vbO hi]; exact ih _ (h i hi)
  intro a v h
  cases h with
  |u v=>exact .u _
  |bool b=>exact .bool _
  |int k n=>exact .int _ _
  |str l s h=>exact .str _ _ h
  |agg cs vs hl h=>exact .agg _ vs (by simpa using hl) (lst cs _ h)
  |tup cs vs hl h=>exact .tup _ vs (by simpa using hl) (lst cs _ h)
  |nilp=>exact .nilp
  |op id ver off a hk h=>
   simp only[AM.tell]
   cases hi:Y2 keep id 0 with
   |some j=>
    obtain⟨_,h2⟩:=Xf _ _ _ _ hi;rw[uZ] at h2
    refine .op _ _ _ _ (hk.ren h2) fun b hb=>?_
    obtain⟨i,e1,e2⟩:=Env.ren_loc hb
    rw[h2] at e1; cases e1
    exact h b e2
   |none=>
    cases hcs:ze.at σ id ver with
    |none=>exact .u _
    |some cs=>
     cases cs with
     |nil=>exact .u _
     |cons c cs=>
      obtain⟨b,hl,hb⟩:=hS.block_of hcs (show 0<(c::cs).length by simp);have:=h b hl;subst this
      obtain⟨vs,hvs⟩:∃ vs:Nat→Value,∀ i,i<(c::cs).length→E.w.cell? ⟨b,E.base b+i,none⟩=some (vs i)∧VR E (gc (c::cs) i) (vs i):=by
       have:∀ i,∃ v,i<(c::cs).length→E.w.cell? ⟨b,E.base b+i,none⟩=some v∧VR E (gc (c::cs) i) v:=fun i=>by
        by_cases hi:i<(c::cs).length
        · obtain⟨v,hv⟩:=hb.cell i hi; exact⟨v,fun _=>hv⟩
        exact⟨undef,fun h=>absurd h hi⟩
       exact Classical.skolem.1 this
      have:=VR.dp (E:=E.ren keep) ((c::cs).map (AM.tell σ keep ls f)) off b (E.base b) vs (.inr ⟨.inr ⟨id,ver,vcy _ _ _ hi,hl⟩,fun i hi=>by
       rw[ul] at hi
       exact (hvs i hi).1⟩) (lst _ _ fun i hi=>(hvs i hi).2)
      simpa using this
  |dp cells off b o vs hr h=>exact .dp _ off b o vs (by rw[ul]; exact hr.ren) (lst _ _ h)
  |dsn t=>
   simp only[AM.tell,uC,qr];exact .dsn _
  |ds nl cells len t a cap vs ha hr h hc ht hB=>
   exact .ds _ _ _ _ a cap vs (by rcases ha with h|h; exact .inl (by rw[h]; rfl); exact .inr h) (by rw[ul]; exact hr.ren) (lst _ _ h) hc (fun e=>ht (by simp only[qJ] at e; exact e.1)) hB
  |osn sz id ver off t a hk h=>
   simp only[AM.tell]
   cases hi:Y2 keep id 0 with
   |some j=>
    obtain⟨_,h2⟩:=Xf _ _ _ _ hi;rw[uZ] at h2
    refine .osn _ _ _ _ _ _ (hk.ren h2) fun ob hb=>?_
    obtain⟨i,e1,e2⟩:=Env.ren_loc hb
    rw[h2] at e1; cases e1
    exact h ob e2
   |none=>
    cases hcs:ze.at σ id ver with
    |none=>exact .u _
    |some cs=>
     simp only
     split
     · have e:((cs.drop off).take (0*sz)).map (AM.tell σ keep ls f)=[]:=by simp
       rw[e]
       cases a with
       |none=>exact .dsn _
       |some a=>exact .ds _ _ _ _ a 0 (fun _=>undef) (.inl rfl) (.inl rfl) (fun i hi=>absurd hi (by simp)) (qx _) (fun e=>by cases e) (by omega)
     exact .u _
  |os nl sz id ver off len t a cap hk hc ht hB h=>
   simp only[AM.tell]
   cases hi:Y2 keep id 0 with
   |some j=>
    obtain⟨_,h2⟩:=Xf _ _ _ _ hi;rw[uZ] at h2
    refine .os _ _ _ _ _ _ _ a cap (hk.ren h2) hc ht hB fun ob hb=>?_
    obtain⟨i,e1,e2⟩:=Env.ren_loc hb
    rw[h2] at e1; cases e1
    exact h ob e2
   |none=>
    cases hcs:ze.at σ id ver with
    |none=>exact .u _
    |some cs=>
     simp only
     split
     · rename_i hle
       generalize hds:(cs.drop off).take (len*sz)=ds
       have hdl:ds.length=len*sz:=by rw[← hds]; simp; omega
       by_cases h0:ds=[]
       · rw[h0];exact .ds _ _ _ _ a cap (fun _=>undef) (.inl rfl) (.inl rfl) (fun i hi=>absurd hi (by simp)) hc (fun e=>by cases e) hB
       have hpos:0<ds.length:=List.length_pos_iff.2 h0;obtain⟨b,hl,hb⟩:=hS.block_of hcs (show off<cs.length by omega);obtain⟨b',e1,e2,_⟩:=h _ hl;cases e1
       have hcap:cap≠0:=by
        intro e; subst e
        have:len=0:=by omega
        subst this; simp at hdl; exact h0 hdl
       have:=e2.resolve_left hcap;subst this
       have hg:∀ i,i<ds.length→gc ds i=gc cs (off+i):=fun i hi=>by
        rw[← hds]; exact X8 _ _ _ _ (by omega) (by omega)
       obtain⟨vs,hvs⟩:∃ vs:Nat→Value,∀ i,i<ds.length→E.w.cell? ⟨b,E.base b+off+i,none⟩=some (vs i)∧VR E (gc ds i) (vs i):=by
        have:∀ i,∃ v,i<ds.length→E.w.cell? ⟨b,E.base b+off+i,none⟩=some v∧VR E (gc ds i) v:=fun i=>by
         by_cases hi:i<ds.length
         · obtain⟨v,hv⟩:=hb.cell (off+i) (by omega); exact⟨v,fun _=>by rw[hg i hi,ux]; exact hv⟩
         exact⟨undef,fun h=>absurd h hi⟩
        exact Classical.skolem.1 this
       exact .ds _ _ _ _ ⟨b,E.base b+off,none⟩ cap vs (.inr rfl) (.inr ⟨.inr ⟨id,ver,vcy _ _ _ hi,hl⟩,fun i hi=>by
        rw[ul] at hi; exact (hvs i hi).1⟩) (lst _ _ fun i hi=>(hvs i hi).2) hc (fun e=>by cases e) hB
     exact .u _
  |mp id b hk h=>
   simp only[AM.tell]
   cases hi:Y2 keep id 0 with
   |some j=>
    obtain⟨_,h2⟩:=Xf _ _ _ _ hi;rw[uZ] at h2
    refine .mp _ b (hk.ren h2) fun ob hb=>?_
    obtain⟨i,e1,e2⟩:=Env.ren_loc hb
    rw[h2] at e1; cases e1
    exact h ob e2
   |none=>exact .u _
  |nilm=>exact .nilm
  |fn g fs cp vf vc hf hc h1 h2=>exact .fn g _ _ vf vc (by simpa using hf) (by simpa using hc) (lst fs _ h1) (lst cp _ h2)
  |nilF=>exact .nilF
  |ifc t a v h=>exact .ifc t _ v (ih a h)
  |nilI=>exact .nilI
  |it id b hk h=>
   simp only[AM.tell]
   cases hi:Y2 keep id 0 with
   |some j=>
    obtain⟨_,h2⟩:=Xf _ _ _ _ hi;rw[uZ] at h2
    refine .it _ b (hk.ren h2) fun ob hb=>?_
    obtain⟨i,e1,e2⟩:=Env.ren_loc hb
    rw[h2] at e1; cases e1
    exact h ob e2
   |none=>exact .u _
  |gp g=>exact .gp g
theorem SR.tell {E:Env}{σ:ze}(hS:SR E σ){keep:List Nat}(hnd:keep.Nodup)(hlt:∀ id∈keep,id<σ.length)(ls:Bool)(f:Nat):SR (E.ren keep) (vbF σ keep ls f):=by
 have key:∀ j v b,(E.ren keep).loc j=some (v,some b)→∃ id,keep[j]?=some id∧E.loc id=some (v,some b):=fun j v b h=>Env.ren_loc h
 refine⟨by simp[vbF,Env.ren],fun j=>?_,fun j j' v v' b h h'=>?_,fun j v b h=>?_,fun b h=>?_,?_,hS.bas⟩
 · simp only[vbF,vp]
   cases hj:keep[j]? with
   |none=>
    show (E.ren keep).loc j=none
    simp only[Env.ren,hj,Option.bind_none]
   |some id=>
    have hid:=hlt id (List.mem_of_getElem? hj)
    have hloc:(E.ren keep).loc j=E.loc id:=by simp only[Env.ren,hj,qk]
    have hobj:=hS.obj id
    have hg:σ[id]?=some (σ.getD id .dead):=by
     rw[qC,qX hid]; rfl
    rw[hg] at hobj;simp only[uN]
    generalize σ.getD id .dead=o at hobj
    cases o with
    |cells ver cs=>
     rcases hobj with ⟨b,h1,h2⟩|⟨h1,h2⟩
     · refine .inl ⟨b,hloc.trans h1,?_⟩;obtain⟨conc,t,fr,a1,a2,a3,a4⟩:=h2.blk;refine⟨conc,t,fr,a1,a2,by rw[ul]; exact a3,fun i hi=>?_⟩;rw[ul] at hi;rw[vbO hi];exact VR.tell hS f _ (a4 i hi)
     exact .inr ⟨by rw[h1]; rfl,hloc.trans h2⟩
    |map es gh=>
     obtain⟨b,ents,clock,h1,h2,h3,h4,h5⟩:=hobj;refine⟨b,ents,clock,hloc.trans h1,h2,by rw[ul]; exact h3,fun i h h'=>?_,h5⟩;rw[ul] at h;simp only[List.getElem_map];exact⟨VR.tell hS f _ (h4 i h h').1,VR.tell hS f _ (h4 i h h').2⟩
    |iter s p=>
     obtain⟨b,h1,h2⟩:=hobj;exact⟨b,hloc.trans h1,h2⟩
    |loop l r tm=>
     obtain⟨h1,h2,h3,h4⟩:=hobj;exact⟨hloc.trans h1,h2,by rw[ul]; exact h3,fun i hi=>by rw[ul] at hi; rw[vbO hi]; exact VR.tell hS f _ (h4 i hi)⟩
    |mark b=>exact⟨hloc.trans hobj.1,hobj.2⟩
    |dead=>exact hloc.trans hobj
 · obtain⟨i,e1,e2⟩:=key _ _ _ h;obtain⟨i',e1',e2'⟩:=key _ _ _ h';have:=hS.inj i i' v v' b e2 e2';subst this;exact (List.getElem?_inj (qQ.1 e1).1 hnd).1 (e1.trans e1'.symm)
 · obtain⟨i,e1,e2⟩:=key _ _ _ h;refine⟨(hS.blk i v b e2).1,fun hs=>?_⟩
   rcases hs with hs|⟨id,v',hm,hl⟩
   · exact (hS.blk i v b e2).2 hs
   have:=hS.inj id i v' v b hl e2;subst this;exact hm (List.mem_of_getElem? e1)
 · rcases h with h|⟨id,v,_,hl⟩
   · exact hS.stb b h
   exact (hS.blk id v b hl).1
 exact hS.glb.mono fun b hb=>⟨.inl hb,rfl⟩
def TL (σ:ze)(keep:List Nat)(ls:Bool)(f:Nat)(F:Fr):Nat→List AV→Prop
 |_,[]=>True
 |i,a::l=>(a=.u∨tell σ keep ls f (F i)=a)∧TL σ keep ls f F (i+1) l
theorem TL.get {σ:ze}{keep:List Nat}{ls:Bool}{f:Nat}{F:Fr}:∀ {l:List AV} {i:Nat},TL σ keep ls f F i l→∀ j,j<l.length→l.getD j .u=.u∨tell σ keep ls f (F (i+j))=l.getD j .u:=by
 intro l
 induction l with
 |nil=>intro i _ j hj; simp at hj
 |cons a l ih=>
  intro i h j hj
  cases j with
  |zero=>simpa [TL] using h.1
  |succ j=>
   have:=ih h.2 j (by simpa using hj);rw[show i+(j+1)=i+1+j by omega]
   simpa using this
theorem FR.tell {E:Env}{n:Nat}{F:Fr}{a:Act}{σ:ze}(hS:SR E σ)(hF:FR Φ E n F a){keep:List Nat}{ls:Bool}{f:Nat}{L:List AV}(hL:TL σ keep ls f F 0 L):FR Φ (E.ren keep) n (fr L) a:=by
 refine⟨hF.size,hF.defers,fun t=>?_⟩;unfold fr
 by_cases ht:t<L.length
 · rcases hL.get t ht with h|h
   · rw[h]; exact .u _
   rw[qn] at h
   rw[← h]; exact VR.tell hS f _ (hF.tmps t)
 rw[qC,uw (u7 ht)];exact .u _
structure Tells (k:Nat)(F:Fr)(σ:ze)(L:List AV)(τ:ze):Prop where
 wit:∃ keep ls f,keep.Nodup∧(∀ id∈keep,id<σ.length)∧keep.take k=uJ k∧vbF σ keep ls f=τ∧TL σ keep ls f F 0 L
theorem Tells.env {k:Nat}{F:Fr}{σ:ze}{L:List AV}{τ:ze}(h:Tells k F σ L τ){E:Env}{n:Nat}{a:Act}(hS:SR E σ)(hF:FR Φ E n F a):
 ∃ E',E'.w=E.w∧SR E' τ∧FR Φ E' n (fr L) a∧XU k E E':=by
 obtain⟨keep,ls,f,h1,h2,h3,h4,h5⟩:=h.wit;exact⟨E.ren keep,rfl,h4▸hS.tell h1 h2 ls f,hF.tell hS h5,XU.ren hS.stb h3⟩
section
variable {P:Program} {n k:Nat} {Q:Exit→Fr→ze→Prop} {F:Fr} {σ:ze}
end
theorem ACalls.told {P:Program}{f:FuncId}{args:List AV}{σ:ze}{R:AV→ze→Prop}
 (h:ACalls P f args σ fun r σ'=>∃ keep ls g,keep.Nodup∧(∀ id∈keep,id<σ'.length)∧keep.take σ.length=uJ σ.length∧R (tell σ' keep ls g r) (vbF σ' keep ls g)):ACalls P f args σ R:=
 ⟨h.1,fun E vs hS hl=>(h.2 E vs hS hl).mono fun _ _ ⟨v,r,σ',E',h1,h2,h3,h4,h5,keep,ls,g,k1,k2,k3,k4⟩=>by
  have hk:E.n=σ.length:=hS.len.symm
  have hx:XU E.n E' (E'.ren keep):=by rw[hk]; exact XU.ren h4.stb k3
  exact⟨v,_,_,E'.ren keep,h1,h2,VR.tell (ls:=ls) h4 g r h3,h4.tell k1 k2 ls g,XU.trans h5 hx,k4⟩⟩
end AM
end
end Go.Proofs.YtaahlckibpiphaaGreatDoor
