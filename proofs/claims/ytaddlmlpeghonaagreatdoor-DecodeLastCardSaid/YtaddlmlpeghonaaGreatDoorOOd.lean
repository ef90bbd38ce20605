/- Parts of the proof, cut down to what it needs. -/
import Derived.Test.YtaddlmlpeghonaaGreatDoorOSa
import Derived.Test.YtaddlmlpeghonaaGreatDoorOFA
import Derived.Test.YtaddlmlpeghonaaGreatDoorRows
import Derived.Test.YtaddlmlpeghonaaGreatDoorChecked
import Derived.Test.YtaddlmlpeghonaaGreatDoorTie
import Derived.ProofKit
import Derived.OpenShut
import Derived.ShutString
import Derived.ChangeOld
import Derived.ChangeSame
import Derived.ChangeVars
import Derived.JoinedOf
import Derived.RowKit
import Derived.LaidLaws
import Derived.LaidHandle
import Derived.Lib.LaidIn
import Derived.Lib.LaidU8T
import Derived.SevenTiedAt
set_option linter.constructorNameAsVariable false
set_option linter.unusedSimpArgs false
set_option linter.unusedVariables false
namespace Go.Proofs.YtaddlmlpeghonaaGreatDoor
open _root_.List renaming length → qb, flatMap → qf, length_append → qi, length_cons → qk, length_nil → qn, append_assoc → qp, mem_cons_of_mem → qq, mem_cons_self → qr, getD_eq_getElem?_getD → qv, append_nil → qw, map_nil → qx, nil_append → qz, cons_append → qA, drop_zero → qD, length_eq_zero_iff → qE, length_singleton → qF, map_cons → qG, map_append → qH, flatMap_append → qI, mem_cons → qJ, flatMap_cons → qM, replicate → qQ, getElem?_append_left → qT, getElem?_eq_getElem → qV, getElem?_eq_some_iff → q1, length_map → q2, flatMap_nil → q3, all_cons → q5, range_zero → q7, getElem?_set_ne → q9, getElem?_append_right → ua, all_eq_true → ub, all_nil → ud, range_succ → ug, take_of_length_le → uh, getElem?_eq_none → ui, take_length → uj, take_append_drop → um, mem_append → un, pairwise_cons → uo, mem_singleton → uq, mem_append_right → ut, getElem?_set_self → uu, filter_cons → ux, range → uy, mem_map → uz, set_cons_zero → uA, getElem?_cons_zero → uE, getElem?_cons_succ → uF, toList_toArray → uG, length_take → uH, length_drop → uI, set_cons_succ → uQ, drop_eq_getElem_cons → uT, mem_append_left → uV, eq_nil_of_length_eq_zero → uZ, nodup_cons → u0, drop_drop → u6, getElem?_toArray → u9, map_congr_left → vg, ofFn → vn
open _root_.Option renaming bind_some → qg, map_some → uB, getD_some → uS
open _root_.Nat renaming reduceEqDiff → qa, reduceLT → qc, reduceAdd → qd, reduceLeDiff → qe, reduceMul → ql, reduceSub → qm, zero_add → qt, le_refl → qu, lt_succ_self → qy, mul_le_mul_right → qY, lt_of_lt_of_le → ue, reduceMod → ul, zero_le → ur, le_trans → uv, zero_mul → uC, sub_self → uM, add_assoc → uN, sub_zero → uR, add_mul → uW, succ_mul → uX, add_zero → uY, lt_or_ge → u4, le_of_not_lt → ve
open _root_.Bool renaming and_eq_true → qo, not_false → qC, not_true → qK, and_true → qL, or_true → qO, and_false → qR, or_eq_true → qS, or_false → qU, and_self → qX, false_eq_true → qZ, not_eq_true' → uD, false_ne_true → uJ, true_and → uK, false_or → uL, true_or → u3
open _root_.Int renaming toNat → qN, toNat_natCast → qW, le_refl → u7, fdiv → vj, reduceEq → vo, tmod_eq_emod_of_nonneg → vp
open _root_.BitVec renaming ofInt → qB, toNat → uk
open _root_.Array renaming length_toList → uc, getD_eq_getD_getElem? → uw, toList_map → uO, getElem?_eq_getElem → uP, getElem?_setIfInBounds_ne → uU, getElem?_modify → u5
open _root_.UInt8 renaming ofNat → uf
open Result renaming andThen_ok → qj
open Sem renaming run_bind → qs, run_pure → qP
open _root_.Go.Proofs.Tryz renaming prog → qh
section
set_option maxRecDepth 4000
open AM
def In64 (n:Int):Prop := -9223372036854775808≤n∧n<9223372036854775808
def zg (n:Int):Nat:=if 0≤n then (2*n).toNat else (-2*n-1).toNat
def zu (v:Nat):Int:=if v % 2=0 then ((v / 2:Nat):Int) else -((v / 2:Nat):Int)-1
theorem zg_lt {n:Int}(h:In64 n):zg n<2^64:=by
 unfold zg; obtain⟨h1,h2⟩:=h; split<;>omega
theorem zu_zg (n:Int):zu (zg n)=n:=by
 unfold zg zu; split<;>split<;>omega
theorem zg_zu (v:Nat):zg (zu v)=v:=by
 unfold zg zu; split<;>split<;>omega
theorem zu_in {v:Nat}(h:v<2^64):In64 (zu v):=by
 unfold zu In64; split<;>omega
theorem bvm1 : qB 64 (-1)=BitVec.allOnes 64:=by decide
theorem bv0 : qB 64 0=0#64:=by decide
theorem fdiv2 (n:Int)(k:Nat):vj n (2^k)=n / (2^k):=Int.fdiv_eq_ediv_of_nonneg _ (Int.le_of_lt (Int.pow_pos (by decide)))
theorem vint_Zig_eq {n:Int}(h:In64 n):Zq n=(zg n:Int):=by
 obtain⟨h1,h2⟩:=h;unfold Zq zg;rw[show min (qN 1) 64=1 from rfl,show min (qN 63) 64=63 from rfl,fdiv2]
 by_cases h0:0≤n
 · have e:n / 2^63=0:=Int.ediv_eq_zero_of_lt h0 (by omega);rw[if_pos h0,e,show IntKind.u64.wrap 0=0 from by rw[IntKind.wrap_u64]; rfl,bv0,BitVec.xor_zero]
   have e2:IntKind.u64.wrap (IntKind.u64.wrap n*2^1)=(((2*n).toNat:Nat):Int):=by rw[IntKind.wrap_u64,IntKind.wrap_u64]; omega
   rw[e2,bv64 (by omega),u64w (by omega)]
 have e:n / 2^63 = -1:=by omega
 have e1:IntKind.u64.wrap (-1)=18446744073709551615:=by rw[IntKind.wrap_u64]; rfl
 have e3:qB 64 18446744073709551615=BitVec.allOnes 64:=by decide
 rw[if_neg h0,e,e1,e3,BitVec.xor_allOnes,BitVec.toNat_not]
 have e2:IntKind.u64.wrap (IntKind.u64.wrap n*2^1)=(((2*n+18446744073709551616).toNat:Nat):Int):=by rw[IntKind.wrap_u64,IntKind.wrap_u64]; omega
 rw[e2,bv64 (by omega),u64w (by omega)]
 omega
theorem vint_Zag_eq {v:Nat}(h:v<2^64):Zr (v:Int)=zu v:=by
 unfold Zr zu;rw[show min (qN 1) 64=1 from rfl,fdiv2]
 have ea:(qB 64 (v:Int) &&& qB 64 1).toNat=v % 2:=by
  rw[BitVec.toNat_and,bv64 h,show (qB 64 1).toNat=1 from by decide,Nat.and_one_is_mod]
 have e1:IntKind.i64.wrap ((v:Int) / 2^1)=((v / 2:Nat):Int):=by rw[yr (by omega) (by omega)]; omega
 rw[ea,e1,u64w (n:=v % 2) (by omega)]
 by_cases h0:v % 2=0
 · rw[if_pos h0,h0]
   have e2:IntKind.i64.wrap (0-IntKind.i64.wrap ((0:Nat):Int))=0:=by decide
   rw[e2,bv0,BitVec.xor_zero,bv64 (by omega),yr (by omega) (by omega)]
 have h1:v % 2=1:=by omega
 rw[if_neg h0,h1]
 have e2:IntKind.i64.wrap (0-IntKind.i64.wrap ((1:Nat):Int)) = -1:=by decide
 rw[e2,bvm1,BitVec.xor_allOnes,BitVec.toNat_not,bv64 (by omega),IntKind.wrap_i64]
 omega
def ZB (r:GRaw):Prop:=yu r=true∧In64 r.fN
def vbw (r:GRaw):Nat:=(2*r.fTag+r.fWire).toNat
def Xs (r:GRaw):List UInt8:=vb (vbw r)++(if r.fWire=0 then vb (zg r.fN) else vb r.fB.length++r.fB)
def xK (l:List GRaw):List UInt8:=l.flatMap Xs
theorem Zn {r:GRaw}(h:yu r=true):1≤r.fTag∧r.fTag≤500∧((r.fWire=0∧r.fB=[])∨(r.fWire=1∧r.fN=0∧r.fB.length≤4096)):=by
 unfold yu at h
 split at h
 · cases h
 rename_i h1
 simp only[qS,decide_eq_true_eq,not_or] at h1;refine⟨by omega,by omega,?_⟩
 split at h
 · left; exact⟨‹_›,by simpa using h⟩
 split at h
 · right
   simp only[qo,decide_eq_true_eq] at h;exact⟨‹_›,h.1,by omega⟩
 cases h
theorem check_num {t n:Int}(h1:1≤t)(h2:t≤500):yu ⟨t,0,n,[]⟩=true:=by
 unfold yu
 rw[if_neg (by simp only[qS,decide_eq_true_eq]; omega)]; rfl
theorem vau {t:Int}{s:List UInt8}(h1:1≤t)(h2:t≤500)(h3:s.length≤4096):yu ⟨t,1,0,s⟩=true:=by
 unfold yu;rw[if_neg (by simp only[qS,decide_eq_true_eq]; omega)];simp only[decide_true,uK]
 rw[if_neg (by decide),if_pos trivial]; exact decide_eq_true (by omega)
theorem rawB_pos (r:GRaw):2≤(Xs r).length:=by
 unfold Xs;have h1:=vb_pos (vbw r);have h2:=vb_pos (zg r.fN);have h3:=vb_pos r.fB.length
 split<;>simp only[qi]<;>omega
theorem wire_Put_eq {a:List UInt8}{r:GRaw}(h:ZB r)(ha:a.length≤1000000):Zp a r=some (a++Xs r,true):=by
 obtain⟨hc,hn⟩:=h;obtain⟨h1,h2,h3⟩:=Zn hc;unfold Zp bnd
 rw[hc]; simp only[]
 have ek:IntKind.u64.wrap (IntKind.i64.wrap ((IntKind.i64.wrap (2*r.fTag))+r.fWire))=((vbw r:Nat):Int):=by
  rw[yr (x:=2*r.fTag) (by omega) (by omega),yr (by omega) (by omega),u64i (by omega) (by omega),vbw]; omega
 have k1:vbw r<2^64:=by unfold vbw; omega
 have kl:=vb_len10 k1;rw[if_neg (by decide),ek,Xz a k1 (by omega),qg]
 rcases h3 with ⟨h3,h4⟩|⟨h3,h4,h5⟩
 · rw[if_pos h3,vint_Zig_eq hn,Xz _ (zg_lt hn) (by rw[qi]; omega),qg,Xs,if_pos h3,qp]
 have hb:=vb_len10 (n:=r.fB.length) (by omega);rw[if_neg (by omega),u64w (by omega),Xz _ (by omega) (by rw[qi]; omega),qg,xR (by simp only[qi]; omega),qg,Xs,if_neg (by omega)];simp only[qp]
theorem putAll_l11 : ∀ (q:List GRaw) (x:Int) (acc:List UInt8),(∀ r∈q,ZB r)→acc.length≤4096→zX.l11 q x acc=some (if 4096<(acc++xK q).length then ([],4) else (acc++xK q,0))
 |[],x,acc,_,ha=>by
  rw[zX.l11,xK,q3,qw,if_neg (by omega)]
 |r::q,x,acc,h,ha=>by
  have hr:=h r (qr ..)
  rw[zX.l11,wire_Put_eq hr (by omega),qg]; dsimp only
  have e:acc++xK (r::q)=(acc++Xs r)++xK q:=by rw[xK,qM,qp]; rfl
  rw[e]
  by_cases h1:4096<(acc++Xs r).length
  · rw[if_pos (by omega),if_pos (by rw[qi]; omega)]
  rw[if_neg (by omega),putAll_l11 q (x+1) _ (fun s hs=>h s (qq _ hs)) (by omega)]
theorem putAll_l4 (a:List GRaw):∀ (q:List GRaw) (x:Int),zX.l4 a q x=if q.all yu then zX.l11 a 0 [] else some ([],1)
 |[],x=>by rw[zX.l4]; rfl
 |r::q,x=>by
  rw[zX.l4,bnd,q5]
  by_cases h:yu r=true
  · rw[h,if_neg (by decide),putAll_l4 a q]; rfl
  rw[if_pos (by simpa using h),if_neg (by rw[qo]; exact fun hh=>h hh.1)]
theorem putAll_eq {l:List GRaw}(h:∀ r∈l,In64 r.fN):zX l=some (if l.all yu then (if 4096<(xK l).length then ([],4) else (xK l,0)) else ([],1)):=by
 rw[zX,putAll_l4]
 by_cases h1:l.all yu=true
 · rw[if_pos h1,if_pos h1,putAll_l11 l 0 [] (fun r hr=>⟨ub.1 h1 r hr,h r hr⟩) (by decide)]; rfl
 rw[if_neg h1,if_neg h1]
theorem ZL {b x post:List UInt8}{n:Nat}(h:b.drop n=x++post):b.drop (n+x.length)=post:=by
 rw[← u6,h,List.drop_left' rfl]
theorem Xl {b x post:List UInt8}{n:Nat}(hn:n≤b.length)(h:b.drop n=x++post):n+x.length+post.length=b.length:=by
 have:=congrArg qb h
 rw[uI,qi] at this; omega
theorem one_ok {b post:List UInt8}{n:Nat}{r:GRaw}(hb:b.length≤4096)(hn:n≤b.length)(h:b.drop n=Xs r++post)(hr:ZB r):wt b (n:Int)=some (r,((n+(Xs r).length:Nat):Int),0):=by
 obtain⟨hc,hN⟩:=hr;obtain⟨h1,h2,h3⟩:=Zn hc
 have k1:vbw r<2^64:=by unfold vbw; omega
 rw[Xs,qp] at h;have hl:=Xl hn h;unfold wt;rw[get_ok hb hn h k1,qg];have hk:vbw r=(2*r.fTag+r.fWire).toNat:=rfl
 have d1:((vbw r:Nat):Int).tdiv 2=r.fTag:=by rw[Int.tdiv_eq_ediv_of_nonneg (by omega),hk]; rcases h3 with h3|h3<;>omega
 have d2:((vbw r:Nat):Int).tmod 2=r.fWire:=by rw[vp (by omega),hk]; rcases h3 with h3|h3<;>omega
 simp only[d1,d2];rw[if_pos trivial,if_neg (by rw[u64i (by omega) (by omega)]; simp only[qS,decide_eq_true_eq]; omega),u64i (x:=r.fTag) (by omega) (by omega),yr (x:=r.fTag) (by omega) (by omega),yr (x:=r.fWire) (by omega) (by omega)];have h':=ZL h
 rcases h3 with ⟨h3,h4⟩|⟨h3,h4,h5⟩
 · rw[if_pos h3] at h';rw[get_ok hb (by omega) h' (zg_lt hN),qg];simp only[];rw[if_pos trivial,if_pos h3,bnd,vint_Zag_eq (zg_lt hN),zu_zg,Xs,if_pos h3]
   have e:r=⟨r.fTag,r.fWire,r.fN,[]⟩:=by cases r; simp only at h4; subst h4; rfl
   rw[← e,qi,uN]
 rw[if_neg (by omega)] at h' hl;rw[qp] at h';have hl':=Xl (by omega) h';rw[qi] at hl';rw[get_ok hb (by omega) h' (show r.fB.length<2^64 by omega),qg];simp only[];have h'':=ZL h'
 have e1:IntKind.i64.wrap ((b.length:Int)-((n+(vb (vbw r)).length+(vb r.fB.length).length:Nat):Int))=((r.fB.length+post.length:Nat):Int):=by rw[yr (by omega) (by omega)]; omega
 have e2:IntKind.i64.wrap (r.fB.length:Int)=(r.fB.length:Int):=yr (by omega) (by omega)
 have e3:IntKind.i64.wrap (((n+(vb (vbw r)).length+(vb r.fB.length).length:Nat):Int)+(r.fB.length:Int))=((n+(vb (vbw r)).length+(vb r.fB.length).length+r.fB.length:Nat):Int):=by rw[yr (by omega) (by omega)]; omega
 rw[if_pos trivial,if_neg (by omega),e1,u64w (by omega),if_neg (by omega),e2,e3,YW (by omega),qg,Yx,qW,qW,h'',Nat.add_sub_cancel_left,List.take_left' rfl,Xs,if_neg (by omega),qi,qi]
 have e:r=⟨r.fTag,r.fWire,0,r.fB⟩:=by cases r; simp only at h4; subst h4; rfl
 rw[← e,show n+(vb (vbw r)).length+(vb r.fB.length).length+r.fB.length=n+((vb (vbw r)).length+((vb r.fB.length).length+r.fB.length)) by omega]
theorem one_inv {b:List UInt8}{n:Nat}(hb:b.length≤4096)(hn:n≤b.length):∃ r,wt b (n:Int)=some r∧
 (r.2.2=0→∃ x post,b.drop n=Xs x++post∧ZB x∧r=(x,((n+(Xs x).length:Nat):Int),0))∧0≤r.2.2:=by
 obtain⟨r1,e1,i1,p1⟩:=get_inv hb hn
 by_cases z1:r1.2.2=0
 · obtain⟨v,post,hd,hv,rfl⟩:=i1 z1;have hl:=Xl hn hd;have hd':=ZL hd
   by_cases c1:(decide ((v:Int)<2)||decide ((500:Int)<IntKind.u64.wrap ((v:Int).tdiv 2)))=true
   · refine⟨_,by unfold wt; rw[e1,qg,if_pos rfl,if_pos c1],?_,by decide⟩
     intro h; exact absurd h (by decide)
   have c1':=c1;simp only[qS,decide_eq_true_eq,not_or] at c1;obtain⟨c2,c3⟩:=c1
   have d1:(v:Int).tdiv 2=((v / 2:Nat):Int):=by rw[Int.tdiv_eq_ediv_of_nonneg (by omega)]; omega
   have d2:(v:Int).tmod 2=((v % 2:Nat):Int):=by rw[vp (by omega)]; omega
   rw[d1,u64w (by omega)] at c3;obtain⟨r2,e2,i2,p2⟩:=get_inv hb (n:=n+(vb v).length) (by omega)
   by_cases z2:r2.2.2=0
   · obtain⟨w,post2,hd2,hw,rfl⟩:=i2 z2;have hl2:=Xl (by omega) hd2
     by_cases c4:v % 2=0
     · have ok:ZB ⟨((v / 2:Nat):Int),0,zu w,[]⟩:=⟨check_num (by omega) (by omega),zu_in hw⟩
       have hkey:vbw ⟨((v / 2:Nat):Int),0,zu w,[]⟩=v:=by unfold vbw; simp only[]; omega
       have hdr:b.drop n=Xs ⟨((v / 2:Nat):Int),0,zu w,[]⟩++post2:=by
        rw[Xs,hkey,if_pos rfl]; simp only[zg_zu]; rw[hd,← hd',hd2,qp]
       refine⟨_,one_ok hb hn hdr ok,?_,u7 0⟩
       intro _; exact⟨_,_,hdr,ok,rfl⟩
     have c5:v % 2=1:=by omega
     by_cases c6:w≤post2.length
     · have ok:ZB ⟨((v / 2:Nat):Int),1,0,post2.take w⟩:=⟨vau (by omega) (by omega) (by rw[uH]; omega),(show In64 0 from ⟨by decide,by decide⟩)⟩
       have hkey:vbw ⟨((v / 2:Nat):Int),1,0,post2.take w⟩=v:=by unfold vbw; simp only[]; omega
       have hdr:b.drop n=Xs ⟨((v / 2:Nat):Int),1,0,post2.take w⟩++post2.drop w:=by
        rw[Xs,hkey,if_neg (show ¬ (1:Int)=0 by decide)];simp only[uH,Nat.min_eq_left c6];rw[hd,← hd',hd2,qp,qp,um]
       refine⟨_,one_ok hb hn hdr ok,?_,u7 0⟩
       intro _; exact⟨_,_,hdr,ok,rfl⟩
     have e3:IntKind.i64.wrap ((b.length:Int)-((n+(vb v).length+(vb w).length:Nat):Int))=((post2.length:Nat):Int):=by rw[yr (by omega) (by omega)]; omega
     refine⟨_,by unfold wt; rw[e1,qg,if_pos rfl,if_neg c1',e2,qg,if_pos rfl,d2,if_neg (by rw[yr (by omega) (by omega)]; omega),e3,u64w (by omega),if_pos (by omega)],?_,by decide⟩
     intro h; exact absurd h (by decide)
   refine⟨_,by unfold wt; rw[e1,qg,if_pos rfl,if_neg c1',e2,qg,if_neg z2],?_,p2⟩
   intro h; exact absurd h z2
 refine⟨_,by unfold wt; rw[e1,qg,if_neg z1],?_,p1⟩
 intro h; exact absurd h z1
theorem xL (r:GRaw)(l:List GRaw):xK (r::l)=Xs r++xK l:=by rw[xK,qM]; rfl
theorem wC (l m:List GRaw):xK (l++m)=xK l++xK m:=by rw[xK,qI]; rfl
theorem get_l_ok {b:List UInt8}(hb:b.length≤4096):∀ (l:List GRaw) (k n:Nat) (acc:List GRaw),n≤b.length→b.drop n=xK l→(∀ r∈l,ZB r)→2*acc.length≤n→b.length<k+n→
 xh.l12 b k acc (n:Int)=some (acc++l,0)
 |l,0,n,acc,hn,_,_,_,hk=>by omega
 |[],k+1,n,acc,hn,hd,_,_,hk=>by
  have:=congrArg qb hd;rw[uI,xK,q3,qn] at this;rw[xh.l12,if_neg (by omega),qw]
 |r::l,k+1,n,acc,hn,hd,hr,ha,hk=>by
  rw[xL] at hd;have hl:=Xl hn hd;have h2:=rawB_pos r;rw[xh.l12,if_pos (by omega),one_ok hb hn hd (hr r (qr ..)),qg,if_pos rfl,xR (by omega),qg]
  rw[get_l_ok hb l k (n+(Xs r).length) (acc++[r]) (by omega) (ZL hd) (fun s hs=>hr s (qq _ hs)) (by rw[qi,qF]; omega) (by omega),qp]; rfl
theorem get_l_inv {b:List UInt8}(hb:b.length≤4096):∀ (k n:Nat) (acc:List GRaw),n≤b.length→2*acc.length≤n→b.length<k+n→
 ∃ r,xh.l12 b k acc (n:Int)=some r∧(r.2=0→∃ l,b.drop n=xK l∧(∀ r∈l,ZB r)∧r=(acc++l,0))∧0≤r.2∧(r.2≠0→r.1=[])
 |0,n,acc,hn,_,hk=>by omega
 |k+1,n,acc,hn,ha,hk=>by
  by_cases h:n<b.length
  · obtain⟨r1,e1,i1,p1⟩:=one_inv hb hn
    by_cases z1:r1.2.2=0
    · obtain⟨x,post,hd,ok,rfl⟩:=i1 z1;have hl:=Xl hn hd;have h2:=rawB_pos x;obtain⟨r2,e2,i2,p2⟩:=get_l_inv hb k (n+(Xs x).length) (acc++[x]) (by omega) (by rw[qi,qF]; omega) (by omega);refine⟨r2,by rw[xh.l12,if_pos (by omega),e1,qg,if_pos rfl,xR (by omega),qg]; exact e2,?_,p2⟩
      intro hz
      obtain⟨l,hd2,hok,rfl⟩:=i2 hz;refine⟨x::l,?_,?_,by rw[qp]; rfl⟩
      · rw[xL,hd,← hd2,ZL hd]
      intro s hs
      rcases qJ.1 hs with rfl|hs
      · exact ok
      exact hok s hs
    refine⟨_,by rw[xh.l12,if_pos (by omega),e1,qg,if_neg z1],fun h=>absurd h z1,p1,fun _=>rfl⟩
  refine⟨_,by rw[xh.l12,if_neg (by omega)],fun _=>⟨[],?_,(fun r hr=>by cases hr),by rw[qw]⟩,u7 0,fun h=>absurd rfl h⟩
  rw[List.drop_eq_nil_of_le (by omega)]; rfl
theorem get_rounds : 4097≤rounds:=by decide
theorem wire_Get_ok {l:List GRaw}(h:∀ r∈l,ZB r)(hb:(xK l).length≤4096):xh (xK l)=some (l,0):=by
 rw[xh,if_neg (by omega)];have:=get_l_ok hb l rounds 0 [] (ur _) rfl h (qu _) (by have:=get_rounds; omega)
 simpa using this
theorem vaw (b:List UInt8):∃ r,xh b=some r∧(r.2=0→b=xK r.1∧b.length≤4096∧∀ x∈r.1,ZB x)∧0≤r.2∧(r.2≠0→r.1=[]):=by
 by_cases hb:b.length≤4096
 · obtain⟨r,e,i,p,q⟩:=get_l_inv hb rounds 0 [] (ur _) (qu _) (by have:=get_rounds; omega);refine⟨r,by rw[xh,if_neg (by omega)]; exact e,?_,p,q⟩
   intro hz
   obtain⟨l,hd,ok,rfl⟩:=i hz;exact⟨hd,hb,ok⟩
 refine⟨_,by rw[xh,if_pos (by omega)],fun h=>absurd h (by decide),by decide,fun _=>rfl⟩
end
section
set_option maxRecDepth 4000
open AM
def vaC (r:GRaw):List GRaw→List GRaw
 |[]=>[r]
 |x::l=>if r.fTag<x.fTag then r::x::l else x::vaC r l
def vbh : List GRaw→List GRaw→List GRaw
 |[],S=>S
 |r::q,S=>vbh q (vaC r S)
def srt (l:List GRaw):List GRaw:=vbh l []
def TagLe (a b:GRaw):Prop:=a.fTag≤b.fTag
theorem insR_app {r:GRaw}:∀ {A B:List GRaw},(∀ a∈A,a.fTag≤r.fTag)→(∀ b∈B,r.fTag<b.fTag)→vaC r (A++B)=A++r::B
 |[],[],_,_=>rfl
 |[],b::B,_,hB=>by
  rw[qz,vaC,if_pos (hB b (qr ..))]; rfl
 |a::A,B,hA,hB=>by
  rw[qA,vaC,if_neg (by have:=hA a (qr ..); omega),insR_app (fun x hx=>hA x (qq _ hx)) hB]; rfl
theorem insR_mem {r x:GRaw}:∀ {l:List GRaw},x∈vaC r l↔x=r∨x∈l
 |[]=>by simp[vaC]
 |y::l=>by
  rw[vaC]; split
  · simp
  rw[qJ,insR_mem,qJ]
  constructor
  · rintro (h|h|h)
    · exact Or.inr (Or.inl h)
    · exact Or.inl h
    exact Or.inr (Or.inr h)
  rintro (h|h|h)
  · exact Or.inr (Or.inl h)
  · exact Or.inl h
  exact Or.inr (Or.inr h)
theorem vaZ (r:GRaw):∀ l:List GRaw,(vaC r l).length=l.length+1
 |[]=>rfl
 |x::l=>by
  rw[vaC]; split
  · rfl
  rw[qk,vaZ r l,qk]
theorem ZH {r:GRaw}:∀ {l:List GRaw},l.Pairwise TagLe→(vaC r l).Pairwise TagLe
 |[],_=>by simp[vaC]
 |x::l,h=>by
  rw[uo] at h
  rw[vaC]; split
  · rename_i hlt
    rw[uo,uo];refine⟨?_,h⟩
    intro y hy
    rcases qJ.1 hy with rfl|hy
    · unfold TagLe; omega
    have:=h.1 y hy; unfold TagLe at *; omega
  rename_i hge
  rw[uo];refine⟨?_,ZH h.2⟩
  intro y hy
  rcases insR_mem.1 hy with rfl|hy
  · unfold TagLe; omega
  exact h.1 y hy
theorem vbx {r:GRaw}(t:Int):∀ {l:List GRaw},l.Pairwise TagLe→(vaC r l).filter (fun x=>x.fTag=t)=l.filter (fun x=>x.fTag=t)++(if r.fTag=t then [r] else [])
 |[],_=>by rw[vaC,List.filter_nil,qz,ux,List.filter_nil]; simp only[decide_eq_true_eq]
 |x::l,h=>by
  rw[uo] at h
  rw[vaC]; split
  · rename_i hlt
    rw[ux]
    by_cases hr:r.fTag=t
    · have hn:(x::l).filter (fun x=>x.fTag=t)=[]:=by
       rw[List.filter_eq_nil_iff]
       intro y hy
       simp only[decide_eq_true_eq]
       rcases qJ.1 hy with rfl|hy
       · omega
       have:=h.1 y hy; unfold TagLe at this; omega
      rw[hn,if_pos (by simpa using hr),if_pos hr]; rfl
    rw[if_neg (by simpa using hr),if_neg hr,qw]
  rw[ux,ux,vbx t h.2]
  split<;>rfl
theorem vbf : ∀ {l S:List GRaw},S.Pairwise TagLe→(vbh l S).Pairwise TagLe
 |[],_,h=>h
 |r::l,S,h=>by rw[vbh]; exact vbf (l:=l) (ZH h)
theorem vab (l:List GRaw):(srt l).Pairwise TagLe:=vbf List.Pairwise.nil
theorem srtA_len : ∀ (l S:List GRaw),(vbh l S).length=S.length+l.length
 |[],_=>rfl
 |r::l,S=>by rw[vbh,srtA_len,vaZ,qk]; omega
theorem srt_len (l:List GRaw):(srt l).length=l.length:=by rw[srt,srtA_len,qn,qt]
theorem srtA_mem {x:GRaw}:∀ {l S:List GRaw},x∈vbh l S↔x∈S∨x∈l
 |[],S=>by simp[vbh]
 |r::l,S=>by
  rw[vbh,srtA_mem,insR_mem,qJ]
  constructor
  · rintro ((h|h)|h)
    · exact Or.inr (Or.inl h)
    · exact Or.inl h
    exact Or.inr (Or.inr h)
  rintro (h|h|h)
  · exact Or.inl (Or.inr h)
  · exact Or.inl (Or.inl h)
  exact Or.inr h
theorem srt_mem {x:GRaw}{l:List GRaw}:x∈srt l↔x∈l:=by rw[srt,srtA_mem]; simp
theorem vbg (t:Int):∀ {l S:List GRaw},S.Pairwise TagLe→(vbh l S).filter (fun x=>x.fTag=t)=S.filter (fun x=>x.fTag=t)++l.filter (fun x=>x.fTag=t)
 |[],S,_=>by rw[vbh,List.filter_nil,qw]
 |r::l,S,h=>by
  rw[vbh,vbg t (ZH h),vbx t h,ux,qp]
  congr 1
  simp only[decide_eq_true_eq]
  split<;>rfl
theorem srt_filter (l:List GRaw)(t:Int):(srt l).filter (fun x=>x.fTag=t)=l.filter (fun x=>x.fTag=t):=by
 rw[srt,vbg t List.Pairwise.nil]; rfl
theorem srtA_id : ∀ {l S:List GRaw},(S++l).Pairwise TagLe→vbh l S=S++l
 |[],S,_=>by rw[vbh,qw]
 |r::l,S,h=>by
  have hS:∀ a∈S,a.fTag≤r.fTag:=fun a ha=>(List.pairwise_append.1 h).2.2 a ha r (qr ..)
  have e:vaC r S=S++[r]:=by
   have:=insR_app (r:=r) (A:=S) (B:=[]) hS (fun b hb=>by cases hb)
   rwa [qw] at this
  rw[vbh,e,srtA_id (by rwa [qp]),qp]; rfl
theorem srt_id {l:List GRaw}(h:l.Pairwise TagLe):srt l=l:=srtA_id (S:=[]) h
theorem sorted_ext : ∀ {l m:List GRaw},l.Pairwise TagLe→m.Pairwise TagLe→(∀ t:Int,l.filter (fun x=>x.fTag=t)=m.filter (fun x=>x.fTag=t))→l=m
 |[],[],_,_,_=>rfl
 |[],y::m,_,_,h=>by
  have:=h y.fTag
  rw[List.filter_nil,ux,if_pos (by simp)] at this; cases this
 |x::l,[],_,_,h=>by
  have:=h x.fTag
  rw[List.filter_nil,ux,if_pos (by simp)] at this; cases this
 |x::l,y::m,hl,hm,h=>by
  rw[uo] at hl hm
  have hxy:x.fTag=y.fTag:=by
   have h1:x∈(y::m).filter (fun z=>z.fTag=x.fTag):=by rw[← h,ux,if_pos (by simp)]; exact qr ..
   have h2:y∈(x::l).filter (fun z=>z.fTag=y.fTag):=by rw[h,ux,if_pos (by simp)]; exact qr ..
   have a1:y.fTag≤x.fTag:=by
    rcases qJ.1 (List.mem_filter.1 h1).1 with e|h1
    · rw[e]; exact u7 _
    exact hm.1 x h1
   have a2:x.fTag≤y.fTag:=by
    rcases qJ.1 (List.mem_filter.1 h2).1 with e|h2
    · rw[e]; exact u7 _
    exact hl.1 y h2
   omega
  have e:x=y:=by
   have:=h x.fTag;rw[ux,ux,if_pos (by simp),if_pos (by simp[hxy])] at this
   injection this
  subst e
  congr 1
  refine sorted_ext hl.2 hm.2 fun t=>?_
  have:=h t;rw[ux,ux] at this
  split at this
  · injection this
  exact this
theorem srt_of {l m:List GRaw}(hm:m.Pairwise TagLe)(h:∀ t:Int,l.filter (fun x=>x.fTag=t)=m.filter (fun x=>x.fTag=t)):srt l=m:=
 sorted_ext (vab l) hm fun t=>by rw[srt_filter,h]
theorem ZI {α:Type}{A B:List α}{x:α}{i:Int}(h:i=A.length):wV (A++x::B) i=some x:=by
 subst h
 rw[wV,if_pos (by omega),qW,ua (qu _),uM]; rfl
theorem idx_t {α:Type}{l:List α}{i:Int}{x:α}(h0:0≤i)(h:l[i.toNat]?=some x):wV l i=some x:=by rw[wV,if_pos h0,h]
theorem sorted_l17 {r z:GRaw}{S P:List GRaw}(rec8:Int→List GRaw→Option (List GRaw)):∀ (k:Nat) (A B:List GRaw),S=A++B→(∀ b∈B,r.fTag<b.fTag)→A.Pairwise TagLe→A.length<k→S.length<1000000→
 zI.l17 (S.length:Int) (S++z::P) rec8 r k (A.length:Int)=rec8 ((S.length:Int)+1) (vaC r S++P)
 |0,_,_,_,_,_,h,_=>by omega
 |k+1,A,B,hS,hB,hA,hk,hn=>by
  have stop:(∀ a∈A,a.fTag≤r.fTag)→zI.j20 (S.length:Int) (S++z::P) rec8 r (A.length:Int) (zI.l17 (S.length:Int) (S++z::P) rec8 r k) false=rec8 ((S.length:Int)+1) (vaC r S++P):=by
   intro hle
   have hl:S.length=A.length+B.length:=by rw[hS,qi]
   have e1:IntKind.i64.wrap ((A.length:Int)+1)=((A.length+1:Nat):Int):=by rw[yr (by omega) (by omega)]; omega
   rw[zI.j20,if_neg (by decide),e1,YW (by rw[qi,qk]; omega),qg,YW (by rw[qi,qk]; omega),qg]
   have e2:qN ((S.length:Int)+1)=S.length+1:=by omega
   rw[qW,qW,qW,e2,show min (S.length-A.length) (S.length+1-(A.length+1))=B.length by omega]
   have hc:∃ w:GRaw,A.length<(S++z::P).length∧Xp (S++z::P) (A.length+1) A.length B.length=A++w::(B++P):=by
    cases hB':B with
    |nil=>
     subst hB';rw[qw] at hS;refine⟨z,by rw[hS,qi,qk]; omega,?_⟩;rw[Xp,hS,qn,List.take_zero,qz,uY,List.drop_append,List.drop_eq_nil_of_le (by omega),List.take_append,uh (by omega)];rw[show A.length+1-A.length=1 by omega]
     simp
    |cons b B'=>
     refine⟨b,by rw[hS,hB',qi,qi,qk]; omega,?_⟩;rw[hS,hB',Xp]
     have t1:((A++b::B')++z::P).take (A.length+1)=A++[b]:=by
      rw[qp,List.take_append,uh (by omega),show A.length+1-A.length=1 by omega]; rfl
     have t2:(((A++b::B')++z::P).drop A.length).take (b::B').length=b::B':=by
      rw[qp,List.drop_left' rfl,List.take_left' rfl]
     have t3:((A++b::B')++z::P).drop (A.length+1+(b::B').length)=P:=by
      rw[show (A++b::B')++z::P=((A++b::B')++[z])++P by rw[qp (A++b::B')]; rfl];rw[List.drop_left']
      simp only[qi,qk,qn]; omega
     rw[t1,t2,t3];simp only[qp,qA,qz]
   obtain⟨w,hlt,hc⟩:=hc
   rw[hc,ZI rfl,qg,setI,qW,List.set_append_right _ _ (qu _),uM,uA,hS,insR_app hle hB,qp]; rfl
  rcases List.eq_nil_or_concat A with rfl|⟨A',a,rfl⟩
  · rw[zI.l17,if_neg (by simp)];exact stop (fun a ha=>by cases ha)
  rw[List.concat_eq_append] at *
  have hlA:(A'++[a]).length=A'.length+1:=by rw[qi,qF]
  have hlS:S.length=(A'++[a]).length+B.length:=by rw[hS,qi]
  have e1:IntKind.i64.wrap (((A'++[a]).length:Int)-1)=(A'.length:Int):=by
   rw[yr (by omega) (by omega)]; omega
  rw[zI.l17,if_pos (by omega),e1]
  have ei:wV (S++z::P) (A'.length:Int)=some a:=by
   rw[hS,qp,qp]; exact ZI rfl
  rw[ei,qg]
  by_cases hgt:r.fTag<a.fTag
  · rw[decide_eq_true hgt,zI.j20,if_pos rfl,e1];refine sorted_l17 rec8 k A' (a::B) (by rw[hS,qp]; rfl) ?_ (List.pairwise_append.1 hA).1 (by omega) hn
    intro b hb
    rcases qJ.1 hb with rfl|hb
    · exact hgt
    exact hB b hb
  rw[decide_eq_false hgt];refine stop ?_
  intro x hx
  rcases un.1 hx with hx|hx
  · have:=(List.pairwise_append.1 hA).2.2 x hx a (uq.2 rfl)
    unfold TagLe at this; omega
  rw[uq] at hx; subst hx; omega
theorem sorted_l8 : ∀ (q S P:List GRaw),P.length=q.length→S.Pairwise TagLe→S.length+q.length<1000000→zI.l8 q (S.length:Int) (S++P)=some (vbh q S)
 |[],S,P,hP,_,_=>by
  have:P=[]:=qE.1 (by simpa using hP);subst this;rw[zI.l8,vbh,qw]
 |r::q,S,[],hP,_,_=>by cases hP
 |r::q,S,z::P,hP,hS,hn=>by
  rw[qk] at hn;rw[zI.l8,sorted_l17 (S:=S) (zI.l8 q) rounds S [] (qw S).symm (fun b hb=>by cases hb) hS (ue (show S.length<1000000 by omega) (by decide)) (by omega)]
  have e:(S.length:Int)+1=((vaC r S).length:Int):=by rw[vaZ]; omega
  rw[e,sorted_l8 q (vaC r S) P (by simpa using hP) (ZH hS) (by rw[vaZ]; omega),vbh]
theorem sorted_eq {l:List GRaw}(h:l.length<1000000):zI l=some (srt l):=by
 rw[zI,YW (by omega),qg,qW];exact sorted_l8 l [] _ List.length_replicate List.Pairwise.nil (by rw[qn]; omega)
end
section
set_option maxRecDepth 4000
open AM
theorem ZV (s:List UInt8)(p:Nat):1≤(Ye s p).2:=by
 unfold Ye Utf8.decode
 dsimp only
 repeat' split
 all_goals first|exact qu 1|exact (by decide:1≤2)|exact (by decide:1≤3)|exact (by decide:1≤4)
theorem runesNext_t (a:List UInt8)(n:Nat)(h:a.length≤9223372036854775807):∃ r,xW a (n:Int)=some r:=by
 unfold xW
 split
 · exact⟨_,rfl⟩
 rename_i h1
 simp only[qS,decide_eq_true_eq,not_or] at h1;rw[YW (by omega),qg,bnd]
 split<;>exact⟨_,rfl⟩
theorem vax (a:List UInt8)(h:a.length≤9223372036854775807):∀ (k p:Nat),0<k→a.length<p+k→∃ v,yn.l4 a k p=some v
 |0,p,h0,hk=>by omega
 |k+1,p,_,hk=>by
  have hd:=ZV a p;rw[yn.l4]
  split
  · have ih:=vax a h k (p+(Ye a p).2) (by omega) (by omega)
    split
    · obtain⟨r,e⟩:=runesNext_t a p h;rw[e,qg]
      split
      · exact⟨_,rfl⟩
      exact ih
    exact ih
  exact⟨_,rfl⟩
theorem yG : 9223372036854775808≤rounds:=by decide
def vay (b:List UInt8):Bool:=(yn b).getD false
theorem runesV_eq {a:List UInt8}(h:a.length≤9223372036854775807):yn a=some (vay a):=by
 obtain⟨v,e⟩:=vax a h rounds 0 (by have:=yG; omega) (by have:=yG; omega);unfold vay
 rw[show yn a=some v from e]; rfl
theorem xo (t:Int)(l:List GTree):(GEntry.mk t l).fTag=t:=rfl
theorem xw (t:Int)(l:List GTree):(GEntry.mk t l).fTrees=l:=rfl
def Yb (a b:GEntry):Prop:=a.fTag<b.fTag
def wK (t:Int)(rep:Prop) [Decidable rep](x:GTree):List GEntry→List GEntry
 |[]=>[⟨t,[x]⟩]
 |e::l=>if e.fTag<t then e::wK t rep x l else if e.fTag=t then ⟨t,(if rep then e.fTrees else [])++[x]⟩::l else ⟨t,[x]⟩::e::l
def Xt (t:Int)(rep:Prop) [Decidable rep]:List GEntry→Nat
 |[]=>1
 |e::l=>if e.fTag<t then Xt t rep l else if e.fTag=t then (if rep then e.fTrees.length else 0)+1 else 1
theorem vaU {t:Int}{rep:Prop} [Decidable rep]{x:GTree}{B:List GEntry}:∀ {A:List GEntry},(∀ a∈A,a.fTag<t)→wK t rep x (A++B)=A++wK t rep x B
 |[],_=>rfl
 |a::A,h=>by
  rw[qA,wK,if_pos (h a (qr ..)),vaU fun b hb=>h b (qq _ hb)]; rfl
theorem vaT {t:Int}{rep:Prop} [Decidable rep]{B:List GEntry}:∀ {A:List GEntry},(∀ a∈A,a.fTag<t)→Xt t rep (A++B)=Xt t rep B
 |[],_=>rfl
 |a::A,h=>by
  rw[qA,Xt,if_pos (h a (qr ..)),vaT fun b hb=>h b (qq _ hb)]
theorem splitE (t:Int):∀ {es:List GEntry},es.Pairwise Yb→∃ A B,es=A++B∧(∀ a∈A,a.fTag<t)∧(∀ b∈B,t≤b.fTag)
 |[],_=>⟨[],[],rfl,(fun _ h=>by cases h),(fun _ h=>by cases h)⟩
 |e::es,h=>by
  rw[uo] at h
  by_cases he:e.fTag<t
  · obtain⟨A,B,rfl,hA,hB⟩:=splitE t h.2;refine⟨e::A,B,rfl,?_,hB⟩
    intro a ha
    rcases qJ.1 ha with rfl|ha
    · exact he
    exact hA a ha
  refine⟨[],e::es,rfl,(fun _ h=>by cases h),?_⟩
  intro b hb
  rcases qJ.1 hb with rfl|hb
  · omega
  have:=h.1 b hb; unfold Yb at this; omega
theorem put1_eq {e:GEntry}{t:Int}(h1:1≤e.fTag∧e.fTag≤500)(h2:1≤t∧t≤500):xy e t=e.fTag-t:=by
 unfold xy; exact yr (by omega) (by omega)
theorem half {x y:Nat}(h:x+y<9223372036854775808):IntKind.i64.wrap (vj (IntKind.u64.wrap (IntKind.i64.wrap ((x:Int)+(y:Int)))) (2^(min (qN 1) 64)))=(((x+y) / 2:Nat):Int):=by
 rw[yr (x:=(x:Int)+y) (by omega) (by omega),u64i (by omega) (by omega),show min (qN 1) 64=1 from rfl,Int.fdiv_eq_ediv_of_nonneg _ (by decide),yr (by omega) (by omega)]
 omega
def Ys (t:Int):List GEntry→Bool
 |[]=>false
 |b::_=>decide (b.fTag=t)
theorem bs_l {t:Int}{A B:List GEntry}(ht:1≤t∧t≤500)(hA:∀ a∈A,a.fTag<t)(hB:∀ b∈B,t≤b.fTag)(hr:∀ e∈A++B,1≤e.fTag∧e.fTag≤500)(hn:(A++B).length<4611686018427387904):
 ∀ (k x y:Nat),x≤A.length→A.length≤y→y≤(A++B).length→y<x+k→zk.l6 (A++B) t k (x:Int) (y:Int)=some ((A.length:Int),Ys t B)
 |0,x,y,_,_,_,hk=>by omega
 |k+1,x,y,hx,hy,hl,hk=>by
  rw[zk.l6]
  by_cases hlt:x<y
  · rw[if_pos (by omega),half (by omega)]
    have hm:(x+y) / 2<(A++B).length:=by omega
    rw[idx_t (by omega) (show (A++B)[qN (((x+y) / 2:Nat):Int)]?=some ((A++B)[(x+y) / 2]'hm) by rw[qW]; exact qV hm),qg,bnd,put1_eq (hr _ (List.getElem_mem hm)) ht]
    by_cases hc:(x+y) / 2<A.length
    · have e:(A++B)[(x+y) / 2]'hm=A[(x+y) / 2]'hc:=List.getElem_append_left hc;have:=hA _ (List.getElem_mem hc);rw[e,if_pos (by omega),yr (by omega) (by omega),show (((x+y) / 2:Nat):Int)+1=(((x+y) / 2+1:Nat):Int) by omega];exact bs_l ht hA hB hr hn k _ y (by omega) hy hl (by omega)
    have hlB:(x+y) / 2-A.length<B.length:=by rw[qi] at hm; omega
    have e:(A++B)[(x+y) / 2]'hm=B[(x+y) / 2-A.length]'hlB:=List.getElem_append_right (by omega);have:=hB _ (List.getElem_mem hlB);rw[e,if_neg (by omega)];exact bs_l ht hA hB hr hn k x _ hx (by omega) (by omega) (by omega)
  have e:x=A.length:=by omega
  subst e;rw[if_neg (by omega)]
  cases B with
  |nil=>rw[qw,if_neg (by omega)]; rfl
  |cons b B=>
   rw[if_pos (by rw[qi,qk]; omega),ZI rfl,qg,bnd,put1_eq (hr b (ut _ (qr ..))) ht,qg,Ys]
   congr 2
   exact decide_eq_decide.2 (by omega)
theorem decode_put_eq {es:List GEntry}{f:GField}{x:GTree}(hs:es.Pairwise Yb)(hr:∀ e∈es,1≤e.fTag∧e.fTag≤500)(hf:1≤f.fTag∧f.fTag≤500)(hn:es.length<1000000)(ht:∀ e∈es,e.fTrees.length<1000000):
 Yv es f x=some (wK f.fTag (f.fLabel=3) x es,decide (Xt f.fTag (f.fLabel=3) es≤64)):=by
 obtain⟨A,B,rfl,hA,hB⟩:=splitE f.fTag hs;have hln:(A++B).length=A.length+B.length:=qi;have bs:zk (A++B) f.fTag=some ((A.length:Int),Ys f.fTag B):=bs_l hf hA hB hr (by omega) rounds 0 (A++B).length (ur _) (by omega) (qu _) (by have:=yG; omega);rw[Yv,bs,qg,vaU hA,vaT hA]
 have ins:∀ (B:List GEntry),(A++B).length<1000000→Ys f.fTag B=false→(∀ b∈B,f.fTag≤b.fTag)→((if ((A.length:Int),Ys f.fTag B).2=true then some (A++B) else (grd (0≤((A.length:Int),Ys f.fTag B).1∧((A.length:Int),Ys f.fTag B).1≤((A++B).length:Int))).bind fun _=>(Y5 ((A++B).length+1) 32).bind fun _=>some ((A++B).take ((A.length:Int),Ys f.fTag B).1.toNat++⟨f.fTag,[]⟩::(A++B).drop ((A.length:Int),Ys f.fTag B).1.toNat)).bind fun es1=>
  (wV es1 ((A.length:Int),Ys f.fTag B).1).bind fun e=>
  (Y5 ((if f.fLabel=3 then e.fTrees.length else 0)+1) 80).bind fun _=>
  some (es1.set ((A.length:Int),Ys f.fTag B).1.toNat ⟨e.fTag,(if f.fLabel=3 then e.fTrees else [])++[x]⟩,decide ((((if f.fLabel=3 then e.fTrees else [])++[x]).length:Int)≤64)))=some (A++⟨f.fTag,[x]⟩::B,true):=by
  intro B hln hh _
  have hl2:(A++B).length=A.length+B.length:=qi;rw[hh];simp only[qW];rw[if_neg (by decide),YW (by omega),qg,xR (by omega),qg,qg,List.take_left' rfl,List.drop_left' rfl,ZI rfl,qg,xR (by rw[xw]; split<;>decide),qg,List.set_append_right _ _ (qu _),uM,uA]
  simp only[xo,xw,ite_self,qz,qF]; rfl
 cases B with
 |nil=>
  rw[ins [] hn rfl (fun _ h=>by cases h)]; rfl
 |cons b B=>
  have hb:=hB b (qr ..)
  by_cases hbt:b.fTag=f.fTag
  · have hh:Ys f.fTag (b::B)=true:=decide_eq_true hbt;have htb:=ht b (ut _ (qr ..));rw[hh];simp only[qW];rw[if_pos trivial,qg,ZI rfl,qg,xR (by split<;>omega),qg,List.set_append_right _ _ (qu _),uM,uA,wK,if_neg (show ¬ b.fTag<f.fTag by omega),if_pos hbt,Xt,if_neg (show ¬ b.fTag<f.fTag by omega),if_pos hbt,hbt]
    congr 2
    refine decide_eq_decide.2 ?_;rw[qi,qF]
    by_cases h3:f.fLabel=3
    · rw[if_pos h3,if_pos h3]; omega
    rw[if_neg h3,if_neg h3,qn]; omega
  have hh:Ys f.fTag (b::B)=false:=decide_eq_false hbt
  rw[ins (b::B) hn hh hB,wK,if_neg (by omega),if_neg hbt,Xt,if_neg (by omega),if_neg hbt]; rfl
theorem putE_mem {t:Int}{rep:Prop} [Decidable rep]{x:GTree}{e:GEntry}:∀ {es:List GEntry},e∈wK t rep x es→e∈es∨e.fTag=t
 |[],h=>by rw[wK,uq] at h; subst h; exact Or.inr rfl
 |a::es,h=>by
  rw[wK] at h; split at h
  · rcases qJ.1 h with rfl|h
    · exact Or.inl (qr ..)
    rcases putE_mem h with h|h
    · exact Or.inl (qq _ h)
    exact Or.inr h
  split at h
  · rcases qJ.1 h with rfl|h
    · exact Or.inr rfl
    exact Or.inl (qq _ h)
  rcases qJ.1 h with rfl|h
  · exact Or.inr rfl
  exact Or.inl h
theorem XB {t:Int}{rep:Prop} [Decidable rep]{x:GTree}:∀ {es:List GEntry},es.Pairwise Yb→(wK t rep x es).Pairwise Yb
 |[],_=>by simp[wK]
 |a::es,h=>by
  rw[uo] at h
  rw[wK]; split
  · rename_i hlt
    rw[uo];refine⟨?_,XB h.2⟩
    intro b hb
    rcases putE_mem hb with hb|hb
    · exact h.1 b hb
    unfold Yb; omega
  split
  · rename_i hge heq
    rw[uo];refine⟨?_,h.2⟩
    intro b hb
    have:=h.1 b hb; unfold Yb at *; simp only[xo]; omega
  rename_i hge hne
  rw[uo,uo];refine⟨?_,h⟩
  intro b hb
  rcases qJ.1 hb with rfl|hb
  · unfold Yb; simp only[xo]; omega
  have:=h.1 b hb; unfold Yb at *; simp only[xo]; omega
theorem putE_len {t:Int}{rep:Prop} [Decidable rep]{x:GTree}:∀ {es:List GEntry},(wK t rep x es).length≤es.length+1
 |[]=>by rw[wK]; exact qu _
 |a::es=>by
  rw[wK]; split
  · rw[qk,qk]; have:=putE_len (t:=t) (rep:=rep) (x:=x) (es:=es); omega
  split<;>simp only[qk]<;>omega
theorem putE_all {t:Int}{rep:Prop} [Decidable rep]{x:GTree}{e:GEntry}:∀ {es:List GEntry},e∈wK t rep x es→e∈es∨(e.fTag=t∧e.fTrees.length=Xt t rep es∧e.fTrees≠[])
 |[],h=>by rw[wK,uq] at h; subst h; exact Or.inr ⟨rfl,rfl,by rw[xw]; simp⟩
 |a::es,h=>by
  rw[wK] at h; rw[Xt]; split at h
  · rename_i hlt
    rw[if_pos hlt]
    rcases qJ.1 h with rfl|h
    · exact Or.inl (qr ..)
    rcases putE_all h with h|h
    · exact Or.inl (qq _ h)
    exact Or.inr h
  rename_i hlt
  rw[if_neg hlt]
  split at h
  · rename_i heq
    rw[if_pos heq]
    rcases qJ.1 h with rfl|h
    · refine Or.inr ⟨rfl,?_,by rw[xw]; simp⟩
      simp only[xw,qi,qF]; split<;>rfl
    exact Or.inl (qq _ h)
  rename_i hne
  rw[if_neg hne]
  rcases qJ.1 h with rfl|h
  · exact Or.inr ⟨rfl,rfl,by rw[xw]; simp⟩
  exact Or.inl h
def ZX : GTree:=⟨0,0,[],[],[]⟩
def isZ (m:GMessage)(e:GEntry):Bool:=decide ((zf m e.fTag).1.fLabel=1)&&xx (e.fTrees.headD ZX)
def zdel (m:GMessage)(es:List GEntry):List GEntry:=es.filter fun e => !isZ m e
theorem X2 {m:GMessage}:∀ {es:List GEntry},(∀ e∈es,e.fTrees≠[])→wo m es=some (zdel m es)
 |[],_=>rfl
 |e::es,h=>by
  have he:=h e (qr ..);rw[wo,yX,bnd]
  have e1:(if (zf m e.fTag).1.fLabel=1 then (wV e.fTrees 0).bind fun y2=>bnd (xx y2) fun r5=>some r5 else some false)=some (isZ m e):=by
   unfold isZ
   split
   · rename_i hl
     cases ht:e.fTrees with
     |nil=>exact absurd ht he
     |cons a l=>
      rw[idx_t (u7 0) (show (a::l)[qN 0]?=some a from rfl),qg,bnd,hl]; rfl
   rename_i hl
   rw[decide_eq_false hl,Bool.false_and]
  rw[e1,qg,qg,X2 fun a ha=>h a (qq _ ha),qg]
  unfold zdel; rw[ux]
  cases isZ m e<;>rfl
def ZR (m:GMessage)(one:GType→GRaw→GTree×Int):List GRaw→List GEntry→List GRaw→GTree×Int
 |[],es,rest=>(⟨3,0,[],zdel m es,srt rest⟩,0)
 |r::q,es,rest=>
  if (zf m r.fTag).2=true then
   (if (one (zf m r.fTag).1.fType r).2=0 then
    (if Xt r.fTag ((zf m r.fTag).1.fLabel=3) es≤64 then ZR m one q (wK r.fTag ((zf m r.fTag).1.fLabel=3) (one (zf m r.fTag).1.fType r).1 es) rest else (ZX,4))
   else (ZX,(one (zf m r.fTag).1.fType r).2))
  else ZR m one q es (rest++[r])
theorem Ya {m:GMessage}{t:Int}(h:(zf m t).2=true):(zf m t).1.fTag=t∧(zf m t).1∈m.fFields:=by
 have key:∀ (l:List GField) (i:Int),(zf.l4 t l i).2=true→(zf.l4 t l i).1.fTag=t∧(zf.l4 t l i).1∈l:=by
  intro l
  induction l with
  |nil=>intro i h; cases h
  |cons f l ih=>
   intro i h
   rw[zf.l4] at h ⊢
   split at h
   · rename_i hf
     rw[if_pos hf]; exact⟨hf,qr ..⟩
   rename_i hf
   rw[if_neg hf];obtain⟨h1,h2⟩:=ih _ h;exact⟨h1,qq _ h2⟩
 exact key m.fFields 0 h
theorem fldD_eq {self:GSchema→GType→GRaw→Int→Option (GTree×Int)}{s:GSchema}{m:GMessage}{deep:Int}{one:GType→GRaw→GTree×Int}:
 ∀ {l:List GRaw} {es:List GEntry} {rest:List GRaw},(∀ r∈l,1≤r.fTag∧r.fTag≤500)→(∀ r∈l,∀ y,self s y r deep=some (one y r))→es.Pairwise Yb→(∀ e∈es,(1≤e.fTag∧e.fTag≤500)∧e.fTrees≠[]∧e.fTrees.length≤64)→es.length+l.length<100000→rest.length+l.length<100000→
 zr.l self s m deep l es rest=some (ZR m one l es rest)
 |[],es,rest,_,_,_,he,hn,hn'=>by
  rw[zr.l,xR (by simp only[qn] at hn; omega),qg,X2 fun e h=>(he e h).2.1,qg,sorted_eq (by simp only[qn] at hn'; omega),qg,ZR]
 |r::l,es,rest,ht,ho,hs,he,hn,hn'=>by
  rw[qk] at hn hn';have hr:=ht r (qr ..)
  have ht':∀ r∈l,1≤r.fTag∧r.fTag≤500:=fun x hx=>ht x (qq _ hx)
  have ho':∀ r∈l,∀ y,self s y r deep=some (one y r):=fun x hx=>ho x (qq _ hx)
  rw[zr.l,bnd,ZR]
  by_cases hf:(zf m r.fTag).2=true
  · obtain⟨hft,_⟩:=Ya hf;rw[if_pos hf,if_pos hf,ho r (qr ..),qg]
    by_cases h0:(one (zf m r.fTag).1.fType r).2=0
    · rw[if_pos h0,if_pos h0,decode_put_eq hs (fun e h=>(he e h).1) (by rw[hft]; exact hr) (by omega) (fun e h=>by have:=(he e h).2.2; omega),qg,hft]
      by_cases hp:Xt r.fTag ((zf m r.fTag).1.fLabel=3) es≤64
      · rw[if_pos hp,if_pos (decide_eq_true hp)];refine fldD_eq (es:=wK r.fTag ((zf m r.fTag).1.fLabel=3) (one (zf m r.fTag).1.fType r).1 es) ht' ho' (XB hs) ?_ (by have:=putE_len (t:=r.fTag) (rep:=(zf m r.fTag).1.fLabel=3) (x:=(one (zf m r.fTag).1.fType r).1) (es:=es); omega) (by omega)
        intro e h
        rcases putE_all h with h|⟨h1,h2,h3⟩
        · exact he e h
        exact⟨by rw[h1]; exact hr,h3,by omega⟩
      rw[if_neg hp,if_neg (by simpa using hp)]; rfl
    rw[if_neg h0,if_neg h0]; rfl
  rw[if_neg hf,if_neg hf,xR (by omega),qg];exact fldD_eq ht' ho' hs he (by omega) (by rw[qi,qF]; omega)
def XC (s:GSchema)(n:List UInt8):GMessage:=(zx s n).1
def oneD (msg:GMessage→List UInt8→GTree×Int)(s:GSchema)(y:GType)(r:GRaw):GTree×Int:=
 if (if y.fKind=4∨y.fKind=5∨y.fKind=7 then r.fWire=1 else r.fWire=0) then
  (if y.fKind=3∨y.fKind=6 then (if xf y r.fN=true then (⟨1,r.fN,[],[],[]⟩,0) else (ZX,11))
  else if y.fKind=4 then (if vay r.fB=true then (⟨2,0,r.fB,[],[]⟩,0) else (ZX,9))
  else if y.fKind=7 then msg (XC s y.fName) r.fB
  else (if r.fWire=1 then ⟨2,0,r.fB,[],[]⟩ else ⟨1,r.fN,[],[],[]⟩,0))
 else (ZX,8)
theorem oneD_eq {self:GSchema→GMessage→List UInt8→Int→Option (GTree×Int)}{self2:GSchema→GType→GRaw→Int→Option (GTree×Int)}{s:GSchema}{y:GType}{r:GRaw}{deep:Int}{msg:GMessage→List UInt8→GTree×Int}(hw:r.fWire=0∨r.fWire=1)(hb:r.fB.length≤4096)(hd:deep<1000)(hd':0≤deep)(hs:self s (XC s y.fName) r.fB (deep+1)=some (msg (XC s y.fName) r.fB)):
 zM.body self self2 s y r deep=some (oneD msg s y r):=by
 have hv:=runesV_eq (a:=r.fB) (by omega);have ed:IntKind.i64.wrap (deep+1)=deep+1:=yr (by omega) (by omega)
 have hm:∀ z:GTree×Int,some (z.1,z.2)=some z:=fun z=>rfl
 unfold zM.body zM.j2 zM.j26 zM.j3 zM.j6 zM.j4 oneD bnd;unfold XC at hs ⊢;simp only[YW (show r.fB.length≤9223372036854775807 by omega),hv,ed,qg,hs]
 rcases hw with hw|hw<;>simp only[hw,reduceIte,reduceCtorEq,vo] <;>
  by_cases k4:y.fKind=4<;>by_cases k5:y.fKind=5<;>by_cases k7:y.fKind=7<;>by_cases k3:y.fKind=3<;>by_cases k6:y.fKind=6 <;>
  first
   |(exfalso; omega)
   |(simp only[k4,k5,k7,k3,k6,reduceIte,reduceCtorEq,vo,decide_true,decide_false,or_true,true_or,or_false,false_or,or_self,qZ]<;>first|rfl|(cases xf y r.fN<;>rfl)|(cases vay r.fB<;>rfl))
def getD (b:List UInt8):List GRaw×Int:=(xh b).getD ([],99)
theorem getD_eq (b:List UInt8):xh b=some (getD b):=by
 obtain⟨r,e,_⟩:=vaw b
 unfold getD; rw[e]; rfl
theorem getD_ok {b:List UInt8}(h:(getD b).2=0):b=xK (getD b).1∧b.length≤4096∧∀ x∈(getD b).1,ZB x:=by
 obtain⟨r,e,i,_⟩:=vaw b;rw[getD_eq] at e;obtain rfl:=Option.some.inj e;exact i h
theorem vag : ∀ l:List GRaw,2*l.length≤(xK l).length
 |[]=>ur _
 |r::l=>by
  rw[xL,qi,qk]
  have:=vag l; have:=rawB_pos r; omega
def Xf (s:GSchema):Nat→GMessage→List UInt8→GTree×Int
 |0,_,_=>(ZX,10)
 |d+1,m,b=>if (getD b).2=0 then ZR m (oneD (Xf s d) s) (getD b).1 [] [] else (ZX,(getD b).2)
theorem Yw (s:GSchema):∀ (d k:Nat) (m:GMessage) (b:List UInt8) (deep:Int),d≤10→deep=11-d→2*d+1≤k→zr k s m b deep=some (Xf s d m b)
 |d,0,m,b,deep,_,_,h=>by omega
 |0,k+1,m,b,deep,_,h,_=>by
  rw[zr,zr.body,if_pos (by omega)]; rfl
 |d+1,k+1,m,b,deep,h10,hd,hk=>by
  rw[zr,zr.body,if_neg (by omega),getD_eq,qg,Xf]
  by_cases h0:(getD b).2=0
  · rw[if_pos h0,if_pos h0];obtain⟨hb,hl,hok⟩:=getD_ok h0
    have hlen:(getD b).1.length<100000:=by
     have:=vag (getD b).1
     rw[← hb] at this; omega
    refine fldD_eq ?_ ?_ List.Pairwise.nil (fun _ h=>by cases h) (by rw[qn]; omega) (by rw[qn]; omega)
    · intro r hr
      have:=Zn (hok r hr).1;exact⟨this.1,this.2.1⟩
    intro r hr y
    obtain⟨k',rfl⟩:∃ k',k=k'+1:=⟨k-1,by omega⟩
    rw[zM];have hc:=(Zn (hok r hr).1).2.2
    have hbl:r.fB.length≤4096:=by
     rcases hc with ⟨_,hc⟩|⟨_,_,hc⟩
     · rw[hc]; decide
     exact hc
    refine oneD_eq (by rcases hc with hc|hc; exact Or.inl hc.1; exact Or.inr hc.1) hbl (by omega) (by omega) ?_;exact Yw s d k' _ _ _ (by omega) (by omega) (by omega)
  rw[if_neg h0,if_neg h0]; rfl
theorem decode_eq {s:GSchema}{name b:List UInt8}(hc:zl s=some 0)(hm:(zx s name).2=true):yI s name b=some (Xf s 10 (XC s name) b):=by
 rw[yI,hc,qg,if_pos rfl,bnd,hm,if_neg (by decide),Yw s 10 rounds _ b 1 (qu _) rfl (by have:=yG; omega),qg]; rfl
end
section
set_option maxRecDepth 4000
open AM
def maxD (f:GTree→Nat):List GTree→Nat→Nat
 |[],d=>d
 |x::l,d=>maxD f l (max d (f x))
theorem maxD_ge {f:GTree→Nat}:∀ (l:List GTree) (d:Nat),d≤maxD f l d
 |[],d=>qu _
 |x::l,d=>uv (Nat.le_max_left _ _) (maxD_ge l _)
theorem maxD_mem {f:GTree→Nat}{x:GTree}:∀ {l:List GTree} {d:Nat},x∈l→f x≤maxD f l d
 |y::l,d,h=>by
  rw[maxD]
  rcases qJ.1 h with rfl|h
  · exact uv (Nat.le_max_right _ _) (maxD_ge l _)
  exact maxD_mem h
theorem maxD_le {f:GTree→Nat}{n:Nat}:∀ {l:List GTree} {d:Nat},d≤n→(∀ x∈l,f x≤n)→maxD f l d≤n
 |[],d,h,_=>h
 |x::l,d,h,hl=>maxD_le (l:=l) (Nat.max_le.2 ⟨h,hl x (qr ..)⟩) fun y hy=>hl y (qq _ hy)
theorem maxD_app (f:GTree→Nat):∀ (l m:List GTree) (d:Nat),maxD f (l++m) d=maxD f m (maxD f l d)
 |[],_,_=>rfl
 |x::l,m,d=>maxD_app f l m _
def kids (t:GTree):List GTree:=t.fEntries.flatMap GEntry.fTrees
def vbH : Nat→GTree→Nat
 |0,_=>0
 |m+1,t=>if t.fKind=3 then maxD (vbH m) (kids t) 0+1 else 0
theorem depT_le : ∀ (m:Nat) (t:GTree),vbH m t≤m
 |0,_=>qu _
 |m+1,t=>by
  rw[vbH]; split
  · exact Nat.succ_le_succ (maxD_le (ur _) fun x _=>depT_le m x)
  exact ur _
theorem deep_l20 {self:GTree→Int→Option Int}{m:Nat}(hm:m<1000)(hs:∀ x,self x (m:Int)=some ((vbH m x:Nat):Int)){x7:Int}{rec10:Int→Int→Option Int}:∀ (l:List GTree) (i:Int) (d:Nat),
 zS.l20 self ((m+1:Nat):Int) x7 rec10 l i (d:Int)=rec10 (x7+1) ((maxD (vbH m) l d:Nat):Int)
 |[],i,d=>rfl
 |x::l,i,d=>by
  rw[zS.l20,show IntKind.i64.wrap (((m+1:Nat):Int)-1)=(m:Int) by rw[yr (by omega) (by omega)]; omega,hs,qg,maxD]
  have e:(if (d:Int)<((vbH m x:Nat):Int) then ((vbH m x:Nat):Int) else (d:Int))=((max d (vbH m x):Nat):Int):=by split<;>omega
  rw[e]; exact deep_l20 hm hs l _ _
theorem deep_l10 {self:GTree→Int→Option Int}{m:Nat}(hm:m<1000)(hs:∀ x,self x (m:Int)=some ((vbH m x:Nat):Int)):∀ (l:List GEntry) (i:Int) (d:Nat),d≤1000→
 zS.l10 self ((m+1:Nat):Int) l i (d:Int)=some ((maxD (vbH m) (l.flatMap GEntry.fTrees) d+1:Nat):Int)
 |[],i,d,hd=>by
  rw[zS.l10,yr (by omega) (by omega),q3,maxD]; rfl
 |e::l,i,d,hd=>by
  rw[zS.l10,deep_l20 hm hs,deep_l10 hm hs l _ _ (maxD_le hd fun x _=>uv (depT_le m x) (by omega)),qM,maxD_app]
theorem deep_eq : ∀ (m k:Nat) (t:GTree),m<1000→m<k→zS k t (m:Int)=some ((vbH m t:Nat):Int)
 |m,0,t,_,h=>by omega
 |0,k+1,t,_,_=>by
  rw[zS,zS.body,if_pos (by simp)]; rfl
 |m+1,k+1,t,hm,hk=>by
  rw[zS,zS.body,vbH]
  by_cases h3:t.fKind=3
  · rw[if_neg (by simp only[h3,decide_true,qK,uL,decide_eq_true_eq]; omega),if_pos h3];exact deep_l10 (by omega) (fun x=>deep_eq m k x (by omega) (by omega)) t.fEntries 0 0 (by omega)
  rw[if_pos (by simp[h3]),if_neg h3]; rfl
theorem Depth_eq (t:GTree):wh t=some ((vbH 101 t:Nat):Int):=by
 rw[wh,show (101:Int)=((101:Nat):Int) from rfl,deep_eq 101 rounds t (by omega) (by have:=yG; omega)]; rfl
def risB : List GRaw→Bool
 |a::b::l=>decide (a.fTag≤b.fTag)&&risB (b::l)
 |_=>true
theorem risB_iff : ∀ {l:List GRaw},risB l=true↔l.Pairwise TagLe
 |[]=>by simp[risB]
 |[a]=>by simp[risB]
 |a::b::l=>by
  rw[risB,qo,decide_eq_true_eq,risB_iff,uo (a:=a)]
  constructor
  · rintro ⟨h1,h2⟩;refine⟨?_,h2⟩
    intro c hc
    rcases qJ.1 hc with rfl|hc
    · exact h1
    have:=(uo.1 h2).1 c hc; unfold TagLe at *; omega
  rintro ⟨h1,h2⟩;exact⟨h1 b (qr ..),h2⟩
theorem rising_l {L:List GRaw}(hL:L.length<4611686018427387904):∀ (k:Nat) (A:List GRaw) (a:GRaw) (B:List GRaw),L=A++a::B→B.length<k→xe.l4 L k ((A.length+1:Nat):Int)=some (risB (a::B))
 |0,_,_,_,_,h=>by omega
 |k+1,A,a,[],h,_=>by
  rw[xe.l4,if_neg (by rw[h,qi,qF]; omega)]; rfl
 |k+1,A,a,b::B,h,hk=>by
  have hl:L.length=A.length+(B.length+2):=by rw[h,qi,qk,qk]
  have e1:wV L ((A.length+1:Nat):Int)=some b:=by
   rw[h,show A++a::b::B=(A++[a])++b::B by rw[qp]; rfl];exact ZI (by rw[qi,qF])
  have e2:IntKind.i64.wrap (((A.length+1:Nat):Int)-1)=(A.length:Int):=by rw[yr (by omega) (by omega)]; omega
  have e3:wV L (A.length:Int)=some a:=by rw[h]; exact ZI rfl
  have e4:IntKind.i64.wrap (((A.length+1:Nat):Int)+1)=(((A++[a]).length+1:Nat):Int):=by rw[yr (by omega) (by omega),qi,qF]; omega
  rw[xe.l4,if_pos (by omega),e1,qg,e2,e3,qg,risB]
  by_cases hlt:b.fTag<a.fTag
  · rw[if_pos hlt,decide_eq_false (by omega)]; rfl
  rw[if_neg hlt,e4,rising_l hL k (A++[a]) b B (by rw[h,qp]; rfl) (by simpa using hk),decide_eq_true (by omega),uK]
theorem rising_eq {l:List GRaw}(h:l.length<4611686018427387904):xe l=some (risB l):=by
 cases l with
 |nil=>rfl
 |cons a l=>exact rising_l h rounds [] a l rfl (by have:=yG; rw[qk] at h; omega)
def restB (t:GTree):Bool:=t.fRest.all (fun r=>yu r && !(t.fEntries.any fun e=>decide (e.fTag=r.fTag)))&&risB t.fRest
theorem rest_l16 {x2:Int}{rec4:Int→Option Bool}{y:GRaw}:∀ (l:List GEntry) (i:Int),yq.l16 x2 rec4 y l i=if (l.any fun e=>decide (e.fTag=y.fTag))=true then some false else rec4 (x2+1)
 |[],i=>by rw[yq.l16]; rfl
 |e::l,i=>by
  rw[yq.l16,List.any_cons]
  by_cases h:e.fTag=y.fTag
  · rw[if_pos h,decide_eq_true h,u3,if_pos rfl]
  rw[if_neg h,decide_eq_false h,uL,rest_l16]
theorem rest_l4 {t:GTree}(hr:t.fRest.length<4611686018427387904):∀ (l:List GRaw) (i:Int),yq.l4 t l i=some (l.all (fun r=>yu r && !(t.fEntries.any fun e=>decide (e.fTag=r.fTag)))&&risB t.fRest)
 |[],i=>by rw[yq.l4,rising_eq hr]; rfl
 |r::l,i=>by
  rw[yq.l4,bnd,q5]
  cases hc:yu r with
  |false=>rfl
  |true=>
   rw[if_neg (by decide),rest_l16]
   cases ha:t.fEntries.any fun e=>decide (e.fTag=r.fTag) with
   |true=>rfl
   |false=>rw[if_neg (by decide),rest_l4 hr l]; rfl
theorem rest_eq {t:GTree}(hr:t.fRest.length<4611686018427387904):yq t=some (restB t):=rest_l4 hr _ _
def entB (f:GTree→Bool):Int→List GEntry→Bool
 |_,[]=>true
 |last,e::l=>decide (last<e.fTag∧e.fTag≤500∧1≤e.fTrees.length∧e.fTrees.length≤64)&&(e.fTrees.all fun x=>decide (x.fKind=(e.fTrees.headD ZX).fKind)&&f x)&&entB f e.fTag l
def leafB (t:GTree):Bool:=
 if t.fKind=1 then decide (t.fS=[])&&decide ((qb t.fEntries:Int)=0)&&decide ((qb t.fRest:Int)=0)
 else if t.fKind=2 then decide (t.fN=0)&&decide ((qb t.fEntries:Int)=0)&&decide ((qb t.fRest:Int)=0)
 else false
def wq : Nat→GTree→Bool
 |0,t=>leafB t
 |d+1,t=>if t.fKind=3 then decide (t.fN=0)&&decide (t.fS=[])&&entB (wq d) 0 t.fEntries&&restB t else leafB t
def ownS (t:GTree):Prop:=In64 t.fN∧t.fRest.length≤900000∧∀ r∈t.fRest,In64 r.fN
def szT : Nat→GTree→Prop
 |0,t=>ownS t
 |d+1,t=>ownS t∧∀ x∈kids t,szT d x
theorem vbF {self:GTree→Option Bool}{f:GTree→Bool}{x3:Int}{rec6:Int→Int→Option Bool}{y:GEntry}(hy:1≤y.fTrees.length):∀ (l:List GTree) (i:Int),(∀ x∈l,self x=some (f x))→
 zq.l18 self x3 rec6 y l i=if (l.all fun x=>decide (x.fKind=(y.fTrees.headD ZX).fKind)&&f x)=true then rec6 (x3+1) y.fTag else some false
 |[],i,_=>by rw[zq.l18]; rfl
 |x::l,i,h=>by
  have e1:wV y.fTrees 0=some (y.fTrees.headD ZX):=by
   cases ht:y.fTrees with
   |nil=>rw[ht] at hy; exact absurd hy (by decide)
   |cons a l=>rfl
  rw[zq.l18,e1,qg,q5]
  by_cases hk:x.fKind=(y.fTrees.headD ZX).fKind
  · rw[if_pos hk,h x (qr ..),qg,decide_eq_true hk,uK]
    cases f x with
    |false=>rfl
    |true=>
     rw[zq.j25,if_neg (by decide),vbF hy l _ fun z hz=>h z (qq _ hz),uK]
  rw[if_neg hk,decide_eq_false hk]; rfl
theorem entries_l6 {self:GTree→Option Bool}{f:GTree→Bool}:∀ (l:List GEntry) (i last:Int),(∀ e∈l,∀ x∈e.fTrees,self x=some (f x))→zq.l6 self l i last=some (entB f last l)
 |[],i,last,_=>rfl
 |e::l,i,last,h=>by
  rw[zq.l6,entB]
  by_cases hc:last<e.fTag∧e.fTag≤500∧1≤e.fTrees.length∧e.fTrees.length≤64
  · rw[if_neg (by simp only[qS,decide_eq_true_eq]; omega),vbF hc.2.2.1 e.fTrees 0 (h e (qr ..)),decide_eq_true hc,uK]
    cases ha:e.fTrees.all fun x=>decide (x.fKind=(e.fTrees.headD ZX).fKind)&&f x with
    |false=>rfl
    |true=>rw[if_pos rfl,entries_l6 l _ _ fun y hy=>h y (qq _ hy),uK]
  rw[if_pos (by simp only[qS,decide_eq_true_eq]; omega),decide_eq_false hc]; rfl
theorem YN {t:GTree}{e:GEntry}{x:GTree}(he:e∈t.fEntries)(hx:x∈e.fTrees):x∈kids t:=List.mem_flatMap.2 ⟨e,he,hx⟩
theorem right_eq : ∀ (d m k:Nat) (t:GTree),d<m→vbH m t≤d→2*d<k→szT d t→yK k t=some (wq d t)
 |d,m,0,t,_,_,h,_=>by omega
 |0,m+1,k+1,t,_,hd,_,hz=>by
  have h3:¬ t.fKind=3:=by
   intro h; rw[vbH,if_pos h] at hd; omega
  rw[yK,yK.body,wq,leafB,if_neg h3]
  split<;>first|rfl|(split<;>rfl)
 |d+1,m+1,k+1,t,hm,hd,hk,hz=>by
  rw[yK,yK.body,wq]
  by_cases h3:t.fKind=3
  · have hd':maxD (vbH m) (kids t) 0≤d:=by rw[vbH,if_pos h3] at hd; omega
    obtain⟨k',rfl⟩:∃ k',k=k'+1:=⟨k-1,by omega⟩
    have he:zq (k'+1) t=some (entB (wq d) 0 t.fEntries):=by
     rw[zq,zq.body]
     exact entries_l6 t.fEntries 0 0 fun e he x hx=>right_eq d m k' x (by omega) (uv (maxD_mem (YN he hx)) hd') (by omega) (hz.2 x (YN he hx))
    rw[if_neg (by omega),if_neg (by omega),if_pos h3,if_pos h3,he,rest_eq (by have:=hz.1.2.1; omega)]
    cases decide (t.fN=0)&&decide (t.fS=[]) with
    |false=>rfl
    |true=>cases entB (wq d) 0 t.fEntries<;>rfl
  rw[if_neg h3,if_neg h3,leafB]
  split<;>first|rfl|(split<;>rfl)
def Yz (t:GTree):Bool:=decide (vbH 101 t≤10)&&wq 10 t
theorem check_eq {t:GTree}(hz:szT 10 t):wi t=some (Yz t):=by
 rw[wi,Depth_eq,qg,Yz]
 by_cases h:vbH 101 t≤10
 · rw[if_pos (by omega),right_eq 10 101 rounds t (by omega) h (by have:=yG; omega) hz,decide_eq_true h,uK]; rfl
 rw[if_neg (by omega),decide_eq_false h]; rfl
end
section
set_option maxRecDepth 4000
open AM
theorem in0 : In64 0:=⟨by decide,by decide⟩
def vaS (enc:GTree→Option (List UInt8))(tag:Int)(x:GTree):Option GRaw:=
 if x.fKind=1 then some ⟨tag,0,x.fN,[]⟩
 else if x.fKind=2 then (if 4096<x.fS.length then none else some ⟨tag,1,0,x.fS⟩)
 else (enc x).bind fun b=>some ⟨tag,1,0,b⟩
def rawL (enc:GTree→Option (List UInt8))(tag:Int):List GTree→Option (List GRaw)
 |[]=>some []
 |x::l=>(vaS enc tag x).bind fun r=>(rawL enc tag l).bind fun m=>some (r::m)
def XN (enc:GTree→Option (List UInt8)):List GEntry→Option (List GRaw)
 |[]=>some []
 |e::l=>(rawL enc e.fTag e.fTrees).bind fun a=>(XN enc l).bind fun m=>some (a++m)
def putB (l:List GRaw):Option (List UInt8):=if 4096<(xK l).length then none else some (xK l)
def YF : Nat→GTree→Option (List UInt8)
 |0,_=>none
 |d+1,t=>(XN (YF d) t.fEntries).bind fun L=>putB (srt (t.fRest++L))
def Xq : Nat→GTree→GValueValue
 |0,t=>if t.fKind=1 then .num t.fN else if t.fKind=2 then .str t.fS else .node [] t.fRest
 |d+1,t=>if t.fKind=1 then .num t.fN else if t.fKind=2 then .str t.fS else .node (t.fEntries.map fun e=>⟨e.fTag,e.fTrees.map (Xq d)⟩) t.fRest
theorem made_l62 {self:GTree→Option GValueValue}{f:GTree→GValueValue}{t:GTree}{r12:List GRaw}{y:GEntry}:∀ (l:List GTree) (i:Int) (acc:List GValueValue),(∀ x∈l,self x=some (f x))→acc.length+l.length≤64→
 zH.l62 self t r12 y l i acc=zH.l20 self t r12 rounds [⟨y.fTag,acc++l.map f⟩] 1
 |[],i,acc,_,_=>by
  rw[zH.l62,qx,qw,yr (by decide) (by decide)]; rfl
 |x::l,i,acc,h,hl=>by
  rw[qk] at hl
  rw[zH.l62,h x (qr ..),qg,xR (by omega),qg,made_l62 l _ _ (fun z hz=>h z (qq _ hz)) (by rw[qi,qF]; omega),qp]; rfl
theorem made_l35 {self:GTree→Option GValueValue}{f:GTree→GValueValue}{l14:List GValueEntry}{x16:Int}{rec20:List GValueEntry→Int→Option GValueValue}{y:GEntry}(hl14:l14.length≤1000):∀ (l:List GTree) (i:Int) (acc:List GValueValue),(∀ x∈l,self x=some (f x))→acc.length+l.length≤64→
 zH.l35 self l14 x16 rec20 y l i acc=rec20 (l14++[⟨y.fTag,acc++l.map f⟩]) (IntKind.i64.wrap (x16+1))
 |[],i,acc,_,_=>by
  rw[zH.l35,qx,qw,xR (by omega),qg]
 |x::l,i,acc,h,hl=>by
  rw[qk] at hl
  rw[zH.l35,h x (qr ..),qg,xR (by omega),qg,made_l35 hl14 l _ _ (fun z hz=>h z (qq _ hz)) (by rw[qi,qF]; omega),qp]; rfl
def entV (f:GTree→GValueValue)(e:GEntry):GValueEntry:=⟨e.fTag,e.fTrees.map f⟩
theorem made_l20 {self:GTree→Option GValueValue}{f:GTree→GValueValue}{t:GTree}{r12:List GRaw}(hn:t.fEntries.length≤1000)(hs:∀ e∈t.fEntries,e.fTrees.length≤64∧∀ x∈e.fTrees,self x=some (f x)):∀ (k:Nat) (A B:List GEntry),t.fEntries=A++B→B.length<k→
 zH.l20 self t r12 k (A.map (entV f)) (A.length:Int)=some (.node (t.fEntries.map (entV f)) r12)
 |0,A,B,_,h=>by omega
 |k+1,A,[],h,_=>by
  rw[qw] at h;rw[zH.l20,if_neg (by rw[h]; omega),h]
 |k+1,A,e::B,h,hk=>by
  rw[qk] at hk
  have hl:t.fEntries.length=A.length+(B.length+1):=by rw[h,qi,qk]
  have he:=hs e (by rw[h]; exact ut _ (qr ..))
  have ei:wV t.fEntries (A.length:Int)=some e:=by rw[h]; exact ZI rfl
  rw[zH.l20,if_pos (by omega),ei,qg,made_l35 (f:=f) (by rw[q2]; omega) e.fTrees 0 [] he.2 (by rw[qn]; omega),yr (by omega) (by omega)];have:=made_l20 (self:=self) (f:=f) (r12:=r12) hn hs k (A++[e]) B (by rw[h,qp]; rfl) (by omega);rw[qH,qi,qF] at this;rw[show (A.length:Int)+1=((A.length+1:Nat):Int) by omega];exact this
theorem ZU {f:GTree→Bool}:∀ {l:List GEntry} {last:Int},entB f last l=true→∀ e∈l,last<e.fTag∧e.fTag≤500∧1≤e.fTrees.length∧e.fTrees.length≤64∧(∀ x∈e.fTrees,x.fKind=(e.fTrees.headD ZX).fKind∧f x=true)
 |[],_,_,e,he=>by cases he
 |a::l,last,h,e,he=>by
  rw[entB,qo,qo,decide_eq_true_eq] at h
  rcases qJ.1 he with rfl|he
  · refine⟨h.1.1.1,h.1.1.2.1,h.1.1.2.2.1,h.1.1.2.2.2,fun x hx=>?_⟩;have:=ub.1 h.1.2 x hx;rw[qo,decide_eq_true_eq] at this;exact this
  obtain⟨h1,h2⟩:=ZU h.2 e he;exact⟨by omega,h2⟩
theorem YQ {f:GTree→Bool}:∀ {l:List GEntry} {last:Int},entB f last l=true→l.Pairwise Yb
 |[],_,_=>List.Pairwise.nil
 |a::l,last,h=>by
  rw[entB,qo,qo] at h;rw[uo];exact⟨fun e he=>(ZU h.2 e he).1,YQ h.2⟩
theorem sorted_len {n:Nat}:∀ {l:List GEntry} {lo:Int},l.Pairwise Yb→(∀ e∈l,lo<e.fTag∧e.fTag≤lo+n)→l.length≤n
 |[],_,_,_=>ur _
 |a::l,lo,h,hl=>by
  rw[uo] at h;have ha:=hl a (qr ..)
  cases n with
  |zero=>omega
  |succ n=>
   rw[qk];refine Nat.succ_le_succ (sorted_len (n:=n) (lo:=lo+1) h.2 fun e he=>?_);have h1:=h.1 e he;have h2:=hl e (qq _ he)
   unfold Yb at h1; omega
theorem XZ {d:Nat}{t:GTree}(h:wq (d+1) t=true)(h3:t.fKind=3):t.fEntries.length≤500∧entB (wq d) 0 t.fEntries=true∧restB t=true∧t.fN=0∧t.fS=[]:=by
 rw[wq,if_pos h3] at h;simp only[qo,decide_eq_true_eq] at h;refine⟨?_,h.1.2,h.2,h.1.1.1,h.1.1.2⟩
 exact sorted_len (n:=500) (lo:=0) (YQ h.1.2) fun e he=>by
  have:=ZU h.1.2 e he; omega
theorem XT {t:GTree}(h:leafB t=true):t.fKind=1∨t.fKind=2:=by
 unfold leafB at h
 split at h
 · exact Or.inl ‹_›
 split at h
 · exact Or.inr ‹_›
 cases h
theorem vae {d:Nat}{t:GTree}(h:wq d t=true):t.fKind=1∨t.fKind=2∨t.fKind=3:=by
 cases d with
 |zero=>rcases XT h with h|h; exact Or.inl h; exact Or.inr (Or.inl h)
 |succ d=>
  rw[wq] at h
  split at h
  · exact Or.inr (Or.inr ‹_›)
  rcases XT h with h|h; exact Or.inl h; exact Or.inr (Or.inl h)
theorem made_eq : ∀ (d k:Nat) (t:GTree),d<k→wq d t=true→szT d t→zH k t=some (Xq d t)
 |d,0,t,h,_,_=>by omega
 |0,k+1,t,_,hr,_=>by
  rw[zH,zH.body,Xq]
  rcases XT hr with h|h
  · rw[if_pos h,if_pos h]; rfl
  rw[if_neg (by omega),if_pos h,if_neg (by omega),if_pos h]; rfl
 |d+1,k+1,t,hk,hr,hz=>by
  rw[zH,zH.body,Xq]
  by_cases h1:t.fKind=1
  · rw[if_pos h1,if_pos h1]; rfl
  by_cases h2:t.fKind=2
  · rw[if_neg h1,if_pos h2,if_neg h1,if_pos h2]; rfl
  have h3:t.fKind=3:=by rcases vae hr with h|h|h<;>omega
  obtain⟨hl,he,_,_,_⟩:=XZ hr h3
  have hs:∀ e∈t.fEntries,e.fTrees.length≤64∧∀ x∈e.fTrees,zH k x=some (Xq d x):=fun e hm=>by
   have:=ZU he e hm;exact⟨this.2.2.2.1,fun x hx=>made_eq d k x (by omega) (this.2.2.2.2 x hx).2 (hz.2 x (YN hm hx))⟩
  rw[if_neg h1,if_neg h2,if_neg h1,if_neg h2,yD,xR (by have:=hz.1.2.1; omega),qg,qg]
  cases hE:t.fEntries with
  |nil=>rfl
  |cons a E=>
   rw[if_pos (by rw[qk]; omega)];have ha:=hs a (by rw[hE]; exact qr ..);rw[idx_t (u7 0) (show (a::E)[qN 0]?=some a from rfl),qg,made_l62 (f:=Xq d) a.fTrees 0 [] ha.2 (by rw[qn]; omega)];have:=made_l20 (self:=zH k) (f:=Xq d) (r12:=t.fRest) (by omega) hs rounds [a] E (by rw[hE]; rfl) (by have:=yG; rw[hE,qk] at hl; omega);rw[hE] at this;exact this
theorem of_eq {t:GTree}(hz:szT 10 t):Zs t=some (if Yz t=true then (Xq 10 t,true) else (.nil,false)):=by
 rw[Zs,check_eq hz,qg]
 by_cases h:Yz t=true
 · rw[h]
   have hr:wq 10 t=true:=by unfold Yz at h; rw[qo] at h; exact h.2
   rw[if_neg (by decide),made_eq 10 rounds t (by have:=yG; omega) hr hz]; rfl
 rw[if_pos (by simpa using h),if_neg h]
theorem tags_l8 : ∀ (l:List GValueEntry) (i:Int) (acc:List Int),acc.length+l.length≤1000→zU.l8 l i acc=some (acc++l.map GValueEntry.ftag)
 |[],i,acc,_=>by rw[zU.l8,qx,qw]
 |e::l,i,acc,h=>by
  rw[qk] at h
  rw[zU.l8,xR (by omega),qg,tags_l8 l _ _ (by rw[qi,qF]; omega),qp]; rfl
theorem get_l4 {f:GTree→GValueValue}{e:GEntry}{B:List GEntry}(he:e.fTrees.length≤64):∀ (A:List GEntry) (i:Int),(∀ a∈A,a.fTag≠e.fTag)→yh.l4 e.fTag ((A++e::B).map (entV f)) i=some (e.fTrees.map f)
 |[],i,_=>by
  rw[qz,qG,yh.l4,if_pos (show (entV f e).ftag=e.fTag from rfl),show (entV f e).fl=e.fTrees.map f from rfl,wa,xR (by rw[q2]; omega)]; rfl
 |a::A,i,h=>by
  rw[qA,qG,yh.l4,if_neg (show ¬ (entV f a).ftag=e.fTag from h a (qr ..))]
  exact get_l4 he A _ fun b hb=>h b (qq _ hb)
theorem rawL_len {enc:GTree→Option (List UInt8)}{tag:Int}:∀ {l:List GTree} {m:List GRaw},rawL enc tag l=some m→m.length=l.length
 |[],m,h=>by cases h; rfl
 |x::l,m,h=>by
  obtain⟨r,_,h⟩:=bind_some h;obtain⟨m',h1,h⟩:=bind_some h;cases h;rw[qk,qk,rawL_len h1]
def vbt (o:Option (List GRaw))(k:List GRaw→Option (List GRaw×Int)):Option (List GRaw×Int):=
 match o with
 |some m=>k m
 |none=>some ([],4)
theorem raws_l24 {selfR:Int→GValueValue→Option (GRaw×Int)}{f:GTree→GValueValue}{enc:GTree→Option (List UInt8)}{x6:Int}{rec10:Int→List GRaw→Option (List GRaw×Int)}{tag:Int}:∀ (l:List GTree) (i:Int) (acc:List GRaw),(∀ x∈l,selfR tag (f x)=some (match vaS enc tag x with|some r=>(r,0)|none=>(⟨0,0,0,[]⟩,4)))→acc.length+l.length<3518437208882→
 zN.l24 selfR x6 rec10 tag (l.map f) i acc=vbt (rawL enc tag l) fun m=>rec10 (x6+1) (acc++m)
 |[],i,acc,_,_=>by rw[qx,zN.l24,rawL,vbt,qw]
 |x::l,i,acc,h,hl=>by
  rw[qk] at hl;rw[qG,zN.l24,h x (qr ..),qg,rawL]
  cases hx:vaS enc tag x with
  |none=>rfl
  |some r=>
   dsimp only
   rw[if_pos rfl,xR (by omega),qg,raws_l24 l _ _ (fun z hz=>h z (qq _ hz)) (by rw[qi,qF]; omega),qg]
   cases rawL enc tag l with
   |none=>rfl
   |some m=>simp only[vbt,qg,qp,qA,qz]
theorem raws_l10 {selfR:Int→GValueValue→Option (GRaw×Int)}{f:GTree→GValueValue}{enc:GTree→Option (List UInt8)}{E:List GEntry}{rest:List GRaw}(hs:E.Pairwise Yb)(ht:∀ e∈E,e.fTrees.length≤64∧∀ x∈e.fTrees,selfR e.fTag (f x)=some (match vaS enc e.fTag x with|some r=>(r,0)|none=>(⟨0,0,0,[]⟩,4)))(hn:E.length≤500):
 ∀ (B A:List GEntry) (i:Int) (acc:List GRaw),E=A++B→acc.length≤900000+64*A.length→zN.l10 selfR ⟨E.map (entV f),rest⟩ (B.map GEntry.fTag) i acc=vbt (XN enc B) fun m=>some (srt (acc++m),0)
 |[],A,i,acc,h,ha=>by
  have hl:E.length=A.length:=by rw[h,qw]
  rw[qx,zN.l10,sorted_eq (by omega),XN,vbt,qw]; rfl
 |e::B,A,i,acc,h,ha=>by
  have hl:E.length=A.length+(B.length+1):=by rw[h,qi,qk]
  have he:=ht e (by rw[h]; exact ut _ (qr ..))
  have hA:∀ a∈A,a.fTag≠e.fTag:=fun a hm=>by
   rw[h] at hs;have:=(List.pairwise_append.1 hs).2.2 a hm e (qr ..)
   unfold Yb at this; omega
  have hg:yh ⟨E.map (entV f),rest⟩ e.fTag=some (e.fTrees.map f):=by
   rw[yh,h]; exact get_l4 he.1 A 0 hA
  rw[qG,zN.l10,hg,qg,raws_l24 (enc:=enc) e.fTrees 0 acc he.2 (by omega),XN]
  cases hL:rawL enc e.fTag e.fTrees with
  |none=>rfl
  |some m=>
   have hm:=rawL_len hL;rw[vbt,raws_l10 hs ht hn B (A++[e]) _ _ (by rw[h,qp]; rfl) (by rw[qi,qi,qF]; omega),qg]
   cases XN enc B with
   |none=>rfl
   |some m'=>simp only[vbt,qg,qp]
end
section
set_option maxRecDepth 4000
open AM
theorem vbq {l:List GRaw}{b:List UInt8}(h:putB l=some b):b=xK l∧b.length≤4096:=by
 unfold putB at h
 split at h
 · cases h
 cases h; exact⟨rfl,by omega⟩
theorem vbG {d:Nat}{t:GTree}{b:List UInt8}(h:YF d t=some b):b.length≤4096:=by
 cases d with
 |zero=>cases h
 |succ d=>
  rw[YF] at h;obtain⟨L,_,h⟩:=bind_some h;exact (vbq h).2
theorem rawT_ok {d:Nat}{tag:Int}{x:GTree}{r:GRaw}(h1:1≤tag)(h2:tag≤500)(hx:In64 x.fN)(h:vaS (YF d) tag x=some r):ZB r∧r.fTag=tag:=by
 unfold vaS at h
 split at h
 · cases h; exact⟨⟨check_num h1 h2,hx⟩,rfl⟩
 split at h
 · split at h
   · cases h
   cases h; exact⟨⟨vau h1 h2 (by omega),in0⟩,rfl⟩
 obtain⟨b,hb,h⟩:=bind_some h
 cases h; exact⟨⟨vau h1 h2 (vbG hb),in0⟩,rfl⟩
theorem rawL_ok {d:Nat}{tag:Int}(h1:1≤tag)(h2:tag≤500):∀ {l:List GTree} {m:List GRaw},(∀ x∈l,In64 x.fN)→rawL (YF d) tag l=some m→∀ r∈m,ZB r∧r.fTag=tag
 |[],m,_,h,r,hr=>by cases h; cases hr
 |x::l,m,hx,h,r,hr=>by
  obtain⟨a,ha,h⟩:=bind_some h;obtain⟨m',hm,h⟩:=bind_some h;cases h
  rcases qJ.1 hr with rfl|hr
  · exact rawT_ok h1 h2 (hx x (qr ..)) ha
  exact rawL_ok h1 h2 (fun z hz=>hx z (qq _ hz)) hm r hr
theorem rawE_ok {d:Nat}:∀ {l:List GEntry} {m:List GRaw},(∀ e∈l,1≤e.fTag∧e.fTag≤500∧∀ x∈e.fTrees,In64 x.fN)→XN (YF d) l=some m→∀ r∈m,ZB r∧∃ e∈l,r.fTag=e.fTag
 |[],m,_,h,r,hr=>by cases h; cases hr
 |e::l,m,hx,h,r,hr=>by
  obtain⟨a,ha,h⟩:=bind_some h;obtain⟨m',hm,h⟩:=bind_some h;cases h;have he:=hx e (qr ..)
  rcases un.1 hr with hr|hr
  · have:=rawL_ok he.1 he.2.1 he.2.2 ha r hr;exact⟨this.1,e,qr ..,this.2⟩
  obtain⟨h1,e',h2,h3⟩:=rawE_ok (fun z hz=>hx z (qq _ hz)) hm r hr;exact⟨h1,e',qq _ h2,h3⟩
theorem szT_own {d:Nat}{t:GTree}(h:szT d t):ownS t:=by
 cases d with
 |zero=>exact h
 |succ d=>exact h.1
theorem restB_mem {t:GTree}(h:restB t=true):(∀ r∈t.fRest,yu r=true∧∀ e∈t.fEntries,e.fTag≠r.fTag)∧t.fRest.Pairwise TagLe:=by
 unfold restB at h;rw[qo] at h;refine⟨fun r hr=>?_,risB_iff.1 h.2⟩;have:=ub.1 h.1 r hr;rw[qo,uD] at this;refine⟨this.1,fun e he hc=>?_⟩;have h2:=List.any_eq_false.1 this.2 e he;exact h2 (decide_eq_true hc)
theorem raws_ok {d:Nat}{t:GTree}{L:List GRaw}(hr:wq (d+1) t=true)(h3:t.fKind=3)(hz:szT (d+1) t)(hL:XN (YF d) t.fEntries=some L):∀ r∈srt (t.fRest++L),ZB r:=by
 obtain⟨_,he,hb,_,_⟩:=XZ hr h3
 intro r hm
 rw[srt_mem] at hm
 rcases un.1 hm with hm|hm
 · exact⟨((restB_mem hb).1 r hm).1,hz.1.2.2 r hm⟩
 exact (rawE_ok (fun e hm=>by
  have:=ZU he e hm
  exact⟨by omega,this.2.1,fun x hx=>(szT_own (hz.2 x (YN hm hx))).1⟩) hL r hm).1
def orBad (o:Option (List UInt8)):List UInt8×Int:=
 match o with
 |some b=>(b,0)
 |none=>([],4)
theorem vbr {l:List GRaw}(h:∀ r∈l,ZB r):zX l=some (orBad (putB l)):=by
 rw[putAll_eq fun r hr=>(h r hr).2,if_pos (ub.2 fun r hr=>(h r hr).1),putB]
 split
 · rfl
 rfl
theorem tags_eq {f:GTree→GValueValue}{E:List GEntry}{rest:List GRaw}(h:E.length≤500):zU ⟨E.map (entV f),rest⟩=some (E.map GEntry.fTag):=by
 rw[zU];have:=tags_l8 (E.map (entV f)) 0 [] (by rw[qn,q2]; omega)
 rw[this,qz,List.map_map]; rfl
theorem raws_eq {selfB:GValueNode→Option (List UInt8×Int)}{selfR:Int→GValueValue→Option (GRaw×Int)}{selfS:GValueNode→Option (List GRaw×Int)}{f:GTree→GValueValue}{enc:GTree→Option (List UInt8)}{E:List GEntry}{rest:List GRaw}(hs:E.Pairwise Yb)(ht:∀ e∈E,e.fTrees.length≤64∧∀ x∈e.fTrees,selfR e.fTag (f x)=some (match vaS enc e.fTag x with|some r=>(r,0)|none=>(⟨0,0,0,[]⟩,4)))(hn:E.length≤500)(hr:rest.length≤900000):
 zN.body selfB selfR selfS ⟨E.map (entV f),rest⟩=vbt (XN enc E) fun m=>some (srt (rest++m),0):=by
 rw[zN.body,tags_eq hn,wm,yD,xR (by dsimp only; omega),qg,qg,qg,qg];exact raws_l10 hs ht hn E [] 0 rest rfl (by rw[qn]; omega)
theorem bytes_eq : ∀ (d k:Nat) (t:GTree) (es:List GValueEntry) (rs:List GRaw),3*d≤k→wq d t=true→t.fKind=3→szT d t→Xq d t=.node es rs→yS k ⟨es,rs⟩=some (orBad (YF d t))
 |0,k,t,es,rs,_,hr,h3,_,_=>by
  rcases XT hr with h|h<;>omega
 |d+1,k,t,es,rs,hk,hr,h3,hz,hv=>by
  obtain⟨k',rfl⟩:∃ k',k=k'+3:=⟨k-3,by omega⟩
  obtain⟨hl,he,hb,_,_⟩:=XZ hr h3;rw[Xq,if_neg (by omega),if_neg (by omega)] at hv;cases hv
  have hs:∀ e∈t.fEntries,e.fTrees.length≤64∧∀ x∈e.fTrees,yv (k'+1) e.fTag (Xq d x)=some (match vaS (YF d) e.fTag x with|some r=>(r,0)|none=>(⟨0,0,0,[]⟩,4)):=by
   intro e hm
   have h1:=ZU he e hm;refine⟨h1.2.2.2.1,fun x hx=>?_⟩;have hrx:=(h1.2.2.2.2 x hx).2;have hzx:=hz.2 x (YN hm hx);rw[yv,yv.body,vaS]
   rcases vae hrx with h|h|h
   · have hv:Xq d x=.num x.fN:=by cases d<;>rw[Xq,if_pos h]
     rw[hv,if_pos h]; rfl
   · have hv:Xq d x=.str x.fS:=by cases d<;>rw[Xq,if_neg (by omega),if_pos h]
     rw[hv,if_neg (by omega),if_pos h,show xO (.str x.fS)=some (.str x.fS) from rfl,qg]
     dsimp only
     rw[yv.j3]
     by_cases hc:4096<x.fS.length
     · rw[if_pos hc,if_pos (by dsimp only; omega)]
     rw[if_neg hc,if_neg (by dsimp only; omega)]
   have h1':¬ x.fKind=1:=by omega
   have h2':¬ x.fKind=2:=by omega
   obtain⟨es,rs,hv⟩:∃ es rs,Xq d x=.node es rs:=by cases d<;>exact⟨_,_,by rw[Xq,if_neg h1',if_neg h2']⟩
   rw[hv,if_neg h1',if_neg h2',show xO (.node es rs)=some (.node es rs) from rfl,qg]
   dsimp only
   rw[bytes_eq d k' x es rs (by omega) hrx h hzx hv,qg]
   cases hx':YF d x with
   |none=>rfl
   |some b=>
    have hbl:=vbG hx'
    rw[orBad]; dsimp only
    rw[if_pos rfl,yv.j3,if_neg (by dsimp only; omega),qg]
  have hR:zN (k'+2) ⟨t.fEntries.map fun e=>⟨e.fTag,e.fTrees.map (Xq d)⟩,t.fRest⟩=vbt (XN (YF d) t.fEntries) fun m=>some (srt (t.fRest++m),0):=by
   rw[zN];exact raws_eq (f:=Xq d) (YQ he) hs hl hz.1.2.1
  rw[yS,yS.body,hR,YF]
  cases hL:XN (YF d) t.fEntries with
  |none=>rfl
  |some L=>
   rw[vbt,qg]; dsimp only
   rw[if_pos rfl,vbr (raws_ok hr h3 hz hL),qg,qg]
theorem rawE_eq {d k:Nat}{t:GTree}(hk:3*d+2≤k)(hr:wq (d+1) t=true)(h3:t.fKind=3)(hz:szT (d+1) t):zN k ⟨t.fEntries.map (entV (Xq d)),t.fRest⟩=vbt (XN (YF d) t.fEntries) fun m=>some (srt (t.fRest++m),0):=by
 obtain⟨k',rfl⟩:∃ k',k=k'+2:=⟨k-2,by omega⟩
 obtain⟨hl,he,hb,_,_⟩:=XZ hr h3;rw[zN];refine raws_eq (f:=Xq d) (YQ he) ?_ hl hz.1.2.1
 intro e hm
 have h1:=ZU he e hm;refine⟨h1.2.2.2.1,fun x hx=>?_⟩;have hrx:=(h1.2.2.2.2 x hx).2;have hzx:=hz.2 x (YN hm hx);rw[yv,yv.body,vaS]
 rcases vae hrx with h|h|h
 · have hv:Xq d x=.num x.fN:=by cases d<;>rw[Xq,if_pos h]
   rw[hv,if_pos h]; rfl
 · have hv:Xq d x=.str x.fS:=by cases d<;>rw[Xq,if_neg (by omega),if_pos h]
   rw[hv,if_neg (by omega),if_pos h,show xO (.str x.fS)=some (.str x.fS) from rfl,qg]
   dsimp only
   rw[yv.j3]
   by_cases hc:4096<x.fS.length
   · rw[if_pos hc,if_pos (by dsimp only; omega)]
   rw[if_neg hc,if_neg (by dsimp only; omega)]
 have h1':¬ x.fKind=1:=by omega
 have h2':¬ x.fKind=2:=by omega
 obtain⟨es,rs,hv⟩:∃ es rs,Xq d x=.node es rs:=by cases d<;>exact⟨_,_,by rw[Xq,if_neg h1',if_neg h2']⟩
 rw[hv,if_neg h1',if_neg h2',show xO (.node es rs)=some (.node es rs) from rfl,qg]
 dsimp only
 rw[bytes_eq d k' x es rs (by omega) hrx h hzx hv,qg]
 cases hx':YF d x with
 |none=>rfl
 |some b=>
  have hbl:=vbG hx'
  rw[orBad]; dsimp only
  rw[if_pos rfl,yv.j3,if_neg (by dsimp only; omega),qg]
theorem vbJ {t:GTree}(h:Yz t=true):wq 10 t=true∧vbH 101 t≤10:=by
 unfold Yz at h;rw[qo,decide_eq_true_eq] at h;exact⟨h.2,h.1⟩
theorem Raws_eq {t:GTree}(hz:szT 10 t):wk t=some (if Yz t=true∧t.fKind=3 then (match XN (YF 9) t.fEntries with|some L=>(srt (t.fRest++L),(0:Int))|none=>([],4)) else ([],1)):=by
 rw[wk,of_eq hz,qg]
 by_cases hc:Yz t=true
 · rw[if_pos hc]
   by_cases h3:t.fKind=3
   · rw[if_neg (by rw[decide_eq_true h3]; exact uJ),if_pos ⟨hc,h3⟩]
     have hv:Xq 10 t=.node (t.fEntries.map (entV (Xq 9))) t.fRest:=by rw[Xq,if_neg (by omega),if_neg (by omega)]; rfl
     rw[hv,show yo (.node (t.fEntries.map (entV (Xq 9))) t.fRest)=some ⟨t.fEntries.map (entV (Xq 9)),t.fRest⟩ from rfl,qg,rawE_eq (d:=9) (by have:=yG; omega) (vbJ hc).1 h3 hz]
     cases XN (YF 9) t.fEntries<;>rfl
   rw[if_pos (by rw[decide_eq_false h3]; rfl),if_neg (fun h=>h3 h.2)]
 rw[if_neg hc,if_pos (by rfl),if_neg (fun h=>hc h.1)]
theorem Encode_eq {t:GTree}(hz:szT 10 t):xa t=some (if Yz t=true∧t.fKind=3 then orBad (YF 10 t) else ([],1)):=by
 rw[xa,Raws_eq hz,qg]
 by_cases hc:Yz t=true∧t.fKind=3
 · rw[if_pos hc,if_pos hc,YF]
   cases hL:XN (YF 9) t.fEntries with
   |none=>rfl
   |some L=>
    dsimp only
    rw[if_pos rfl,vbr (raws_ok (vbJ hc.1).1 hc.2 hz hL),qg,qg]
 rw[if_neg hc,if_neg hc]; rfl
end
section
set_option maxRecDepth 4000
open AM

end
section
set_option maxRecDepth 4000
open AM
def deepT : Nat→GTree→Prop
 |0,t=>kids t=[]
 |d+1,t=>∀ x∈kids t,deepT d x
theorem rawEqB {r:GRaw}:(!(decide (r.fTag=r.fTag)&&(decide (r.fWire=r.fWire)&&(decide (r.fN=r.fN)&&decide (r.fB=r.fB)))))=false:=by simp
theorem same_l28 {self:GTree→GTree→Option Bool}{x11:Int}{rec13:Int→Option Bool}{y:GEntry}:∀ (B A:List GTree),y.fTrees=A++B→(∀ x∈B,self x x=some true)→zL.l28 self x11 rec13 y B (A.length:Int)=rec13 (x11+1)
 |[],A,_,_=>rfl
 |x::B,A,h,hs=>by
  have ei:wV y.fTrees (A.length:Int)=some x:=by rw[h]; exact ZI rfl
  rw[zL.l28,ei,qg,hs x (qr ..),qg,if_neg (by decide),show (A.length:Int)+1=((A++[x]).length:Int) by rw[qi,qF]; omega]
  exact same_l28 B (A++[x]) (by rw[h,qp]; rfl) fun z hz=>hs z (qq _ hz)
theorem same_l13 {self:GTree→GTree→Option Bool}{t:GTree}:∀ (B A:List GEntry),t.fEntries=A++B→(∀ e∈B,∀ x∈e.fTrees,self x x=some true)→zL.l13 self t B (A.length:Int)=some true
 |[],A,_,_=>rfl
 |e::B,A,h,hs=>by
  have ei:wV t.fEntries (A.length:Int)=some e:=by rw[h]; exact ZI rfl
  rw[zL.l13,ei,qg,if_neg (by simp)];have:=same_l28 (self:=self) (x11:=(A.length:Int)) (rec13:=zL.l13 self t B) (y:=e) e.fTrees [] rfl (hs e (qr ..));rw[qn] at this;refine this.trans ?_;rw[show (A.length:Int)+1=((A++[e]).length:Int) by rw[qi,qF]; omega]
  exact same_l13 B (A++[e]) (by rw[h,qp]; rfl) fun z hz=>hs z (qq _ hz)
theorem same_l8 {self:GTree→GTree→Option Bool}{t:GTree}:∀ (B A:List GRaw),t.fRest=A++B→zL.l8 self t t B (A.length:Int)=zL.l13 self t t.fEntries 0
 |[],A,_=>rfl
 |r::B,A,h=>by
  have ei:wV t.fRest (A.length:Int)=some r:=by rw[h]; exact ZI rfl
  rw[zL.l8,ei,qg,rawEqB,if_neg (by decide),show (A.length:Int)+1=((A++[r]).length:Int) by rw[qi,qF]; omega];exact same_l8 B (A++[r]) (by rw[h,qp]; rfl)
theorem same_refl : ∀ (d k:Nat) (t:GTree),d<k→deepT d t→zL k t t=some true
 |d,0,t,h,_=>by omega
 |d,k+1,t,hk,hd=>by
  rw[zL,zL.body,if_neg (by simp)];have h8:=same_l8 (self:=zL k) (t:=t) t.fRest [] rfl;rw[qn] at h8;refine h8.trans ?_
  have h13:=same_l13 (self:=zL k) (t:=t) t.fEntries [] rfl fun e he x hx=>by
   have hm:=YN he hx
   cases d with
   |zero=>rw[show kids t=[] from hd] at hm; cases hm
   |succ d=>exact same_refl d k x (by omega) (hd x hm)
  rw[qn] at h13;exact h13
theorem Same_refl {d:Nat}{t:GTree}(hd:d<1000)(h:deepT d t):zL rounds t t=some true:=same_refl d rounds t (by have:=yG; omega) h
theorem right_deep : ∀ (d:Nat) (t:GTree),wq d t=true→deepT d t
 |0,t,h=>by
  have:t.fEntries=[]:=by
   unfold wq leafB at h
   split at h
   · simp only[qo,decide_eq_true_eq] at h;exact qE.1 (by omega)
   split at h
   · simp only[qo,decide_eq_true_eq] at h;exact qE.1 (by omega)
   cases h
  rw[deepT,kids,this]; rfl
 |d+1,t,h=>by
  rw[deepT]
  intro x hx
  obtain⟨e,he,hxe⟩:=List.mem_flatMap.1 hx
  by_cases h3:t.fKind=3
  · obtain⟨_,hE,_⟩:=XZ h h3;exact right_deep d x ((ZU hE e he).2.2.2.2 x hxe).2
  rw[wq,if_neg h3] at h
  have:t.fEntries=[]:=by
   unfold leafB at h
   split at h
   · simp only[qo,decide_eq_true_eq] at h;exact qE.1 (by omega)
   split at h
   · simp only[qo,decide_eq_true_eq] at h;exact qE.1 (by omega)
   cases h
  rw[this] at he; cases he
end
section
set_option maxRecDepth 4000
open AM
theorem count_l (a:List UInt8):∀ (k p:Nat) (x:Int),0<k→a.length<p+k→∃ v,yB.l9 a k p x=some v
 |0,p,x,h0,hk=>by omega
 |k+1,p,x,_,hk=>by
  have hd:=ZV a p;rw[yB.l9]
  split
  · exact count_l a k _ _ (by omega) (by omega)
  exact⟨_,rfl⟩
theorem count_t {a:List UInt8}(h:a.length≤9223372036854775807):∃ v,yB a=some v:=by
 rw[yB,runesV_eq h,qg]
 split
 · exact⟨_,rfl⟩
 exact count_l a rounds 0 0 (by have:=yG; omega) (by have:=yG; omega)
theorem name_l (a:List UInt8):∀ (k p:Nat),0<k→a.length<p+k→∃ v,yl.l11 a k p=some v
 |0,p,h0,hk=>by omega
 |k+1,p,_,hk=>by
  have hd:=ZV a p;rw[yl.l11]
  split
  · obtain⟨v,e⟩:=name_l a k (p+(Ye a p).2) (by omega) (by omega);rw[e];unfold bnd
    dsimp only
    repeat' split
    all_goals exact⟨_,rfl⟩
  exact⟨_,rfl⟩
def nameV (a:List UInt8):Bool:=(yl a).getD false
def nmOk (a:List UInt8):Prop:=a.length≤140737488351232
theorem nameV_eq {a:List UInt8}(h:nmOk a):yl a=some (nameV a):=by
 unfold nmOk at h
 have:∃ v,yl a=some v:=by
  obtain⟨v,e⟩:=count_t (a:=a) (by omega);rw[yl,e,qg];obtain⟨w,ew⟩:=name_l a rounds 0 (by have:=yG; omega) (by have:=yG; omega);rw[ew];unfold bnd
  dsimp only
  repeat' split
  all_goals exact⟨_,rfl⟩
 obtain⟨v,e⟩:=this
 unfold nameV; rw[e]; rfl
theorem vbe {m:List (List UInt8×Bool)}{a:List UInt8}(h:nmOk a):∃ r,z7 m a=some r:=by
 rw[z7,nameV_eq h,qg]
 split<;>exact⟨_,rfl⟩
def nmM (m:GMessage):Prop:=nmOk m.fName∧∀ f∈m.fFields,nmOk f.fName
def nmE (e:GEnumeration):Prop:=nmOk e.fName∧∀ v∈e.fValues,nmOk v.fName
def nmS (s:GSchema):Prop:=nmOk s.fName∧(∀ m∈s.fMessages,nmM m)∧(∀ e∈s.fEnums,nmE e)∧∀ x∈s.fMethods,nmOk x.fName
theorem msg_l21 {s:GSchema}{r2:Bool×List (List UInt8×Bool)}:∀ (l:List GField) (i:Int) (a:List (Int×Bool)) (b:List (List UInt8×Bool)),(∀ f∈l,nmOk f.fName)→∃ r,zp.l21 s r2 l i a b=some r
 |[],i,a,b,_=>⟨_,rfl⟩
 |f::l,i,a,b,h=>by
  obtain⟨r,e⟩:=vbe (m:=b) (h f (qr ..));rw[zp.l21,e,qg]
  split
  · exact⟨_,rfl⟩
  unfold bnd
  dsimp only
  split
  · exact⟨_,rfl⟩
  split
  · exact⟨_,rfl⟩
  exact msg_l21 l _ _ _ fun g hg=>h g (qq _ hg)
theorem msg_l12 {s:GSchema}{m:GMessage}{r2:Bool×List (List UInt8×Bool)}(hm:∀ f∈m.fFields,nmOk f.fName):∀ (l:List Int) (i:Int) (a:List (Int×Bool)),∃ r,zp.l12 s m r2 l i a=some r
 |[],i,a=>msg_l21 _ _ _ _ hm
 |n::l,i,a=>by
  rw[zp.l12];unfold bnd
  dsimp only
  split
  · exact⟨_,rfl⟩
  exact msg_l12 hm l _ _
theorem msg_t {s:GSchema}{a:List (List UInt8×Bool)}{m:GMessage}(hm:nmM m):∃ r,zp s a m=some r:=by
 obtain⟨r,e⟩:=vbe (m:=a) hm.1;rw[zp,e,qg]
 split
 · exact⟨_,rfl⟩
 split
 · exact⟨_,rfl⟩
 exact msg_l12 hm.2 _ _ _
theorem enum_l23 {r2:Bool×List (List UInt8×Bool)}:∀ (l:List GNamed) (i:Int) (a:List (List UInt8×Bool)) (b:List (Int×Bool)),(∀ f∈l,nmOk f.fName)→∃ r,yf.l23 r2 l i a b=some r
 |[],i,a,b,_=>⟨_,rfl⟩
 |f::l,i,a,b,h=>by
  obtain⟨r,e⟩:=vbe (m:=a) (h f (qr ..));rw[yf.l23,e,qg]
  split
  · exact⟨_,rfl⟩
  split
  · exact⟨_,rfl⟩
  exact enum_l23 l _ _ _ fun g hg=>h g (qq _ hg)
theorem enum_l12 {x:GEnumeration}{r2:Bool×List (List UInt8×Bool)}(hx:∀ v∈x.fValues,nmOk v.fName):∀ (l:List GNamed) (i:Int) (z:Bool),∃ r,yf.l12 x r2 l i z=some r
 |[],i,z=>by
  rw[yf.l12]
  split
  · exact⟨_,rfl⟩
  exact enum_l23 _ _ _ _ hx
 |v::l,i,z=>by rw[yf.l12]; exact enum_l12 hx l _ _
theorem enum_t {a:List (List UInt8×Bool)}{x:GEnumeration}(hx:nmE x):∃ r,yf a x=some r:=by
 obtain⟨r,e⟩:=vbe (m:=a) hx.1;rw[yf,e,qg]
 split
 · exact⟨_,rfl⟩
 split
 · exact⟨_,rfl⟩
 exact enum_l12 hx.2 _ _ _
theorem chk_l29 {s:GSchema}:∀ (l:List GMethod) (i:Int) (a:List (List UInt8×Bool)),(∀ x∈l,nmOk x.fName)→∃ r,zl.l29 s l i a=some r
 |[],i,a,_=>⟨_,rfl⟩
 |x::l,i,a,h=>by
  obtain⟨r,e⟩:=vbe (m:=a) (h x (qr ..));rw[zl.l29];unfold bnd
  dsimp only
  rw[e,qg]
  split
  · exact⟨_,rfl⟩
  split
  · exact⟨_,rfl⟩
  exact chk_l29 l _ _ fun g hg=>h g (qq _ hg)
theorem chk_l22 {s:GSchema}(hs:∀ x∈s.fMethods,nmOk x.fName):∀ (l:List GEnumeration) (i:Int) (a:List (List UInt8×Bool)),(∀ x∈l,nmE x)→∃ r,zl.l22 s l i a=some r
 |[],i,a,_=>chk_l29 _ _ _ hs
 |x::l,i,a,h=>by
  obtain⟨r,e⟩:=enum_t (a:=a) (h x (qr ..));rw[zl.l22,e,qg]
  split
  · exact chk_l22 hs l _ _ fun g hg=>h g (qq _ hg)
  exact⟨_,rfl⟩
theorem chk_l15 {s:GSchema}(hs:nmS s):∀ (l:List GMessage) (i:Int) (a:List (List UInt8×Bool)),(∀ x∈l,nmM x)→∃ r,zl.l15 s l i a=some r
 |[],i,a,_=>chk_l22 hs.2.2.2 _ _ _ hs.2.2.1
 |x::l,i,a,h=>by
  obtain⟨r,e⟩:=msg_t (s:=s) (a:=a) (h x (qr ..));rw[zl.l15,e,qg]
  split
  · exact chk_l15 hs l _ _ fun g hg=>h g (qq _ hg)
  exact⟨_,rfl⟩
def chkV (s:GSchema):Int:=(zl s).getD 0
theorem chkV_eq {s:GSchema}(hs:nmS s):zl s=some (chkV s):=by
 have:∃ r,zl s=some r:=by
  rw[zl,nameV_eq hs.1,qg]
  split
  · exact⟨_,rfl⟩
  split
  · exact⟨_,rfl⟩
  split
  · exact⟨_,rfl⟩
  exact chk_l15 hs _ _ _ hs.2.1
 obtain⟨v,e⟩:=this
 unfold chkV; rw[e]; rfl
end
section
set_option maxRecDepth 4000
open AM
inductive Shuf : List GRaw→List GRaw→Prop
 |refl (l:List GRaw):Shuf l l
 |cons (a:GRaw) {l m:List GRaw}:Shuf l m→Shuf (a::l) (a::m)
 |swap {a b:GRaw} (h:a.fTag≠b.fTag) (l:List GRaw):Shuf (a::b::l) (b::a::l)
 |trans {l m n:List GRaw}:Shuf l m→Shuf m n→Shuf l n
theorem shuf_move {r:GRaw}:∀ {B:List GRaw},(∀ b∈B,b.fTag≠r.fTag)→Shuf (B++[r]) (r::B)
 |[],_=>.refl _
 |b::B,h=>.trans (.cons b (shuf_move fun x hx=>h x (qq _ hx))) (.swap (h b (qr ..)) B)
theorem shuf_ins {r:GRaw}:∀ {l:List GRaw},l.Pairwise TagLe→Shuf (l++[r]) (vaC r l)
 |[],_=>.refl _
 |x::l,h=>by
  rw[vaC];rw[uo] at h
  split
  · rename_i hlt
    refine shuf_move fun b hb=>?_
    rcases qJ.1 hb with rfl|hb
    · omega
    have:=h.1 b hb; unfold TagLe at this; omega
  exact .cons x (shuf_ins h.2)
theorem Shuf.app {l m:List GRaw}(h:Shuf l m)(k:List GRaw):Shuf (l++k) (m++k):=by
 induction h with
 |refl l=>exact .refl _
 |cons a _ ih=>exact .cons a ih
 |swap h l=>exact .swap h _
 |trans _ _ h1 h2=>exact .trans h1 h2
theorem shuf_srtA : ∀ {l S:List GRaw},S.Pairwise TagLe→Shuf (S++l) (vbh l S)
 |[],S,_=>by rw[vbh,qw]; exact .refl _
 |r::l,S,h=>by
  rw[vbh,show S++r::l=(S++[r])++l by rw[qp]; rfl];exact .trans ((shuf_ins h).app l) (shuf_srtA (ZH h))
theorem shuf_srt (l:List GRaw):Shuf l (srt l):=shuf_srtA (S:=[]) List.Pairwise.nil
theorem vbz {m:GMessage}{one:GType→GRaw→GTree×Int}:∀ {l:List GRaw} {es:List GEntry} {rest rest':List GRaw},(∀ k,srt (rest++k)=srt (rest'++k))→ZR m one l es rest=ZR m one l es rest'
 |[],es,rest,rest',h=>by
  have:=h [];rw[qw,qw] at this;rw[ZR,ZR,this]
 |r::l,es,rest,rest',h=>by
  rw[ZR,ZR]
  have h2:=vbz (m:=m) (one:=one) (l:=l) (es:=es) (rest:=rest++[r]) (rest':=rest'++[r]) fun k=>by rw[qp,qp]; exact h _
  have h1:=vbz (m:=m) (one:=one) (l:=l) (es:=wK r.fTag ((zf m r.fTag).1.fLabel=3) (one (zf m r.fTag).1.fType r).1 es) h;rw[h1,h2]
theorem putE_comm {s t:Int}(hst:s≠t){p q:Prop} [Decidable p] [Decidable q]{x y:GTree}:∀ {es:List GEntry},wK s p x (wK t q y es)=wK t q y (wK s p x es)
 |[]=>by
  by_cases h:s<t
  · simp only[reduceIte,wK,xo,(show ¬ t<s by omega),(show ¬ t=s by omega),h]
  simp only[reduceIte,wK,xo,(show t<s by omega),(show ¬ s<t by omega),hst]
 |e::es=>by
  have ih:=putE_comm hst (p:=p) (q:=q) (x:=x) (y:=y) (es:=es)
  rcases Int.lt_or_gt_of_ne hst with h|h
  · by_cases a:e.fTag<s
    · simp only[reduceIte,wK,a,(show e.fTag<t by omega),ih]
    by_cases a':e.fTag=s
    · simp only[reduceIte,wK,a,a',h,xo,(show ¬ s<s by omega)]
    by_cases b:e.fTag<t
    · simp only[reduceIte,wK,a,a',b,xo,h]
    by_cases b':e.fTag=t
    · simp only[reduceIte,wK,b',(show ¬ t<s by omega),(show ¬ t=s by omega),(show ¬ t<t by omega),xo,h]
    simp only[reduceIte,wK,a,a',b,b',xo,h,(show ¬ t<s by omega),(show ¬ t=s by omega)]
  have h':t<s:=h
  by_cases a:e.fTag<t
  · simp only[reduceIte,wK,a,(show e.fTag<s by omega),ih]
  by_cases a':e.fTag=t
  · simp only[reduceIte,wK,a,a',h',xo,(show ¬ t<t by omega)]
  by_cases b:e.fTag<s
  · simp only[reduceIte,wK,a,a',b,xo,h']
  by_cases b':e.fTag=s
  · simp only[reduceIte,wK,b',(show ¬ s<t by omega),hst,(show ¬ s<s by omega),xo,h']
  simp only[reduceIte,wK,a,a',b,b',xo,h',(show ¬ s<t by omega),hst]
theorem vah {s t:Int}(hst:s≠t){p q:Prop} [Decidable p] [Decidable q]{y:GTree}:∀ {es:List GEntry},Xt s p (wK t q y es)=Xt s p es
 |[]=>by
  by_cases h:s<t
  · simp only[reduceIte,wK,Xt,xo,(show ¬ t<s by omega),(show ¬ t=s by omega)]
  simp only[reduceIte,wK,Xt,xo,(show t<s by omega)]
 |e::es=>by
  have ih:=vah hst (p:=p) (q:=q) (y:=y) (es:=es)
  by_cases a:e.fTag<t
  · simp only[reduceIte,wK,Xt,a,ih]
  by_cases a':e.fTag=t
  · by_cases b:t<s
    · simp only[reduceIte,wK,Xt,a,a',xo,b,(show ¬ t<t by omega)]
    simp only[reduceIte,wK,Xt,a,a',xo,b,(show ¬ t<t by omega),(show ¬ t=s by omega)]
  by_cases b:t<s
  · simp only[reduceIte,wK,Xt,a,a',xo,b]
  simp only[reduceIte,wK,Xt,a,a',xo,b,(show ¬ t=s by omega),(show ¬ e.fTag<s by omega),(show ¬ e.fTag=s by omega)]
theorem fldD_swap {m:GMessage}{one:GType→GRaw→GTree×Int}{a b:GRaw}(hab:a.fTag≠b.fTag){l:List GRaw}{es:List GEntry}{rest:List GRaw}(h0:(ZR m one (a::b::l) es rest).2=0):ZR m one (b::a::l) es rest=ZR m one (a::b::l) es rest:=by
 have h4:¬ ((ZX,(4:Int)).2=0):=by decide
 have nab:=fun (x:GTree) (es:List GEntry)=>vah (Ne.symm hab) (p:=(zf m b.fTag).1.fLabel=3) (q:=(zf m a.fTag).1.fLabel=3) (y:=x) (es:=es)
 have nba:=fun (x:GTree) (es:List GEntry)=>vah hab (p:=(zf m a.fTag).1.fLabel=3) (q:=(zf m b.fTag).1.fLabel=3) (y:=x) (es:=es)
 simp only[ZR,nab,nba] at h0 ⊢
 by_cases ka:(zf m a.fTag).2=true
 · by_cases oa:(one (zf m a.fTag).1.fType a).2=0
   · by_cases na:Xt a.fTag ((zf m a.fTag).1.fLabel=3) es≤64
     · by_cases kb:(zf m b.fTag).2=true
       · by_cases ob:(one (zf m b.fTag).1.fType b).2=0
         · by_cases nb:Xt b.fTag ((zf m b.fTag).1.fLabel=3) es≤64
           · simp only[ka,oa,na,kb,ob,nb,reduceIte];rw[putE_comm hab]
           simp only[ka,oa,na,kb,ob,nb,reduceIte] at h0; exact absurd h0 h4
         simp only[ka,oa,na,kb,ob,reduceIte] at h0
       simp only[ka,oa,na,kb,reduceIte,qZ]
     simp only[ka,oa,na,reduceIte] at h0; exact absurd h0 h4
   simp only[ka,oa,reduceIte] at h0
 by_cases kb:(zf m b.fTag).2=true
 · by_cases ob:(one (zf m b.fTag).1.fType b).2=0
   · by_cases nb:Xt b.fTag ((zf m b.fTag).1.fLabel=3) es≤64
     · simp only[ka,kb,ob,nb,reduceIte,qZ]
     simp only[ka,kb,ob,nb,reduceIte,qZ] at h0; exact absurd h0 h4
   simp only[ka,kb,ob,reduceIte,qZ] at h0
 simp only[ka,kb,reduceIte,qZ]
 refine vbz fun k=>srt_of (vab _) fun t=>?_
 rw[srt_filter];simp only[List.filter_append,qp]
 congr 1
 rw[← qp,← qp]
 congr 1
 simp only[ux,List.filter_nil,decide_eq_true_eq]
 by_cases h1:a.fTag=t
 · rw[if_pos h1,if_neg (show ¬ b.fTag=t by omega)]; rfl
 rw[if_neg h1]; simp
theorem fldD_shuf {m:GMessage}{one:GType→GRaw→GTree×Int}{l k:List GRaw}(h:Shuf l k):∀ {es:List GEntry} {rest:List GRaw},(ZR m one l es rest).2=0→ZR m one k es rest=ZR m one l es rest:=by
 induction h with
 |refl l=>intros; rfl
 |cons a _ ih=>
  intro es rest h0
  simp only[ZR] at h0 ⊢
  by_cases ka:(zf m a.fTag).2=true
  · rw[if_pos ka] at h0 ⊢;rw[if_pos ka]
    by_cases oa:(one (zf m a.fTag).1.fType a).2=0
    · rw[if_pos oa] at h0 ⊢;rw[if_pos oa]
      by_cases na:Xt a.fTag ((zf m a.fTag).1.fLabel=3) es≤64
      · rw[if_pos na] at h0 ⊢
        rw[if_pos na]; exact ih h0
      rw[if_neg na,if_neg na]
    rw[if_neg oa,if_neg oa]
  rw[if_neg ka] at h0 ⊢
  rw[if_neg ka]; exact ih h0
 |swap h l=>intro es rest h0; exact fldD_swap h h0
 |trans _ _ h1 h2=>
  intro es rest h0
  have e:=h1 h0;rw[h2 (by rw[e]; exact h0),e]
end
section
set_option maxRecDepth 4000
open AM
theorem getD_of {l:List GRaw}(h:∀ r∈l,ZB r)(hb:(xK l).length≤4096):getD (xK l)=(l,0):=by
 unfold getD; rw[wire_Get_ok h hb]; rfl
def okV (f:GMessage→GTree→Prop)(s:GSchema)(y:GType)(x:GTree):Prop:=
 if y.fKind=7 then x.fKind=3∧f (XC s y.fName) x
 else if y.fKind=4∨y.fKind=5 then x=⟨2,0,x.fS,[],[]⟩∧x.fS.length≤4096∧(y.fKind=4→vay x.fS=true)
 else x=⟨1,x.fN,[],[],[]⟩∧In64 x.fN∧(y.fKind=3∨y.fKind=6→xf y x.fN=true)
def okN (f:GMessage→GTree→Prop)(s:GSchema)(m:GMessage)(e:GEntry):Prop:=
 (1≤e.fTag∧e.fTag≤500)∧(zf m e.fTag).2=true∧(1≤e.fTrees.length∧e.fTrees.length≤64)∧((zf m e.fTag).1.fLabel≠3→e.fTrees.length=1)∧∀ x∈e.fTrees,okV f s (zf m e.fTag).1.fType x
def okT (s:GSchema):Nat→GMessage→GTree→Prop
 |0,_,_=>False
 |d+1,m,t=>t.fKind=3∧t.fN=0∧t.fS=[]∧t.fEntries.Pairwise Yb∧(∀ e∈t.fEntries,okN (okT s d) s m e∧isZ m e=false)∧t.fRest.Pairwise TagLe∧t.fRest.length≤4096∧∀ r∈t.fRest,ZB r∧(zf m r.fTag).2≠true
def kindT (y:GType):Int:=if y.fKind=7 then 3 else if y.fKind=4∨y.fKind=5 then 2 else 1
theorem gt_kind (k n:Int)(s:List UInt8)(e:List GEntry)(r:List GRaw):(GTree.mk k n s e r).fKind=k:=rfl
theorem gt_n (k n:Int)(s:List UInt8)(e:List GEntry)(r:List GRaw):(GTree.mk k n s e r).fN=n:=rfl
theorem gt_s (k n:Int)(s:List UInt8)(e:List GEntry)(r:List GRaw):(GTree.mk k n s e r).fS=s:=rfl
theorem gt_es (k n:Int)(s:List UInt8)(e:List GEntry)(r:List GRaw):(GTree.mk k n s e r).fEntries=e:=rfl
theorem gt_rest (k n:Int)(s:List UInt8)(e:List GEntry)(r:List GRaw):(GTree.mk k n s e r).fRest=r:=rfl
theorem gt_eta (t:GTree):t=⟨t.fKind,t.fN,t.fS,t.fEntries,t.fRest⟩:=by cases t; rfl
theorem okV_kind {f:GMessage→GTree→Prop}{s:GSchema}{y:GType}{x:GTree}(h:okV f s y x):x.fKind=kindT y:=by
 unfold okV at h; unfold kindT
 by_cases h7:y.fKind=7
 · rw[if_pos h7] at h ⊢; exact h.1
 rw[if_neg h7] at h ⊢
 by_cases h4:y.fKind=4∨y.fKind=5
 · rw[if_pos h4] at h ⊢; rw[h.1]; rfl
 rw[if_neg h4] at h ⊢; rw[h.1]; rfl
theorem okV_leaf {f:GMessage→GTree→Prop}{s:GSchema}{y:GType}{x:GTree}(h:okV f s y x)(h7:y.fKind≠7):x.fEntries=[]∧x.fRest=[]∧In64 x.fN∧leafB x=true∧x.fKind≠3:=by
 unfold okV at h;rw[if_neg h7] at h
 split at h
 · rw[h.1];exact⟨rfl,rfl,in0,rfl,by rw[gt_kind]; decide⟩
 refine⟨by rw[h.1]; rfl,by rw[h.1]; rfl,h.2.1,?_,by rw[h.1,gt_kind]; decide⟩
 rw[h.1]; rfl
theorem kids_nil {x:GTree}(h:x.fEntries=[]):kids x=[]:=by unfold kids; rw[h]; rfl
theorem szT_leaf {x:GTree}(h1:x.fEntries=[])(h2:x.fRest=[])(h3:In64 x.fN):∀ d,szT d x
 |0=>⟨h3,by rw[h2]; exact ur _,by rw[h2]; intro r hr; cases hr⟩
 |d+1=>⟨⟨h3,by rw[h2]; exact ur _,by rw[h2]; intro r hr; cases hr⟩,by rw[kids_nil h1]; intro x hx; cases hx⟩
theorem okT_sz {s:GSchema}:∀ (d n:Nat) (m:GMessage) (t:GTree),d≤n→okT s d m t→szT n t
 |0,_,_,_,_,h=>h.elim
 |d+1,0,_,_,h,_=>absurd h (by omega)
 |d+1,n+1,m,t,hn,h=>by
  obtain⟨_,h0,_,_,he,_,hl,hr⟩:=h;refine⟨⟨by rw[h0]; exact in0,by omega,fun r hm=>(hr r hm).1.2⟩,fun x hx=>?_⟩;obtain⟨e,hm,hxe⟩:=List.mem_flatMap.1 hx;have hv:=(he e hm).1.2.2.2.2 x hxe
  by_cases h7:(zf m e.fTag).1.fType.fKind=7
  · unfold okV at hv; rw[if_pos h7] at hv
    exact okT_sz d n _ x (by omega) hv.2
  obtain⟨a,b,c,_,_⟩:=okV_leaf hv h7;exact szT_leaf a b c n
theorem leafB_right {x:GTree}(h:leafB x=true)(h3:x.fKind≠3):∀ d,wq d x=true
 |0=>h
 |d+1=>by rw[wq,if_neg h3]; exact h
theorem okT_ents {d:Nat}{s:GSchema}{m:GMessage}{f:GTree→Bool}(hf:∀ y x,okV (okT s d) s y x→f x=true):∀ {l:List GEntry} {last:Int},l.Pairwise Yb→(∀ e∈l,last<e.fTag)→(∀ e∈l,okN (okT s d) s m e)→entB f last l=true
 |[],_,_,_,_=>rfl
 |e::l,last,hs,hlt,he=>by
  rw[uo] at hs;obtain⟨⟨h1,h2⟩,h3,h4,h5,h6⟩:=he e (qr ..);rw[entB,okT_ents hf hs.2 (fun a ha=>hs.1 a ha) fun a ha=>he a (qq _ ha),qL,qo,decide_eq_true_eq];refine⟨⟨hlt e (qr ..),h2,h4.1,h4.2⟩,ub.2 fun x hx=>?_⟩;rw[qo,decide_eq_true_eq];refine⟨?_,hf _ x (h6 x hx)⟩;rw[okV_kind (h6 x hx)]
  cases ht:e.fTrees with
  |nil=>rw[ht] at hx; cases hx
  |cons a l=>rw[List.headD_cons]; exact (okV_kind (h6 a (by rw[ht]; exact qr ..))).symm
theorem Y9 {s:GSchema}:∀ (d n:Nat) (m:GMessage) (t:GTree),d≤n→okT s d m t→wq n t=true
 |0,_,_,_,_,h=>h.elim
 |d+1,0,_,_,h,_=>absurd h (by omega)
 |d+1,n+1,m,t,hn,h=>by
  obtain⟨h3,h0,hS,hs,he,hrs,_,hr⟩:=h;rw[wq,if_pos h3]
  have e1:entB (wq n) 0 t.fEntries=true:=by
   refine okT_ents (m:=m) (d:=d) (s:=s) ?_ hs (fun e hm=>by have:=(he e hm).1.1; omega) fun e hm=>(he e hm).1
   intro y x hv
   by_cases h7:y.fKind=7
   · unfold okV at hv; rw[if_pos h7] at hv
     exact Y9 d n _ x (by omega) hv.2
   obtain⟨_,_,_,d1,e1⟩:=okV_leaf hv h7;exact leafB_right d1 e1 n
  have e2:restB t=true:=by
   unfold restB;rw[qo];refine⟨ub.2 fun r hm=>?_,risB_iff.2 hrs⟩;obtain⟨⟨a,_⟩,b⟩:=hr r hm;rw[a,uK,uD,List.any_eq_false]
   intro e hme hc
   rw[decide_eq_true_eq] at hc;exact b (by rw[← hc]; exact (he e hme).1.2.1)
  rw[e1,e2,decide_eq_true h0,decide_eq_true hS]; rfl
theorem okT_dep {s:GSchema}:∀ (d n:Nat) (m:GMessage) (t:GTree),okT s d m t→vbH n t≤d
 |0,_,_,_,h=>h.elim
 |d+1,0,_,_,_=>ur _
 |d+1,n+1,m,t,h=>by
  rw[vbH]
  split
  · refine Nat.succ_le_succ (maxD_le (ur _) fun x hx=>?_);obtain⟨e,hm,hxe⟩:=List.mem_flatMap.1 hx;have hv:=(h.2.2.2.2.1 e hm).1.2.2.2.2 x hxe
    by_cases h7:(zf m e.fTag).1.fType.fKind=7
    · unfold okV at hv; rw[if_pos h7] at hv
      exact okT_dep d n _ x hv.2
    obtain⟨_,_,_,_,e1⟩:=okV_leaf hv h7
    cases n with
    |zero=>exact ur _
    |succ n=>rw[vbH,if_neg e1]; exact ur _
  exact ur _
theorem okT_check {s:GSchema}{d:Nat}{m:GMessage}{t:GTree}(hd:d≤10)(h:okT s d m t):Yz t=true:=by
 have:=okT_dep d 101 m t h;rw[Yz,decide_eq_true (by omega),uK];exact Y9 d 10 m t hd h
theorem gr_wire (a b c:Int)(d:List UInt8):(GRaw.mk a b c d).fWire=b:=rfl
theorem gr_n (a b c:Int)(d:List UInt8):(GRaw.mk a b c d).fN=c:=rfl
theorem gr_b (a b c:Int)(d:List UInt8):(GRaw.mk a b c d).fB=d:=rfl
theorem rawT_tag {enc:GTree→Option (List UInt8)}{tag:Int}{x:GTree}{r:GRaw}(h:vaS enc tag x=some r):r.fTag=tag:=by
 unfold vaS at h
 split at h
 · cases h; rfl
 split at h
 · split at h
   · cases h
   cases h; rfl
 obtain⟨b,hb,h⟩:=bind_some h
 cases h; rfl
theorem XQ {msg:GMessage→List UInt8→GTree×Int}{s:GSchema}{y:GType}{r:GRaw}(h:(y.fKind=4∨y.fKind=5∨y.fKind=7)∧r.fWire=1∨¬ (y.fKind=4∨y.fKind=5∨y.fKind=7)∧r.fWire=0):
 oneD msg s y r=(if y.fKind=3∨y.fKind=6 then (if xf y r.fN=true then (⟨1,r.fN,[],[],[]⟩,0) else (ZX,11))
 else if y.fKind=4 then (if vay r.fB=true then (⟨2,0,r.fB,[],[]⟩,0) else (ZX,9))
 else if y.fKind=7 then msg (XC s y.fName) r.fB
 else (if r.fWire=1 then ⟨2,0,r.fB,[],[]⟩ else ⟨1,r.fN,[],[],[]⟩,0)):=by
 unfold oneD;refine if_pos ?_
 rcases h with ⟨h,h'⟩|⟨h,h'⟩
 · rw[if_pos h]; exact h'
 rw[if_neg h]; exact h'
theorem oneD_back {s:GSchema}{d:Nat}{y:GType}{x:GTree}{tag:Int}{q:GRaw}(ih:∀ m t c,okT s d m t→YF d t=some c→Xf s d m c=(t,0))(hv:okV (okT s d) s y x)(hq:vaS (YF d) tag x=some q):oneD (Xf s d) s y q=(x,0):=by
 have hk:=okV_kind hv
 unfold okV at hv; unfold vaS at hq; unfold kindT at hk
 by_cases h7:y.fKind=7
 · rw[if_pos h7] at hv hk;rw[if_neg (by omega),if_neg (by omega)] at hq;obtain⟨c,hc,hq⟩:=bind_some hq;cases hq;rw[XQ (Or.inl ⟨Or.inr (Or.inr h7),rfl⟩),if_neg (by omega),if_neg (by omega),if_pos h7,gr_b];exact ih _ _ _ hv.2 hc
 rw[if_neg h7] at hv hk
 by_cases h4:y.fKind=4∨y.fKind=5
 · rw[if_pos h4] at hv hk;rw[if_neg (by omega),if_pos hk,if_neg (by omega)] at hq;cases hq;rw[XQ (Or.inl ⟨by rcases h4 with h|h; exact Or.inl h; exact Or.inr (Or.inl h),rfl⟩),if_neg (by omega),gr_b]
   by_cases h44:y.fKind=4
   · rw[if_pos h44,if_pos (hv.2.2 h44),← hv.1]
   rw[if_neg h44,if_neg h7,gr_wire,if_pos rfl,← hv.1]
 rw[if_neg h4] at hv hk;rw[if_pos hk] at hq;cases hq;rw[XQ (Or.inr ⟨by omega,rfl⟩)]
 by_cases h3:y.fKind=3∨y.fKind=6
 · rw[if_pos h3,gr_n,if_pos (hv.2.2 h3),← hv.1]
 rw[if_neg h3,if_neg (by omega),if_neg h7,gr_wire,if_neg (by decide),gr_n,← hv.1]
theorem fldD_unk {m:GMessage}{one:GType→GRaw→GTree×Int}{B:List GRaw}{es:List GEntry}:∀ {A rest:List GRaw},(∀ r∈A,(zf m r.fTag).2≠true)→ZR m one (A++B) es rest=ZR m one B es (rest++A)
 |[],rest,_=>by rw[qw]; rfl
 |r::A,rest,h=>by
  rw[qA,ZR,if_neg (h r (qr ..)),fldD_unk fun x hx=>h x (qq _ hx),qp]; rfl
theorem fldD_more {m:GMessage}{one:GType→GRaw→GTree×Int}{enc:GTree→Option (List UInt8)}{tag:Int}{A:List GEntry}{M rest:List GRaw}(hk:(zf m tag).2=true)(h3:(zf m tag).1.fLabel=3)(hA:∀ a∈A,a.fTag<tag):∀ {l:List GTree} {ts:List GTree} {L:List GRaw},ts.length+l.length≤64→(∀ x∈l,∀ q,vaS enc tag x=some q→one (zf m tag).1.fType q=(x,0))→rawL enc tag l=some L→ZR m one (L++M) (A++[⟨tag,ts⟩]) rest=ZR m one M (A++[⟨tag,ts++l⟩]) rest
 |[],ts,L,_,_,h=>by cases h; rw[qw]; rfl
 |x::l,ts,L,hl,ho,h=>by
  obtain⟨q,hq,h⟩:=bind_some h;obtain⟨L',hL,h⟩:=bind_some h;cases h;rw[qk] at hl
  have hn:∀ rep:Prop,[Decidable rep]→rep→Xt tag rep (A++[⟨tag,ts⟩])=ts.length+1:=by
   intro rep _ hr
   rw[vaT hA,Xt,xo,if_neg (by omega),if_pos rfl,if_pos hr,xw]
  have he:∀ rep:Prop,[Decidable rep]→rep→wK tag rep x (A++[⟨tag,ts⟩])=A++[⟨tag,ts++[x]⟩]:=by
   intro rep _ hr
   rw[vaU hA,wK,xo,if_neg (by omega),if_pos rfl,if_pos hr,xw]
  rw[qA,ZR,rawT_tag hq,if_pos hk,ho x (qr ..) q hq,if_pos rfl,if_pos (by rw[hn _ h3]; omega),he _ h3,fldD_more hk h3 hA (by rw[qi,qF]; omega) (fun z hz=>ho z (qq _ hz)) hL,qp]; rfl
theorem fldD_entry {m:GMessage}{one:GType→GRaw→GTree×Int}{enc:GTree→Option (List UInt8)}{e:GEntry}{A:List GEntry}{M rest L:List GRaw}(hk:(zf m e.fTag).2=true)(h1:1≤e.fTrees.length)(h64:e.fTrees.length≤64)(hl:(zf m e.fTag).1.fLabel≠3→e.fTrees.length=1)(hA:∀ a∈A,a.fTag<e.fTag)(ho:∀ x∈e.fTrees,∀ q,vaS enc e.fTag x=some q→one (zf m e.fTag).1.fType q=(x,0))(h:rawL enc e.fTag e.fTrees=some L):ZR m one (L++M) A rest=ZR m one M (A++[e]) rest:=by
 obtain⟨tag,ts⟩:=e;rw[xo] at *;rw[xw] at *
 cases ts with
 |nil=>exact absurd h1 (by decide)
 |cons x l=>
  obtain⟨q,hq,h⟩:=bind_some h;obtain⟨L',hL,h⟩:=bind_some h;cases h
  have hn:∀ rep:Prop,[Decidable rep]→Xt tag rep A=1:=by
   intro rep _
   have:=vaT (rep:=rep) (B:=[]) hA;rw[qw] at this
   rw[this]; rfl
  have he:∀ rep:Prop,[Decidable rep]→wK tag rep x A=A++[⟨tag,[x]⟩]:=by
   intro rep _
   have:=vaU (rep:=rep) (x:=x) (B:=[]) hA;rw[qw] at this
   rw[this]; rfl
  rw[qA,ZR,rawT_tag hq,if_pos hk,ho x (qr ..) q hq,if_pos rfl,if_pos (by rw[hn]; decide),he]
  cases l with
  |nil=>cases hL; rfl
  |cons y l=>
   have h3:(zf m tag).1.fLabel=3:=by
    by_cases h3:(zf m tag).1.fLabel=3
    · exact h3
    have:=hl h3; rw[qk,qk] at this; omega
   have:=fldD_more (m:=m) (one:=one) (enc:=enc) (tag:=tag) (A:=A) (M:=M) (rest:=rest) hk h3 hA (l:=y::l) (ts:=[x]) (L:=L') (by rw[qk] at h64; rw[qF]; omega) (fun z hz=>ho z (qq _ hz)) hL;exact this
theorem vbA {d:Nat}{s:GSchema}{m:GMessage}{rest:List GRaw}(ih:∀ m t c,okT s d m t→YF d t=some c→Xf s d m c=(t,0)):∀ {B A:List GEntry} {L:List GRaw},(A++B).Pairwise Yb→(∀ e∈B,okN (okT s d) s m e)→XN (YF d) B=some L→ZR m (oneD (Xf s d) s) L A rest=(⟨3,0,[],zdel m (A++B),srt rest⟩,0)
 |[],A,L,_,_,h=>by cases h; rw[ZR,qw]
 |e::B,A,L,hs,he,h=>by
  obtain⟨a,ha,h⟩:=bind_some h;obtain⟨L',hL,h⟩:=bind_some h;cases h;obtain⟨_,h2,h3,h4,h5⟩:=he e (qr ..)
  rw[fldD_entry (enc:=YF d) h2 h3.1 h3.2 h4 (fun x hx=>(List.pairwise_append.1 hs).2.2 x hx e (qr ..)) (fun x hx q hq=>oneD_back ih (h5 x hx) hq) ha,vbA ih (A:=A++[e]) (by rw[qp]; exact hs) (fun x hx=>he x (qq _ hx)) hL,qp]; rfl
theorem zdel_id {m:GMessage}{es:List GEntry}(h:∀ e∈es,isZ m e=false):zdel m es=es:=by
 unfold zdel;rw[List.filter_eq_self]
 intro e he
 rw[h e he]; rfl
theorem decM_back {s:GSchema}:∀ (d:Nat) (m:GMessage) (t:GTree) (c:List UInt8),okT s d m t→YF d t=some c→Xf s d m c=(t,0)
 |0,_,_,_,h,_=>h.elim
 |d+1,m,t,c,hok,h=>by
  have hr:=Y9 (d+1) (d+1) m t (qu _) hok;have hz:=okT_sz (d+1) (d+1) m t (qu _) hok;obtain⟨h3,h0,hS,hs,he,hrs,hl,hrest⟩:=hok;rw[YF] at h;obtain⟨L,hL,h⟩:=bind_some h;obtain⟨hc,hlen⟩:=vbq h;have hg:=getD_of (raws_ok hr h3 hz hL) (by rw[← hc]; exact hlen)
  have key:ZR m (oneD (Xf s d) s) (t.fRest++L) [] []=(t,0):=by
   rw[fldD_unk fun r hm=>(hrest r hm).2,vbA (decM_back d) (A:=[]) (B:=t.fEntries) hs (fun e hm=>(he e hm).1) hL,qz,qz,zdel_id (es:=t.fEntries) fun e hm=>(he e hm).2,srt_id hrs,← h3,← h0,← hS,← gt_eta]
  rw[Xf,hc,hg,if_pos rfl,fldD_shuf (shuf_srt _) (by rw[key]),key]
end
section
set_option maxRecDepth 4000
open AM
theorem insR_bytes (r:GRaw):∀ l:List GRaw,(xK (vaC r l)).length=(Xs r).length+(xK l).length
 |[]=>by rw[vaC,xL,qi]
 |x::l=>by
  rw[vaC]; split
  · rw[xL,qi]
  rw[xL,qi,insR_bytes r l,xL,qi]; omega
theorem srtA_bytes : ∀ l S:List GRaw,(xK (vbh l S)).length=(xK S).length+(xK l).length
 |[],S=>rfl
 |r::l,S=>by rw[vbh,srtA_bytes,insR_bytes,xL,qi]; omega
theorem srt_bytes (l:List GRaw):(xK (srt l)).length=(xK l).length:=by rw[srt,srtA_bytes]; exact qt _
theorem vb_mono {a b:Nat}(h:a≤b):(vb a).length≤(vb b).length:=by
 induction b using Nat.strongRecOn generalizing a with
 |ind b ih=>
  by_cases ha:a<128
  · rw[vb_lt ha]; exact vb_pos b
  rw[vb_ge ha,vb_ge (n:=b) (by omega),qk,qk];exact Nat.succ_le_succ (ih (b / 128) (by omega) (Nat.div_le_div_right h))
theorem rawL_app {enc:GTree→Option (List UInt8)}{tag:Int}{x:GTree}{q:GRaw}(hq:vaS enc tag x=some q):∀ {l:List GTree} {L:List GRaw},rawL enc tag l=some L→rawL enc tag (l++[x])=some (L++[q])
 |[],L,h=>by
  cases h
  rw[qz,rawL,hq]; rfl
 |y::l,L,h=>by
  obtain⟨r,hr,h⟩:=bind_some h;obtain⟨L',hL,h⟩:=bind_some h;cases h
  rw[qA,rawL,hr,qg,rawL_app hq hL]; rfl
theorem rawE_put {enc:GTree→Option (List UInt8)}{t:Int}{rep:Prop} [Decidable rep]{x:GTree}{q:GRaw}(hq:vaS enc t x=some q):∀ {es:List GEntry} {L:List GRaw},XN enc es=some L→∃ L',XN enc (wK t rep x es)=some L'∧(xK L').length≤(xK L).length+(Xs q).length
 |[],L,h=>by
  cases h;refine⟨[q],?_,?_⟩
  · rw[wK,XN,xo,xw,rawL,hq]; rfl
  rw[xL,qi]; omega
 |e::es,L,h=>by
  obtain⟨a,ha,h⟩:=bind_some h;obtain⟨m,hm,h⟩:=bind_some h;cases h;rw[wK]
  split
  · obtain⟨L',h1,h2⟩:=rawE_put (rep:=rep) hq hm;refine⟨a++L',?_,?_⟩
    · rw[XN,ha,qg,h1]; rfl
    rw[wC,wC,qi,qi]; omega
  split
  · rename_i heq
    rw[heq] at ha
    by_cases hr:rep
    · refine⟨(a++[q])++m,?_,?_⟩
      · rw[XN,xo,xw,if_pos hr,rawL_app hq ha,qg,hm]; rfl
      simp only[wC,xL,qi]; show _+(_+0)+_≤_; omega
    refine⟨[q]++m,?_,?_⟩
    · rw[XN,xo,xw,if_neg hr,qz,rawL,hq,qg]
      rw[rawL,qg,qg,hm]; rfl
    simp only[wC,xL,qi]; show _+0+_≤_; omega
  refine⟨q::(a++m),?_,?_⟩
  · rw[XN,xo,xw,rawL,hq,qg,rawL,qg,qg,XN,ha,qg,hm]; rfl
  rw[xL,qi]; omega
theorem vbo {enc:GTree→Option (List UInt8)}{p:GEntry→Bool}:∀ {es:List GEntry} {L:List GRaw},XN enc es=some L→∃ L',XN enc (es.filter p)=some L'∧(xK L').length≤(xK L).length
 |[],L,h=>⟨L,h,qu _⟩
 |e::es,L,h=>by
  obtain⟨a,ha,h⟩:=bind_some h;obtain⟨m,hm,h⟩:=bind_some h;cases h;obtain⟨L',h1,h2⟩:=vbo (p:=p) hm;rw[ux]
  split
  · refine⟨a++L',?_,?_⟩
    · rw[XN,ha,qg,h1]; rfl
    rw[wC,wC,qi,qi]; omega
  exact⟨L',h1,by rw[wC,qi]; omega⟩
theorem putE_ok {P:Int→GTree→Prop}{t:Int}{rep:Prop} [Decidable rep]{x:GTree}{e:GEntry}(hx:P t x):∀ {es:List GEntry},(∀ a∈es,∀ z∈a.fTrees,P a.fTag z)→e∈wK t rep x es→e∈es∨(e.fTag=t∧(¬ rep→e.fTrees.length=1)∧1≤e.fTrees.length∧e.fTrees.length=Xt t rep es∧∀ z∈e.fTrees,P t z)
 |[],_,h=>by
  rw[wK,uq] at h; subst h
  refine Or.inr ⟨rfl,fun _=>rfl,qu _,rfl,fun z hz=>?_⟩
  rw[xw,uq] at hz; rw[hz]; exact hx
 |a::es,hP,h=>by
  rw[wK] at h; rw[Xt]
  split at h
  · rename_i hlt
    rw[if_pos hlt]
    rcases qJ.1 h with rfl|h
    · exact Or.inl (qr ..)
    rcases putE_ok (P:=P) hx (fun b hb=>hP b (qq _ hb)) h with h|h
    · exact Or.inl (qq _ h)
    exact Or.inr h
  rename_i hlt
  rw[if_neg hlt]
  split at h
  · rename_i heq
    rw[if_pos heq]
    rcases qJ.1 h with rfl|h
    · refine Or.inr ⟨rfl,fun hr=>?_,?_,?_,fun z hz=>?_⟩
      · rw[xw,if_neg hr]; rfl
      · rw[xw,qi,qF]; omega
      · rw[xw,qi,qF]; split<;>rfl
      rw[xw] at hz
      rcases un.1 hz with hz|hz
      · split at hz
        · rw[← heq]; exact hP a (qr ..) z hz
        cases hz
      rw[uq] at hz; rw[hz]; exact hx
    exact Or.inl (qq _ h)
  rename_i hne
  rw[if_neg hne]
  rcases qJ.1 h with rfl|h
  · refine Or.inr ⟨rfl,fun _=>rfl,qu _,rfl,fun z hz=>?_⟩
    rw[xw,uq] at hz; rw[hz]; exact hx
  exact Or.inl h
theorem oneD_ok {s:GSchema}{d:Nat}{y:GType}{r:GRaw}(ih:∀ m b,(Xf s d m b).2=0→okT s d m (Xf s d m b).1∧∃ c,YF d (Xf s d m b).1=some c∧c.length≤b.length)(hr:ZB r)(h0:(oneD (Xf s d) s y r).2=0):
 okV (okT s d) s y (oneD (Xf s d) s y r).1∧∃ q,vaS (YF d) r.fTag (oneD (Xf s d) s y r).1=some q∧(Xs q).length≤(Xs r).length:=by
 obtain⟨hc1,hc2,hc⟩:=Zn hr.1
 by_cases hw:(y.fKind=4∨y.fKind=5∨y.fKind=7)∧r.fWire=1∨¬ (y.fKind=4∨y.fKind=5∨y.fKind=7)∧r.fWire=0
 · rw[XQ hw] at h0 ⊢
   have hnum:r.fWire=0→∀ x:GTree,x=⟨1,r.fN,[],[],[]⟩→∃ q,vaS (YF d) r.fTag x=some q∧(Xs q).length≤(Xs r).length:=by
    intro h x hx
    obtain⟨h1,h2⟩:r.fWire=0∧r.fB=[]:=by
     rcases hc with hc|hc
     · exact hc
     omega
    refine⟨⟨r.fTag,0,r.fN,[]⟩,?_,?_⟩
    · rw[hx,vaS,gt_kind,if_pos rfl]; rfl
    have:(⟨r.fTag,0,r.fN,[]⟩:GRaw)=r:=by cases r; simp only at h1 h2 ⊢; rw[h1,h2]
    rw[this]; exact qu _
   have htext:r.fWire=1→r.fN=0∧r.fB.length≤4096:=by
    intro h
    rcases hc with hc|hc
    · omega
    exact hc.2
   have hstr:r.fWire=1→∀ x:GTree,x=⟨2,0,r.fB,[],[]⟩→∃ q,vaS (YF d) r.fTag x=some q∧(Xs q).length≤(Xs r).length:=by
    intro h x hx
    obtain⟨h1,h2⟩:=htext h;refine⟨⟨r.fTag,1,0,r.fB⟩,?_,?_⟩
    · rw[hx,vaS,gt_kind,if_neg (by decide),if_pos rfl,gt_s,if_neg (by omega)]
    have:(⟨r.fTag,1,0,r.fB⟩:GRaw)=r:=by cases r; simp only at h h1 ⊢; rw[h,h1]
    rw[this]; exact qu _
   unfold okV
   by_cases h3:y.fKind=3∨y.fKind=6
   · rw[if_pos h3] at h0 ⊢
     have w0:r.fWire=0:=by rcases hw with hw|hw; omega; exact hw.2
     rw[if_neg (by omega),if_neg (by omega)]
     by_cases hn:xf y r.fN=true
     · rw[if_pos hn] at h0 ⊢;exact⟨⟨rfl,hr.2,fun _=>hn⟩,hnum w0 _ rfl⟩
     rw[if_neg hn] at h0; exact absurd h0 (by decide)
   rw[if_neg h3] at h0 ⊢
   by_cases h4:y.fKind=4
   · have w1:r.fWire=1:=by rcases hw with hw|hw; exact hw.2; omega
     rw[if_pos h4] at h0 ⊢;rw[if_neg (by omega),if_pos (Or.inl h4)]
     by_cases hn:vay r.fB=true
     · rw[if_pos hn] at h0 ⊢;exact⟨⟨rfl,(htext w1).2,fun _=>hn⟩,hstr w1 _ rfl⟩
     rw[if_neg hn] at h0; exact absurd h0 (show ¬ ((ZX,(9:Int)).2=0) by decide)
   rw[if_neg h4] at h0 ⊢
   by_cases h7:y.fKind=7
   · have w1:r.fWire=1:=by rcases hw with hw|hw; exact hw.2; omega
     rw[if_pos h7] at h0 ⊢;rw[if_pos h7];obtain⟨hok,c,hc',hl⟩:=ih _ _ h0
     have hk3:(Xf s d (XC s y.fName) r.fB).1.fKind=3:=by
      cases d with
      |zero=>exact hok.elim
      |succ d=>exact hok.1
     refine⟨⟨hk3,hok⟩,⟨r.fTag,1,0,c⟩,?_,?_⟩
     · rw[vaS,if_neg (by omega),if_neg (by omega),hc']; rfl
     have hv:=vb_mono hl
     have hkey:vbw (⟨r.fTag,1,0,c⟩:GRaw)=vbw r:=by unfold vbw; rw[w1]
     unfold Xs;rw[hkey,gr_wire,if_neg (by decide),w1,if_neg (by decide),gr_b]
     simp only[qi]; omega
   rw[if_neg h7] at h0 ⊢;rw[if_neg h7]
   by_cases h5:y.fKind=5
   · have w1:r.fWire=1:=by rcases hw with hw|hw; exact hw.2; omega
     rw[if_pos w1,if_pos (Or.inr h5)];exact⟨⟨rfl,(htext w1).2,fun h=>absurd h h4⟩,hstr w1 _ rfl⟩
   have w0:r.fWire=0:=by rcases hw with hw|hw; omega; exact hw.2
   rw[if_neg (show ¬ r.fWire=1 by omega),if_neg (by omega)];exact⟨⟨rfl,hr.2,fun h=>absurd h h3⟩,hnum w0 _ rfl⟩
 exfalso
 unfold oneD at h0;rw[if_neg ?_] at h0
 · exact absurd h0 (show ¬ ((ZX,(8:Int)).2=0) by decide)
 intro hc
 by_cases h:y.fKind=4∨y.fKind=5∨y.fKind=7
 · rw[if_pos h] at hc; exact hw (Or.inl ⟨h,hc⟩)
 rw[if_neg h] at hc; exact hw (Or.inr ⟨h,hc⟩)
def okJ (s:GSchema)(d:Nat)(m:GMessage)(n:Nat)(es:List GEntry)(rest:List GRaw):Prop:=
 es.Pairwise Yb∧(∀ e∈es,okN (okT s d) s m e)∧(∀ r∈rest,ZB r∧(zf m r.fTag).2≠true)∧∃ L,XN (YF d) es=some L∧(xK L).length+(xK rest).length≤n
theorem fldD_ok {s:GSchema}{d:Nat}{m:GMessage}(ih:∀ m b,(Xf s d m b).2=0→okT s d m (Xf s d m b).1∧∃ c,YF d (Xf s d m b).1=some c∧c.length≤b.length):∀ {l:List GRaw} {es:List GEntry} {rest:List GRaw} {n:Nat},(∀ r∈l,ZB r)→okJ s d m n es rest→(ZR m (oneD (Xf s d) s) l es rest).2=0→
 ∃ es' rest',okJ s d m (n+(xK l).length) es' rest'∧ZR m (oneD (Xf s d) s) l es rest=(⟨3,0,[],zdel m es',srt rest'⟩,0)
 |[],es,rest,n,_,hJ,_=>⟨es,rest,hJ,rfl⟩
 |r::l,es,rest,n,hr,hJ,h0=>by
  have hrr:=hr r (qr ..)
  have hl:∀ x∈l,ZB x:=fun x hx=>hr x (qq _ hx)
  have hc:=Zn hrr.1;obtain⟨j1,j2,j3,L,j4,j5⟩:=hJ
  have en:n+(xK (r::l)).length=(n+(Xs r).length)+(xK l).length:=by rw[xL,qi]; omega
  rw[ZR] at h0 ⊢;rw[en]
  by_cases hk:(zf m r.fTag).2=true
  · rw[if_pos hk] at h0 ⊢
    by_cases ho:(oneD (Xf s d) s (zf m r.fTag).1.fType r).2=0
    · rw[if_pos ho] at h0 ⊢
      by_cases hp:Xt r.fTag ((zf m r.fTag).1.fLabel=3) es≤64
      · rw[if_pos hp] at h0 ⊢;obtain⟨hv,q,hq,hqb⟩:=oneD_ok ih hrr ho;obtain⟨L',hL',hLb⟩:=rawE_put (rep:=(zf m r.fTag).1.fLabel=3) hq j4;refine fldD_ok ih hl ⟨XB j1,fun e he=>?_,j3,L',hL',by omega⟩ h0
        rcases putE_ok (P:=fun t z=>okV (okT s d) s (zf m t).1.fType z) hv (fun a ha=>(j2 a ha).2.2.2.2) he with h|⟨a1,a2,a3,a4,a5⟩
        · exact j2 e h
        exact⟨by rw[a1]; exact⟨hc.1,hc.2.1⟩,by rw[a1]; exact hk,⟨a3,by omega⟩,by rw[a1]; exact a2,by rw[a1]; exact a5⟩
      rw[if_neg hp] at h0; exact absurd h0 (show ¬ ((ZX,(4:Int)).2=0) by decide)
    rw[if_neg ho] at h0; exact absurd h0 ho
  rw[if_neg hk] at h0 ⊢;refine fldD_ok ih hl ⟨j1,j2,fun x hx=>?_,L,j4,?_⟩ h0
  · rcases un.1 hx with hx|hx
    · exact j3 x hx
    rw[uq] at hx; rw[hx]; exact⟨hrr,hk⟩
  rw[wC,xL,qi,qi]; show _+(_+(_+0))≤_; omega
theorem decM_ok {s:GSchema}:∀ (d:Nat) (m:GMessage) (b:List UInt8),(Xf s d m b).2=0→okT s d m (Xf s d m b).1∧∃ c,YF d (Xf s d m b).1=some c∧c.length≤b.length
 |0,_,_,h=>absurd h (show ¬ ((ZX,(10:Int)).2=0) by decide)
 |d+1,m,b,h=>by
  rw[Xf] at h ⊢
  by_cases hg:(getD b).2=0
  · rw[if_pos hg] at h ⊢;obtain⟨g1,g2,g3⟩:=getD_ok hg;obtain⟨es,rest,⟨j1,j2,j3,L,j4,j5⟩,e⟩:=fldD_ok (decM_ok d) (n:=0) (es:=[]) (rest:=[]) g3 ⟨List.Pairwise.nil,(fun _ h=>by cases h),(fun _ h=>by cases h),[],rfl,qu _⟩ h;rw[← g1] at j5;rw[e];obtain⟨L',f1,f2⟩:=vbo (p:=fun e => !isZ m e) j4
    have hrl:rest.length≤4096:=by have:=vag rest; omega
    have hlen:(xK (srt (srt rest++L'))).length≤b.length:=by
     rw[srt_bytes,wC,qi,srt_bytes]; omega
    refine⟨⟨rfl,rfl,rfl,?_,fun x hx=>?_,vab _,?_,fun r hr=>?_⟩,xK (srt (srt rest++L')),?_,hlen⟩
    · rw[gt_es]; exact List.Pairwise.filter _ j1
    · rw[gt_es,zdel,List.mem_filter,uD] at hx;exact⟨j2 x hx.1,hx.2⟩
    · rw[gt_rest,srt_len]; exact hrl
    · rw[gt_rest,srt_mem] at hr; exact j3 r hr
    rw[YF,gt_es,gt_rest,zdel,f1,qg,putB,if_neg (by omega)]
  rw[if_neg hg] at h; exact absurd h hg
end
section
set_option maxRecDepth 4000
open AM

end
section
set_option maxRecDepth 4000
open AM
theorem msgI_l21 {s:GSchema}{r2:Bool×List (List UInt8×Bool)}{z:List (List UInt8×Bool)}:∀ {l:List GField} {i:Int} {a:List (Int×Bool)} {b:List (List UInt8×Bool)},zp.l21 s r2 l i a b=some (0,z)→∀ f∈l,1≤f.fType.fKind∧f.fType.fKind≤7
 |[],_,_,_,_,f,hf=>by cases hf
 |g::l,i,a,b,h,f,hf=>by
  rw[zp.l21] at h;obtain⟨r,_,h⟩:=bind_some h
  split at h
  · cases h
  unfold bnd at h
  dsimp only at h
  split at h
  · cases h
  split at h
  · cases h
  rename_i hc
  rcases qJ.1 hf with rfl|hf
  · rw[uD,Bool.not_eq_false] at hc;unfold xC at hc
    split at hc
    · omega
    split at hc
    · omega
    simp only[qo,decide_eq_true_eq] at hc
    omega
  exact msgI_l21 h f hf
theorem msgI_l12 {s:GSchema}{m:GMessage}{r2:Bool×List (List UInt8×Bool)}{z:List (List UInt8×Bool)}:∀ {l:List Int} {i:Int} {a:List (Int×Bool)},zp.l12 s m r2 l i a=some (0,z)→∀ f∈m.fFields,1≤f.fType.fKind∧f.fType.fKind≤7
 |[],_,_,h=>msgI_l21 h
 |n::l,i,a,h=>by
  rw[zp.l12] at h;unfold bnd at h
  dsimp only at h
  split at h
  · cases h
  exact msgI_l12 h
theorem msgI {s:GSchema}{a z:List (List UInt8×Bool)}{m:GMessage}(h:zp s a m=some (0,z)):∀ f∈m.fFields,1≤f.fType.fKind∧f.fType.fKind≤7:=by
 rw[zp] at h;obtain⟨r,_,h⟩:=bind_some h
 split at h
 · cases h
 split at h
 · cases h
 exact msgI_l12 h
def kindsS (s:GSchema):Prop:=∀ m∈s.fMessages,∀ f∈m.fFields,1≤f.fType.fKind∧f.fType.fKind≤7
theorem chkI_l15 {s:GSchema}:∀ {l:List GMessage} {i:Int} {a:List (List UInt8×Bool)},zl.l15 s l i a=some 0→∀ m∈l,∀ f∈m.fFields,1≤f.fType.fKind∧f.fType.fKind≤7
 |[],_,_,_,m,hm=>by cases hm
 |x::l,i,a,h,m,hm=>by
  rw[zl.l15] at h;obtain⟨⟨v,z⟩,e,h⟩:=bind_some h
  dsimp only at h
  split at h
  · rename_i h0
    subst h0
    rcases qJ.1 hm with rfl|hm
    · exact msgI e
    exact chkI_l15 h m hm
  rename_i h0
  exact absurd (Option.some.inj h) h0
theorem kindsS_of {s:GSchema}(h:zl s=some 0):kindsS s:=by
 rw[zl] at h;obtain⟨r,_,h⟩:=bind_some h
 split at h
 · cases h
 split at h
 · cases h
 split at h
 · cases h
 exact chkI_l15 h
theorem msg_mem {n:List UInt8}:∀ (l:List GMessage) (i:Int),((zx.l4 n l i).1∈l∧(zx.l4 n l i).2=true)∨((zx.l4 n l i).1.fFields=[]∧(zx.l4 n l i).2=false)
 |[],i=>Or.inr ⟨rfl,rfl⟩
 |m::l,i=>by
  rw[zx.l4]
  split
  · exact Or.inl ⟨qr ..,rfl⟩
  rcases msg_mem (n:=n) l (i+1) with h|h
  · exact Or.inl ⟨qq _ h.1,h.2⟩
  exact Or.inr h
def kindsM (m:GMessage):Prop:=∀ f∈m.fFields,1≤f.fType.fKind∧f.fType.fKind≤7
theorem kinds_msg {s:GSchema}(h:kindsS s)(n:List UInt8):kindsM (XC s n):=by
 rcases msg_mem (n:=n) s.fMessages 0 with e|e
 · exact h _ e.1
 intro f hf
 have:(XC s n).fFields=[]:=e.1
 rw[this] at hf; cases hf
end
section
set_option maxRecDepth 4000
open AM
def szS (s:GSchema):Prop:=nmS s∧s.fMessages.length*64≤140737488351232∧s.fEnums.length*40≤140737488351232∧s.fMethods.length*48≤140737488351232∧(∀ m∈s.fMessages,m.fFields.length*56≤140737488351232∧m.fReserved.length*8≤140737488351232)∧∀ e∈s.fEnums,e.fValues.length*24≤140737488351232
theorem bytes_copy {b:List UInt8}(h:b.length≤140737488355328):wz b=some b:=by
 rw[wz,xR (by omega),qg]
theorem few_l25 {m:GMessage}{x2 x3:Int}{rec6:Int→Int→Option Bool}(hr:∃ b,rec6 (IntKind.i64.wrap (x2+(qb m.fName:Int))) (IntKind.i64.wrap (x3+1))=some b):∀ (l:List GField) (i:Int),∃ b,zF.l25 x2 x3 rec6 m l i=some b
 |[],_=>by rw[zF.l25]; exact hr
 |f::l,i=>by
  rw[zF.l25]
  split
  · exact⟨_,rfl⟩
  exact few_l25 hr l _
theorem few_l60 {x:Int}{rec43:Int→Option Bool}(hr:∃ b,rec43 (IntKind.i64.wrap (x+1))=some b):∀ (l:List GNamed) (i:Int),∃ b,zF.l60 x rec43 l i=some b
 |[],_=>by rw[zF.l60]; exact hr
 |f::l,i=>by
  rw[zF.l60]
  split
  · exact⟨_,rfl⟩
  exact few_l60 hr l _
theorem Yq {α:Type}{l:List α}{j:Nat}(h:j<l.length):wV l (j:Int)=some (l[j]'h):=
 idx_t (by omega) (by rw[qW]; exact qV h)
theorem few_l78 {s:GSchema}{n:Int}:∀ (k j:Nat),20<k+j→j≤20→∃ b,zF.l78 s n k (j:Int)=some b
 |0,j,h,h'=>by omega
 |k+1,j,h,h'=>by
  rw[zF.l78]
  split
  · rename_i hc
    simp only[qo,decide_eq_true_eq] at hc;rw[Yq (show j<s.fMethods.length by omega),qg]
    split
    · exact⟨_,rfl⟩
    rw[yr (by omega) (by omega),show (j:Int)+1=((j+1:Nat):Int) by omega];exact few_l78 k (j+1) (by omega) (by omega)
  exact⟨_,rfl⟩
theorem few_l43 {s:GSchema}{n:Int}:∀ (k j:Nat),20<k+j→j≤20→∃ b,zF.l43 s n k (j:Int)=some b
 |0,j,h,h'=>by omega
 |k+1,j,h,h'=>by
  rw[zF.l43]
  split
  · rename_i hc
    simp only[qo,decide_eq_true_eq] at hc;rw[Yq (show j<s.fEnums.length by omega),qg]
    split
    · exact⟨_,rfl⟩
    refine few_l60 ?_ _ _;rw[yr (by omega) (by omega),show (j:Int)+1=((j+1:Nat):Int) by omega];exact few_l43 k (j+1) (by omega) (by omega)
  exact few_l78 rounds 0 (by have:=yG; omega) (by omega)
theorem few_l6 {s:GSchema}:∀ (k j:Nat) (n:Int),20<k+j→j≤20→∃ b,zF.l6 s k n (j:Int)=some b
 |0,j,n,h,h'=>by omega
 |k+1,j,n,h,h'=>by
  rw[zF.l6]
  split
  · rename_i hc
    simp only[qo,decide_eq_true_eq] at hc;rw[Yq (show j<s.fMessages.length by omega),qg]
    split
    · exact⟨_,rfl⟩
    refine few_l25 ?_ _ _;rw[yr (x:=(j:Int)+1) (by omega) (by omega),show (j:Int)+1=((j+1:Nat):Int) by omega];exact few_l6 k (j+1) _ (by omega) (by omega)
  exact few_l43 rounds 0 (by have:=yG; omega) (by omega)
theorem few_t (s:GSchema):∃ b,zF s=some b:=few_l6 rounds 0 _ (by have:=yG; omega) (by omega)
end
section
set_option maxRecDepth 4000
open AM
def bt (a:List UInt8)(i:Nat):Nat:=(a.getD i 0).toNat
theorem bt_lt (a:List UInt8)(i:Nat):bt a i<256:=UInt8.toNat_lt _
theorem bt_get {a:List UInt8}{i:Nat}(h:i<a.length):bt a i=(a[i]'h).toNat:=by
 unfold bt; rw[qv,qV h]; rfl
theorem bt_drop (a:List UInt8)(p i:Nat):bt (a.drop p) i=bt a (p+i):=by
 unfold bt; rw[qv,qv,List.getElem?_drop]
def decB (b:Nat→Nat)(n:Nat):Nat×Nat:=
 if b 0<128 then (b 0,1)
 else if b 0 / 32=6∧(1<n∧b 1 / 64=2) then
  (if 128≤b 0 % 32*64+b 1 % 64 then (b 0 % 32*64+b 1 % 64,2) else (65533,1))
 else if b 0 / 16=14∧(1<n∧b 1 / 64=2)∧(2<n∧b 2 / 64=2) then
  (if 2048≤b 0 % 16*4096+b 1 % 64*64+b 2 % 64∧Utf8.valid ((b 0 % 16*4096+b 1 % 64*64+b 2 % 64:Nat):Int)=true then (b 0 % 16*4096+b 1 % 64*64+b 2 % 64,3) else (65533,1))
 else if b 0 / 8=30∧(1<n∧b 1 / 64=2)∧(2<n∧b 2 / 64=2)∧(3<n∧b 3 / 64=2) then
  (if 65536≤b 0 % 8*262144+b 1 % 64*4096+b 2 % 64*64+b 3 % 64∧Utf8.valid ((b 0 % 8*262144+b 1 % 64*4096+b 2 % 64*64+b 3 % 64:Nat):Int)=true then (b 0 % 8*262144+b 1 % 64*4096+b 2 % 64*64+b 3 % 64,4) else (65533,1))
 else (65533,1)
theorem get_bt (a:List UInt8)(i:Nat):(ByteArray.get! ⟨a.toArray⟩ i).toNat=bt a i:=by
 unfold bt ByteArray.get!
 simp[qv,Array.getElem!_eq_getD]
 rfl
theorem decU_eq (a:List UInt8)(p:Nat):Ye a p=decB (fun k=>bt a (p+k)) (a.length-p):=by
 have hs:(⟨a.toArray⟩:ByteArray).size=a.length:=rfl
 have hc:∀ k,(p+k<a.length)=(k<a.length-p):=fun k=>by rw[eq_iff_iff]; omega
 unfold Ye Utf8.decode decB;simp only[get_bt,hs,hc,Utf8.runeError,qo,decide_eq_true_eq,beq_iff_eq,and_assoc,ge_iff_le]
theorem decU_drop (a:List UInt8)(p:Nat):Ye (a.drop p) 0=Ye a p:=by
 rw[decU_eq,decU_eq,uI];simp only[bt_drop,qt,uR]
theorem tail_eq {a:List UInt8}{i:Nat}:wJ a (i:Int)=some (if i<a.length∧bt a i / 64=2 then ((bt a i % 64:Nat):Int) else -1):=by
 have hb:=bt_lt a i;rw[wJ]
 by_cases h:i<a.length
 · rw[if_neg (by omega),Yq h,qg,← bt_get h]
   by_cases h1:bt a i<128
   · rw[decide_eq_true (by omega),qg,if_pos rfl,qg,if_pos rfl,if_neg (by omega)]
   rw[decide_eq_false (by omega),qg,if_neg (by decide),qg,← bt_get h]
   by_cases h2:191<bt a i
   · rw[decide_eq_true (by omega),qg,if_pos rfl,if_neg (by omega)]
   rw[decide_eq_false (by omega),qg,if_neg (by decide),qg,← bt_get h,if_pos (by omega),yr (x:=(bt a i:Int)) (by omega) (by omega),yr (by omega) (by omega)]
   congr 1; omega
 rw[if_pos (by omega),qg,if_pos rfl,qg,if_pos rfl,if_neg (by omega)]
theorem i32_in {x:Int}(h:0≤x)(h':x<2147483648):IntKind.i32.wrap x=x:=by rw[IntKind.wrap_i32]; omega
theorem l17_go {a:List UInt8}{p n least k v:Nat}(j j':Nat)(hj':j'=j+1)(hj:j<n)(hp:p+j<4611686018427387904)(hv:v<1073741824):yi.l17 a (p:Int) (n:Int) (least:Int) (k+1) (v:Int) (j:Int)=
 if p+j<a.length∧bt a (p+j) / 64=2 then yi.l17 a (p:Int) (n:Int) (least:Int) k ((v*64+bt a (p+j) % 64:Nat):Int) (j':Int) else some (0,0,false):=by
 rw[yi.l17,if_pos (by omega),yr (x:=(p:Int)+j) (by omega) (by omega),show (p:Int)+(j:Int)=((p+j:Nat):Int) by omega,tail_eq,qg]
 by_cases h:p+j<a.length∧bt a (p+j) / 64=2
 · rw[if_pos h,if_pos h,if_neg (by omega),yr (x:=64*(v:Int)) (by omega) (by omega),yr (x:=64*(v:Int)+_) (by omega) (by omega),yr (x:=(j:Int)+1) (by omega) (by omega),show 64*(v:Int)+((bt a (p+j) % 64:Nat):Int)=((v*64+bt a (p+j) % 64:Nat):Int) by omega,show (j:Int)+1=(j':Int) by omega]
 rw[if_neg h,if_neg h,if_pos (by omega)]
theorem l17_end {a:List UInt8}{p n least k v:Nat}:yi.l17 a (p:Int) (n:Int) (least:Int) (k+1) (v:Int) (n:Int)=if v<least∨1114111<v∨(55296≤v∧v≤57343) then some (0,0,false) else some ((v:Int),(n:Int),true):=by
 rw[yi.l17,if_neg (by omega)]
 by_cases h:v<least∨1114111<v∨(55296≤v∧v≤57343)
 · rw[if_pos h,if_pos (by simp only[qS,qo,decide_eq_true_eq]; omega)]
 rw[if_neg h,if_neg (by simp only[qS,qo,decide_eq_true_eq]; omega),i32_in (by omega) (by omega)]
theorem next_eq {a:List UInt8}{p:Nat}(hp:p<a.length)(hl:a.length<2305843009213693952):(yi a (p:Int)=some (0,0,false)∧(Ye a p)=(65533,1)) ∨
 ∃ c m:Nat,yi a (p:Int)=some ((c:Int),(m:Int),true)∧Ye a p=(c,m)∧1≤m∧m≤4∧(c=65533→2≤m):=by
 obtain⟨K,hK⟩:∃ K,rounds=K+5:=⟨rounds-5,by have:=yG; omega⟩
 have h0:=bt_lt a p;have h1:=bt_lt a (p+1);have h2:=bt_lt a (p+2);have h3:=bt_lt a (p+3)
 have hn:∀ k,(k<a.length-p)=(p+k<a.length):=fun k=>by rw[eq_iff_iff]; omega
 rw[decU_eq,decB];simp only[hn,uY];rw[yi,if_neg (by simp only[qS,decide_eq_true_eq]; omega),Yq hp,qg,← bt_get hp,yr (x:=(bt a p:Int)) (by omega) (by omega)]
 by_cases c1:bt a p<128
 · right
   rw[if_pos c1,if_pos (by omega),i32_in (by omega) (by omega)];exact⟨bt a p,1,rfl,rfl,by omega,by omega,by omega⟩
 rw[if_neg c1,if_neg (by omega)]
 by_cases c2:bt a p / 32=6
 · rw[if_pos (by simp only[qo,decide_eq_true_eq]; omega),yi.j11,hK,yr (by omega) (by omega),show ((bt a p:Nat):Int)-192=((bt a p % 32:Nat):Int) by omega,show (2:Int)=((2:Nat):Int) from rfl,show (128:Int)=((128:Nat):Int) from rfl,show (1:Int)=((1:Nat):Int) from rfl,l17_go 1 2 rfl (by omega) (by omega) (by omega)]
   by_cases d1:p+1<a.length∧bt a (p+1) / 64=2
   · rw[if_pos d1,if_pos ⟨c2,d1⟩,show K+4=(K+3)+1 from rfl,l17_end]
     by_cases e1:128≤bt a p % 32*64+bt a (p+1) % 64
     · rw[if_neg (by omega),if_pos e1];exact Or.inr ⟨_,_,rfl,rfl,by omega,by omega,by omega⟩
     rw[if_pos (by omega),if_neg e1]; exact Or.inl ⟨rfl,rfl⟩
   rw[if_neg d1,if_neg (fun h=>d1 h.2),if_neg (by omega),if_neg (by omega)];exact Or.inl ⟨rfl,rfl⟩
 rw[if_neg (by simp only[qo,decide_eq_true_eq]; omega),if_neg (show ¬ (bt a p / 32=6∧_) from fun h=>c2 h.1)]
 by_cases c3:bt a p / 16=14
 · rw[if_pos (by simp only[qo,decide_eq_true_eq]; omega),yi.j11,hK,yr (by omega) (by omega),show ((bt a p:Nat):Int)-224=((bt a p % 16:Nat):Int) by omega,show (3:Int)=((3:Nat):Int) from rfl,show (2048:Int)=((2048:Nat):Int) from rfl,show (1:Int)=((1:Nat):Int) from rfl,l17_go 1 2 rfl (by omega) (by omega) (by omega)]
   by_cases d1:p+1<a.length∧bt a (p+1) / 64=2
   · rw[if_pos d1,show K+4=(K+3)+1 from rfl,l17_go 2 3 rfl (by omega) (by omega) (by omega)]
     by_cases d2:p+2<a.length∧bt a (p+2) / 64=2
     · rw[if_pos d2,if_pos ⟨c3,d1,d2⟩,show K+3=(K+2)+1 from rfl,l17_end]
       have ev:(bt a p % 16*64+bt a (p+1) % 64)*64+bt a (p+2) % 64=bt a p % 16*4096+bt a (p+1) % 64*64+bt a (p+2) % 64:=by omega
       rw[ev]
       by_cases e1:2048≤bt a p % 16*4096+bt a (p+1) % 64*64+bt a (p+2) % 64∧Utf8.valid ((bt a p % 16*4096+bt a (p+1) % 64*64+bt a (p+2) % 64:Nat):Int)=true
       · have e2:=e1.2;unfold Utf8.valid at e2;simp only[qS,qo,decide_eq_true_eq] at e2;rw[if_neg (by omega),if_pos e1];exact Or.inr ⟨_,_,rfl,rfl,by omega,by omega,by omega⟩
       have e2:=e1;unfold Utf8.valid at e2;simp only[qS,qo,decide_eq_true_eq] at e2
       rw[if_pos (by omega),if_neg e1]; exact Or.inl ⟨rfl,rfl⟩
     rw[if_neg d2,if_neg (fun h=>d2 h.2.2),if_neg (by omega)];exact Or.inl ⟨rfl,rfl⟩
   rw[if_neg d1,if_neg (fun h=>d1 h.2.1),if_neg (by omega)];exact Or.inl ⟨rfl,rfl⟩
 rw[if_neg (by simp only[qo,decide_eq_true_eq]; omega),if_neg (show ¬ (bt a p / 16=14∧_) from fun h=>c3 h.1)]
 by_cases c4:bt a p / 8=30
 · rw[if_pos (by simp only[qo,decide_eq_true_eq]; omega),yi.j11,hK,yr (by omega) (by omega),show ((bt a p:Nat):Int)-240=((bt a p % 8:Nat):Int) by omega,show (4:Int)=((4:Nat):Int) from rfl,show (65536:Int)=((65536:Nat):Int) from rfl,show (1:Int)=((1:Nat):Int) from rfl,l17_go 1 2 rfl (by omega) (by omega) (by omega)]
   by_cases d1:p+1<a.length∧bt a (p+1) / 64=2
   · rw[if_pos d1,show K+4=(K+3)+1 from rfl,l17_go 2 3 rfl (by omega) (by omega) (by omega)]
     by_cases d2:p+2<a.length∧bt a (p+2) / 64=2
     · rw[if_pos d2,show K+3=(K+2)+1 from rfl,l17_go 3 4 rfl (by omega) (by omega) (by omega)]
       by_cases d3:p+3<a.length∧bt a (p+3) / 64=2
       · rw[if_pos d3,if_pos ⟨c4,d1,d2,d3⟩,show K+2=(K+1)+1 from rfl,l17_end]
         have ev:((bt a p % 8*64+bt a (p+1) % 64)*64+bt a (p+2) % 64)*64+bt a (p+3) % 64=bt a p % 8*262144+bt a (p+1) % 64*4096+bt a (p+2) % 64*64+bt a (p+3) % 64:=by omega
         rw[ev]
         by_cases e1:65536≤bt a p % 8*262144+bt a (p+1) % 64*4096+bt a (p+2) % 64*64+bt a (p+3) % 64∧Utf8.valid ((bt a p % 8*262144+bt a (p+1) % 64*4096+bt a (p+2) % 64*64+bt a (p+3) % 64:Nat):Int)=true
         · have e2:=e1.2;unfold Utf8.valid at e2;simp only[qS,qo,decide_eq_true_eq] at e2;rw[if_neg (by omega),if_pos e1];exact Or.inr ⟨_,_,rfl,rfl,by omega,by omega,by omega⟩
         have e2:=e1;unfold Utf8.valid at e2;simp only[qS,qo,decide_eq_true_eq] at e2
         rw[if_pos (by omega),if_neg e1]; exact Or.inl ⟨rfl,rfl⟩
       rw[if_neg d3,if_neg (fun h=>d3 h.2.2.2)];exact Or.inl ⟨rfl,rfl⟩
     rw[if_neg d2,if_neg (fun h=>d2 h.2.2.1)];exact Or.inl ⟨rfl,rfl⟩
   rw[if_neg d1,if_neg (fun h=>d1 h.2.1)];exact Or.inl ⟨rfl,rfl⟩
 rw[if_neg (by simp only[qo,decide_eq_true_eq]; omega),if_neg (show ¬ (bt a p / 8=30∧_) from fun h=>c4 h.1)];exact Or.inl ⟨rfl,rfl⟩
end
section
set_option maxRecDepth 4000
open AM
def rl (a:List UInt8):Nat→Nat→Option (List Nat)
 |0,_=>none
 |k+1,p=>if p<a.length then (if Ye a p=(65533,1) then none else (rl a k (p+(Ye a p).2)).map ((Ye a p).1 :: ·)) else some []
theorem rl_all {a:List UInt8}(hl:a.length≤30000):∀ (k p:Nat) (l:List Int),a.length<p+k→0<k→p≤40000→l.length+(a.length-p)≤40000→xH.l8 a k l (p:Int)=some (match rl a k p with|some T=>(l++T.map (fun c:Nat=>(c:Int)),true)|none=>([],false))
 |0,p,l,h,h0,_,_=>by omega
 |k+1,p,l,h,_,hp,hll=>by
  rw[xH.l8,rl]
  by_cases hpl:p<a.length
  · rw[if_pos (by omega),if_pos hpl]
    rcases next_eq hpl (by omega) with ⟨e,ed⟩|⟨c,m,e,ed,h1,h2,h3⟩
    · rw[e,qg,if_pos (by rfl),if_pos ed]
    rw[e,qg,if_neg (by simp),xR (by omega),qg,if_neg (fun h=>by rw[ed] at h; simp only[Prod.mk.injEq] at h; have:=h3 h.1; omega),ed]
    dsimp only
    rw[yr (by omega) (by omega),show (p:Int)+(m:Int)=((p+m:Nat):Int) by omega,rl_all hl k (p+m) _ (by omega) (by omega) (by omega) (by rw[qi,qF]; omega)]
    cases rl a k (p+m) with
    |none=>rfl
    |some T=>simp only[uB,qG,qp,qA,qz]
  rw[if_neg (by omega),if_neg hpl]; simp only[qx,qw]
theorem cut_drop {a:List UInt8}{p:Nat}(h:p<a.length):Yx a (p:Int) (a.length:Int)=a.drop p:=by
 unfold Yx;rw[qW,qW,uh (by rw[uI]; omega)]
theorem rnext_eq {a:List UInt8}{p:Nat}(h:p<a.length)(hl:a.length≤30000):∃ r,xW a (p:Int)=some r∧(r.2.2=true↔Ye a p≠(65533,1)):=by
 have hd:Zj (Yx a (p:Int) (a.length:Int))=(((Ye a p).1:Int),((Ye a p).2:Int)):=by
  rw[cut_drop h,Zj,dec0,if_neg (fun hc=>by have:=congrArg qb hc; rw[uI,qn] at this; omega),decU_drop]
 rw[xW,if_neg (by simp only[qS,decide_eq_true_eq]; omega),YW (by omega),qg,bnd,hd]
 rcases next_eq h (by omega) with ⟨_,ed⟩|⟨c,m,_,ed,h1,h2,h3⟩
 · rw[ed];refine⟨_,by rw[if_pos (by simp)],?_⟩
   simp
 rw[ed]
 have hne:¬ ((c,m)=(65533,1)):=fun hc=>by simp only[Prod.mk.injEq] at hc; have:=h3 hc.1; omega
 refine⟨_,by rw[if_neg (by simp only[qo,decide_eq_true_eq]; omega)],?_⟩
 simp[hne]
theorem rl_valid {a:List UInt8}(hl:a.length≤30000):∀ (k p:Nat),a.length<p+k→0<k→yn.l4 a k p=some (rl a k p).isSome
 |0,p,h,h0=>by omega
 |k+1,p,h,_=>by
  rw[yn.l4,rl]
  by_cases hpl:p<a.length
  · rw[if_pos hpl,if_pos hpl];have hm:=ZV a p;have ih:=rl_valid hl k (p+(Ye a p).2) (by omega) (by omega)
    by_cases hb:Ye a p=(65533,1)
    · obtain⟨r,e,hr⟩:=rnext_eq hpl hl;rw[if_pos hb,if_pos (by rw[hb]; rfl),e,qg,if_pos]
      · rfl
      cases hv:r.2.2 with
      |true=>exact absurd hb (hr.1 hv)
      |false=>rfl
    rw[if_neg hb,Option.isSome_map]
    split
    · obtain⟨r,e,hr⟩:=rnext_eq hpl hl;rw[e,qg,if_neg (by rw[hr.2 hb]; decide),ih]
    exact ih
  rw[if_neg hpl,if_neg hpl]; rfl
theorem rl_count {a:List UInt8}(hl:a.length≤30000):∀ (k p:Nat) (x:Nat) (T:List Nat),x+(a.length-p)≤40000→rl a k p=some T→yB.l9 a k p (x:Int)=some ((x+T.length:Nat):Int)
 |0,p,x,T,_,h=>by cases h
 |k+1,p,x,T,hx,h=>by
  rw[rl] at h;rw[yB.l9]
  by_cases hpl:p<a.length
  · have hm:=ZV a p;rw[if_pos hpl] at h ⊢
    split at h
    · cases h
    obtain⟨T',hT,rfl⟩:=Option.map_eq_some_iff.1 h;rw[yr (by omega) (by omega),show (x:Int)+1=((x+1:Nat):Int) by omega,rl_count hl k _ (x+1) T' (by omega) hT,qk]
    congr 2; omega
  rw[if_neg hpl] at h ⊢
  cases h; rfl
def lod (c:Nat):Bool:=y0 (c:Int)||xN (c:Int)
theorem letter_eq (c:Int):yQ c=y0 c:=by
 rw[Bool.eq_iff_iff];unfold yQ yQ.j6 y0 wb bnd
 by_cases h1:c=95
 · subst h1; decide
 by_cases h2:c=215
 · subst h2; decide
 by_cases h3:c=247
 · subst h3; decide
 by_cases h4:c=930
 · subst h4; decide
 simp only[h1,h2,h3,h4,if_false,decide_false,qZ,Bool.ite_eq_true_distrib,qS,qo,decide_eq_true_eq,qC,and_true,or_false,ite_then_self]
 (repeat' split)<;>first|omega|simp_all|(simp_all; omega)
theorem digit_eq (c:Int):wv c=xN c:=rfl
theorem key_eq (a:List UInt8):yW a=yR a:=rfl
theorem rl_name {a:List UInt8}:∀ (k p:Nat) (T:List Nat),0<p→rl a k p=some T→yl.l11 a k p=some (T.all lod)
 |0,p,T,_,h=>by cases h
 |k+1,p,T,h0,h=>by
  rw[rl] at h;rw[yl.l11]
  by_cases hpl:p<a.length
  · have hm:=ZV a p;rw[if_pos hpl] at h ⊢
    split at h
    · cases h
    obtain⟨T',hT,rfl⟩:=Option.map_eq_some_iff.1 h;have ih:=rl_name k _ T' (by omega) hT;rw[letter_eq,digit_eq,ih,q5,lod];unfold bnd
    dsimp only
    rw[if_neg (show ¬ ((p:Nat):Int)=0 by omega)]
    cases y0 ((Ye a p).1:Int)<;>cases xN ((Ye a p).1:Int)<;>rfl
  rw[if_neg hpl] at h ⊢
  cases h; rfl
theorem ref_l14 {L:List Nat}{v:Bool}(hL:L.length≤40000):∀ (k i:Nat),L.length<k+i→i≤L.length→yO.l14 (L.map (fun c:Nat=>(c:Int)),v) k (i:Int)=some ((L.drop i).all lod)
 |0,i,h,h'=>by omega
 |k+1,i,h,h'=>by
  rw[yO.l14]
  by_cases hi:i<L.length
  · have hi':i<(L.map (fun c:Nat=>(c:Int))).length:=by rw[q2]; exact hi
    rw[if_pos (by dsimp only; omega),Yq hi',qg,List.getElem_map,yr (by omega) (by omega),show (i:Int)+1=((i+1:Nat):Int) by omega,ref_l14 hL k (i+1) (by omega) (by omega),uT hi,q5,lod];unfold bnd
    dsimp only
    cases y0 (L[i]:Int)<;>cases xN (L[i]:Int)<;>rfl
  rw[if_neg (by dsimp only; rw[q2]; omega),List.drop_of_length_le (by omega)]; rfl
theorem rl_len {a:List UInt8}:∀ (k p:Nat) (T:List Nat),rl a k p=some T→T.length≤a.length-p
 |0,p,T,h=>by cases h
 |k+1,p,T,h=>by
  rw[rl] at h;have hm:=ZV a p
  split at h
  · split at h
    · cases h
    obtain⟨T',hT,rfl⟩:=Option.map_eq_some_iff.1 h;have:=rl_len k _ T' hT
    rw[qk]; omega
  cases h; exact ur _
theorem name_eq {a:List UInt8}(hl:a.length≤30000):yO a=yl a:=by
 have hr:=yG;have e1:=rl_all hl rounds 0 [] (by omega) (by omega) (by omega) (by rw[qn]; omega);have e2:=rl_valid hl rounds 0 (by omega) (by omega)
 cases hT:rl a rounds 0 with
 |none=>
  rw[hT] at e1 e2
  rw[yO,yl,yB,show xH a=_ from e1,show yn a=_ from e2]; rfl
 |some T=>
  rw[hT] at e1 e2;have hlen:=rl_len _ _ _ hT
  have e3:yB.l9 a rounds 0 0=some (T.length:Int):=by
   have:=rl_count hl rounds 0 0 T (by omega) hT
   rw[qt] at this; exact this
  have e1':xH a=some (T.map (fun c:Nat=>(c:Int)),true):=e1;have e2':yn a=some true:=e2;rw[yO,yl,yB,e1',e2',qg,qg];have el:(T.map (fun c:Nat=>(c:Int))).length=T.length:=q2 _
  dsimp only
  rw[if_neg (show ¬ (!true)=true by decide),e3,qg,key_eq];unfold bnd
  dsimp only
  simp only[el]
  by_cases hn:T.length<1∨20<T.length
  · have hc:(decide ((T.length:Int)<1)||decide (20<(T.length:Int)))=true:=by simp only[qS,decide_eq_true_eq]; omega
    rw[qK,uL,hc,if_pos rfl,qg,if_pos rfl,if_pos rfl,if_pos rfl]
  have h1:0<T.length:=by omega
  have h1':0<(T.map (fun c:Nat=>(c:Int))).length:=by rw[q2]; exact h1
  have hc:(decide ((T.length:Int)<1)||decide (20<(T.length:Int)))=false:=by
   rw[Bool.eq_false_iff]
   simp only[ne_eq,qS,decide_eq_true_eq]; omega
  have ei:=Yq h1';have e14:=ref_l14 (v:=true) (L:=T) (by omega) rounds 1 (by omega) (by omega);rw[List.getElem_map] at ei;rw[qK,uL,hc,if_neg uJ,show wV (T.map (fun c:Nat=>(c:Int))) 0=_ from ei,qg,qg,if_neg uJ,show yO.l14 (T.map (fun c:Nat=>(c:Int)),true) rounds 1=_ from e14]
  cases T with
  |nil=>exact absurd h1 (by decide)
  |cons c T=>
   obtain⟨k,hk⟩:∃ k,rounds=k+1:=⟨rounds-1,by omega⟩
   have hT':=hT;rw[hk,rl] at hT'
   split at hT'
   · rename_i hpl
     split at hT'
     · cases hT'
     obtain⟨T',hT2,hc⟩:=Option.map_eq_some_iff.1 hT'
     injection hc with hc1 hc2
     subst hc2;have hm:=ZV a 0;have ih:=rl_name k _ T' (by omega) hT2;rw[hk,yl.l11,if_pos hpl,hc1,letter_eq,digit_eq,ih,List.drop_succ_cons,qD];unfold bnd
     dsimp only
     rw[List.getElem_cons_zero]
     cases y0 (c:Int)<;>cases yR a<;>rfl
   cases hT'
end
section
set_option maxRecDepth 4000
open AM
def Rm {K:Type} [DecidableEq K](m:List (K×Bool))(l:List K):Prop:=∀ x,(vao m x).getD false=true↔x∈l
theorem Rm.val {K:Type} [DecidableEq K]{m:List (K×Bool)}{l:List K}(h:Rm m l)(x:K) [inst:Decidable (x∈l)]:(vao m x).getD false=decide (x∈l):=by
 rw[Bool.eq_iff_iff,h x,decide_eq_true_eq]
theorem getM_setM {K V:Type} [DecidableEq K](k x:K)(v:V):∀ (l:List (K×V)),vao (vad l k v) x=if x=k then some v else vao l x
 |[]=>by simp only[vad,vao]
 |(a,w)::l=>by
  rw[vad]
  split
  · rename_i h
    subst h;simp only[vao]
    split<;>rfl
  rename_i h
  simp only[vao,getM_setM k x v l]
  split
  · rename_i h2
    subst h2;rw[if_neg (fun hc=>h hc.symm)]
  rfl
theorem vbQ {K:Type} [DecidableEq K]:Rm ([]:List (K×Bool)) []:=fun x=>by simp[vao]
theorem X6 {K:Type} [DecidableEq K]{m:List (K×Bool)}{l:List K}(h:Rm m l)(k:K):Rm (vad m k true) (l++[k]):=fun x=>by
 rw[getM_setM]
 by_cases hx:x=k
 · rw[if_pos hx]; simp[hx]
 rw[if_neg hx,h x]; simp[hx]
theorem fresh_l (x:List UInt8):∀ (l:List (List UInt8)) (i:Int),yb.l4 x l i=if x∈l then some false else yO x
 |[],i=>by rw[yb.l4,if_neg (List.not_mem_nil)]; cases yO x<;>rfl
 |y::l,i=>by
  rw[yb.l4,fresh_l]
  by_cases h:y=x
  · rw[if_pos h,if_pos (by rw[h]; exact qr ..)]
  rw[if_neg h]
  by_cases h2:x∈l
  · rw[if_pos h2,if_pos (qq _ h2)]
  rw[if_neg h2,if_neg (fun hc=>by rcases qJ.1 hc with e|e; exact h e.symm; exact h2 e)]
theorem Xk {m:List (List UInt8×Bool)}{l:List (List UInt8)}{x:List UInt8}(h:Rm m l)(hx:x.length≤3000):∃ b,yb x l=some b∧z7 m x=some (b,if b=true then vad m x true else m):=by
 have hn:yl x=some (nameV x):=nameV_eq (by unfold nmOk; omega);rw[yb,fresh_l,z7,hn,qg,name_eq (by omega),hn,h.val x]
 by_cases hm:x∈l
 · refine⟨false,by rw[if_pos hm],?_⟩;rw[decide_eq_true hm,qO,if_pos rfl,if_neg uJ]
 refine⟨nameV x,by rw[if_neg hm],?_⟩;rw[decide_eq_false hm,qU]
 cases nameV x<;>rfl
theorem vaf (t:Int):∀ (l:List Int) (i:Int),ye.l4 t l i=decide (t∈l)
 |[],i=>rfl
 |y::l,i=>by
  rw[ye.l4,vaf]
  by_cases h:y=t
  · rw[if_pos h,decide_eq_true (by rw[h]; exact qr ..)]
  rw[if_neg h];exact decide_eq_decide.2 ⟨fun hc=>qq _ hc,fun hc=>by rcases qJ.1 hc with e|e; exact absurd e.symm h; exact e⟩
theorem field_l (t:Int):∀ (l:List GField) (i:Int),(yC.l4 t l i).2=decide (t∈l.map GField.fTag)
 |[],i=>rfl
 |y::l,i=>by
  rw[yC.l4,qG]
  by_cases h:y.fTag=t
  · rw[if_pos h,decide_eq_true (by rw[h]; exact qr ..)]
  rw[if_neg h,field_l];exact decide_eq_decide.2 ⟨fun hc=>qq _ hc,fun hc=>by rcases qJ.1 hc with e|e; exact absurd e.symm h; exact e⟩
theorem cut_app {α:Type}(A B:List α):Yx (A++B) 0 (A.length:Int)=A:=by
 unfold Yx;rw[qW,show qN 0=0 from rfl,qD,uR,List.take_left' rfl]
theorem enum_l (n:List UInt8):∀ (l:List GEnumeration) (i j:Int),xu.l4 n l i=xj.l4 n l j
 |[],_,_=>rfl
 |y::l,i,j=>by rw[xu.l4,xj.l4,enum_l n l (i+1) (j+1)]
theorem XS (n:List UInt8):∀ (l:List GMessage) (i j:Int),zZ.l4 n l i=zx.l4 n l j
 |[],_,_=>rfl
 |y::l,i,j=>by rw[zZ.l4,zx.l4,XS n l (i+1) (j+1)]
theorem kind_of (s:GSchema)(y:GType):yH s y=(if y.fKind=6 then (xj s y.fName).2 else if y.fKind=7 then (zx s y.fName).2 else (decide (1≤y.fKind)&&decide (y.fName=[]))&&decide (y.fKind<6)):=by
 have e6:xu s y.fName=xj s y.fName:=enum_l _ _ _ _;have e7:zZ s y.fName=zx s y.fName:=XS _ _ _ _
 have small:1≤y.fKind→y.fKind≤5→yH.j3 s y true=(if y.fKind=6 then (xj s y.fName).2 else if y.fKind=7 then (zx s y.fName).2 else (decide (1≤y.fKind)&&decide (y.fName=[]))&&decide (y.fKind<6)):=by
  intro h1 h2
  rw[yH.j3,if_pos rfl,if_neg (by omega),if_neg (by omega),decide_eq_true h1,decide_eq_true (show y.fKind<6 by omega),uK,qL]
 unfold yH
 by_cases k1:y.fKind=1
 · rw[if_pos k1,decide_eq_true k1]; exact small (by omega) (by omega)
 rw[if_neg k1]
 by_cases k2:y.fKind=2
 · rw[if_pos k2,decide_eq_true k2]; exact small (by omega) (by omega)
 rw[if_neg k2]
 by_cases k3:y.fKind=3
 · rw[if_pos k3,decide_eq_true k3]; exact small (by omega) (by omega)
 rw[if_neg k3]
 by_cases k4:y.fKind=4
 · rw[if_pos k4,decide_eq_true k4]; exact small (by omega) (by omega)
 rw[if_neg k4]
 by_cases k5:y.fKind=5
 · rw[decide_eq_true k5]; exact small (by omega) (by omega)
 rw[decide_eq_false k5,yH.j3,if_neg uJ,bnd,bnd,e6,e7]
 split
 · rfl
 split
 · rfl
 rename_i h6 h7
 rw[Bool.eq_iff_iff];simp only[qo,decide_eq_true_eq,qZ,false_iff]
 omega
theorem fieldOk_eq (s:GSchema)(f:GField):xC s f=(decide (1≤f.fLabel)&&decide (f.fLabel≤3)&&yH s f.fType):=by
 rw[kind_of];unfold xC bnd
 split
 · rfl
 split
 · rfl
 simp only[Bool.and_assoc]
theorem msg_l21_eq {s:GSchema}{m:GMessage}{r2:Bool×List (List UInt8×Bool)}(hn:∀ f∈m.fFields,f.fName.length≤3000)(hl:m.fFields.length*56≤140737488351232):∀ (B A:List GField) (i:Int) (tm:List (Int×Bool)) (nm:List (List UInt8×Bool)),m.fFields=A++B→Rm tm (m.fReserved++A.map GField.fTag)→Rm nm (A.map GField.fName)→
 zp.l21 s r2 B i tm nm=(zB.l17 s m B (A.length:Int) (A.map GField.fName)).map fun v=>(v,r2.2)
 |[],A,i,tm,nm,_,_,_=>rfl
 |f::B,A,i,tm,nm,h,ht,hnm=>by
  have hlen:m.fFields.length=A.length+(B.length+1):=by rw[h,qi,qk]
  obtain⟨b,e1,e2⟩:=Xk hnm (hn f (by rw[h]; exact ut _ (qr ..)));rw[zp.l21,zB.l17,e1,e2,qg,qg]
  cases b with
  |false=>rfl
  |true=>
   dsimp only
   rw[if_neg (show ¬ (!true)=true by decide),if_neg (show ¬ (!true)=true by decide),if_pos rfl,xR (by rw[q2]; omega),qg,YW ⟨u7 _,by omega,by omega⟩,qg]
   have ec:Yx m.fFields 0 (A.length:Int)=A:=by rw[h]; exact cut_app A _
   have e3:(yC (⟨[],A,([]:List Int)⟩:GMessage) f.fTag).2=decide (f.fTag∈A.map GField.fTag):=field_l _ _ _;have e4:ye m f.fTag=decide (f.fTag∈m.fReserved):=vaf _ _ _;have e5:wF f.fTag=(decide (1≤f.fTag)&&decide (f.fTag≤500)):=rfl;unfold bnd
   dsimp only
   rw[ec,e3,e4,e5,ht.val f.fTag]
   have e6:(if (decide (f.fTag∈A.map GField.fTag)||decide (f.fTag<1)||decide (500<f.fTag))=true then true else decide (f.fTag∈m.fReserved))=(!(decide (1≤f.fTag)&&decide (f.fTag≤500))||decide (f.fTag∈m.fReserved++A.map GField.fTag)):=by
    rw[Bool.eq_iff_iff]
    by_cases a1:f.fTag∈A.map GField.fTag
    · simp[a1]
    by_cases a2:f.fTag∈m.fReserved
    · simp[a2]
    rw[decide_eq_false a1,decide_eq_false a2,decide_eq_false (show ¬ f.fTag∈m.fReserved++A.map GField.fTag from fun hc=>by rcases un.1 hc with e|e; exact a2 e; exact a1 e)];simp only[uL,qU,qS,uD,Bool.and_eq_false_iff,decide_eq_true_eq,decide_eq_false_iff_not]
    split<;>simp<;>omega
   rw[e6]
   generalize hc:(!(decide (1≤f.fTag)&&decide (f.fTag≤500))||decide (f.fTag∈m.fReserved++A.map GField.fTag))=c
   cases c with
   |true=>rfl
   |false=>
    rw[if_neg uJ,if_neg uJ]
    have e7:(if (decide (f.fLabel<1)||decide (3<f.fLabel))=true then true else !yH s f.fType) = !xC s f:=by
     rw[fieldOk_eq,Bool.eq_iff_iff]
     cases yH s f.fType<;>simp only[qS,decide_eq_true_eq,qC,qK,qR,qL,uD,Bool.and_eq_false_iff,decide_eq_false_iff_not]<;>split<;>simp<;>omega
    rw[e7]
    cases xC s f with
    |false=>rfl
    |true=>
     rw[if_neg (show ¬ (!true)=true by decide),if_neg (show ¬ (!true)=true by decide)];have:=msg_l21_eq (s:=s) (r2:=r2) hn hl B (A++[f]) (i+1) (vad tm f.fTag true) (vad nm f.fName true) (by rw[h,qp]; rfl) (by rw[qH,← qp]; exact X6 ht f.fTag) (by rw[qH]; exact X6 hnm f.fName)
     rw[this,qi,qF,qH,show (A.length:Int)+1=((A.length+1:Nat):Int) by omega]; rfl
theorem msg_l12_eq {s:GSchema}{m:GMessage}{r2:Bool×List (List UInt8×Bool)}(hn:∀ f∈m.fFields,f.fName.length≤3000)(hl:m.fFields.length*56≤140737488351232):∀ (B A:List Int) (i:Int) (tm:List (Int×Bool)),m.fReserved=A++B→Rm tm A→
 zp.l12 s m r2 B i tm=(zB.l8 s m B (A.length:Int)).map fun v=>(v,r2.2)
 |[],A,i,tm,h,ht=>by
  rw[qw] at h;rw[zp.l12,zB.l8];exact msg_l21_eq hn hl m.fFields [] 0 tm [] rfl (by rw[h,qx,qw]; exact ht) vbQ
 |n::B,A,i,tm,h,ht=>by
  have hlen:m.fReserved.length=A.length+(B.length+1):=by rw[h,qi,qk]
  have ih:=msg_l12_eq (s:=s) (r2:=r2) hn hl B (A++[n]) (i+1) (vad tm n true) (by rw[h,qp]; rfl) (X6 ht n);have e5:wF n=(decide (1≤n)&&decide (n≤500)):=rfl
  have ec:Yx m.fReserved 0 (A.length:Int)=A:=by rw[h]; exact cut_app A _
  have e4:ye (⟨[],([]:List GField),A⟩:GMessage) n=decide (n∈A):=vaf _ _ _;rw[zp.l12,zB.l8];unfold bnd
  dsimp only
  rw[e5,ht.val n]
  by_cases h1:n<1
  · rw[if_pos h1,decide_eq_false (show ¬ 1≤n by omega)]; rfl
  rw[if_neg h1]
  by_cases h2:500<n
  · rw[if_pos h2,decide_eq_false (show ¬ n≤500 by omega),qR]; rfl
  rw[if_neg h2,YW ⟨u7 _,by omega,by omega⟩,qg,ec,e4,decide_eq_true (show 1≤n by omega),decide_eq_true (show n≤500 by omega)]
  cases decide (n∈A) with
  |true=>rfl
  |false=>
   rw[zB.j43,if_neg uJ]
   show zp.l12 s m r2 B (i+1) (vad tm n true)=_
   rw[ih,qi,qF,show (A.length:Int)+1=((A.length+1:Nat):Int) by omega]
theorem msg_eq {s:GSchema}{m:GMessage}{a:List (List UInt8×Bool)}{l:List (List UInt8)}(ha:Rm a l)(hm:m.fName.length≤3000)(hn:∀ f∈m.fFields,f.fName.length≤3000)(hl:m.fFields.length*56≤140737488351232):
 (yb m.fName l=some false∧zp s a m=some (6,a))∨(yb m.fName l=some true∧zp s a m=(zB s m).map fun v=>(v,vad a m.fName true)):=by
 obtain⟨b,e1,e2⟩:=Xk ha hm;rw[zp,e2,qg]
 cases b with
 |false=>exact Or.inl ⟨e1,rfl⟩
 |true=>
  refine Or.inr ⟨e1,?_⟩
  dsimp only
  rw[if_neg (show ¬ (!true)=true by decide),if_pos rfl,zB]
  split
  · rfl
  exact msg_l12_eq hn hl m.fReserved [] 0 [] rfl vbQ
end
section
set_option maxRecDepth 4000
open AM
theorem enum_l38 {e:GEnumeration}{v:GNamed}{A B:List GNamed}{l15:List (List UInt8)}{rec21:Int→List (List UInt8)→Option Int}(h:e.fValues=A++v::B)(hA:A.length≤1000000):∀ (k j:Nat),A.length<k+j→j≤A.length→zT.l38 e (A.length:Int) l15 rec21 v k (j:Int)=if v.fN∈(A.drop j).map GNamed.fN then some 11 else rec21 ((A.length:Int)+1) (l15++[v.fName])
 |0,j,h1,h2=>by omega
 |k+1,j,h1,h2=>by
  rw[zT.l38]
  by_cases hj:j<A.length
  · have ei:wV e.fValues (j:Int)=some (A[j]'hj):=by
     rw[h,Yq (show j<(A++v::B).length by rw[qi]; omega),List.getElem_append_left hj]
    rw[if_pos (by omega),ei,qg,uT hj,qG]
    by_cases hv:(A[j]'hj).fN=v.fN
    · rw[if_pos hv,if_pos (by rw[hv]; exact qr ..)]
    rw[if_neg hv,yr (by omega) (by omega),show (j:Int)+1=((j+1:Nat):Int) by omega,enum_l38 h hA k (j+1) (by omega) (by omega)]
    by_cases hm:v.fN∈(A.drop (j+1)).map GNamed.fN
    · rw[if_pos hm,if_pos (qq _ hm)]
    rw[if_neg hm,if_neg (fun hc=>by rcases qJ.1 hc with e1|e1; exact hv e1.symm; exact hm e1)]
  rw[if_neg (by omega),List.drop_of_length_le (by omega),if_neg (by simp)]
theorem vbD {e:GEnumeration}{r2:Bool×List (List UInt8×Bool)}(hn:∀ v∈e.fValues,v.fName.length≤3000)(hl:e.fValues.length≤1000):∀ (B A:List GNamed) (i:Int) (nm:List (List UInt8×Bool)) (km:List (Int×Bool)),e.fValues=A++B→Rm nm (A.map GNamed.fName)→Rm km (A.map GNamed.fN)→
 yf.l23 r2 B i nm km=(zT.l21 e B (A.length:Int) (A.map GNamed.fName)).map fun v=>(v,r2.2)
 |[],A,i,nm,km,_,_,_=>rfl
 |v::B,A,i,nm,km,h,hnm,hkm=>by
  have hlen:e.fValues.length=A.length+(B.length+1):=by rw[h,qi,qk]
  have hr:=yG;obtain⟨b,e1,e2⟩:=Xk hnm (hn v (by rw[h]; exact ut _ (qr ..)));rw[yf.l23,zT.l21,e1,e2,qg,qg]
  cases b with
  |false=>rfl
  |true=>
   dsimp only
   rw[if_neg (show ¬ (!true)=true by decide),if_neg (show ¬ (!true)=true by decide),if_pos rfl,xR (by rw[q2]; omega),qg,hkm.val v.fN]
   by_cases hb:(decide (v.fN<0)||decide (2147483647<v.fN))=true
   · rw[hb,if_pos rfl,u3,if_pos rfl]; rfl
   rw[Bool.eq_false_iff.2 hb,if_neg uJ,uL];have e38:=enum_l38 (l15:=A.map GNamed.fName) (rec21:=zT.l21 e B) h (by omega) rounds 0 (by omega) (by omega);rw[show zT.l38 e (A.length:Int) (A.map GNamed.fName) (zT.l21 e B) v rounds 0=_ from e38,qD]
   by_cases hm:v.fN∈A.map GNamed.fN
   · rw[decide_eq_true hm,if_pos rfl,if_pos hm]; rfl
   rw[decide_eq_false hm,if_neg uJ,if_neg hm];have:=vbD (r2:=r2) hn hl B (A++[v]) (i+1) (vad nm v.fName true) (vad km v.fN true) (by rw[h,qp]; rfl) (by rw[qH]; exact X6 hnm v.fName) (by rw[qH]; exact X6 hkm v.fN)
   rw[this,qi,qF,qH,show (A.length:Int)+1=((A.length+1:Nat):Int) by omega]; rfl
theorem vbE {e:GEnumeration}{r2:Bool×List (List UInt8×Bool)}(hn:∀ v∈e.fValues,v.fName.length≤3000)(hl:e.fValues.length≤1000):∀ (B:List GNamed) (i j:Int) (z:Bool),
 yf.l12 e r2 B i z=(zT.l10 e B j z).map fun v=>(v,r2.2)
 |[],i,j,z=>by
  rw[yf.l12,zT.l10]
  cases z with
  |false=>rfl
  |true=>exact vbD hn hl e.fValues [] 0 [] [] rfl vbQ vbQ
 |v::B,i,j,z=>by rw[yf.l12,zT.l10]; exact vbE hn hl B _ _ _
theorem enum_eq {e:GEnumeration}{a:List (List UInt8×Bool)}{l:List (List UInt8)}(ha:Rm a l)(hm:e.fName.length≤3000)(hn:∀ v∈e.fValues,v.fName.length≤3000):
 (yb e.fName l=some false∧yf a e=some (6,a))∨(yb e.fName l=some true∧yf a e=(zT e).map fun v=>(v,vad a e.fName true)):=by
 obtain⟨b,e1,e2⟩:=Xk ha hm;rw[yf,e2,qg]
 cases b with
 |false=>exact Or.inl ⟨e1,rfl⟩
 |true=>
  refine Or.inr ⟨e1,?_⟩
  dsimp only
  rw[if_neg (show ¬ (!true)=true by decide),if_pos rfl,zT]
  split
  · rfl
  exact vbE hn (by omega) e.fValues 0 0 false
theorem meth_eq {s:GSchema}:∀ (B:List GMethod) (i j:Int) (nm:List (List UInt8×Bool)) (l:List (List UInt8)),(∀ x∈B,x.fName.length≤3000)→l.length+B.length≤1000000→Rm nm l→zl.l29 s B i nm=yN.l22 s B j l
 |[],_,_,_,_,_,_,_=>rfl
 |x::B,i,j,nm,l,hn,hl,hr=>by
  rw[qk] at hl;obtain⟨b,e1,e2⟩:=Xk hr (hn x (qr ..))
  have e7:∀ n,zZ s n=zx s n:=fun n=>XS _ _ _ _
  rw[zl.l29,yN.l22,e1,e7,e7,qg];unfold bnd
  dsimp only
  rw[e2,qg]
  cases b with
  |false=>rfl
  |true=>
   dsimp only
   rw[if_neg (show ¬ (!true)=true by decide),if_neg (show ¬ (!true)=true by decide),if_pos rfl,xR (by omega),qg]
   split
   · rfl
   exact meth_eq B _ _ _ _ (fun y hy=>hn y (qq _ hy)) (by rw[qi,qF]; omega) (X6 hr x.fName)
def nm3 (s:GSchema):Prop:=s.fName.length≤3000∧(∀ m∈s.fMessages,m.fName.length≤3000∧(∀ f∈m.fFields,f.fName.length≤3000)∧m.fFields.length*56≤140737488351232)∧(∀ e∈s.fEnums,e.fName.length≤3000∧∀ v∈e.fValues,v.fName.length≤3000)∧∀ x∈s.fMethods,x.fName.length≤3000
theorem parts_l17 {s:GSchema}(hs:nm3 s)(hM:s.fMethods.length≤6):∀ (B:List GEnumeration) (i j:Int) (a:List (List UInt8×Bool)) (l:List (List UInt8)),(∀ e∈B,e∈s.fEnums)→l.length+B.length≤1000000→Rm a l→zl.l22 s B i a=(yk.l17 B j l).bind fun r=>if r=0 then yN.l22 s s.fMethods 0 [] else some r
 |[],i,j,a,l,_,_,_=>by
  rw[zl.l22,yk.l17,qg,if_pos rfl];exact meth_eq _ _ _ _ _ hs.2.2.2 (by rw[qn]; omega) vbQ
 |e::B,i,j,a,l,he,hl,hr=>by
  rw[qk] at hl;have hme:=hs.2.2.1 e (he e (qr ..));rw[zl.l22,yk.l17]
  rcases enum_eq hr hme.1 hme.2 with ⟨e1,e2⟩|⟨e1,e2⟩
  · rw[e1,e2]; rfl
  rw[e1,e2,qg,if_neg (show ¬ (!true)=true by decide),xR (by omega),qg]
  cases zT e with
  |none=>rfl
  |some v=>
   rw[uB,qg,qg]
   dsimp only
   by_cases h0:v=0
   · rw[if_pos h0,if_pos h0];exact parts_l17 hs hM B _ _ _ _ (fun y hy=>he y (qq _ hy)) (by rw[qi,qF]; omega) (X6 hr e.fName)
   rw[if_neg h0,if_neg h0,qg,if_neg h0]
theorem parts_l8 {s:GSchema}(hs:nm3 s)(hM:s.fMethods.length≤6)(hE:s.fEnums.length≤6):∀ (B:List GMessage) (i j:Int) (a:List (List UInt8×Bool)) (l:List (List UInt8)),(∀ e∈B,e∈s.fMessages)→l.length+B.length≤1000→Rm a l→zl.l15 s B i a=(yk.l8 s B j l).bind fun r=>if r=0 then yN.l22 s s.fMethods 0 [] else some r
 |[],i,j,a,l,_,hl,hr=>by
  rw[zl.l15,yk.l8];exact parts_l17 hs hM _ _ _ _ _ (fun _ h=>h) (by rw[qn] at hl; omega) hr
 |m::B,i,j,a,l,he,hl,hr=>by
  rw[qk] at hl;have hme:=hs.2.1 m (he m (qr ..));rw[zl.l15,yk.l8]
  rcases msg_eq (s:=s) hr hme.1 hme.2.1 hme.2.2 with ⟨e1,e2⟩|⟨e1,e2⟩
  · rw[e1,e2]; rfl
  rw[e1,e2,qg,if_neg (show ¬ (!true)=true by decide),xR (by omega),qg]
  cases zB s m with
  |none=>rfl
  |some v=>
   rw[uB,qg,qg]
   dsimp only
   by_cases h0:v=0
   · rw[if_pos h0,if_pos h0];exact parts_l8 hs hM hE B _ _ _ _ (fun y hy=>he y (qq _ hy)) (by rw[qi,qF]; omega) (X6 hr m.fName)
   rw[if_neg h0,if_neg h0,qg,if_neg h0]
theorem check07_eq {s:GSchema}(hs:nm3 s):yN s=zl s:=by
 rw[yN,zl,name_eq (by have:=hs.1; omega)]
 cases yl s.fName with
 |none=>rfl
 |some b=>
  rw[qg,qg]
  cases b with
  |false=>rfl
  |true=>
   rw[if_neg (show ¬ (!true)=true by decide),if_neg (show ¬ (!true)=true by decide)]
   by_cases h0:(s.fMessages.length:Int)=0
   · rw[if_pos h0,if_pos h0]
   rw[if_neg h0,if_neg h0]
   by_cases hc:(((decide (10<(qb s.fMessages:Int)))||(decide (6<(qb s.fEnums:Int))))||(decide (6<(qb s.fMethods:Int))))=true
   · rw[if_pos hc,if_pos hc]
   rw[if_neg hc,if_neg hc];simp only[qS,decide_eq_true_eq,not_or] at hc
   rw[parts_l8 hs (by omega) (by omega) s.fMessages 0 0 [] [] (fun _ h=>h) (by rw[qn]; omega) vbQ]; rfl
theorem fewI_l25 {m:GMessage}{x2 x3:Int}{rec6:Int→Int→Option Bool}:∀ (l:List GField) (i:Int),zF.l25 x2 x3 rec6 m l i=some true→(∀ f∈l,f.fName.length≤200)∧rec6 (IntKind.i64.wrap (x2+(qb m.fName:Int))) (IntKind.i64.wrap (x3+1))=some true
 |[],_,h=>⟨(fun _ h=>by cases h),h⟩
 |f::l,i,h=>by
  rw[zF.l25] at h
  split at h
  · cases h
  rename_i hc
  simp only[qS,decide_eq_true_eq,not_or] at hc;obtain⟨h1,h2⟩:=fewI_l25 l _ h;refine⟨fun g hg=>?_,h2⟩
  rcases qJ.1 hg with rfl|hg
  · omega
  exact h1 g hg
theorem fewI_l60 {x:Int}{rec43:Int→Option Bool}:∀ (l:List GNamed) (i:Int),zF.l60 x rec43 l i=some true→(∀ f∈l,f.fName.length≤200)∧rec43 (IntKind.i64.wrap (x+1))=some true
 |[],_,h=>⟨(fun _ h=>by cases h),h⟩
 |f::l,i,h=>by
  rw[zF.l60] at h
  split at h
  · cases h
  obtain⟨h1,h2⟩:=fewI_l60 l _ h;refine⟨fun g hg=>?_,h2⟩
  rcases qJ.1 hg with rfl|hg
  · omega
  exact h1 g hg
theorem fewI_l78 {s:GSchema}{n:Int}:∀ (k j:Nat),j≤20→zF.l78 s n k (j:Int)=some true→n<3000∧s.fMessages.length≤14∧s.fEnums.length≤10∧s.fMethods.length≤10∧∀ x∈s.fMethods.drop j,x.fName.length≤200
 |0,j,_,h=>by cases h
 |k+1,j,hj,h=>by
  rw[zF.l78] at h
  split at h
  · rename_i hc
    simp only[qo,decide_eq_true_eq] at hc
    have hj2:j<s.fMethods.length:=by omega
    rw[Yq hj2,qg] at h
    split at h
    · cases h
    rename_i hb
    simp only[qS,decide_eq_true_eq,not_or] at hb;rw[yr (by omega) (by omega),show (j:Int)+1=((j+1:Nat):Int) by omega] at h;obtain⟨h1,h2,h3,h4,h5⟩:=fewI_l78 k (j+1) (by omega) h;refine⟨h1,h2,h3,h4,fun x hx=>?_⟩;rw[uT hj2] at hx
    rcases qJ.1 hx with rfl|hx
    · omega
    exact h5 x hx
  rename_i hc
  simp only[qo,decide_eq_true_eq,not_and] at hc;have h:=Option.some.inj h;simp only[qo,decide_eq_true_eq] at h;refine⟨h.1.1.1,by omega,by omega,by omega,fun x hx=>?_⟩
  rw[List.drop_of_length_le (by omega)] at hx; cases hx
theorem fewI_l43 {s:GSchema}{n:Int}:∀ (k j:Nat),j≤20→zF.l43 s n k (j:Int)=some true→n<3000∧s.fMessages.length≤14∧s.fEnums.length≤10∧(∀ x∈s.fMethods,x.fName.length≤200)∧∀ x∈s.fEnums.drop j,x.fName.length≤200∧∀ v∈x.fValues,v.fName.length≤200
 |0,j,_,h=>by cases h
 |k+1,j,hj,h=>by
  rw[zF.l43] at h
  split at h
  · rename_i hc
    simp only[qo,decide_eq_true_eq] at hc
    have hj2:j<s.fEnums.length:=by omega
    rw[Yq hj2,qg] at h
    split at h
    · cases h
    rename_i hb
    simp only[qS,decide_eq_true_eq,not_or] at hb;obtain⟨hv,h⟩:=fewI_l60 _ _ h;rw[yr (by omega) (by omega),show (j:Int)+1=((j+1:Nat):Int) by omega] at h;obtain⟨h1,h2,h3,h4,h5⟩:=fewI_l43 k (j+1) (by omega) h;refine⟨h1,h2,h3,h4,fun x hx=>?_⟩;rw[uT hj2] at hx
    rcases qJ.1 hx with rfl|hx
    · exact⟨by omega,hv⟩
    exact h5 x hx
  rename_i hc
  simp only[qo,decide_eq_true_eq,not_and] at hc;obtain⟨h1,h2,h3,h4,h5⟩:=fewI_l78 rounds 0 (by omega) h;rw[qD] at h5;refine⟨h1,h2,h3,h5,fun x hx=>?_⟩
  rw[List.drop_of_length_le (by omega)] at hx; cases hx
theorem fewI_l6 {s:GSchema}(hs:nmS s):∀ (k j:Nat) (n:Int),j≤20→0≤n→n+(20-j)*140737488351232≤9000000000000000→zF.l6 s k n (j:Int)=some true→n<3000∧s.fMessages.length≤14∧(∀ x∈s.fMethods,x.fName.length≤200)∧(∀ x∈s.fEnums,x.fName.length≤200∧∀ v∈x.fValues,v.fName.length≤200)∧∀ x∈s.fMessages.drop j,x.fName.length≤3000∧x.fFields.length≤20∧∀ v∈x.fFields,v.fName.length≤200
 |0,j,n,_,_,_,h=>by cases h
 |k+1,j,n,hj,h0,hn,h=>by
  rw[zF.l6] at h
  split at h
  · rename_i hc
    simp only[qo,decide_eq_true_eq] at hc
    have hj2:j<s.fMessages.length:=by omega
    have hm:=(hs.2.1 _ (List.getElem_mem hj2)).1;unfold nmOk at hm;rw[Yq hj2,qg] at h
    split at h
    · cases h
    rename_i hb
    simp only[qS,decide_eq_true_eq,not_or] at hb;obtain⟨hv,h⟩:=fewI_l25 _ _ h;rw[yr (x:=(j:Int)+1) (by omega) (by omega),show (j:Int)+1=((j+1:Nat):Int) by omega,yr (by omega) (by omega)] at h;obtain⟨h1,h2,h3,h4,h5⟩:=fewI_l6 hs k (j+1) _ (by omega) (by omega) (by omega) h;refine⟨by omega,h2,h3,h4,fun x hx=>?_⟩;rw[uT hj2] at hx
    rcases qJ.1 hx with rfl|hx
    · exact⟨by omega,by omega,hv⟩
    exact h5 x hx
  rename_i hc
  simp only[qo,decide_eq_true_eq,not_and] at hc;obtain⟨h1,h2,h3,h4,h5⟩:=fewI_l43 rounds 0 (by omega) h;rw[qD] at h5;refine⟨h1,h2,h4,h5,fun x hx=>?_⟩
  rw[List.drop_of_length_le (by omega)] at hx; cases hx
theorem few_names {s:GSchema}(hs:nmS s)(h:zF s=some true):nm3 s:=by
 have h0:=hs.1;unfold nmOk at h0;obtain⟨h1,h2,h3,h4,h5⟩:=fewI_l6 hs rounds 0 (s.fName.length:Int) (by omega) (by omega) (by omega) h;rw[qD] at h5;exact⟨by omega,fun m hm=>⟨(h5 m hm).1,fun f hf=>uv ((h5 m hm).2.2 f hf) (by decide),by have:=(h5 m hm).2.1; omega⟩,fun e he=>⟨uv (h4 e he).1 (by decide),fun v hv=>uv ((h4 e he).2 v hv) (by decide)⟩,fun x hx=>uv (h3 x hx) (by decide)⟩
end
section
set_option maxRecDepth 4000
open AM
theorem field_all (t:Int):∀ (l:List GField) (i j:Int),yC.l4 t l i=zf.l4 t l j
 |[],_,_=>rfl
 |y::l,i,j=>by rw[yC.l4,zf.l4,field_all t l (i+1) (j+1)]
theorem place_t {v n:Int}(hn:0<n)(hn':n<4611686018427387904):∃ r,y1 v n=some r∧0≤r∧r<n:=by
 have h1:=Int.tmod_lt_of_pos v hn;have h2:=Int.lt_tmod_of_pos v hn;rw[y1,YW (by omega),qg]
 split
 · rw[y1.j3,yr (by omega) (by omega)];exact⟨_,rfl,by omega,by omega⟩
 exact⟨_,rfl,by omega,by omega⟩
theorem next_t (l:List Int)(a:Int)(hl:l.length<4611686018427387904):∃ v b,xY l a=some (v,b)∧0≤v∧v<4611686018427387904:=by
 rw[xY]
 split
 · exact⟨0,a,rfl,by omega,by omega⟩
 rename_i h0
 obtain⟨r,hr,h1,h2⟩:=place_t (v:=IntKind.i64.wrap ((IntKind.i64.wrap ((IntKind.i64.wrap (a+1))*7))+(IntKind.i64.wrap ((IntKind.i64.wrap (a+1)).tdiv (qb l:Int))))) (n:=(l.length:Int)) (by omega) (by omega);have hi:=Yq (l:=l) (j:=r.toNat) (by omega);rw[show ((r.toNat:Nat):Int)=r by omega] at hi
 have hb:uk (qB 64 (l[r.toNat]'(by omega)) &&& qB 64 4611686018427387903)≤4611686018427387903:=by
  rw[BitVec.toNat_and];exact uv Nat.and_le_right (by decide)
 rw[YW (by omega),qg,hr,qg,hi,qg,yr (by omega) (by omega)];exact⟨_,_,rfl,by omega,by omega⟩
def wG : List UInt8:=[103,114,195,182,195,159,101]
theorem wG_ok : ∀ k:Fin 6,∃ y,wV ([0,1,2,4,6,7]:List Int) (k.val:Int)=some y∧(0≤y∧y≤7)∧(Yx wG 0 y).length≤7∧vay (Yx wG 0 y)=true
 |⟨0,_⟩=>⟨0,rfl,by decide,by decide,by decide +kernel⟩
 |⟨1,_⟩=>⟨1,rfl,by decide,by decide,by decide +kernel⟩
 |⟨2,_⟩=>⟨2,rfl,by decide,by decide,by decide +kernel⟩
 |⟨3,_⟩=>⟨4,rfl,by decide,by decide,by decide +kernel⟩
 |⟨4,_⟩=>⟨6,rfl,by decide,by decide,by decide +kernel⟩
 |⟨5,_⟩=>⟨7,rfl,by decide,by decide,by decide +kernel⟩
theorem one_t {self:GSchema→List UInt8→List Int→Int→Int→Option (GTree×Int)}{self2:GSchema→GField→List Int→Int→Int→Option (GTree×Int)}{s:GSchema}{f:GField}{l:List Int}{a deep:Int}{d:Nat}(hl:l.length<4611686018427387904)(hd:0≤deep∧deep≤100)(hk:1≤f.fType.fKind∧f.fType.fKind≤7)
 (hs:f.fType.fKind=7→∀ b,∃ t c,self s f.fType.fName l b (deep+1)=some (t,c)∧okT s d (XC s f.fType.fName) t):∃ x b,xl.body self self2 s f l a deep=some (x,b)∧okV (okT s d) s f.fType x:=by
 obtain⟨v,b,e,h0,h1⟩:=next_t l a hl;rw[xl.body,e,qg]
 dsimp only
 unfold okV
 by_cases k1:f.fType.fKind=1
 · rw[if_pos k1,vp h0,yr (by omega) (by omega)];refine⟨_,_,rfl,?_⟩;rw[if_neg (by omega),if_neg (by omega)];exact⟨rfl,⟨by rw[gt_n]; omega,by rw[gt_n]; omega⟩,fun h=>by omega⟩
 rw[if_neg k1]
 by_cases k2:f.fType.fKind=2
 · rw[if_pos k2,yr (by omega) (by omega)];refine⟨_,_,rfl,?_⟩;rw[if_neg (by omega),if_neg (by omega)];exact⟨rfl,⟨by rw[gt_n]; omega,by rw[gt_n]; omega⟩,fun h=>by omega⟩
 rw[if_neg k2]
 by_cases k3:f.fType.fKind=3
 · rw[if_pos k3,vp h0];refine⟨_,_,rfl,?_⟩;rw[if_neg (by omega),if_neg (by omega)];refine⟨rfl,⟨by rw[gt_n]; omega,by rw[gt_n]; omega⟩,fun h=>?_⟩;rw[gt_n];unfold xf;rw[if_neg (by omega),if_pos k3]
   have:v % 2=0∨v % 2=1:=by omega
   rcases this with e|e<;>rw[e]<;>rfl
 rw[if_neg k3]
 by_cases k6:f.fType.fKind=6
 · rw[if_pos k6,vp h0];refine⟨_,_,rfl,?_⟩;rw[if_neg (by omega),if_neg (by omega)];refine⟨rfl,⟨by rw[gt_n]; omega,by rw[gt_n]; omega⟩,fun h=>?_⟩;rw[gt_n];unfold xf;rw[if_neg (by omega),if_neg (by omega),if_pos k6]
   simp only[qo,decide_eq_true_eq]; omega
 rw[if_neg k6]
 have text:f.fType.fKind=4∨f.fType.fKind=5→∃ x b',xl.j16 self s f l deep (v,b) true=some (x,b')∧okV (okT s d) s f.fType x:=by
  intro h45
  obtain⟨y,e1,e2,e3,e4⟩:=wG_ok ⟨(v % 6).toNat,by omega⟩
  dsimp only at e1
  rw[show (((v % 6).toNat:Nat):Int)=v % 6 by omega] at e1;rw[xl.j16,if_pos rfl]
  dsimp only
  rw[vp h0,e1,qg,YW ⟨u7 _,e2.1,e2.2⟩,qg];refine⟨_,_,rfl,?_⟩;unfold okV;rw[if_neg (by omega),if_pos h45];refine⟨rfl,?_,fun _=>?_⟩
  · rw[gt_s]; exact uv e3 (by decide)
  rw[gt_s]; exact e4
 by_cases k4:f.fType.fKind=4
 · rw[if_pos k4,decide_eq_true k4];have:=text (Or.inl k4)
   unfold okV at this; exact this
 rw[if_neg k4]
 by_cases k5:f.fType.fKind=5
 · rw[decide_eq_true k5];have:=text (Or.inr k5)
   unfold okV at this; exact this
 have k7:f.fType.fKind=7:=by omega
 obtain⟨t,c,e1,e2⟩:=hs k7 b;rw[decide_eq_false k5,xl.j16,if_neg uJ]
 dsimp only
 rw[yr (by omega) (by omega),e1,qg];refine⟨_,_,rfl,?_⟩;rw[if_pos k7];refine⟨?_,e2⟩
 cases d with
 |zero=>exact e2.elim
 |succ d=>exact e2.1
theorem zero10 (t:GTree):wI t=xx t:=by unfold wI xx; rfl
theorem fit_l39 {self:GSchema→GField→List Int→Int→Int→Option (GTree×Int)}{s:GSchema}{l:List Int}{deep:Int}{l4:List GEntry}{tag:Int}{rec11:Int→List GEntry→Int→Option (GTree×Int)}{r:GField×Bool}{n:Int}{V:GTree→Prop}{Q:GTree→Prop}(hn:n≤3)(h4:l4.length≤1000)
 (hone:∀ b,∃ x c,self s r.1 l b deep=some (x,c)∧V x) (hrec:∀ b L,(L=l4∨∃ ts:List GTree,L=l4++[⟨tag,ts⟩]∧1≤ts.length∧((ts.length:Int)≤n)∧(∀ x∈ts,V x)∧(r.1.fLabel=1→∀ x∈ts,xx x=false))→∃ t c,rec11 b L (IntKind.i64.wrap (tag+1))=some (t,c)∧Q t):
 ∀ (k j:Nat) (ts:List GTree) (b:Int),4<k+j→(j:Int)≤3→ts.length≤j→((ts.length:Int)≤n)→(∀ x∈ts,V x)→(r.1.fLabel=1→∀ x∈ts,xx x=false)→∃ t c,zv.l39 self s l deep l4 tag rec11 r n k b ts (j:Int)=some (t,c)∧Q t
 |0,j,ts,b,h,h',_,_,_,_=>by omega
 |k+1,j,ts,b,h,h',hj,htn,hV,hZ=>by
  rw[zv.l39]
  by_cases hjn:(j:Int)<n
  · obtain⟨x,c,e,hx⟩:=hone b
    have go:∀ ts':List GTree,ts'.length≤j+1→((ts'.length:Int)≤n)→(∀ x∈ts',V x)→(r.1.fLabel=1→∀ x∈ts',xx x=false)→∃ t c',zv.j46 (j:Int) (zv.l39 self s l deep l4 tag rec11 r n k) c ts'=some (t,c')∧Q t:=by
     intro ts' a1 a2 a3 a4
     rw[zv.j46,yr (by omega) (by omega),show (j:Int)+1=((j+1:Nat):Int) by omega];exact fit_l39 hn h4 hone hrec k (j+1) ts' c (by omega) (by omega) a1 a2 a3 a4
    rw[if_pos hjn,e,qg];unfold bnd
    dsimp only
    rw[zero10]
    cases hz:(if r.1.fLabel=1 then !xx x else true) with
    |true=>
     rw[if_pos rfl,xR (by omega),qg];refine go (ts++[x]) (by rw[qi,qF]; omega) (by rw[qi,qF]; omega) (fun y hy=>?_) (fun hl y hy=>?_)
     · rcases un.1 hy with hy|hy
       · exact hV y hy
       rw[uq] at hy; rw[hy]; exact hx
     rcases un.1 hy with hy|hy
     · exact hZ hl y hy
     rw[uq] at hy; rw[hy]
     rw[if_pos hl,uD] at hz; exact hz
    |false=>
     rw[if_neg uJ];exact go ts (by omega) htn hV hZ
  rw[if_neg hjn]
  split
  · rw[xR (by omega),qg,zv.j19];exact hrec b _ (Or.inr ⟨ts,rfl,by omega,htn,hV,hZ⟩)
  rw[zv.j19];exact hrec b _ (Or.inl rfl)
def fitE (s:GSchema)(d:Nat)(m:GMessage)(tag:Int)(L:List GEntry):Prop:=L.Pairwise Yb∧(∀ e∈L,e.fTag<tag∧okN (okT s d) s m e∧isZ m e=false)
theorem fit_l11 {self:GSchema→GField→List Int→Int→Int→Option (GTree×Int)}{s:GSchema}{l:List Int}{deep:Int}{r:GMessage×Bool}{d:Nat}(hl:l.length<4611686018427387904)(hone:∀ (f:GField) b,f∈r.1.fFields→(f.fType.fKind=7→deep<5)→∃ x c,self s f l b deep=some (x,c)∧okV (okT s d) s f.fType x):
 ∀ (k:Nat) (tag:Nat) (b:Int) (L:List GEntry),501<k+tag→1≤tag→tag≤501→L.length+1≤tag→fitE s d r.1 (tag:Int) L→∃ t c,zv.l11 self s l deep r k b L (tag:Int)=some (t,c)∧okT s (d+1) r.1 t∧t.fRest=[]
 |0,tag,b,L,h,_,h',_,_=>by omega
 |k+1,tag,b,L,h,h1,h',hL,hE=>by
  rw[zv.l11]
  by_cases hc:((decide ((tag:Int)≤500))&&(decide (b<150)))=true
  · rw[if_pos hc];simp only[qo,decide_eq_true_eq] at hc;have hf:yC r.1 (tag:Int)=zf r.1 (tag:Int):=field_all _ _ _ _
    have more:∀ b L',(L'=L∨∃ ts:List GTree,L'=L++[⟨(tag:Int),ts⟩]∧okN (okT s d) s r.1 ⟨(tag:Int),ts⟩∧isZ r.1 ⟨(tag:Int),ts⟩=false)→∃ t c,zv.l11 self s l deep r k b L' (IntKind.i64.wrap ((tag:Int)+1))=some (t,c)∧okT s (d+1) r.1 t∧t.fRest=[]:=by
     intro b L' hL'
     rw[yr (by omega) (by omega),show (tag:Int)+1=((tag+1:Nat):Int) by omega]
     rcases hL' with rfl|⟨ts,rfl,hok,hz⟩
     · exact fit_l11 hl hone k (tag+1) b L' (by omega) (by omega) (by omega) (by omega) ⟨hE.1,fun e he=>⟨by have:=(hE.2 e he).1; omega,(hE.2 e he).2⟩⟩
     refine fit_l11 hl hone k (tag+1) b _ (by omega) (by omega) (by omega) (by rw[qi,qF]; omega) ⟨?_,fun e he=>?_⟩
     · rw[List.pairwise_append];refine⟨hE.1,by simp,fun a ha c hcm=>?_⟩
       rw[uq] at hcm; rw[hcm]
       exact (hE.2 a ha).1
     rcases un.1 he with he|he
     · exact⟨by have:=(hE.2 e he).1; omega,(hE.2 e he).2⟩
     rw[uq] at he; rw[he]
     exact⟨by rw[xo]; omega,hok,hz⟩
    unfold bnd
    dsimp only
    rw[hf]
    obtain⟨c1,c2,ec,hc2⟩:∃ (c1:Bool) (c2:Int),(if (!(zf r.1 (tag:Int)).2)=true then some (true,b) else (xY l b).bind fun r22=>some (decide ((r22.1).tmod 3=0),r22.2))=some (c1,c2)∧(c1=false→(zf r.1 (tag:Int)).2=true):=by
     cases hk:(zf r.1 (tag:Int)).2 with
     |false=>exact⟨true,b,rfl,fun h=>absurd h (by decide)⟩
     |true=>
      obtain⟨v,b',e,_,_⟩:=next_t l b hl;rw[if_neg (show ¬ (!true)=true by decide),e];exact⟨_,_,rfl,fun _=>rfl⟩
    rw[ec,qg]
    dsimp only
    by_cases hs:(c1||((decide ((zf r.1 (tag:Int)).1.fType.fKind=7))&&(decide (5≤deep))))=true
    · rw[if_pos hs,zv.j19];exact more _ _ (Or.inl rfl)
    rw[if_neg hs];simp only[qS,qo,decide_eq_true_eq,not_or,not_and] at hs;have hk:(zf r.1 (tag:Int)).2=true:=hc2 (by simpa using hs.1);obtain⟨hft,hfm⟩:=Ya hk
    have done:∀ (n:Int) (b:Int),1≤n→n≤3→((zf r.1 (tag:Int)).1.fLabel≠3→n=1)→∃ t c,zv.j29 self s l deep L (tag:Int) (zv.l11 self s l deep r k) (zf r.1 (tag:Int)) b n=some (t,c)∧okT s (d+1) r.1 t∧t.fRest=[]:=by
     intro n b hn1 hn3 hlab
     rw[zv.j29];refine fit_l39 (V:=okV (okT s d) s (zf r.1 (tag:Int)).1.fType) hn3 (by omega) (fun b=>hone _ b hfm (fun h7=>by have:=hs.2 h7; omega)) (fun b L' hL'=>?_) rounds 0 [] b (by have:=yG; omega) (by omega) (qu _) (by rw[qn]; omega) (fun x hx=>by cases hx) (fun _ x hx=>by cases hx);refine more b L' ?_
     rcases hL' with h|⟨ts,h,t1,t2,t3,t4⟩
     · exact Or.inl h
     refine Or.inr ⟨ts,h,⟨⟨by rw[xo]; omega,by rw[xo]; omega⟩,by rw[xo]; exact hk,⟨by rw[xw]; exact t1,by rw[xw]; omega⟩,fun hne=>?_,by rw[xo,xw]; exact t3⟩,?_⟩
     · rw[xo] at hne; have:=hlab hne; rw[xw]; omega
     unfold isZ;rw[xo,xw]
     by_cases hl1:(zf r.1 (tag:Int)).1.fLabel=1
     · cases ts with
       |nil=>exact absurd t1 (by decide)
       |cons x ts=>rw[List.headD_cons,t4 hl1 x (qr ..),qR]
     rw[decide_eq_false hl1,Bool.false_and]
    by_cases hl3:(zf r.1 (tag:Int)).1.fLabel=3
    · obtain⟨v,b',e,h0,h1'⟩:=next_t l c2 hl;rw[if_pos hl3,e,qg]
      dsimp only
      rw[vp h0,yr (by omega) (by omega)];exact done _ _ (by omega) (by omega) (fun h=>absurd hl3 h)
    rw[if_neg hl3];exact done 1 _ (by omega) (by omega) (fun _=>rfl)
  rw[if_neg hc];refine⟨_,_,rfl,⟨rfl,rfl,rfl,hE.1,fun e he=>(hE.2 e he).2,List.Pairwise.nil,?_,fun r hr=>by cases hr⟩,rfl⟩
  rw[gt_rest]; exact ur _
theorem fit_t {s:GSchema}(hs:kindsS s){l:List Int}(hl:l.length<4611686018427387904):∀ (k deep:Nat) (n:List UInt8) (b:Int),1≤deep→deep≤5→12<k+2*deep→∃ t c,zv k s n l b (deep:Int)=some (t,c)∧okT s (11-deep) (XC s n) t∧t.fRest=[]
 |0,deep,n,b,_,h,h'=>by omega
 |1,deep,n,b,_,h,h'=>by omega
 |k+2,deep,n,b,h1,h5,hk=>by
  have hm:zZ s n=zx s n:=XS _ _ _ _;rw[zv,zv.body,bnd,hm]
  obtain⟨d,hd⟩:∃ d,11-deep=d+1:=⟨10-deep,by omega⟩
  rw[hd];refine fit_l11 hl (fun f b hf h7=>?_) rounds 1 b [] (by have:=yG; omega) (by omega) (by omega) (by rw[qn]; omega) ⟨List.Pairwise.nil,fun e he=>by cases he⟩;rw[xl]
  refine one_t hl ⟨by omega,by omega⟩ (kinds_msg hs n f hf) fun hk7 b=>?_
  have:=h7 hk7;obtain⟨t,c,e,ht,_⟩:=fit_t hs hl k (deep+1) f.fType.fName b (by omega) (by omega) (by omega);refine⟨t,c,?_,?_⟩
  · rw[show (deep:Int)+1=((deep+1:Nat):Int) by omega]; exact e
  rw[show d=11-(deep+1) by omega]; exact ht
theorem Fit_r {s:GSchema}(hs:kindsS s){l:List Int}(hl:l.length<4611686018427387904)(n:List UInt8):∃ t,wD s n l=some t∧okT s 10 (XC s n) t∧t.fRest=[]:=by
 obtain⟨t,c,e,h⟩:=fit_t hs hl rounds 1 n 0 (by omega) (by omega) (by have:=yG; omega);refine⟨t,?_,h⟩;have e':zv rounds s n l 0 1=some (t,c):=e
 rw[wD,e']; rfl
end
section
set_option maxRecDepth 4000
open AM
theorem chk_msgs {s:GSchema}(h:zl s=some 0):0<s.fMessages.length∧s.fMessages.length≤10∧s.fMethods.length≤6:=by
 rw[zl] at h;obtain⟨r,_,h⟩:=bind_some h
 split at h
 · cases h
 split at h
 · cases h
 split at h
 · cases h
 rename_i h1 h2
 simp only[qS,decide_eq_true_eq,not_or] at h2
 omega
theorem decF_back {s:GSchema}{d:Nat}{m:GMessage}{t:GTree}{L:List GRaw}(hok:okT s (d+1) m t)(hL:XN (YF d) t.fEntries=some L):ZR m (oneD (Xf s d) s) (srt (t.fRest++L)) [] []=(t,0):=by
 obtain⟨h3,h0,hS,hs,he,hrs,hl,hrest⟩:=hok
 have key:ZR m (oneD (Xf s d) s) (t.fRest++L) [] []=(t,0):=by
  rw[fldD_unk fun r hm=>(hrest r hm).2,vbA (decM_back d) (A:=[]) (B:=t.fEntries) hs (fun e hm=>(he e hm).1) hL,qz,qz,zdel_id (es:=t.fEntries) fun e hm=>(he e hm).2,srt_id hrs,← h3,← h0,← hS,← gt_eta]
 rw[fldD_shuf (shuf_srt _) (by rw[key]),key]
end
section
set_option maxRecDepth 4000
open AM
theorem putE_no {t:Int}{rep:Prop} [Decidable rep]{x:GTree}(h:¬ rep):∀ es:List GEntry,wK t rep x es=wK t False x es
 |[]=>rfl
 |e::es=>by rw[wK,wK,putE_no h es,if_neg h,if_neg (fun h:False=>h)]
theorem putN_no {t:Int}{rep:Prop} [Decidable rep](h:¬ rep):∀ es:List GEntry,Xt t rep es=1
 |[]=>rfl
 |e::es=>by
  rw[Xt,putN_no h es,if_neg h]
  split
  · rfl
  split<;>rfl
theorem XO (t:Int)(x:GTree):wK t False x []=[⟨t,[x]⟩]:=rfl
theorem Zc {t:Int}{x:GTree}{e:GEntry}{es:List GEntry}(h:e.fTag<t):wK t False x (e::es)=e::wK t False x es:=by rw[wK,if_pos h]
theorem Y7 {t:Int}{x:GTree}{e:GEntry}{es:List GEntry}(h:e.fTag=t):wK t False x (e::es)=⟨t,[x]⟩::es:=by
 rw[wK,if_neg (by omega),if_pos h,if_neg (fun h:False=>h),qz]
theorem YL {t:Int}{x:GTree}{e:GEntry}{es:List GEntry}(h:t<e.fTag):wK t False x (e::es)=⟨t,[x]⟩::e::es:=by rw[wK,if_neg (by omega),if_neg (by omega)]
theorem putF_same {t:Int}{x y:GTree}:∀ es:List GEntry,wK t False x (wK t False y es)=wK t False x es
 |[]=>by rw[XO,Y7 (xo ..),XO]
 |e::es=>by
  by_cases h1:e.fTag<t
  · rw[Zc h1,Zc h1,Zc h1,putF_same es]
  by_cases h2:e.fTag=t
  · rw[Y7 h2,Y7 (xo ..),Y7 h2]
  rw[YL (by omega),Y7 (xo ..),YL (by omega)]
theorem vbp {t u:Int}(htu:t<u){x y:GTree}:∀ es:List GEntry,wK t False x (wK u False y es)=wK u False y (wK t False x es)
 |[]=>by rw[XO,XO,YL (by rw[xo]; exact htu),Zc (by rw[xo]; exact htu),XO]
 |e::es=>by
  by_cases h1:e.fTag<t
  · rw[Zc (t:=u) (by omega),Zc h1,Zc (t:=t) h1,Zc (t:=u) (by omega),vbp htu es]
  by_cases h2:e.fTag=t
  · rw[Zc (t:=u) (by omega),Y7 h2,Y7 h2,Zc (by rw[xo]; exact htu)]
  by_cases h3:e.fTag<u
  · rw[Zc h3,YL (t:=t) (by omega),YL (t:=t) (by omega),Zc (e:=⟨t,[x]⟩) (by rw[xo]; exact htu),Zc h3]
  rw[YL (t:=t) (e:=e) (by omega),Zc (t:=u) (e:=⟨t,[x]⟩) (by rw[xo]; exact htu)]
  by_cases h4:e.fTag=u
  · rw[Y7 h4,YL (e:=⟨u,[y]⟩) (by rw[xo]; exact htu)]
  rw[YL (t:=u) (e:=e) (by omega),YL (e:=⟨u,[y]⟩) (by rw[xo]; exact htu)]
def vaa (m:GMessage)(one:GType→GRaw→GTree×Int)(es:List GEntry)(r:GRaw):List GEntry:=wK r.fTag False (one (zf m r.fTag).1.fType r).1 es
theorem drop_one {m:GMessage}{one:GType→GRaw→GTree×Int}{r:GRaw}:∀ (l:List GRaw) (es:List GEntry),(∃ q∈l,q.fTag=r.fTag)→l.foldl (vaa m one) (vaa m one es r)=l.foldl (vaa m one) es
 |[],es,h=>by obtain⟨q,hq,_⟩:=h; cases hq
 |a::l,es,h=>by
  rw[List.foldl_cons,List.foldl_cons]
  by_cases ha:a.fTag=r.fTag
  · congr 1
    unfold vaa; rw[ha,putF_same]
  have hc:vaa m one (vaa m one es r) a=vaa m one (vaa m one es a) r:=by
   unfold vaa
   rcases Int.lt_or_gt_of_ne ha with h|h
   · exact vbp h es
   exact (vbp h es).symm
  obtain⟨q,hq,he⟩:=h;rw[hc]
  rcases qJ.1 hq with rfl|hq
  · exact absurd he ha
  exact drop_one l _ ⟨q,hq,he⟩
theorem drop_front {m:GMessage}{one:GType→GRaw→GTree×Int}:∀ (p l:List GRaw) (es:List GEntry),(∀ r∈p,r∈l)→(p++l).foldl (vaa m one) es=l.foldl (vaa m one) es
 |[],_,_,_=>rfl
 |r::p,l,es,h=>by
  rw[qA,List.foldl_cons,drop_one (p++l) es ⟨r,ut _ (h r (qr ..)),rfl⟩]
  exact drop_front p l es fun x hx=>h x (qq _ hx)
def goodR (m:GMessage)(one:GType→GRaw→GTree×Int)(r:GRaw):Prop:=(zf m r.fTag).2=true∧(one (zf m r.fTag).1.fType r).2=0
theorem fld_good {m:GMessage}{one:GType→GRaw→GTree×Int}(hm:∀ f∈m.fFields,f.fLabel≠3):∀ (l:List GRaw) (es:List GEntry) (rest:List GRaw),(∀ r∈l,goodR m one r)→ZR m one l es rest=(⟨3,0,[],zdel m (l.foldl (vaa m one) es),srt rest⟩,0)
 |[],es,rest,_=>by rw[ZR]; rfl
 |r::l,es,rest,h=>by
  have h0:=h r (qr ..);have hl:=hm _ (Ya h0.1).2;rw[ZR,if_pos h0.1,if_pos h0.2,if_pos (by rw[putN_no hl]; decide),putE_no hl,fld_good hm l _ rest fun x hx=>h x (qq _ hx)]
  rfl
theorem fld_inv {m:GMessage}{one:GType→GRaw→GTree×Int}:∀ (l:List GRaw) (es:List GEntry) (rest:List GRaw),(ZR m one l es rest).2=0→(ZR m one l es rest).1.fRest=[]→rest=[]∧∀ r∈l,goodR m one r
 |[],es,rest,_,h=>by
  rw[ZR] at h;have h':srt rest=[]:=h;have:=srt_len rest;rw[h',qn] at this;exact⟨qE.1 this.symm,fun r hr=>by cases hr⟩
 |r::l,es,rest,h,h'=>by
  rw[ZR] at h h'
  split at h
  · rename_i hk
    rw[if_pos hk] at h'
    split at h
    · rename_i h0
      rw[if_pos h0] at h'
      split at h
      · rename_i hp
        rw[if_pos hp] at h';obtain⟨h1,h2⟩:=fld_inv l _ rest h h';refine⟨h1,fun x hx=>?_⟩
        rcases qJ.1 hx with rfl|hx
        · exact⟨hk,h0⟩
        exact h2 x hx
      exact absurd h (by decide)
    rename_i h0
    exact absurd h h0
  rename_i hk
  rw[if_neg hk] at h';obtain⟨h1,_⟩:=fld_inv l es _ h h';exact absurd h1 (by simp)
theorem fit_raws {s:GSchema}{m:GMessage}{t:GTree}{c:List UInt8}(hok:okT s 10 m t)(hr:t.fRest=[])(hE:YF 10 t=some c):∃ R,c=xK R∧(∀ r∈R,ZB r)∧∀ r∈R,goodR m (oneD (Xf s 9) s) r:=by
 have hE':=hE;rw[YF] at hE';obtain⟨L,hL,hE'⟩:=bind_some hE';obtain⟨hc1,_⟩:=vbq hE';have hb:=decF_back hok hL;refine⟨_,hc1,raws_ok (Y9 10 10 m t (qu _) hok) hok.1 (okT_sz 10 10 m t (qu _) hok) hL,(fld_inv _ _ _ (by rw[hb]) (by rw[hb]; exact hr)).2⟩
theorem dec_good {s:GSchema}{m:GMessage}{R:List GRaw}(hm:∀ f∈m.fFields,f.fLabel≠3)(hok:∀ r∈R,ZB r)(hg:∀ r∈R,goodR m (oneD (Xf s 9) s) r)(hb:(xK R).length≤4096):Xf s 10 m (xK R)=(⟨3,0,[],zdel m (R.foldl (vaa m (oneD (Xf s 9) s)) []),srt []⟩,0):=by
 rw[Xf,getD_of hok hb,if_pos rfl,fld_good hm R [] [] hg]
theorem msgN_l21 {s:GSchema}{r2:Bool×List (List UInt8×Bool)}{z:List (List UInt8×Bool)}:∀ {l:List GField} {i:Int} {a:List (Int×Bool)} {b:List (List UInt8×Bool)},zp.l21 s r2 l i a b=some (0,z)→r2.2=z
 |[],_,_,_,h=>by
  rw[zp.l21] at h
  injection h with h; injection h
 |g::l,i,a,b,h=>by
  rw[zp.l21] at h;obtain⟨r,_,h⟩:=bind_some h
  split at h
  · cases h
  unfold bnd at h
  dsimp only at h
  split at h
  · cases h
  split at h
  · cases h
  exact msgN_l21 h
theorem msgN_l12 {s:GSchema}{m:GMessage}{r2:Bool×List (List UInt8×Bool)}{z:List (List UInt8×Bool)}:∀ {l:List Int} {i:Int} {a:List (Int×Bool)},zp.l12 s m r2 l i a=some (0,z)→r2.2=z
 |[],_,_,h=>msgN_l21 h
 |n::l,i,a,h=>by
  rw[zp.l12] at h;unfold bnd at h
  dsimp only at h
  split at h
  · cases h
  exact msgN_l12 h
theorem msgN_l15 {s:GSchema}:∀ {B A:List GMessage} {i:Int} {nm:List (List UInt8×Bool)},(∀ x∈B,x.fName.length≤3000)→Rm nm (A.map GMessage.fName)→zl.l15 s B i nm=some 0→(∀ x∈B,x.fName∉A.map GMessage.fName)∧(B.map GMessage.fName).Nodup
 |[],_,_,_,_,_,_=>⟨(fun _ h=>by cases h),by simp⟩
 |x::B,A,i,nm,hn,hr,h=>by
  obtain⟨b,e1,e2⟩:=Xk hr (hn x (qr ..));rw[zl.l15] at h;obtain⟨⟨v,z⟩,e,h⟩:=bind_some h
  dsimp only at h
  split at h
  · rename_i h0
    subst h0;rw[zp,e2,qg] at e
    cases b with
    |false=>cases e
    |true=>
     dsimp only at e
     rw[if_neg (show ¬ (!true)=true by decide),if_pos rfl] at e
     split at e
     · cases e
     have hz:vad nm x.fName true=z:=msgN_l12 e;subst hz
     have hx:x.fName∉A.map GMessage.fName:=by
      intro hm
      rw[yb,fresh_l,if_pos hm] at e1; cases e1
     obtain⟨h2,h3⟩:=msgN_l15 (A:=A++[x]) (fun y hy=>hn y (qq _ hy)) (by rw[qH]; exact X6 hr x.fName) h;refine⟨fun y hy=>?_,?_⟩
     · rcases qJ.1 hy with rfl|hy
       · exact hx
       intro hm
       exact h2 y hy (by rw[qH]; exact uV _ hm)
     rw[qG,u0];refine⟨fun hm=>?_,h3⟩;obtain⟨y,hy,hyn⟩:=uz.1 hm;exact h2 y hy (by rw[hyn,qH]; exact ut _ (qr ..))
  rename_i h0
  exact absurd (Option.some.inj h) h0
theorem chk_names {s:GSchema}(hn:∀ x∈s.fMessages,x.fName.length≤3000)(h:zl s=some 0):(s.fMessages.map GMessage.fName).Nodup:=by
 rw[zl] at h;obtain⟨r,_,h⟩:=bind_some h
 split at h
 · cases h
 split at h
 · cases h
 split at h
 · cases h
 exact (msgN_l15 (A:=[]) hn vbQ h).2
theorem msg_own {m:GMessage}:∀ {l:List GMessage} (i:Int),m∈l→(l.map GMessage.fName).Nodup→zx.l4 m.fName l i=(m,true)
 |y::l,i,h,hn=>by
  rw[qG,u0] at hn;rw[zx.l4]
  rcases qJ.1 h with rfl|h
  · rw[if_pos rfl]
  rw[if_neg (fun hy=>hn.1 (by rw[hy]; exact List.mem_map_of_mem h))];exact msg_own _ h hn.2
end
section
set_option maxRecDepth 4000
open AM
theorem vaH : xp=some true:=by decide +kernel
theorem last_base {s:GSchema}{l n:List Int}{y:GMessage}(hk:kindsS s)(hck:zl s=some 0)(hfound:(zx s y.fName).2=true)(hown:XC s y.fName=y)(hl:l.length≤100)(hn:n.length≤100)(hm:∀ f∈y.fFields,f.fLabel≠3)(x:Int):law12_DecodeLast.l14 s l n y [] x=some true:=by
 obtain⟨t,hF,hok,hr⟩:=Fit_r hk (l:=l) (by omega) y.fName;obtain⟨u,hG,huk,hur⟩:=Fit_r hk (l:=n) (by omega) y.fName;have he:=Encode_eq (okT_sz 10 10 _ t (qu _) hok);rw[if_pos ⟨okT_check (qu _) hok,hok.1⟩] at he;have hf:=Encode_eq (okT_sz 10 10 _ u (qu _) huk);rw[if_pos ⟨okT_check (qu _) huk,huk.1⟩] at hf;rw[law12_DecodeLast.l14,hF,qg,he,qg,hG,qg,hf,qg]
 cases hE:YF 10 t with
 |none=>rw[orBad,if_pos (by rfl),vaH]; rfl
 |some a=>
  cases hE2:YF 10 u with
  |none=>rw[orBad,orBad,if_pos (by rfl),vaH]; rfl
  |some b=>
   rw[orBad,orBad]
   dsimp only
   have ha:=vbG hE;have hb:=vbG hE2;rw[yr (x:=2*(b.length:Int)) (by omega) (by omega),yr (by omega) (by omega)]
   by_cases hc:(4096:Int)<(a.length:Int)+2*(b.length:Int)
   · rw[if_pos (by simp[hc]),vaH]; rfl
   rw[hown] at hok huk;obtain⟨A,eA,oA,gA⟩:=fit_raws hok hr hE;obtain⟨B,eB,oB,gB⟩:=fit_raws huk hur hE2
   have both:∀ P:GRaw→Prop,(∀ r∈A,P r)→(∀ r∈B,P r)→∀ r∈A++B,P r:=fun P h1 h2 r h=>by
    rcases un.1 h with h|h
    · exact h1 r h
    exact h2 r h
   have all:∀ P:GRaw→Prop,(∀ r∈A,P r)→(∀ r∈B,P r)→∀ r∈B++(A++B),P r:=fun P h1 h2 r h=>by
    rcases un.1 h with h|h
    · exact h2 r h
    exact both P h1 h2 r h
   have e1:b++a++b=xK (B++(A++B)):=by rw[wC,wC,← eA,← eB,qp]
   have e2:a++b=xK (A++B):=by rw[wC,← eA,← eB]
   have d1:=dec_good hm (all _ oA oB) (all _ gA gB) (by rw[← e1]; simp only[qi]; omega);have d2:=dec_good hm (both _ oA oB) (both _ gA gB) (by rw[← e2]; simp only[qi]; omega);rw[drop_front B (A++B) [] fun r h=>ut _ h] at d1;have hd1:=decode_eq (b:=b++a++b) hck hfound;have hd2:=decode_eq (b:=a++b) hck hfound;rw[hown,e1,d1] at hd1;rw[hown,e2,d2] at hd2;have hdeep:=(decM_ok 10 y (xK (A++B)) (by rw[d2])).1;rw[d2] at hdeep
   rw[if_neg (by simp only[decide_true,qK,uL,decide_eq_true_eq]; exact hc),bytes_copy (by omega),qg,xR (by omega),qg,xR (by rw[qi]; omega),qg,e1,hd1,qg,bytes_copy (by omega),qg,xR (by omega),qg,e2,hd2,qg,if_pos (by simp),Same_refl (d:=10) (by decide) (right_deep 10 _ (Y9 10 10 _ _ (qu _) hdeep)),qg,qg,if_pos rfl,vaH]; rfl
theorem last_l14 {s:GSchema}{l n:List Int}{y:GMessage}(hbase:(∀ f∈y.fFields,f.fLabel≠3)→∀ x,law12_DecodeLast.l14 s l n y [] x=some true):∀ (q A:List GField) (x:Int),y.fFields=A++q→(∀ f∈A,f.fLabel≠3)→law12_DecodeLast.l14 s l n y q x=some true
 |[],A,x,h,hA=>hbase (by rw[h,qw]; exact hA) x
 |f::q,A,x,h,hA=>by
  rw[law12_DecodeLast.l14]
  by_cases hf:f.fLabel=3
  · rw[if_pos hf,vaH]; rfl
  rw[if_neg hf]
  refine last_l14 hbase q (A++[f]) _ (by rw[h,qp]; rfl) fun z hz=>?_
  rcases un.1 hz with hz|hz
  · exact hA z hz
  rw[uq] at hz; rw[hz]; exact hf
theorem last_true {s:GSchema}{w:Int}{l n:List Int}(hs:szS s):law12_DecodeLast s w l n=some true:=by
 obtain⟨few,hf⟩:=few_t s;rw[law12_DecodeLast,hf,qg]
 cases few with
 |false=>rw[if_pos (show (!false)=true from rfl),qg,u3,u3,if_pos rfl,vaH]; rfl
 |true=>
  have hn:=few_names hs.1 hf;rw[if_neg (show ¬ (!true)=true by decide),check07_eq hn,chkV_eq hs.1,qg,qg]
  by_cases hc:chkV s=0
  · have hck:zl s=some 0:=by rw[chkV_eq hs.1,hc]
    rw[decide_eq_true hc,qK,uL]
    by_cases hb:(decide (100<(l.length:Int))||decide (100<(n.length:Int)))=true
    · rw[if_pos hb,vaH]; rfl
    have hm:=chk_msgs hck;have hb':=hb;simp only[qS,decide_eq_true_eq,not_or] at hb';obtain⟨r,hr,r0,r1⟩:=place_t (v:=w) (n:=(s.fMessages.length:Int)) (by omega) (by omega);have hi:=Yq (l:=s.fMessages) (j:=r.toNat) (by omega);rw[show ((r.toNat:Nat):Int)=r by omega] at hi;have hmem:(s.fMessages[r.toNat]'(by omega))∈s.fMessages:=List.getElem_mem _
    generalize (s.fMessages[r.toNat]'(by omega))=y at hi hmem
    have hown:zx s y.fName=(y,true):=msg_own 0 hmem (chk_names (fun x hx=>(hn.2.1 x hx).1) hck);rw[if_neg hb,hr,qg,hi,qg];exact last_l14 (fun hlab x=>last_base (kindsS_of hck) hck (by rw[hown]) (by unfold XC; rw[hown]) (by omega) (by omega) hlab x) y.fFields [] 0 rfl (fun f hf=>by cases hf)
  rw[decide_eq_false hc,qC,u3,u3,if_pos rfl,vaH]; rfl
end
section
open Go.ChangeShapes Go.WideShapes Go.ChangeAt Go.RowKit Go.Shelf Go.Lib AM
theorem own : ownKnob Tryz.prog.godebug=none:=by kernel_rfl
theorem laidOut : laidOutB qh=true:=by kernel_rfl
def listed : List (String×DataW Unit):=[("unicode/utf8.acceptRanges",Rows.laid_unicode_utf8_acceptRanges),("unicode/utf8.first",Rows.laid_unicode_utf8_first)]
noncomputable def laidWorld (os:Os):World:=
 let w0:=World.holding qh os ⟨#[],#[],[]⟩
 let put (h:Array Obj) (g:Nat) (cs:Array Value):Array Obj:=h.modify g fun
  |.cells _ t frozen=>.cells cs t frozen
  |o=>o
 let h1:=put w0.heap (utf8Ren.g 3) (Lib.firstTab.map fun z=>Value.int .u8 z).toArray
 let h2:=put h1 (utf8Ren.g 4) ((uy 16).flatMap fun i=>[Value.int .u8 (Lib.accLo i),Value.int .u8 (Lib.accHi i)]).toArray
 { w0 with heap:=h2 }
theorem laid_met (os:Os)(args:Array Value):laidMet qh listed ((laidWorld os).forCall (fun _ _=>0) ⟨#[],args,[]⟩).memory:=
 (LaidIn.of_run (l:=listed) [0,1] 8 (by kernel_rfl) (by kernel_rfl) (by kernel_rfl) (by kernel_rfl)).met
theorem laid_metH (os:Os)(args:Array Value):laidMetH qh listed ((laidWorld os).forCall (fun _ _=>0) ⟨#[],args,[]⟩).memory:=laid_met os args
theorem firstD : Rows.laid_unicode_utf8_first=Lib.firstData:=by kernel_rfl
theorem acceptD : (Rows.laid_unicode_utf8_acceptRanges:DataW Unit)=Lib.acceptData:=by kernel_rfl
theorem u8types : U8Types qh utf8Ren:=⟨XI.t5,XI.t119,XI.t138,XI.t139⟩
theorem glb_of_laid {W:World}(hL:laidMetH qh listed W):Glb W fun b=>b<W.heap.size:=by
 have h':laidMet qh listed W:=hL;have r1:=Lib.laidMet.reads h' (.tail _ (.head _));have r2:=Lib.laidMet.reads h' (.head _);rw[firstD] at r1;rw[acceptD] at r2;have ht:Lib.Utf8Tabs (utf8Ren.g 3) (utf8Ren.g 4) W:=utf8Tabs_of_readsT u8types ⟨by kernel_rfl,by kernel_rfl,by kernel_rfl,by kernel_rfl,by kernel_rfl,by kernel_rfl,by kernel_rfl⟩ r1 r2;obtain⟨t1,t2⟩:=ht
 have lt:∀ {g o:Nat} {v:Value},W.cell? ⟨g,o,none⟩=some v→g<W.heap.size:=by
  intro g o v h
  refine Nat.lt_of_not_le fun hle=>?_
  unfold World.cell? at h;rw[Array.getElem?_eq_none hle] at h;cases h
 refine⟨fun g vs hm=>?_,fun g vs hm i v hv=>?_⟩
 · rcases qJ.1 hm with e|hm
   · cases e; exact lt (t1 0 (by decide))
   rcases qJ.1 hm with e|hm
   · cases e; exact lt (t2 0 (by decide)).1
   cases hm
 rcases qJ.1 hm with e|hm
 · cases e
   have hi:i<256:=by
    have:=(q1.1 hv).1; simpa using this
   rw[List.getElem?_map,List.getElem?_range hi] at hv;cases hv;exact t1 i hi
 rcases qJ.1 hm with e|hm
 · cases e
   have hi:i<32:=by
    have:=(q1.1 hv).1; simpa using this
   rw[List.getElem?_map,List.getElem?_range hi] at hv;cases hv;have h1:=t2 (i / 2) (by omega)
   have:i % 2=0∨i % 2=1:=by omega
   rcases this with h|h
   · have e:2*(i / 2)=i:=by omega
     rw[e] at h1
     simp only[h,if_true]; exact h1.1
   have e:2*(i / 2)+1=i:=by omega
   rw[e] at h1
   simp only[h]; exact h1.2
 cases hm
end
section
namespace AM
open Go.RowKit Go.ChangeShapes Go.WideShapes Go.Deep
section
variable {H:Type} {enc:TypeId×Value→H} {P:Program} {w:World} {base:Nat} {spare:Nat→Bool} {held:Bool}
def OpensS (enc:TypeId×Value→H)(P:Program)(w:World)(base:Nat)(spare:Nat→Bool)(held:Bool)(N:Nat)(t:TypeId)(A:List AV→Prop):Prop:=
 ∀ n cs y,DataW.trod enc P w base spare held n t cs=some y→SizeOf.sizeOf y.1<N→(∀ x∈y.1.weights P t,x≤reachBytes)→∃ avs,avs.length=cs.length∧A avs∧∀ i,i<avs.length→VR (Env.start w) (gc avs i) (cs.getD i undef)
variable {N:Nat}
theorem OpensS.mono {t:TypeId}{A B:List AV→Prop}(h:OpensS enc P w base spare held N t A)(k:∀ l,A l→B l):OpensS enc P w base spare held N t B:=fun n cs y hy hN hs=>by
 obtain⟨avs,h1,h2,h3⟩:=h n cs y hy hN hs;exact⟨avs,h1,k _ h2,h3⟩
theorem OpensS.less {t:TypeId}{A:List AV→Prop}(h:OpensS enc P w base spare held (N+1) t A):OpensS enc P w base spare held N t A:=fun n cs y hy hN hs=>h n cs y hy (by omega) hs
theorem Opens.sized {t:TypeId}{A:List AV→Prop}(h:Opens enc P w base spare held t A):OpensS enc P w base spare held N t A:=fun n cs y hy _ _=>h n cs y hy
theorem opensS_string {t:TypeId}(ht:P.underlying t=some .string):OpensS enc P w base spare held N t fun l=>∃ s,l=[.str s]∧s.length≤reachBytes:=by
 intro n cs y hy _ hs
 obtain⟨m,rfl,hy,hl⟩:=DataW.trod_string ht hy;refine⟨[.str m.data.toList],rfl,⟨_,rfl,?_⟩,fun i hi=>by simp at hi; subst hi; exact .str _ _ rfl⟩;have:=hs m.data.toList.length (by subst hy; simp[DataW.weights])
 simpa using this
def tiles (P:Program):List Field→Nat→Nat→Bool
 |[],o,e=>o==e
 |f::l,o,e=>f.offset==o&&tiles P l (o+P.cellsOf f.type) e
theorem tile {cs:List Value}{A:Nat→List AV→Prop}:∀ (l:List Field) (o k e:Nat),tiles P l o e=true→
 (∀ j f,l[j]?=some f→∃ avs:List AV,avs.length=P.cellsOf f.type∧A (k+j) avs∧∀ i,i<avs.length→VR (Env.start w) (gc avs i) (cs.getD (f.offset+i) undef))→
 ∃ parts:List (List AV),parts.length=l.length∧(∀ j,j<l.length→A (k+j) (parts.getD j []))∧o+parts.flatten.length=e∧∀ i,i<parts.flatten.length→VR (Env.start w) (gc parts.flatten i) (cs.getD (o+i) undef)
 |[],o,k,e,h,_=>⟨[],rfl,(fun j hj=>by simp at hj),by simpa [tiles] using h,(fun i hi=>by simp at hi)⟩
 |f::l,o,k,e,h,hA=>by
  simp only[tiles,qo,beq_iff_eq] at h;obtain⟨avs,a1,a2,a3⟩:=hA 0 f rfl
  obtain⟨parts,p1,p2,p3,p4⟩:=tile l (o+P.cellsOf f.type) (k+1) e h.2 fun j g hg=>by
   obtain⟨x,x1,x2,x3⟩:=hA (j+1) g (by simpa using hg);exact⟨x,x1,by rw[show k+1+j=k+(j+1) by omega]; exact x2,x3⟩
  refine⟨avs::parts,by simp[p1],?_,by rw[List.flatten_cons,qi]; omega,?_⟩
  · intro j hj
    cases j with
    |zero=>simpa using a2
    |succ j=>
     have:=p2 j (by simpa using hj);rw[show k+1+j=k+(j+1) by omega] at this
     simpa using this
  intro i hi
  rw[List.flatten_cons] at hi ⊢
  by_cases hlt:i<avs.length
  · have:=a3 i hlt;rw[h.1] at this;rw[gc,qv,qT hlt]
    simpa [gc,qv] using this
  rw[qi] at hi;have:=p4 (i-avs.length) (by omega);rw[show o+P.cellsOf f.type+(i-avs.length)=o+i by omega] at this;rw[gc,qv,ua (by omega)]
  simpa [gc,qv] using this
theorem mem_weightsEach {x:Nat}:∀ {ts:List TypeId} {ds:List (DataW H)} (j:Nat) (t:TypeId) (d:DataW H),ts[j]?=some t→ds[j]?=some d→x∈d.weights P t→x∈DataW.weightsEach P ts ds
 |[],_,j,t,d,h,_,_=>by simp at h
 |_::_,[],j,t,d,_,h,_=>by simp at h
 |t'::ts,d'::ds,j,t,d,ht,hd,hx=>by
  rw[DataW.weightsEach,un]
  cases j with
  |zero=>
   simp at ht hd; subst ht hd; exact Or.inl hx
  |succ j=>exact Or.inr (mem_weightsEach j t d (by simpa using ht) (by simpa using hd) hx)
theorem Xv {x:Nat}{e:TypeId}:∀ {ds:List (DataW H)} {d:DataW H},d∈ds→x∈d.weights P e→x∈DataW.weightsAll P e ds
 |[],_,h,_=>by cases h
 |d'::ds,d,h,hx=>by
  rw[DataW.weightsAll,un]
  rcases qJ.1 h with rfl|h
  · exact Or.inl hx
  exact Or.inr (Xv h hx)
theorem wx {t:TypeId}{fs:Array Field}(ht:P.underlying t=some (.struct fs))(hC:tiles P fs.toList 0 (P.cellsOf t)=true){A:Nat→List AV→Prop}
 (hA:∀ j f,fs[j]?=some f→OpensS enc P w base spare held N f.type (A j)):OpensS enc P w base spare held (N+1) t fun l=>∃ parts:List (List AV),l=parts.flatten∧parts.length=fs.size∧∀ j,j<fs.size→A j (parts.getD j []):=by
 intro n cs y hy hN hs
 obtain⟨ys,n',_,he,hlen,hyl,hf⟩:=DataW.trod_struct ht hy
 have hends:∀ (l:List Field) (o e:Nat),tiles P l o e=true→o≤e∧∀ (j:Nat) (f:Field),l[j]?=some f→f.offset+P.cellsOf f.type≤e:=by
  intro l
  induction l with
  |nil=>intro o e h; simp[tiles] at h; exact⟨by omega,fun j f h=>by simp at h⟩
  |cons f l ih=>
   intro o e h
   simp only[tiles,qo,beq_iff_eq] at h;obtain⟨h1,h2⟩:=ih _ _ h.2;refine⟨by omega,fun j g hg=>?_⟩
   cases j with
   |zero=>simp at hg; subst hg; omega
   |succ j=>exact h2 j g (by simpa using hg)
 obtain⟨parts,p1,p2,p3,p4⟩:=tile (w:=w) (cs:=cs) (A:=A) fs.toList 0 0 (P.cellsOf t) hC fun j f hj=>by
  have hfj:fs[j]?=some f:=by simpa using hj
  have hlt:j<fs.size:=(Array.getElem?_eq_some_iff.1 hfj).1;have h1:=hf j f hfj;rw[qV (by omega)] at h1;have hend:=(hends _ _ _ hC).2 j f hj;have hm:ys[j]'(by omega)∈ys:=List.getElem_mem _
  have hsz:SizeOf.sizeOf (ys[j]'(by omega)).1<N:=by
   have h2:(ys[j]'(by omega)).1∈ys.map (·.1):=List.mem_map_of_mem hm;have h3:=List.sizeOf_lt_of_mem h2;rw[he] at hN;simp only[DataW.agg.sizeOf_spec] at hN
   omega
  obtain⟨avs,e1,e2,e3⟩:=hA j f hfj _ _ _ h1 hsz fun x hx=>hs x (by
   rw[he,DataW.weights,ht]
   exact mem_weightsEach j f.type _ (by simp[hj]) (by rw[List.getElem?_map,qV (by omega)]; rfl) hx)
  have hl1:avs.length=P.cellsOf f.type:=by rw[e1,uH,uI]; omega
  refine⟨avs,hl1,by rw[qt]; exact e2,fun i hi=>?_⟩;have h4:=e3 i hi
  have h5:((cs.drop f.offset).take (P.cellsOf f.type)).getD i undef=cs.getD (f.offset+i) undef:=by
   simp only[qv];rw[List.getElem?_take_of_lt (by omega),List.getElem?_drop]
  rw[h5] at h4; exact h4
 refine⟨parts.flatten,by omega,⟨parts,rfl,by simpa using p1,fun j hj=>?_⟩,fun i hi=>?_⟩
 · have:=p2 j (by simpa using hj)
   rwa [qt] at this
 have:=p4 i hi
 rwa [qt] at this
theorem Za {t e:TypeId}(ht:P.underlying t=some (.slice e))(hpos:0<P.cellsOf e){A:List AV→Prop}(hA:OpensS enc P w base spare held N e A):
 OpensS enc P w base spare held (N+1) t fun l=>∃ es,l=[.ds true (List.flatten es) (qb es) false]∧(∀ x∈es,A x∧x.length=P.cellsOf e)∧es.length*P.bytesOf e≤reachBytes∧es.length≤maxLen:=by
 intro n cs y hy hN hs
 rcases open_slice ht hy with ⟨rfl,_⟩|⟨a,len,cap,m,n',D,Pl,rfl,_,hl,hm,hmm,hye,hi⟩
 · refine⟨[.ds true [] 0 false],rfl,⟨[],by simp,by simp,by simp,by simp⟩,fun i hi=>?_⟩
   simp at hi; subst hi; exact .dsn _
 have hlm:len≤m:=by rw[hmm]; split<;>omega
 have hlen:len*P.bytesOf e≤reachBytes:=by
  have:=hs ((((uy len).map D).length+((uy (m-len)).map fun j=>D (len+j)).length)*P.bytesOf e) (by rw[hye]; simp only[DataW.weights,ht]; exact qr ..);rw[q2,List.length_range] at this;exact uv (qY _ (Nat.le_add_right _ _)) this
 have each:∀ i,i<len→∃ avs:List AV,avs.length=P.cellsOf e∧A avs∧∀ j,j<avs.length→∃ v,w.cell? ((a.add (i*P.cellsOf e)).add j)=some v∧VR (Env.start w) (gc avs j) v:=by
  intro i hil
  obtain⟨cs',h1,h2⟩:=hi i (by omega);obtain⟨_,hcl,hat⟩:=World.cells?_some h1;have hmem:D i∈(uy len).map D:=List.mem_map_of_mem (List.mem_range.2 hil)
  have hsz:SizeOf.sizeOf (D i)<N:=by
   have h3:=List.sizeOf_lt_of_mem hmem;rw[hye] at hN;simp only[DataW.slice.sizeOf_spec] at hN
   omega
  obtain⟨avs,e1,e2,e3⟩:=hA _ _ _ h2 hsz fun x hx=>hs x (by
   rw[hye]; simp only[DataW.weights,ht]
   exact qq _ (uV _ (Xv hmem hx)))
  refine⟨avs,by omega,e2,fun j hj=>⟨cs'.getD j undef,?_,e3 j hj⟩⟩
  rw[hat j (by omega),qv,qV (by omega)]; rfl
 obtain⟨g,hg⟩:=Classical.axiomOfChoice (r:=fun (i:Fin len) (avs:List AV)=>avs.length=P.cellsOf e∧A avs∧∀ j,j<avs.length→∃ v,w.cell? ((a.add (i.1*P.cellsOf e)).add j)=some v∧VR (Env.start w) (gc avs j) v) (fun i=>each i.1 i.2)
 have hes:∀ x∈vn g,A x∧x.length=P.cellsOf e:=by
  intro x hx
  obtain⟨i,rfl⟩:=List.mem_ofFn.1 hx;exact⟨(hg i).2.1,(hg i).1⟩
 refine⟨[.ds true (vn g).flatten (vn g).length false],rfl,⟨_,rfl,hes,by simpa using hlen,by simp; omega⟩,fun i hi=>?_⟩
 simp at hi; subst hi
 have hfl:=length_flat (es:=vn g) (sz:=P.cellsOf e) fun x hx=>(hes x hx).2
 have hsp:(vn g).flatten.length≠0→a.spot=none:=by
  intro h0
  rw[hfl] at h0
  have hl0:0<len:=by
   rcases Nat.eq_zero_or_pos len with h|h
   · subst h; simp at h0
   exact h
  obtain⟨v,h1,_⟩:=(hg ⟨0,hl0⟩).2.2 0 (by rw[(hg ⟨0,hl0⟩).1]; exact hpos);have:=World.cell?_spot h1
  simpa [Addr.add] using this
 have hcell:∀ k,k<(vn g).flatten.length→∃ v,w.cell? ⟨a.block,a.off+k,none⟩=some v∧VR (Env.start w) (gc (vn g).flatten k) v:=by
  intro k hk
  have hs:=hsp (by omega);rw[hfl] at hk;simp only[List.length_ofFn] at hk;have hd:k / P.cellsOf e<len:=Nat.div_lt_of_lt_mul (by rw[Nat.mul_comm]; exact hk);have hmd:k % P.cellsOf e<P.cellsOf e:=Nat.mod_lt _ hpos
  have hsplit:k / P.cellsOf e*P.cellsOf e+k % P.cellsOf e=k:=by rw[Nat.mul_comm]; exact Nat.div_add_mod _ _
  obtain⟨v,h1,h2⟩:=(hg ⟨_,hd⟩).2.2 (k % P.cellsOf e) (by rw[(hg ⟨_,hd⟩).1]; exact hmd);refine⟨v,?_,?_⟩
  · rw[add_spot hs,add_spot rfl] at h1;simp only at h1
    rw[uN,hsplit] at h1; exact h1
  have:=gc_flat (es:=vn g) (fun x hx=>(hes x hx).2) (k / P.cellsOf e) (k % P.cellsOf e) hmd (by simpa using hd);rw[hsplit] at this
  rw[this]; simpa using h2
 obtain⟨vs,hvs⟩:∃ vs:Nat→Value,∀ k,k<(vn g).flatten.length→w.cell? ⟨a.block,a.off+k,none⟩=some (vs k)∧VR (Env.start w) (gc (vn g).flatten k) (vs k):=by
  refine⟨fun k=>(w.cell? ⟨a.block,a.off+k,none⟩).getD undef,fun k hk=>?_⟩;obtain⟨v,h1,h2⟩:=hcell k hk
  simp only[h1,uS]; exact⟨trivial,h2⟩
 show VR (Env.start w) (.ds true _ _ false) (.slice (some a) len cap)
 rw[List.length_ofFn];refine .ds _ _ _ _ a cap vs ?_ ?_ (fun k hk=>(hvs k hk).2) hl (fun h=>by cases h) ?_
 · by_cases h0:(vn g).flatten.length=0
   · exact .inl (qE.1 h0)
   exact .inr (hsp h0)
 · by_cases h0:(vn g).flatten.length=0
   · exact .inl h0
   refine .inr ⟨?_,fun k hk=>(hvs k hk).1⟩;obtain⟨_,h,_⟩:=hcell 0 (by omega);exact cell_lt (a:=⟨a.block,a.off+0,none⟩) h
 unfold maxLen at *; omega
theorem OpensS.arg {t:TypeId}{A:List AV→Prop}(h:∀ N,OpensS enc P w base spare held N t A){v:Value}{d:DataW H}{p:List MemPlace}(hv:DataW.Trod enc P w base spare held t v d p)(hw:∀ x∈d.weights P t,x≤reachBytes)(h1:v.cells.toList=[v]):∃ a,A [a]∧VR (Env.start w) a v:=by
 obtain⟨n,hn⟩:=hv;obtain⟨avs,e1,e2,e3⟩:=h _ _ _ _ hn (qy _) hw;rw[h1] at e1 e3
 match avs,e1 with
 |[a],_=>exact⟨a,e2,by simpa [gc] using e3 0 (by simp)⟩
theorem OpensS.agg {t:TypeId}{A:List AV→Prop}(h:∀ N,OpensS enc P w base spare held N t A){vs:Array Value}{d:DataW H}{p:List MemPlace}(hv:DataW.Trod enc P w base spare held t (.agg vs) d p)(hw:∀ x∈d.weights P t,x≤reachBytes):∃ l,A l∧VR (Env.start w) (.agg l) (.agg vs):=by
 obtain⟨n,hn⟩:=hv;obtain⟨avs,e1,e2,e3⟩:=h _ _ _ _ hn (qy _) hw;refine⟨avs,e2,.agg _ _ (by simpa [Value.cells] using e1.symm) fun i hi=>?_⟩;have:=e3 i hi
 simpa [Value.cells,qv,uw] using this
end
end AM
open AM
theorem vap {α:Type}{e:α→List AV}{p:α→Prop}{es:List (List AV)}(h:∀ x∈es,∃ y:α,x=e y∧p y):∃ zs:List α,es.flatten=zs.flatMap e∧zs.length=es.length∧∀ z∈zs,p z:=by
 induction es with
 |nil=>exact⟨[],rfl,rfl,fun z hz=>by cases hz⟩
 |cons x es ih=>
  obtain⟨zs,h1,h2,h3⟩:=ih fun y hy=>h y (by simp[hy])
  obtain⟨y,rfl,hp⟩:=h x (by simp);refine⟨y::zs,by simp[h1],by simp[h2],fun z hz=>?_⟩
  rcases qJ.1 hz with rfl|hz
  · exact hp
  exact h3 z hz
def in64 (n:Int):Prop := -9223372036854775808≤n∧n<9223372036854775808
theorem wf64 {n:Int}(h:(Lit.int .i64 n).wf=true):in64 n:=by
 simp only[Lit.wf,IntKind.min,IntKind.max,IntKind.signed,IntKind.bits,qo,decide_eq_true_eq,if_true] at h
 unfold in64; omega
section
variable {H:Type} {enc:TypeId×Value→H} {w:World} {base:Nat} {spare:Nat→Bool} {held:Bool} {N:Nat}
theorem Yn : OpensS enc qh w base spare held N 3 fun x=>∃ n,x=[.int .i64 n]∧in64 n:=
 ((opens_int Tryz.underlying3).mono fun x ⟨n,h1,h2⟩=>⟨n,h1,wf64 h2⟩).sized
theorem Zd : OpensS enc qh w base spare held N 9 fun x=>∃ s,x=[.str s]∧s.length≤140737488351232:=opensS_string Tryz.underlying9
theorem opens_ints (N:Nat):OpensS enc qh w base spare held N 45 fun x=>∃ zs:List Int,x=[AV.ds true (zs.flatMap encI) zs.length false]∧zs.length*8≤140737488351232∧∀ z∈zs,in64 z:=by
 refine ((Za (N:=N) Tryz.underlying45 (by decide +kernel) Yn).mono ?_).less;rintro x ⟨es,rfl,h1,h2,_⟩
 obtain⟨l,e1,e2,e3⟩:=vap (e:=encI) (p:=in64) fun y hy=>(h1 y hy).1
 rw[show Tryz.prog.bytesOf 3=8 by kernel_rfl] at h2;exact⟨l,by rw[e1,e2],by rw[e2]; exact h2,e3⟩
end
end
section
open AM
section
variable {H:Type} {enc:TypeId×Value→H} {w:World} {base:Nat} {spare:Nat→Bool} {held:Bool}
end
end
section
open AM
def okType (y:GType):Prop:=in64 y.fKind∧y.fName.length≤140737488351232
def okField (y:GField):Prop:=y.fName.length≤140737488351232∧in64 y.fTag∧in64 y.fLabel∧okType y.fType
def XR (y:GMessage):Prop:=y.fName.length≤140737488351232∧(y.fFields.length*56≤140737488351232∧∀ v∈y.fFields,okField v)∧(y.fReserved.length*8≤140737488351232∧∀ v∈y.fReserved,in64 v)
def okNamed (y:GNamed):Prop:=y.fName.length≤140737488351232∧in64 y.fN
def ZD (y:GEnumeration):Prop:=y.fName.length≤140737488351232∧(y.fValues.length*24≤140737488351232∧∀ v∈y.fValues,okNamed v)
def vaW (y:GMethod):Prop:=y.fName.length≤140737488351232∧y.fIn.length≤140737488351232∧y.fOut.length≤140737488351232
def okSchema (y:GSchema):Prop:=y.fName.length≤140737488351232∧(y.fMessages.length*64≤140737488351232∧∀ v∈y.fMessages,XR v)∧(y.fEnums.length*40≤140737488351232∧∀ v∈y.fEnums,ZD v)∧(y.fMethods.length*48≤140737488351232∧∀ v∈y.fMethods,vaW v)
section
variable {H:Type} {enc:TypeId×Value→H} {w:World} {base:Nat} {spare:Nat→Bool} {held:Bool}
theorem opens_Type (N:Nat):OpensS enc qh w base spare held N 55 fun x=>∃ y:GType,x=encGType y∧okType y:=by
 refine ((wx (N:=N) (A:=fun j x=>if j=0 then ∃ z:Int,x=[.int .i64 z]∧in64 z else if j=1 then ∃ z:List UInt8,x=[.str z]∧z.length≤140737488351232 else False) Tryz.underlying55 (by decide +kernel) ?_).mono ?_).less
 · intro j f hf
   match j with
   |0=>cases hf; exact Yn
   |1=>cases hf; exact Zd
   |j+2=>simp at hf
 rintro x ⟨parts,rfl,hl,hx⟩;obtain⟨a0,e0,w0⟩:=hx 0 (by decide);obtain⟨a1,e1,w1⟩:=hx 1 (by decide);refine⟨⟨a0,a1⟩,?_,w0,w1⟩
 match parts,hl with
 |[p0,p1],_=>
  simp only[List.getD_cons_zero,List.getD_cons_succ] at e0 e1
  subst e0 e1; rfl
theorem opens_Field (N:Nat):OpensS enc qh w base spare held N 57 fun x=>∃ y:GField,x=encGField y∧okField y:=by
 refine ((wx (N:=N) (A:=fun j x=>if j=0 then ∃ z:List UInt8,x=[.str z]∧z.length≤140737488351232 else if j=1 then ∃ z:Int,x=[.int .i64 z]∧in64 z else if j=2 then ∃ z:Int,x=[.int .i64 z]∧in64 z else if j=3 then ∃ z:GType,x=encGType z∧okType z else False) Tryz.underlying57 (by decide +kernel) ?_).mono ?_).less
 · intro j f hf
   match j with
   |0=>cases hf; exact Zd
   |1=>cases hf; exact Yn
   |2=>cases hf; exact Yn
   |3=>cases hf; exact opens_Type N
   |j+4=>simp at hf
 rintro x ⟨parts,rfl,hl,hx⟩;obtain⟨a0,e0,w0⟩:=hx 0 (by decide);obtain⟨a1,e1,w1⟩:=hx 1 (by decide);obtain⟨a2,e2,w2⟩:=hx 2 (by decide);obtain⟨a3,e3,w3⟩:=hx 3 (by decide);refine⟨⟨a0,a1,a2,a3⟩,?_,w0,w1,w2,w3⟩
 match parts,hl with
 |[p0,p1,p2,p3],_=>
  simp only[List.getD_cons_zero,List.getD_cons_succ] at e0 e1 e2 e3
  subst e0 e1 e2 e3; rfl
theorem opens_Fields (N:Nat):OpensS enc qh w base spare held N 47 fun x=>∃ zs:List GField,x=[AV.ds true (zs.flatMap encGField) zs.length false]∧zs.length*56≤140737488351232∧∀ y∈zs,okField y:=by
 refine ((Za (N:=N) Tryz.underlying47 (by decide +kernel) (opens_Field N)).mono ?_).less;rintro x ⟨es,rfl,h1,h2,_⟩
 obtain⟨l,e1,e2,e3⟩:=vap fun y hy=>(h1 y hy).1
 rw[show Tryz.prog.bytesOf 57=56 by kernel_rfl] at h2;exact⟨l,by rw[e1,e2],by rw[e2]; exact h2,e3⟩
theorem opens_Message (N:Nat):OpensS enc qh w base spare held N 49 fun x=>∃ y:GMessage,x=encGMessage y∧XR y:=by
 refine ((wx (N:=N) (A:=fun j x=>if j=0 then ∃ z:List UInt8,x=[.str z]∧z.length≤140737488351232 else if j=1 then ∃ z:List GField,x=[AV.ds true (qf encGField z) (qb z) false]∧(z.length*56≤140737488351232∧∀ v∈z,okField v) else if j=2 then ∃ z:List Int,x=[AV.ds true (qf encI z) (qb z) false]∧(z.length*8≤140737488351232∧∀ v∈z,in64 v) else False) Tryz.underlying49 (by decide +kernel) ?_).mono ?_).less
 · intro j f hf
   match j with
   |0=>cases hf; exact Zd
   |1=>cases hf; exact opens_Fields N
   |2=>cases hf; exact opens_ints N
   |j+3=>simp at hf
 rintro x ⟨parts,rfl,hl,hx⟩;obtain⟨a0,e0,w0⟩:=hx 0 (by decide);obtain⟨a1,e1,w1⟩:=hx 1 (by decide);obtain⟨a2,e2,w2⟩:=hx 2 (by decide);refine⟨⟨a0,a1,a2⟩,?_,w0,w1,w2⟩
 match parts,hl with
 |[p0,p1,p2],_=>
  simp only[List.getD_cons_zero,List.getD_cons_succ] at e0 e1 e2
  subst e0 e1 e2; rfl
theorem opens_Messages (N:Nat):OpensS enc qh w base spare held N 22 fun x=>∃ zs:List GMessage,x=[AV.ds true (zs.flatMap encGMessage) zs.length false]∧zs.length*64≤140737488351232∧∀ y∈zs,XR y:=by
 refine ((Za (N:=N) Tryz.underlying22 (by decide +kernel) (opens_Message N)).mono ?_).less;rintro x ⟨es,rfl,h1,h2,_⟩
 obtain⟨l,e1,e2,e3⟩:=vap fun y hy=>(h1 y hy).1
 rw[show Tryz.prog.bytesOf 49=64 by kernel_rfl] at h2;exact⟨l,by rw[e1,e2],by rw[e2]; exact h2,e3⟩
theorem opens_Named (N:Nat):OpensS enc qh w base spare held N 86 fun x=>∃ y:GNamed,x=encGNamed y∧okNamed y:=by
 refine ((wx (N:=N) (A:=fun j x=>if j=0 then ∃ z:List UInt8,x=[.str z]∧z.length≤140737488351232 else if j=1 then ∃ z:Int,x=[.int .i64 z]∧in64 z else False) Tryz.underlying86 (by decide +kernel) ?_).mono ?_).less
 · intro j f hf
   match j with
   |0=>cases hf; exact Zd
   |1=>cases hf; exact Yn
   |j+2=>simp at hf
 rintro x ⟨parts,rfl,hl,hx⟩;obtain⟨a0,e0,w0⟩:=hx 0 (by decide);obtain⟨a1,e1,w1⟩:=hx 1 (by decide);refine⟨⟨a0,a1⟩,?_,w0,w1⟩
 match parts,hl with
 |[p0,p1],_=>
  simp only[List.getD_cons_zero,List.getD_cons_succ] at e0 e1
  subst e0 e1; rfl
theorem opens_Nameds (N:Nat):OpensS enc qh w base spare held N 82 fun x=>∃ zs:List GNamed,x=[AV.ds true (zs.flatMap encGNamed) zs.length false]∧zs.length*24≤140737488351232∧∀ y∈zs,okNamed y:=by
 refine ((Za (N:=N) Tryz.underlying82 (by decide +kernel) (opens_Named N)).mono ?_).less;rintro x ⟨es,rfl,h1,h2,_⟩
 obtain⟨l,e1,e2,e3⟩:=vap fun y hy=>(h1 y hy).1
 rw[show Tryz.prog.bytesOf 86=24 by kernel_rfl] at h2;exact⟨l,by rw[e1,e2],by rw[e2]; exact h2,e3⟩
theorem vaj (N:Nat):OpensS enc qh w base spare held N 84 fun x=>∃ y:GEnumeration,x=encGEnumeration y∧ZD y:=by
 refine ((wx (N:=N) (A:=fun j x=>if j=0 then ∃ z:List UInt8,x=[.str z]∧z.length≤140737488351232 else if j=1 then ∃ z:List GNamed,x=[AV.ds true (qf encGNamed z) (qb z) false]∧(z.length*24≤140737488351232∧∀ v∈z,okNamed v) else False) Tryz.underlying84 (by decide +kernel) ?_).mono ?_).less
 · intro j f hf
   match j with
   |0=>cases hf; exact Zd
   |1=>cases hf; exact opens_Nameds N
   |j+2=>simp at hf
 rintro x ⟨parts,rfl,hl,hx⟩;obtain⟨a0,e0,w0⟩:=hx 0 (by decide);obtain⟨a1,e1,w1⟩:=hx 1 (by decide);refine⟨⟨a0,a1⟩,?_,w0,w1⟩
 match parts,hl with
 |[p0,p1],_=>
  simp only[List.getD_cons_zero,List.getD_cons_succ] at e0 e1
  subst e0 e1; rfl
theorem XP (N:Nat):OpensS enc qh w base spare held N 23 fun x=>∃ zs:List GEnumeration,x=[AV.ds true (zs.flatMap encGEnumeration) zs.length false]∧zs.length*40≤140737488351232∧∀ y∈zs,ZD y:=by
 refine ((Za (N:=N) Tryz.underlying23 (by decide +kernel) (vaj N)).mono ?_).less;rintro x ⟨es,rfl,h1,h2,_⟩
 obtain⟨l,e1,e2,e3⟩:=vap fun y hy=>(h1 y hy).1
 rw[show Tryz.prog.bytesOf 84=40 by kernel_rfl] at h2;exact⟨l,by rw[e1,e2],by rw[e2]; exact h2,e3⟩
theorem opens_Method (N:Nat):OpensS enc qh w base spare held N 75 fun x=>∃ y:GMethod,x=encGMethod y∧vaW y:=by
 refine ((wx (N:=N) (A:=fun j x=>if j=0 then ∃ z:List UInt8,x=[.str z]∧z.length≤140737488351232 else if j=1 then ∃ z:List UInt8,x=[.str z]∧z.length≤140737488351232 else if j=2 then ∃ z:List UInt8,x=[.str z]∧z.length≤140737488351232 else False) Tryz.underlying75 (by decide +kernel) ?_).mono ?_).less
 · intro j f hf
   match j with
   |0=>cases hf; exact Zd
   |1=>cases hf; exact Zd
   |2=>cases hf; exact Zd
   |j+3=>simp at hf
 rintro x ⟨parts,rfl,hl,hx⟩;obtain⟨a0,e0,w0⟩:=hx 0 (by decide);obtain⟨a1,e1,w1⟩:=hx 1 (by decide);obtain⟨a2,e2,w2⟩:=hx 2 (by decide);refine⟨⟨a0,a1,a2⟩,?_,w0,w1,w2⟩
 match parts,hl with
 |[p0,p1,p2],_=>
  simp only[List.getD_cons_zero,List.getD_cons_succ] at e0 e1 e2
  subst e0 e1 e2; rfl
theorem opens_Methods (N:Nat):OpensS enc qh w base spare held N 24 fun x=>∃ zs:List GMethod,x=[AV.ds true (zs.flatMap encGMethod) zs.length false]∧zs.length*48≤140737488351232∧∀ y∈zs,vaW y:=by
 refine ((Za (N:=N) Tryz.underlying24 (by decide +kernel) (opens_Method N)).mono ?_).less;rintro x ⟨es,rfl,h1,h2,_⟩
 obtain⟨l,e1,e2,e3⟩:=vap fun y hy=>(h1 y hy).1
 rw[show Tryz.prog.bytesOf 75=48 by kernel_rfl] at h2;exact⟨l,by rw[e1,e2],by rw[e2]; exact h2,e3⟩
theorem opens_Schema (N:Nat):OpensS enc qh w base spare held N 26 fun x=>∃ y:GSchema,x=encGSchema y∧okSchema y:=by
 refine ((wx (N:=N) (A:=fun j x=>if j=0 then ∃ z:List UInt8,x=[.str z]∧z.length≤140737488351232 else if j=1 then ∃ z:List GMessage,x=[AV.ds true (qf encGMessage z) (qb z) false]∧(z.length*64≤140737488351232∧∀ v∈z,XR v) else if j=2 then ∃ z:List GEnumeration,x=[AV.ds true (qf encGEnumeration z) (qb z) false]∧(z.length*40≤140737488351232∧∀ v∈z,ZD v) else if j=3 then ∃ z:List GMethod,x=[AV.ds true (qf encGMethod z) (qb z) false]∧(z.length*48≤140737488351232∧∀ v∈z,vaW v) else False) Tryz.underlying26 (by decide +kernel) ?_).mono ?_).less
 · intro j f hf
   match j with
   |0=>cases hf; exact Zd
   |1=>cases hf; exact opens_Messages N
   |2=>cases hf; exact XP N
   |3=>cases hf; exact opens_Methods N
   |j+4=>simp at hf
 rintro x ⟨parts,rfl,hl,hx⟩;obtain⟨a0,e0,w0⟩:=hx 0 (by decide);obtain⟨a1,e1,w1⟩:=hx 1 (by decide);obtain⟨a2,e2,w2⟩:=hx 2 (by decide);obtain⟨a3,e3,w3⟩:=hx 3 (by decide);refine⟨⟨a0,a1,a2,a3⟩,?_,w0,w1,w2,w3⟩
 match parts,hl with
 |[p0,p1,p2,p3],_=>
  simp only[List.getD_cons_zero,List.getD_cons_succ] at e0 e1 e2 e3
  subst e0 e1 e2 e3; rfl
end
end
section
open AM
section
variable {H:Type} {enc:TypeId×Value→H} {w:World} {base:Nat} {spare:Nat→Bool} {held:Bool}
end
theorem szS_of {s:GSchema}(h:okSchema s):szS s:=
 ⟨⟨h.1,fun m hm=>⟨(h.2.1.2 m hm).1,fun f hf=>((h.2.1.2 m hm).2.1.2 f hf).1⟩,fun e he=>⟨(h.2.2.1.2 e he).1,fun v hv=>((h.2.2.1.2 e he).2.2 v hv).1⟩,fun x hx=>(h.2.2.2.2 x hx).1⟩,
  h.2.1.1,h.2.2.1.1,h.2.2.2.1,fun m hm=>⟨(h.2.1.2 m hm).2.1.1,(h.2.1.2 m hm).2.2.1⟩,fun e he=>(h.2.2.1.2 e he).2.1⟩
end
end Go.Proofs.YtaddlmlpeghonaaGreatDoor
