/- Parts of the proof, cut down to what it needs. -/
import Derived.Test.YtaahlckibpiphaaGreatDoorVSp
import Derived.Test.YtaahlckibpiphaaGreatDoorVFB
import Derived.Test.YtaahlckibpiphaaGreatDoorRows
import Derived.Test.YtaahlckibpiphaaGreatDoorChecked
import Derived.Test.YtaahlckibpiphaaGreatDoorTie
import Derived.ProofKit
import Derived.OpenShut
import Derived.ShutString
import Derived.ChangeOld
import Derived.ChangeSame
import Derived.ChangeVars
import Derived.JoinedOf
import Derived.RowKit
import Derived.LaidLaws
import Derived.LaidHandle
import Derived.Lib.LaidIn
import Derived.Lib.LaidU8T
import Derived.SevenTiedAt
set_option linter.constructorNameAsVariable false
set_option linter.unusedSimpArgs false
set_option linter.unusedVariables false
namespace Go.Proofs.YtaahlckibpiphaaGreatDoor
open _root_.List renaming length → qa, flatMap → qb, length_cons → qk, length_nil → qp, map_nil → qq, length_append → qt, drop_zero → qw, getD_eq_getElem?_getD → qx, map_cons → qy, mem_cons_of_mem → qB, nil_append → qC, map_append → qE, mem_cons_self → qG, length_eq_zero_iff → qH, cons_append → qK, range_zero → qL, replicate → qN, getElem?_eq_some_iff → qO, append_assoc → qP, all_cons → qQ, getElem?_append_left → qR, append_nil → qT, range_succ → qV, all_nil → qW, getElem?_eq_getElem → qY, length_singleton → qZ, eq_nil_of_length_eq_zero → q1, flatMap_cons → ua, mem_cons → uc, length_map → ud, getElem?_set_ne → ue, take_length → uh, getElem?_append_right → uj, all_eq_true → uk, flatMap_append → um, flatMap_nil → uo, take_of_length_le → ut, getElem?_set_self → uu, take_append_drop → uz, getElem?_eq_none → uA, mem_map → uB, take_succ_cons → uC, drop_succ_cons → uD, range → uG, getElem?_cons_zero → uH, mem_append_left → uL, getD_cons_zero → uM, getD_cons_succ → uN, take_zero → uO, set_cons_zero → uP, set_cons_succ → uQ, mem_append_right → uR, length_drop → uT, drop_eq_getElem_cons → uU, length_take → u0, mem_append → u4, drop_drop → u7, getElem?_map → u9
open _root_.Option renaming bind_some → qh, map_some → uy, getD_some → uJ
open _root_.Nat renaming reduceEqDiff → qc, reduceLT → qd, reduceAdd → qe, reduceLeDiff → qg, reduceMul → qj, zero_add → ql, lt_succ_self → qo, reduceSub → qr, le_refl → qA, add_zero → qF, reduceMod → q5, mul_le_mul_right → uf, lt_of_lt_of_le → un, zero_mul → uq, le_trans → uv, zero_le → ux, sub_zero → uK, sub_self → uV, add_mul → u6
open _root_.Bool renaming not_false → qn, and_eq_true → qs, not_true → qu, or_true → qv, and_false → qz, and_self → qD, and_true → qI, or_false → qM, or_eq_true → qS, false_eq_true → qU, true_and → qX, false_and → ub, true_or → ug, false_ne_true → ul, false_or → ur, not_eq_true' → uZ
open _root_.Int renaming toNat → q2, toNat_natCast → uw
open _root_.BitVec renaming ofInt → q3, toNat → uX
open _root_.Array renaming getD_eq_getD_getElem? → uE
open Result renaming andThen_ok → qi
open Sem renaming run_bind → qm, run_pure → qJ
open _root_.Go.Proofs.Tryz renaming prog → qf
section
set_option maxRecDepth 4000
open AM
def bt (a:List UInt8)(i:Nat):Nat:=(a.getD i 0).toNat
theorem bt_lt (a:List UInt8)(i:Nat):bt a i<256:=UInt8.toNat_lt _
theorem bt_get {a:List UInt8}{i:Nat}(h:i<a.length):bt a i=(a[i]'h).toNat:=by
 unfold bt; rw[qx,qY h]; rfl
theorem bt_drop (a:List UInt8)(p i:Nat):bt (a.drop p) i=bt a (p+i):=by
 unfold bt; rw[qx,qx,List.getElem?_drop]
def decB (b:Nat→Nat)(n:Nat):Nat×Nat:=
 if b 0<128 then (b 0,1)
 else if b 0 / 32=6∧(1<n∧b 1 / 64=2) then
  (if 128≤b 0 % 32*64+b 1 % 64 then (b 0 % 32*64+b 1 % 64,2) else (65533,1))
 else if b 0 / 16=14∧(1<n∧b 1 / 64=2)∧(2<n∧b 2 / 64=2) then
  (if 2048≤b 0 % 16*4096+b 1 % 64*64+b 2 % 64∧Utf8.valid ((b 0 % 16*4096+b 1 % 64*64+b 2 % 64:Nat):Int)=true then (b 0 % 16*4096+b 1 % 64*64+b 2 % 64,3) else (65533,1))
 else if b 0 / 8=30∧(1<n∧b 1 / 64=2)∧(2<n∧b 2 / 64=2)∧(3<n∧b 3 / 64=2) then
  (if 65536≤b 0 % 8*262144+b 1 % 64*4096+b 2 % 64*64+b 3 % 64∧Utf8.valid ((b 0 % 8*262144+b 1 % 64*4096+b 2 % 64*64+b 3 % 64:Nat):Int)=true then (b 0 % 8*262144+b 1 % 64*4096+b 2 % 64*64+b 3 % 64,4) else (65533,1))
 else (65533,1)
theorem get_bt (a:List UInt8)(i:Nat):(ByteArray.get! ⟨a.toArray⟩ i).toNat=bt a i:=by
 unfold bt ByteArray.get!
 simp[qx,Array.getElem!_eq_getD]
 rfl
theorem decU_eq (a:List UInt8)(p:Nat):vba a p=decB (fun k=>bt a (p+k)) (a.length-p):=by
 have hs:(⟨a.toArray⟩:ByteArray).size=a.length:=rfl
 have hc:∀ k,(p+k<a.length)=(k<a.length-p):=fun k=>by rw[eq_iff_iff]; omega
 unfold vba Utf8.decode decB;simp only[get_bt,hs,hc,Utf8.runeError,qs,decide_eq_true_eq,beq_iff_eq,and_assoc,ge_iff_le]
theorem decU_drop (a:List UInt8)(p:Nat):vba (a.drop p) 0=vba a p:=by
 rw[decU_eq,decU_eq,uT];simp only[bt_drop,ql,uK]
theorem tail_eq {a:List UInt8}{i:Nat}:XJ a (i:Int)=some (if i<a.length∧bt a i / 64=2 then ((bt a i % 64:Nat):Int) else -1):=by
 have hb:=bt_lt a i;rw[XJ]
 by_cases h:i<a.length
 · rw[if_neg (by omega),vbm h,qh,← bt_get h]
   by_cases h1:bt a i<128
   · rw[decide_eq_true (by omega),qh,if_pos rfl,qh,if_pos rfl,if_neg (by omega)]
   rw[decide_eq_false (by omega),qh,if_neg (by decide),qh,← bt_get h]
   by_cases h2:191<bt a i
   · rw[decide_eq_true (by omega),qh,if_pos rfl,if_neg (by omega)]
   rw[decide_eq_false (by omega),qh,if_neg (by decide),qh,← bt_get h,if_pos (by omega),ZM (x:=(bt a i:Int)) (by omega) (by omega),ZM (by omega) (by omega)]
   congr 1; omega
 rw[if_pos (by omega),qh,if_pos rfl,qh,if_pos rfl,if_neg (by omega)]
theorem i32_in {x:Int}(h:0≤x)(h':x<2147483648):IntKind.i32.wrap x=x:=by rw[IntKind.wrap_i32]; omega
theorem l17_go {a:List UInt8}{p n least k v:Nat}(j j':Nat)(hj':j'=j+1)(hj:j<n)(hp:p+j<4611686018427387904)(hv:v<1073741824):xN.l17 a (p:Int) (n:Int) (least:Int) (k+1) (v:Int) (j:Int)=
 if p+j<a.length∧bt a (p+j) / 64=2 then xN.l17 a (p:Int) (n:Int) (least:Int) k ((v*64+bt a (p+j) % 64:Nat):Int) (j':Int) else some (0,0,false):=by
 rw[xN.l17,if_pos (by omega),ZM (x:=(p:Int)+j) (by omega) (by omega),show (p:Int)+(j:Int)=((p+j:Nat):Int) by omega,tail_eq,qh]
 by_cases h:p+j<a.length∧bt a (p+j) / 64=2
 · rw[if_pos h,if_pos h,if_neg (by omega),ZM (x:=64*(v:Int)) (by omega) (by omega),ZM (x:=64*(v:Int)+_) (by omega) (by omega),ZM (x:=(j:Int)+1) (by omega) (by omega),show 64*(v:Int)+((bt a (p+j) % 64:Nat):Int)=((v*64+bt a (p+j) % 64:Nat):Int) by omega,show (j:Int)+1=(j':Int) by omega]
 rw[if_neg h,if_neg h,if_pos (by omega)]
theorem l17_end {a:List UInt8}{p n least k v:Nat}:xN.l17 a (p:Int) (n:Int) (least:Int) (k+1) (v:Int) (n:Int)=if v<least∨1114111<v∨(55296≤v∧v≤57343) then some (0,0,false) else some ((v:Int),(n:Int),true):=by
 rw[xN.l17,if_neg (by omega)]
 by_cases h:v<least∨1114111<v∨(55296≤v∧v≤57343)
 · rw[if_pos h,if_pos (by simp only[qS,qs,decide_eq_true_eq]; omega)]
 rw[if_neg h,if_neg (by simp only[qS,qs,decide_eq_true_eq]; omega),i32_in (by omega) (by omega)]
theorem next_eq {a:List UInt8}{p:Nat}(hp:p<a.length)(hl:a.length<2305843009213693952):(xN a (p:Int)=some (0,0,false)∧(vba a p)=(65533,1)) ∨
 ∃ c m:Nat,xN a (p:Int)=some ((c:Int),(m:Int),true)∧vba a p=(c,m)∧1≤m∧m≤4∧(c=65533→2≤m):=by
 obtain⟨K,J⟩:∃ K,yp=K+5:=⟨yp-5,by have:=xJ; omega⟩
 have h0:=bt_lt a p;have h1:=bt_lt a (p+1);have h2:=bt_lt a (p+2);have h3:=bt_lt a (p+3)
 have hn:∀ k,(k<a.length-p)=(p+k<a.length):=fun k=>by rw[eq_iff_iff]; omega
 rw[decU_eq,decB];simp only[hn,qF];rw[xN,if_neg (by simp only[qS,decide_eq_true_eq]; omega),vbm hp,qh,← bt_get hp,ZM (x:=(bt a p:Int)) (by omega) (by omega)]
 by_cases c1:bt a p<128
 · right
   rw[if_pos c1,if_pos (by omega),i32_in (by omega) (by omega)];exact⟨bt a p,1,rfl,rfl,by omega,by omega,by omega⟩
 rw[if_neg c1,if_neg (by omega)]
 by_cases c2:bt a p / 32=6
 · rw[if_pos (by simp only[qs,decide_eq_true_eq]; omega),xN.j11,J,ZM (by omega) (by omega),show ((bt a p:Nat):Int)-192=((bt a p % 32:Nat):Int) by omega,show (2:Int)=((2:Nat):Int) from rfl,show (128:Int)=((128:Nat):Int) from rfl,show (1:Int)=((1:Nat):Int) from rfl,l17_go 1 2 rfl (by omega) (by omega) (by omega)]
   by_cases d1:p+1<a.length∧bt a (p+1) / 64=2
   · rw[if_pos d1,if_pos ⟨c2,d1⟩,show K+4=(K+3)+1 from rfl,l17_end]
     by_cases e1:128≤bt a p % 32*64+bt a (p+1) % 64
     · rw[if_neg (by omega),if_pos e1];exact Or.inr ⟨_,_,rfl,rfl,by omega,by omega,by omega⟩
     rw[if_pos (by omega),if_neg e1]; exact Or.inl ⟨rfl,rfl⟩
   rw[if_neg d1,if_neg (fun h=>d1 h.2),if_neg (by omega),if_neg (by omega)];exact Or.inl ⟨rfl,rfl⟩
 rw[if_neg (by simp only[qs,decide_eq_true_eq]; omega),if_neg (show ¬ (bt a p / 32=6∧_) from fun h=>c2 h.1)]
 by_cases c3:bt a p / 16=14
 · rw[if_pos (by simp only[qs,decide_eq_true_eq]; omega),xN.j11,J,ZM (by omega) (by omega),show ((bt a p:Nat):Int)-224=((bt a p % 16:Nat):Int) by omega,show (3:Int)=((3:Nat):Int) from rfl,show (2048:Int)=((2048:Nat):Int) from rfl,show (1:Int)=((1:Nat):Int) from rfl,l17_go 1 2 rfl (by omega) (by omega) (by omega)]
   by_cases d1:p+1<a.length∧bt a (p+1) / 64=2
   · rw[if_pos d1,show K+4=(K+3)+1 from rfl,l17_go 2 3 rfl (by omega) (by omega) (by omega)]
     by_cases d2:p+2<a.length∧bt a (p+2) / 64=2
     · rw[if_pos d2,if_pos ⟨c3,d1,d2⟩,show K+3=(K+2)+1 from rfl,l17_end]
       have ev:(bt a p % 16*64+bt a (p+1) % 64)*64+bt a (p+2) % 64=bt a p % 16*4096+bt a (p+1) % 64*64+bt a (p+2) % 64:=by omega
       rw[ev]
       by_cases e1:2048≤bt a p % 16*4096+bt a (p+1) % 64*64+bt a (p+2) % 64∧Utf8.valid ((bt a p % 16*4096+bt a (p+1) % 64*64+bt a (p+2) % 64:Nat):Int)=true
       · have e2:=e1.2;unfold Utf8.valid at e2;simp only[qS,qs,decide_eq_true_eq] at e2;rw[if_neg (by omega),if_pos e1];exact Or.inr ⟨_,_,rfl,rfl,by omega,by omega,by omega⟩
       have e2:=e1;unfold Utf8.valid at e2;simp only[qS,qs,decide_eq_true_eq] at e2
       rw[if_pos (by omega),if_neg e1]; exact Or.inl ⟨rfl,rfl⟩
     rw[if_neg d2,if_neg (fun h=>d2 h.2.2),if_neg (by omega)];exact Or.inl ⟨rfl,rfl⟩
   rw[if_neg d1,if_neg (fun h=>d1 h.2.1),if_neg (by omega)];exact Or.inl ⟨rfl,rfl⟩
 rw[if_neg (by simp only[qs,decide_eq_true_eq]; omega),if_neg (show ¬ (bt a p / 16=14∧_) from fun h=>c3 h.1)]
 by_cases c4:bt a p / 8=30
 · rw[if_pos (by simp only[qs,decide_eq_true_eq]; omega),xN.j11,J,ZM (by omega) (by omega),show ((bt a p:Nat):Int)-240=((bt a p % 8:Nat):Int) by omega,show (4:Int)=((4:Nat):Int) from rfl,show (65536:Int)=((65536:Nat):Int) from rfl,show (1:Int)=((1:Nat):Int) from rfl,l17_go 1 2 rfl (by omega) (by omega) (by omega)]
   by_cases d1:p+1<a.length∧bt a (p+1) / 64=2
   · rw[if_pos d1,show K+4=(K+3)+1 from rfl,l17_go 2 3 rfl (by omega) (by omega) (by omega)]
     by_cases d2:p+2<a.length∧bt a (p+2) / 64=2
     · rw[if_pos d2,show K+3=(K+2)+1 from rfl,l17_go 3 4 rfl (by omega) (by omega) (by omega)]
       by_cases d3:p+3<a.length∧bt a (p+3) / 64=2
       · rw[if_pos d3,if_pos ⟨c4,d1,d2,d3⟩,show K+2=(K+1)+1 from rfl,l17_end]
         have ev:((bt a p % 8*64+bt a (p+1) % 64)*64+bt a (p+2) % 64)*64+bt a (p+3) % 64=bt a p % 8*262144+bt a (p+1) % 64*4096+bt a (p+2) % 64*64+bt a (p+3) % 64:=by omega
         rw[ev]
         by_cases e1:65536≤bt a p % 8*262144+bt a (p+1) % 64*4096+bt a (p+2) % 64*64+bt a (p+3) % 64∧Utf8.valid ((bt a p % 8*262144+bt a (p+1) % 64*4096+bt a (p+2) % 64*64+bt a (p+3) % 64:Nat):Int)=true
         · have e2:=e1.2;unfold Utf8.valid at e2;simp only[qS,qs,decide_eq_true_eq] at e2;rw[if_neg (by omega),if_pos e1];exact Or.inr ⟨_,_,rfl,rfl,by omega,by omega,by omega⟩
         have e2:=e1;unfold Utf8.valid at e2;simp only[qS,qs,decide_eq_true_eq] at e2
         rw[if_pos (by omega),if_neg e1]; exact Or.inl ⟨rfl,rfl⟩
       rw[if_neg d3,if_neg (fun h=>d3 h.2.2.2)];exact Or.inl ⟨rfl,rfl⟩
     rw[if_neg d2,if_neg (fun h=>d2 h.2.2.1)];exact Or.inl ⟨rfl,rfl⟩
   rw[if_neg d1,if_neg (fun h=>d1 h.2.1)];exact Or.inl ⟨rfl,rfl⟩
 rw[if_neg (by simp only[qs,decide_eq_true_eq]; omega),if_neg (show ¬ (bt a p / 8=30∧_) from fun h=>c4 h.1)];exact Or.inl ⟨rfl,rfl⟩
def rl (a:List UInt8):Nat→Nat→Option (List Nat)
 |0,_=>none
 |k+1,p=>if p<a.length then (if vba a p=(65533,1) then none else (rl a k (p+(vba a p).2)).map ((vba a p).1 :: ·)) else some []
theorem rl_all {a:List UInt8}(hl:a.length≤30000):∀ (k p:Nat) (l:List Int),a.length<p+k→0<k→p≤40000→l.length+(a.length-p)≤40000→Zv.l8 a k l (p:Int)=some (match rl a k p with|some T=>(l++T.map (fun c:Nat=>(c:Int)),true)|none=>([],false))
 |0,p,l,h,h0,_,_=>by omega
 |k+1,p,l,h,_,hp,hll=>by
  rw[Zv.l8,rl]
  by_cases hpl:p<a.length
  · rw[if_pos (by omega),if_pos hpl]
    rcases next_eq hpl (by omega) with ⟨e,ed⟩|⟨c,m,e,ed,h1,h2,h3⟩
    · rw[e,qh,if_pos (by rfl),if_pos ed]
    rw[e,qh,if_neg (by simp),Xp (by omega),qh,if_neg (fun h=>by rw[ed] at h; simp only[Prod.mk.injEq] at h; have:=h3 h.1; omega),ed]
    dsimp only
    rw[ZM (by omega) (by omega),show (p:Int)+(m:Int)=((p+m:Nat):Int) by omega,rl_all hl k (p+m) _ (by omega) (by omega) (by omega) (by rw[qt,qZ]; omega)]
    cases rl a k (p+m) with
    |none=>rfl
    |some T=>simp only[uy,qy,qP,qK,qC]
  rw[if_neg (by omega),if_neg hpl]; simp only[qq,qT]
theorem cut_drop {a:List UInt8}{p:Nat}(h:p<a.length):va3 a (p:Int) (a.length:Int)=a.drop p:=by
 unfold va3;rw[uw,uw,ut (by rw[uT]; omega)]
theorem rnext_eq {a:List UInt8}{p:Nat}(h:p<a.length)(hl:a.length≤30000):∃ r,Y5 a (p:Int)=some r∧(r.2.2=true↔vba a p≠(65533,1)):=by
 have hd:XE (va3 a (p:Int) (a.length:Int))=(((vba a p).1:Int),((vba a p).2:Int)):=by
  rw[cut_drop h,XE,dec0,if_neg (fun hc=>by have:=congrArg qa hc; rw[uT,qp] at this; omega),decU_drop]
 rw[Y5,if_neg (by simp only[qS,decide_eq_true_eq]; omega),grd_t (by omega),qh,bnd,hd]
 rcases next_eq h (by omega) with ⟨_,ed⟩|⟨c,m,_,ed,h1,h2,h3⟩
 · rw[ed];refine⟨_,by rw[if_pos (by simp)],?_⟩
   simp
 rw[ed]
 have hne:¬ ((c,m)=(65533,1)):=fun hc=>by simp only[Prod.mk.injEq] at hc; have:=h3 hc.1; omega
 refine⟨_,by rw[if_neg (by simp only[qs,decide_eq_true_eq]; omega)],?_⟩
 simp[hne]
theorem rl_valid {a:List UInt8}(hl:a.length≤30000):∀ (k p:Nat),a.length<p+k→0<k→xD.l4 a k p=some (rl a k p).isSome
 |0,p,h,h0=>by omega
 |k+1,p,h,_=>by
  rw[xD.l4,rl]
  by_cases hpl:p<a.length
  · rw[if_pos hpl,if_pos hpl];have hm:=vaG a p;have ih:=rl_valid hl k (p+(vba a p).2) (by omega) (by omega)
    by_cases hb:vba a p=(65533,1)
    · obtain⟨r,e,hr⟩:=rnext_eq hpl hl;rw[if_pos hb,if_pos (by rw[hb]; rfl),e,qh,if_pos]
      · rfl
      cases hv:r.2.2 with
      |true=>exact absurd hb (hr.1 hv)
      |false=>rfl
    rw[if_neg hb,Option.isSome_map]
    split
    · obtain⟨r,e,hr⟩:=rnext_eq hpl hl;rw[e,qh,if_neg (by rw[hr.2 hb]; decide),ih]
    exact ih
  rw[if_neg hpl,if_neg hpl]; rfl
theorem rl_count {a:List UInt8}(hl:a.length≤30000):∀ (k p:Nat) (x:Nat) (T:List Nat),x+(a.length-p)≤40000→rl a k p=some T→wt.l9 a k p (x:Int)=some ((x+T.length:Nat):Int)
 |0,p,x,T,_,h=>by cases h
 |k+1,p,x,T,hx,h=>by
  rw[rl] at h;rw[wt.l9]
  by_cases hpl:p<a.length
  · have hm:=vaG a p;rw[if_pos hpl] at h ⊢
    split at h
    · cases h
    obtain⟨T',hT,rfl⟩:=Option.map_eq_some_iff.1 h;rw[ZM (by omega) (by omega),show (x:Int)+1=((x+1:Nat):Int) by omega,rl_count hl k _ (x+1) T' (by omega) hT,qk]
    congr 2; omega
  rw[if_neg hpl] at h ⊢
  cases h; rfl
def lod (c:Nat):Bool:=Zg (c:Int)||Yr (c:Int)
theorem letter_eq (c:Int):wZ c=Zg c:=by
 rw[Bool.eq_iff_iff];unfold wZ wZ.j6 Zg YJ bnd
 by_cases h1:c=95
 · subst h1; decide
 by_cases h2:c=215
 · subst h2; decide
 by_cases h3:c=247
 · subst h3; decide
 by_cases h4:c=930
 · subst h4; decide
 simp only[h1,h2,h3,h4,if_false,decide_false,qU,Bool.ite_eq_true_distrib,qS,qs,decide_eq_true_eq,qn,and_true,or_false,ite_then_self]
 (repeat' split)<;>first|omega|simp_all|(simp_all; omega)
theorem digit_eq (c:Int):XI c=Yr c:=rfl
theorem key_eq (a:List UInt8):wR a=wL a:=rfl
theorem rl_name {a:List UInt8}:∀ (k p:Nat) (T:List Nat),0<p→rl a k p=some T→xQ.l11 a k p=some (T.all lod)
 |0,p,T,_,h=>by cases h
 |k+1,p,T,h0,h=>by
  rw[rl] at h;rw[xQ.l11]
  by_cases hpl:p<a.length
  · have hm:=vaG a p;rw[if_pos hpl] at h ⊢
    split at h
    · cases h
    obtain⟨T',hT,rfl⟩:=Option.map_eq_some_iff.1 h;have ih:=rl_name k _ T' (by omega) hT;rw[letter_eq,digit_eq,ih,qQ,lod];unfold bnd
    dsimp only
    rw[if_neg (show ¬ ((p:Nat):Int)=0 by omega)]
    cases Zg ((vba a p).1:Int)<;>cases Yr ((vba a p).1:Int)<;>rfl
  rw[if_neg hpl] at h ⊢
  cases h; rfl
theorem ref_l14 {L:List Nat}{v:Bool}(hL:L.length≤40000):∀ (k i:Nat),L.length<k+i→i≤L.length→wG.l14 (L.map (fun c:Nat=>(c:Int)),v) k (i:Int)=some ((L.drop i).all lod)
 |0,i,h,h'=>by omega
 |k+1,i,h,h'=>by
  rw[wG.l14]
  by_cases hi:i<L.length
  · have hi':i<(L.map (fun c:Nat=>(c:Int))).length:=by rw[ud]; exact hi
    rw[if_pos (by dsimp only; omega),vbm hi',qh,List.getElem_map,ZM (by omega) (by omega),show (i:Int)+1=((i+1:Nat):Int) by omega,ref_l14 hL k (i+1) (by omega) (by omega),uU hi,qQ,lod];unfold bnd
    dsimp only
    cases Zg (L[i]:Int)<;>cases Yr (L[i]:Int)<;>rfl
  rw[if_neg (by dsimp only; rw[ud]; omega),List.drop_of_length_le (by omega)]; rfl
theorem rl_len {a:List UInt8}:∀ (k p:Nat) (T:List Nat),rl a k p=some T→T.length≤a.length-p
 |0,p,T,h=>by cases h
 |k+1,p,T,h=>by
  rw[rl] at h;have hm:=vaG a p
  split at h
  · split at h
    · cases h
    obtain⟨T',hT,rfl⟩:=Option.map_eq_some_iff.1 h;have:=rl_len k _ T' hT
    rw[qk]; omega
  cases h; exact ux _
theorem name_eq {a:List UInt8}(hl:a.length≤30000):wG a=xQ a:=by
 have hr:=xJ;have e1:=rl_all hl yp 0 [] (by omega) (by omega) (by omega) (by rw[qp]; omega);have e2:=rl_valid hl yp 0 (by omega) (by omega)
 cases hT:rl a yp 0 with
 |none=>
  rw[hT] at e1 e2
  rw[wG,xQ,wt,show Zv a=_ from e1,show xD a=_ from e2]; rfl
 |some T=>
  rw[hT] at e1 e2;have hlen:=rl_len _ _ _ hT
  have e3:wt.l9 a yp 0 0=some (T.length:Int):=by
   have:=rl_count hl yp 0 0 T (by omega) hT
   rw[ql] at this; exact this
  have e1':Zv a=some (T.map (fun c:Nat=>(c:Int)),true):=e1;have e2':xD a=some true:=e2;rw[wG,xQ,wt,e1',e2',qh,qh];have el:(T.map (fun c:Nat=>(c:Int))).length=T.length:=ud _
  dsimp only
  rw[if_neg (show ¬ (!true)=true by decide),e3,qh,key_eq];unfold bnd
  dsimp only
  simp only[el]
  by_cases hn:T.length<1∨20<T.length
  · have hc:(decide ((T.length:Int)<1)||decide (20<(T.length:Int)))=true:=by simp only[qS,decide_eq_true_eq]; omega
    rw[qu,ur,hc,if_pos rfl,qh,if_pos rfl,if_pos rfl,if_pos rfl]
  have h1:0<T.length:=by omega
  have h1':0<(T.map (fun c:Nat=>(c:Int))).length:=by rw[ud]; exact h1
  have hc:(decide ((T.length:Int)<1)||decide (20<(T.length:Int)))=false:=by
   rw[Bool.eq_false_iff]
   simp only[ne_eq,qS,decide_eq_true_eq]; omega
  have ei:=vbm h1';have e14:=ref_l14 (v:=true) (L:=T) (by omega) yp 1 (by omega) (by omega);rw[List.getElem_map] at ei;rw[qu,ur,hc,if_neg ul,show Yl (T.map (fun c:Nat=>(c:Int))) 0=_ from ei,qh,qh,if_neg ul,show wG.l14 (T.map (fun c:Nat=>(c:Int)),true) yp 1=_ from e14]
  cases T with
  |nil=>exact absurd h1 (by decide)
  |cons c T=>
   obtain⟨k,hk⟩:∃ k,yp=k+1:=⟨yp-1,by omega⟩
   have hT':=hT;rw[hk,rl] at hT'
   split at hT'
   · rename_i hpl
     split at hT'
     · cases hT'
     obtain⟨T',hT2,hc⟩:=Option.map_eq_some_iff.1 hT'
     injection hc with hc1 hc2
     subst hc2;have hm:=vaG a 0;have ih:=rl_name k _ T' (by omega) hT2;rw[hk,xQ.l11,if_pos hpl,hc1,letter_eq,digit_eq,ih,uD,qw];unfold bnd
     dsimp only
     rw[List.getElem_cons_zero]
     cases Zg (c:Int)<;>cases wL a<;>rfl
   cases hT'
def Rm {K:Type} [DecidableEq K](m:List (K×Bool))(l:List K):Prop:=∀ x,(vax m x).getD false=true↔x∈l
theorem Rm.val {K:Type} [DecidableEq K]{m:List (K×Bool)}{l:List K}(h:Rm m l)(x:K) [inst:Decidable (x∈l)]:(vax m x).getD false=decide (x∈l):=by
 rw[Bool.eq_iff_iff,h x,decide_eq_true_eq]
theorem getM_setM {K V:Type} [DecidableEq K](k x:K)(v:V):∀ (l:List (K×V)),vax (vcY l k v) x=if x=k then some v else vax l x
 |[]=>by simp only[vcY,vax]
 |(a,w)::l=>by
  rw[vcY]
  split
  · rename_i h
    subst h;simp only[vax]
    split<;>rfl
  rename_i h
  simp only[vax,getM_setM k x v l]
  split
  · rename_i h2
    subst h2;rw[if_neg (fun hc=>h hc.symm)]
  rfl
theorem Rm_nil {K:Type} [DecidableEq K]:Rm ([]:List (K×Bool)) []:=fun x=>by simp[vax]
theorem vdq {K:Type} [DecidableEq K]{m:List (K×Bool)}{l:List K}(h:Rm m l)(k:K):Rm (vcY m k true) (l++[k]):=fun x=>by
 rw[getM_setM]
 by_cases hx:x=k
 · rw[if_pos hx]; simp[hx]
 rw[if_neg hx,h x]; simp[hx]
theorem fresh_l (x:List UInt8):∀ (l:List (List UInt8)) (i:Int),xv.l4 x l i=if x∈l then some false else wG x
 |[],i=>by rw[xv.l4,if_neg (List.not_mem_nil)]; cases wG x<;>rfl
 |y::l,i=>by
  rw[xv.l4,fresh_l]
  by_cases h:y=x
  · rw[if_pos h,if_pos (by rw[h]; exact qG ..)]
  rw[if_neg h]
  by_cases h2:x∈l
  · rw[if_pos h2,if_pos (qB _ h2)]
  rw[if_neg h2,if_neg (fun hc=>by rcases uc.1 hc with e|e; exact h e.symm; exact h2 e)]
theorem vcu {m:List (List UInt8×Bool)}{l:List (List UInt8)}{x:List UInt8}(h:Rm m l)(hx:x.length≤3000):∃ b,xv x l=some b∧xe m x=some (b,if b=true then vcY m x true else m):=by
 have hn:xQ x=some (nameV x):=nameV_eq (by unfold nmOk; omega);rw[xv,fresh_l,xe,hn,qh,name_eq (by omega),hn,h.val x]
 by_cases hm:x∈l
 · refine⟨false,by rw[if_pos hm],?_⟩;rw[decide_eq_true hm,qv,if_pos rfl,if_neg ul]
 refine⟨nameV x,by rw[if_neg hm],?_⟩;rw[decide_eq_false hm,qM]
 cases nameV x<;>rfl
theorem vc3 (t:Int):∀ (l:List Int) (i:Int),xK.l4 t l i=decide (t∈l)
 |[],i=>rfl
 |y::l,i=>by
  rw[xK.l4,vc3]
  by_cases h:y=t
  · rw[if_pos h,decide_eq_true (by rw[h]; exact qG ..)]
  rw[if_neg h];exact decide_eq_decide.2 ⟨fun hc=>qB _ hc,fun hc=>by rcases uc.1 hc with e|e; exact absurd e.symm h; exact e⟩
theorem field_l (t:Int):∀ (l:List yY) (i:Int),(wv.l4 t l i).2=decide (t∈l.map yY.fTag)
 |[],i=>rfl
 |y::l,i=>by
  rw[wv.l4,qy]
  by_cases h:y.fTag=t
  · rw[if_pos h,decide_eq_true (by rw[h]; exact qG ..)]
  rw[if_neg h,field_l];exact decide_eq_decide.2 ⟨fun hc=>qB _ hc,fun hc=>by rcases uc.1 hc with e|e; exact absurd e.symm h; exact e⟩
theorem cut_app {α:Type}(A B:List α):va3 (A++B) 0 (A.length:Int)=A:=by
 unfold va3;rw[uw,show q2 0=0 from rfl,qw,uK,List.take_left' rfl]
theorem enum_l (n:List UInt8):∀ (l:List zT) (i j:Int),Zz.l4 n l i=Zm.l4 n l j
 |[],_,_=>rfl
 |y::l,i,j=>by rw[Zz.l4,Zm.l4,enum_l n l (i+1) (j+1)]
theorem vcD (n:List UInt8):∀ (l:List zz) (i j:Int),xf.l4 n l i=zP.l4 n l j
 |[],_,_=>rfl
 |y::l,i,j=>by rw[xf.l4,zP.l4,vcD n l (i+1) (j+1)]
theorem kind_of (s:zm)(y:YE):wB s y=(if y.fKind=6 then (Zm s y.fName).2 else if y.fKind=7 then (zP s y.fName).2 else (decide (1≤y.fKind)&&decide (y.fName=[]))&&decide (y.fKind<6)):=by
 have e6:Zz s y.fName=Zm s y.fName:=enum_l _ _ _ _;have e7:xf s y.fName=zP s y.fName:=vcD _ _ _ _
 have small:1≤y.fKind→y.fKind≤5→wB.j3 s y true=(if y.fKind=6 then (Zm s y.fName).2 else if y.fKind=7 then (zP s y.fName).2 else (decide (1≤y.fKind)&&decide (y.fName=[]))&&decide (y.fKind<6)):=by
  intro h1 h2
  rw[wB.j3,if_pos rfl,if_neg (by omega),if_neg (by omega),decide_eq_true h1,decide_eq_true (show y.fKind<6 by omega),qX,qI]
 unfold wB
 by_cases k1:y.fKind=1
 · rw[if_pos k1,decide_eq_true k1]; exact small (by omega) (by omega)
 rw[if_neg k1]
 by_cases k2:y.fKind=2
 · rw[if_pos k2,decide_eq_true k2]; exact small (by omega) (by omega)
 rw[if_neg k2]
 by_cases k3:y.fKind=3
 · rw[if_pos k3,decide_eq_true k3]; exact small (by omega) (by omega)
 rw[if_neg k3]
 by_cases k4:y.fKind=4
 · rw[if_pos k4,decide_eq_true k4]; exact small (by omega) (by omega)
 rw[if_neg k4]
 by_cases k5:y.fKind=5
 · rw[decide_eq_true k5]; exact small (by omega) (by omega)
 rw[decide_eq_false k5,wB.j3,if_neg ul,bnd,bnd,e6,e7]
 split
 · rfl
 split
 · rfl
 rename_i h6 h7
 rw[Bool.eq_iff_iff];simp only[qs,decide_eq_true_eq,qU,false_iff]
 omega
theorem fieldOk_eq (s:zm)(f:yY):Z0 s f=(decide (1≤f.fLabel)&&decide (f.fLabel≤3)&&wB s f.fType):=by
 rw[kind_of];unfold Z0 bnd
 split
 · rfl
 split
 · rfl
 simp only[Bool.and_assoc]
theorem msg_l21_eq {s:zm}{m:zz}{r2:Bool×List (List UInt8×Bool)}(hn:∀ f∈m.fFields,f.fName.length≤3000)(hl:m.fFields.length*56≤140737488351232):∀ (B A:List yY) (i:Int) (tm:List (Int×Bool)) (nm:List (List UInt8×Bool)),m.fFields=A++B→Rm tm (m.fReserved++A.map yY.fTag)→Rm nm (A.map yY.fName)→
 yn.l21 s r2 B i tm nm=(yu.l17 s m B (A.length:Int) (A.map yY.fName)).map fun v=>(v,r2.2)
 |[],A,i,tm,nm,_,_,_=>rfl
 |f::B,A,i,tm,nm,h,ht,hnm=>by
  have hlen:m.fFields.length=A.length+(B.length+1):=by rw[h,qt,qk]
  obtain⟨b,e1,e2⟩:=vcu hnm (hn f (by rw[h]; exact uR _ (qG ..)));rw[yn.l21,yu.l17,e1,e2,qh,qh]
  cases b with
  |false=>rfl
  |true=>
   dsimp only
   rw[if_neg (show ¬ (!true)=true by decide),if_neg (show ¬ (!true)=true by decide),if_pos rfl,Xp (by rw[ud]; omega),qh,grd_t ⟨Int.le_refl _,by omega,by omega⟩,qh]
   have ec:va3 m.fFields 0 (A.length:Int)=A:=by rw[h]; exact cut_app A _
   have e3:(wv (⟨[],A,([]:List Int)⟩:zz) f.fTag).2=decide (f.fTag∈A.map yY.fTag):=field_l _ _ _;have e4:xK m f.fTag=decide (f.fTag∈m.fReserved):=vc3 _ _ _;have e5:XC f.fTag=(decide (1≤f.fTag)&&decide (f.fTag≤500)):=rfl;unfold bnd
   dsimp only
   rw[ec,e3,e4,e5,ht.val f.fTag]
   have e6:(if (decide (f.fTag∈A.map yY.fTag)||decide (f.fTag<1)||decide (500<f.fTag))=true then true else decide (f.fTag∈m.fReserved))=(!(decide (1≤f.fTag)&&decide (f.fTag≤500))||decide (f.fTag∈m.fReserved++A.map yY.fTag)):=by
    rw[Bool.eq_iff_iff]
    by_cases a1:f.fTag∈A.map yY.fTag
    · simp[a1]
    by_cases a2:f.fTag∈m.fReserved
    · simp[a2]
    rw[decide_eq_false a1,decide_eq_false a2,decide_eq_false (show ¬ f.fTag∈m.fReserved++A.map yY.fTag from fun hc=>by rcases u4.1 hc with e|e; exact a2 e; exact a1 e)];simp only[ur,qM,qS,uZ,Bool.and_eq_false_iff,decide_eq_true_eq,decide_eq_false_iff_not]
    split<;>simp<;>omega
   rw[e6]
   generalize hc:(!(decide (1≤f.fTag)&&decide (f.fTag≤500))||decide (f.fTag∈m.fReserved++A.map yY.fTag))=c
   cases c with
   |true=>rfl
   |false=>
    rw[if_neg ul,if_neg ul]
    have e7:(if (decide (f.fLabel<1)||decide (3<f.fLabel))=true then true else !wB s f.fType) = !Z0 s f:=by
     rw[fieldOk_eq,Bool.eq_iff_iff]
     cases wB s f.fType<;>simp only[qS,decide_eq_true_eq,qn,qu,qz,qI,uZ,Bool.and_eq_false_iff,decide_eq_false_iff_not]<;>split<;>simp<;>omega
    rw[e7]
    cases Z0 s f with
    |false=>rfl
    |true=>
     rw[if_neg (show ¬ (!true)=true by decide),if_neg (show ¬ (!true)=true by decide)];have:=msg_l21_eq (s:=s) (r2:=r2) hn hl B (A++[f]) (i+1) (vcY tm f.fTag true) (vcY nm f.fName true) (by rw[h,qP]; rfl) (by rw[qE,← qP]; exact vdq ht f.fTag) (by rw[qE]; exact vdq hnm f.fName)
     rw[this,qt,qZ,qE,show (A.length:Int)+1=((A.length+1:Nat):Int) by omega]; rfl
theorem msg_l12_eq {s:zm}{m:zz}{r2:Bool×List (List UInt8×Bool)}(hn:∀ f∈m.fFields,f.fName.length≤3000)(hl:m.fFields.length*56≤140737488351232):∀ (B A:List Int) (i:Int) (tm:List (Int×Bool)),m.fReserved=A++B→Rm tm A→
 yn.l12 s m r2 B i tm=(yu.l8 s m B (A.length:Int)).map fun v=>(v,r2.2)
 |[],A,i,tm,h,ht=>by
  rw[qT] at h;rw[yn.l12,yu.l8];exact msg_l21_eq hn hl m.fFields [] 0 tm [] rfl (by rw[h,qq,qT]; exact ht) Rm_nil
 |n::B,A,i,tm,h,ht=>by
  have hlen:m.fReserved.length=A.length+(B.length+1):=by rw[h,qt,qk]
  have ih:=msg_l12_eq (s:=s) (r2:=r2) hn hl B (A++[n]) (i+1) (vcY tm n true) (by rw[h,qP]; rfl) (vdq ht n);have e5:XC n=(decide (1≤n)&&decide (n≤500)):=rfl
  have ec:va3 m.fReserved 0 (A.length:Int)=A:=by rw[h]; exact cut_app A _
  have e4:xK (⟨[],([]:List yY),A⟩:zz) n=decide (n∈A):=vc3 _ _ _;rw[yn.l12,yu.l8];unfold bnd
  dsimp only
  rw[e5,ht.val n]
  by_cases h1:n<1
  · rw[if_pos h1,decide_eq_false (show ¬ 1≤n by omega)]; rfl
  rw[if_neg h1]
  by_cases h2:500<n
  · rw[if_pos h2,decide_eq_false (show ¬ n≤500 by omega),qz]; rfl
  rw[if_neg h2,grd_t ⟨Int.le_refl _,by omega,by omega⟩,qh,ec,e4,decide_eq_true (show 1≤n by omega),decide_eq_true (show n≤500 by omega)]
  cases decide (n∈A) with
  |true=>rfl
  |false=>
   rw[yu.j43,if_neg ul]
   show yn.l12 s m r2 B (i+1) (vcY tm n true)=_
   rw[ih,qt,qZ,show (A.length:Int)+1=((A.length+1:Nat):Int) by omega]
theorem msg_eq {s:zm}{m:zz}{a:List (List UInt8×Bool)}{l:List (List UInt8)}(ha:Rm a l)(hm:m.fName.length≤3000)(hn:∀ f∈m.fFields,f.fName.length≤3000)(hl:m.fFields.length*56≤140737488351232):
 (xv m.fName l=some false∧yn s a m=some (6,a))∨(xv m.fName l=some true∧yn s a m=(yu s m).map fun v=>(v,vcY a m.fName true)):=by
 obtain⟨b,e1,e2⟩:=vcu ha hm;rw[yn,e2,qh]
 cases b with
 |false=>exact Or.inl ⟨e1,rfl⟩
 |true=>
  refine Or.inr ⟨e1,?_⟩
  dsimp only
  rw[if_neg (show ¬ (!true)=true by decide),if_pos rfl,yu]
  split
  · rfl
  exact msg_l12_eq hn hl m.fReserved [] 0 [] rfl Rm_nil
theorem enum_l38 {e:zT}{v:Zx}{A B:List Zx}{l15:List (List UInt8)}{rec21:Int→List (List UInt8)→Option Int}(h:e.fValues=A++v::B)(hA:A.length≤1000000):∀ (k j:Nat),A.length<k+j→j≤A.length→y5.l38 e (A.length:Int) l15 rec21 v k (j:Int)=if v.fN∈(A.drop j).map Zx.fN then some 11 else rec21 ((A.length:Int)+1) (l15++[v.fName])
 |0,j,h1,h2=>by omega
 |k+1,j,h1,h2=>by
  rw[y5.l38]
  by_cases hj:j<A.length
  · have ei:Yl e.fValues (j:Int)=some (A[j]'hj):=by
     rw[h,vbm (show j<(A++v::B).length by rw[qt]; omega),List.getElem_append_left hj]
    rw[if_pos (by omega),ei,qh,uU hj,qy]
    by_cases hv:(A[j]'hj).fN=v.fN
    · rw[if_pos hv,if_pos (by rw[hv]; exact qG ..)]
    rw[if_neg hv,ZM (by omega) (by omega),show (j:Int)+1=((j+1:Nat):Int) by omega,enum_l38 h hA k (j+1) (by omega) (by omega)]
    by_cases hm:v.fN∈(A.drop (j+1)).map Zx.fN
    · rw[if_pos hm,if_pos (qB _ hm)]
    rw[if_neg hm,if_neg (fun hc=>by rcases uc.1 hc with e1|e1; exact hv e1.symm; exact hm e1)]
  rw[if_neg (by omega),List.drop_of_length_le (by omega),if_neg (by simp)]
theorem vd5 {e:zT}{r2:Bool×List (List UInt8×Bool)}(hn:∀ v∈e.fValues,v.fName.length≤3000)(hl:e.fValues.length≤1000):∀ (B A:List Zx) (i:Int) (nm:List (List UInt8×Bool)) (km:List (Int×Bool)),e.fValues=A++B→Rm nm (A.map Zx.fName)→Rm km (A.map Zx.fN)→
 xx.l23 r2 B i nm km=(y5.l21 e B (A.length:Int) (A.map Zx.fName)).map fun v=>(v,r2.2)
 |[],A,i,nm,km,_,_,_=>rfl
 |v::B,A,i,nm,km,h,hnm,hkm=>by
  have hlen:e.fValues.length=A.length+(B.length+1):=by rw[h,qt,qk]
  have hr:=xJ;obtain⟨b,e1,e2⟩:=vcu hnm (hn v (by rw[h]; exact uR _ (qG ..)));rw[xx.l23,y5.l21,e1,e2,qh,qh]
  cases b with
  |false=>rfl
  |true=>
   dsimp only
   rw[if_neg (show ¬ (!true)=true by decide),if_neg (show ¬ (!true)=true by decide),if_pos rfl,Xp (by rw[ud]; omega),qh,hkm.val v.fN]
   by_cases hb:(decide (v.fN<0)||decide (2147483647<v.fN))=true
   · rw[hb,if_pos rfl,ug,if_pos rfl]; rfl
   rw[Bool.eq_false_iff.2 hb,if_neg ul,ur];have e38:=enum_l38 (l15:=A.map Zx.fName) (rec21:=y5.l21 e B) h (by omega) yp 0 (by omega) (by omega);rw[show y5.l38 e (A.length:Int) (A.map Zx.fName) (y5.l21 e B) v yp 0=_ from e38,qw]
   by_cases hm:v.fN∈A.map Zx.fN
   · rw[decide_eq_true hm,if_pos rfl,if_pos hm]; rfl
   rw[decide_eq_false hm,if_neg ul,if_neg hm];have:=vd5 (r2:=r2) hn hl B (A++[v]) (i+1) (vcY nm v.fName true) (vcY km v.fN true) (by rw[h,qP]; rfl) (by rw[qE]; exact vdq hnm v.fName) (by rw[qE]; exact vdq hkm v.fN)
   rw[this,qt,qZ,qE,show (A.length:Int)+1=((A.length+1:Nat):Int) by omega]; rfl
theorem vd6 {e:zT}{r2:Bool×List (List UInt8×Bool)}(hn:∀ v∈e.fValues,v.fName.length≤3000)(hl:e.fValues.length≤1000):∀ (B:List Zx) (i j:Int) (z:Bool),
 xx.l12 e r2 B i z=(y5.l10 e B j z).map fun v=>(v,r2.2)
 |[],i,j,z=>by
  rw[xx.l12,y5.l10]
  cases z with
  |false=>rfl
  |true=>exact vd5 hn hl e.fValues [] 0 [] [] rfl Rm_nil Rm_nil
 |v::B,i,j,z=>by rw[xx.l12,y5.l10]; exact vd6 hn hl B _ _ _
theorem enum_eq {e:zT}{a:List (List UInt8×Bool)}{l:List (List UInt8)}(ha:Rm a l)(hm:e.fName.length≤3000)(hn:∀ v∈e.fValues,v.fName.length≤3000):
 (xv e.fName l=some false∧xx a e=some (6,a))∨(xv e.fName l=some true∧xx a e=(y5 e).map fun v=>(v,vcY a e.fName true)):=by
 obtain⟨b,e1,e2⟩:=vcu ha hm;rw[xx,e2,qh]
 cases b with
 |false=>exact Or.inl ⟨e1,rfl⟩
 |true=>
  refine Or.inr ⟨e1,?_⟩
  dsimp only
  rw[if_neg (show ¬ (!true)=true by decide),if_pos rfl,y5]
  split
  · rfl
  exact vd6 hn (by omega) e.fValues 0 0 false
theorem meth_eq {s:zm}:∀ (B:List Zk) (i j:Int) (nm:List (List UInt8×Bool)) (l:List (List UInt8)),(∀ x∈B,x.fName.length≤3000)→l.length+B.length≤1000000→Rm nm l→zZ.l29 s B i nm=ww.l22 s B j l
 |[],_,_,_,_,_,_,_=>rfl
 |x::B,i,j,nm,l,hn,hl,hr=>by
  rw[qk] at hl;obtain⟨b,e1,e2⟩:=vcu hr (hn x (qG ..))
  have e7:∀ n,xf s n=zP s n:=fun n=>vcD _ _ _ _
  rw[zZ.l29,ww.l22,e1,e7,e7,qh];unfold bnd
  dsimp only
  rw[e2,qh]
  cases b with
  |false=>rfl
  |true=>
   dsimp only
   rw[if_neg (show ¬ (!true)=true by decide),if_neg (show ¬ (!true)=true by decide),if_pos rfl,Xp (by omega),qh]
   split
   · rfl
   exact meth_eq B _ _ _ _ (fun y hy=>hn y (qB _ hy)) (by rw[qt,qZ]; omega) (vdq hr x.fName)
def nm3 (s:zm):Prop:=s.fName.length≤3000∧(∀ m∈s.fMessages,m.fName.length≤3000∧(∀ f∈m.fFields,f.fName.length≤3000)∧m.fFields.length*56≤140737488351232)∧(∀ e∈s.fEnums,e.fName.length≤3000∧∀ v∈e.fValues,v.fName.length≤3000)∧∀ x∈s.fMethods,x.fName.length≤3000
theorem parts_l17 {s:zm}(hs:nm3 s)(hM:s.fMethods.length≤6):∀ (B:List zT) (i j:Int) (a:List (List UInt8×Bool)) (l:List (List UInt8)),(∀ e∈B,e∈s.fEnums)→l.length+B.length≤1000000→Rm a l→zZ.l22 s B i a=(xP.l17 B j l).bind fun r=>if r=0 then ww.l22 s s.fMethods 0 [] else some r
 |[],i,j,a,l,_,_,_=>by
  rw[zZ.l22,xP.l17,qh,if_pos rfl];exact meth_eq _ _ _ _ _ hs.2.2.2 (by rw[qp]; omega) Rm_nil
 |e::B,i,j,a,l,he,hl,hr=>by
  rw[qk] at hl;have hme:=hs.2.2.1 e (he e (qG ..));rw[zZ.l22,xP.l17]
  rcases enum_eq hr hme.1 hme.2 with ⟨e1,e2⟩|⟨e1,e2⟩
  · rw[e1,e2]; rfl
  rw[e1,e2,qh,if_neg (show ¬ (!true)=true by decide),Xp (by omega),qh]
  cases y5 e with
  |none=>rfl
  |some v=>
   rw[uy,qh,qh]
   dsimp only
   by_cases h0:v=0
   · rw[if_pos h0,if_pos h0];exact parts_l17 hs hM B _ _ _ _ (fun y hy=>he y (qB _ hy)) (by rw[qt,qZ]; omega) (vdq hr e.fName)
   rw[if_neg h0,if_neg h0,qh,if_neg h0]
theorem parts_l8 {s:zm}(hs:nm3 s)(hM:s.fMethods.length≤6)(hE:s.fEnums.length≤6):∀ (B:List zz) (i j:Int) (a:List (List UInt8×Bool)) (l:List (List UInt8)),(∀ e∈B,e∈s.fMessages)→l.length+B.length≤1000→Rm a l→zZ.l15 s B i a=(xP.l8 s B j l).bind fun r=>if r=0 then ww.l22 s s.fMethods 0 [] else some r
 |[],i,j,a,l,_,hl,hr=>by
  rw[zZ.l15,xP.l8];exact parts_l17 hs hM _ _ _ _ _ (fun _ h=>h) (by rw[qp] at hl; omega) hr
 |m::B,i,j,a,l,he,hl,hr=>by
  rw[qk] at hl;have hme:=hs.2.1 m (he m (qG ..));rw[zZ.l15,xP.l8]
  rcases msg_eq (s:=s) hr hme.1 hme.2.1 hme.2.2 with ⟨e1,e2⟩|⟨e1,e2⟩
  · rw[e1,e2]; rfl
  rw[e1,e2,qh,if_neg (show ¬ (!true)=true by decide),Xp (by omega),qh]
  cases yu s m with
  |none=>rfl
  |some v=>
   rw[uy,qh,qh]
   dsimp only
   by_cases h0:v=0
   · rw[if_pos h0,if_pos h0];exact parts_l8 hs hM hE B _ _ _ _ (fun y hy=>he y (qB _ hy)) (by rw[qt,qZ]; omega) (vdq hr m.fName)
   rw[if_neg h0,if_neg h0,qh,if_neg h0]
theorem check07_eq {s:zm}(hs:nm3 s):ww s=zZ s:=by
 rw[ww,zZ,name_eq (by have:=hs.1; omega)]
 cases xQ s.fName with
 |none=>rfl
 |some b=>
  rw[qh,qh]
  cases b with
  |false=>rfl
  |true=>
   rw[if_neg (show ¬ (!true)=true by decide),if_neg (show ¬ (!true)=true by decide)]
   by_cases h0:(s.fMessages.length:Int)=0
   · rw[if_pos h0,if_pos h0]
   rw[if_neg h0,if_neg h0]
   by_cases hc:(((decide (10<(qa s.fMessages:Int)))||(decide (6<(qa s.fEnums:Int))))||(decide (6<(qa s.fMethods:Int))))=true
   · rw[if_pos hc,if_pos hc]
   rw[if_neg hc,if_neg hc];simp only[qS,decide_eq_true_eq,not_or] at hc
   rw[parts_l8 hs (by omega) (by omega) s.fMessages 0 0 [] [] (fun _ h=>h) (by rw[qp]; omega) Rm_nil]; rfl
theorem fewI_l25 {m:zz}{x2 x3:Int}{rec6:Int→Int→Option Bool}:∀ (l:List yY) (i:Int),yq.l25 x2 x3 rec6 m l i=some true→(∀ f∈l,f.fName.length≤200)∧rec6 (IntKind.i64.wrap (x2+(qa m.fName:Int))) (IntKind.i64.wrap (x3+1))=some true
 |[],_,h=>⟨(fun _ h=>by cases h),h⟩
 |f::l,i,h=>by
  rw[yq.l25] at h
  split at h
  · cases h
  rename_i hc
  simp only[qS,decide_eq_true_eq,not_or] at hc;obtain⟨h1,h2⟩:=fewI_l25 l _ h;refine⟨fun g hg=>?_,h2⟩
  rcases uc.1 hg with rfl|hg
  · omega
  exact h1 g hg
theorem fewI_l60 {x:Int}{rec43:Int→Option Bool}:∀ (l:List Zx) (i:Int),yq.l60 x rec43 l i=some true→(∀ f∈l,f.fName.length≤200)∧rec43 (IntKind.i64.wrap (x+1))=some true
 |[],_,h=>⟨(fun _ h=>by cases h),h⟩
 |f::l,i,h=>by
  rw[yq.l60] at h
  split at h
  · cases h
  obtain⟨h1,h2⟩:=fewI_l60 l _ h;refine⟨fun g hg=>?_,h2⟩
  rcases uc.1 hg with rfl|hg
  · omega
  exact h1 g hg
theorem fewI_l78 {s:zm}{n:Int}:∀ (k j:Nat),j≤20→yq.l78 s n k (j:Int)=some true→n<3000∧s.fMessages.length≤14∧s.fEnums.length≤10∧s.fMethods.length≤10∧∀ x∈s.fMethods.drop j,x.fName.length≤200
 |0,j,_,h=>by cases h
 |k+1,j,hj,h=>by
  rw[yq.l78] at h
  split at h
  · rename_i hc
    simp only[qs,decide_eq_true_eq] at hc
    have hj2:j<s.fMethods.length:=by omega
    rw[vbm hj2,qh] at h
    split at h
    · cases h
    rename_i hb
    simp only[qS,decide_eq_true_eq,not_or] at hb;rw[ZM (by omega) (by omega),show (j:Int)+1=((j+1:Nat):Int) by omega] at h;obtain⟨h1,h2,h3,h4,h5⟩:=fewI_l78 k (j+1) (by omega) h;refine⟨h1,h2,h3,h4,fun x hx=>?_⟩;rw[uU hj2] at hx
    rcases uc.1 hx with rfl|hx
    · omega
    exact h5 x hx
  rename_i hc
  simp only[qs,decide_eq_true_eq,not_and] at hc;have h:=Option.some.inj h;simp only[qs,decide_eq_true_eq] at h;refine⟨h.1.1.1,by omega,by omega,by omega,fun x hx=>?_⟩
  rw[List.drop_of_length_le (by omega)] at hx; cases hx
theorem fewI_l43 {s:zm}{n:Int}:∀ (k j:Nat),j≤20→yq.l43 s n k (j:Int)=some true→n<3000∧s.fMessages.length≤14∧s.fEnums.length≤10∧(∀ x∈s.fMethods,x.fName.length≤200)∧∀ x∈s.fEnums.drop j,x.fName.length≤200∧∀ v∈x.fValues,v.fName.length≤200
 |0,j,_,h=>by cases h
 |k+1,j,hj,h=>by
  rw[yq.l43] at h
  split at h
  · rename_i hc
    simp only[qs,decide_eq_true_eq] at hc
    have hj2:j<s.fEnums.length:=by omega
    rw[vbm hj2,qh] at h
    split at h
    · cases h
    rename_i hb
    simp only[qS,decide_eq_true_eq,not_or] at hb;obtain⟨hv,h⟩:=fewI_l60 _ _ h;rw[ZM (by omega) (by omega),show (j:Int)+1=((j+1:Nat):Int) by omega] at h;obtain⟨h1,h2,h3,h4,h5⟩:=fewI_l43 k (j+1) (by omega) h;refine⟨h1,h2,h3,h4,fun x hx=>?_⟩;rw[uU hj2] at hx
    rcases uc.1 hx with rfl|hx
    · exact⟨by omega,hv⟩
    exact h5 x hx
  rename_i hc
  simp only[qs,decide_eq_true_eq,not_and] at hc;obtain⟨h1,h2,h3,h4,h5⟩:=fewI_l78 yp 0 (by omega) h;rw[qw] at h5;refine⟨h1,h2,h3,h5,fun x hx=>?_⟩
  rw[List.drop_of_length_le (by omega)] at hx; cases hx
theorem fewI_l6 {s:zm}(hs:nmS s):∀ (k j:Nat) (n:Int),j≤20→0≤n→n+(20-j)*140737488351232≤9000000000000000→yq.l6 s k n (j:Int)=some true→n<3000∧s.fMessages.length≤14∧(∀ x∈s.fMethods,x.fName.length≤200)∧(∀ x∈s.fEnums,x.fName.length≤200∧∀ v∈x.fValues,v.fName.length≤200)∧∀ x∈s.fMessages.drop j,x.fName.length≤3000∧x.fFields.length≤20∧∀ v∈x.fFields,v.fName.length≤200
 |0,j,n,_,_,_,h=>by cases h
 |k+1,j,n,hj,h0,hn,h=>by
  rw[yq.l6] at h
  split at h
  · rename_i hc
    simp only[qs,decide_eq_true_eq] at hc
    have hj2:j<s.fMessages.length:=by omega
    have hm:=(hs.2.1 _ (List.getElem_mem hj2)).1;unfold nmOk at hm;rw[vbm hj2,qh] at h
    split at h
    · cases h
    rename_i hb
    simp only[qS,decide_eq_true_eq,not_or] at hb;obtain⟨hv,h⟩:=fewI_l25 _ _ h;rw[ZM (x:=(j:Int)+1) (by omega) (by omega),show (j:Int)+1=((j+1:Nat):Int) by omega,ZM (by omega) (by omega)] at h;obtain⟨h1,h2,h3,h4,h5⟩:=fewI_l6 hs k (j+1) _ (by omega) (by omega) (by omega) h;refine⟨by omega,h2,h3,h4,fun x hx=>?_⟩;rw[uU hj2] at hx
    rcases uc.1 hx with rfl|hx
    · exact⟨by omega,by omega,hv⟩
    exact h5 x hx
  rename_i hc
  simp only[qs,decide_eq_true_eq,not_and] at hc;obtain⟨h1,h2,h3,h4,h5⟩:=fewI_l43 yp 0 (by omega) h;rw[qw] at h5;refine⟨h1,h2,h4,h5,fun x hx=>?_⟩
  rw[List.drop_of_length_le (by omega)] at hx; cases hx
theorem few_names {s:zm}(hs:nmS s)(h:yq s=some true):nm3 s:=by
 have h0:=hs.1;unfold nmOk at h0;obtain⟨h1,h2,h3,h4,h5⟩:=fewI_l6 hs yp 0 (s.fName.length:Int) (by omega) (by omega) (by omega) h;rw[qw] at h5;exact⟨by omega,fun m hm=>⟨(h5 m hm).1,fun f hf=>uv ((h5 m hm).2.2 f hf) (by decide),by have:=(h5 m hm).2.1; omega⟩,fun e he=>⟨uv (h4 e he).1 (by decide),fun v hv=>uv ((h4 e he).2 v hv) (by decide)⟩,fun x hx=>uv (h3 x hx) (by decide)⟩
theorem fieldR_l (t:Int):∀ (l:List yY) (i j:Int),wv.l4 t l i=zQ.l4 t l j
 |[],_,_=>rfl
 |y::l,i,j=>by rw[wv.l4,zQ.l4,fieldR_l t l (i+1) (j+1)]
theorem fieldR_eq (m:zz)(t:Int):wv m t=zQ m t:=fieldR_l t _ _ _
theorem vdY (s:zm)(n:List UInt8):xf s n=zP s n:=vcD n _ _ _
theorem ref01_Valid_eq {a:List UInt8}(hl:a.length≤30000):YT a=some (vdL a):=by
 have e1:=rl_all hl yp 0 [] (by have:=xJ; omega) (by decide) (by decide) (by rw[qp]; omega);have e2:=rl_valid hl yp 0 (by have:=xJ; omega) (by decide);have e1':Zv a=_:=e1;have e2':xD a=_:=e2;rw[YT,e1',vdL,e2']
 cases rl a yp 0<;>rfl
theorem number_eq (y:YE)(n:Int):YS y n=Zo y n:=by
 unfold YS Zo
 by_cases k1:y.fKind=1
 · rw[if_pos k1,if_pos k1]
 rw[if_neg k1,if_neg k1]
 by_cases k2:y.fKind=2
 · rw[if_pos k2,if_neg (by omega),if_neg (by omega),decide_eq_true k2]
 rw[if_neg k2,decide_eq_false k2]
def smT : Nat→zi→Prop
 |0,_=>False
 |d+1,t=>t.fRest.length≤40∧(t.fEntries.length≤40∧t.fS.length≤5000)∧∀ e∈t.fEntries,e.fTrees.length≤70∧∀ x∈e.fTrees,smT d x
def smallR (P:Prop)(r:Bool×Int):Prop:=r.1=true→(∃ n:Nat,r.2=(n:Int)∧n≤200)∧P
theorem small_l29 {self:zi→Int→Int→Option (Bool×Int)}{deep d:Nat}{x12:Int}{rec15:Int→Int→Option (Bool×Int)}{P:Prop}(hd:deep≤13)(hs:∀ x (m:Nat),m≤200→∃ r,self x ((deep+1:Nat):Int) (m:Int)=some r∧smallR (smT d x) r)(hr:∀ i (m:Nat),m≤200→∃ r,rec15 i (m:Int)=some r∧smallR P r):
 ∀ (l:List zi) (i:Int) (m:Nat),m≤200→∃ r,yj.l29 self (deep:Int) x12 rec15 l i (m:Int)=some r∧smallR (P∧∀ x∈l,smT d x) r
 |[],i,m,hm=>by
  obtain⟨r,e,h⟩:=hr (x12+1) m hm;exact⟨r,e,fun h1=>⟨(h h1).1,(h h1).2,fun x hx=>by cases hx⟩⟩
 |x::l,i,m,hm=>by
  obtain⟨⟨v,n⟩,e,h⟩:=hs x m hm;rw[yj.l29,ZM (by omega) (by omega),show (deep:Int)+1=((deep+1:Nat):Int) by omega,e,qh]
  cases v with
  |false=>exact⟨_,rfl,fun h1=>absurd h1 ul⟩
  |true=>
   obtain⟨⟨n',e',hn'⟩,hx⟩:=h rfl
   dsimp only at e'
   dsimp only
   rw[if_neg (by decide),e'];obtain⟨r,er,h2⟩:=small_l29 hd hs hr l (i+1) n' hn';refine⟨r,er,fun h1=>⟨(h2 h1).1,(h2 h1).2.1,fun y hy=>?_⟩⟩
   rcases uc.1 hy with rfl|hy
   · exact hx
   exact (h2 h1).2.2 y hy
theorem small_l15 {self:zi→Int→Int→Option (Bool×Int)}{deep d:Nat}(hd:deep≤13)(hs:∀ x (m:Nat),m≤200→∃ r,self x ((deep+1:Nat):Int) (m:Int)=some r∧smallR (smT d x) r):
 ∀ (l:List zp) (i:Int) (m:Nat),m≤200→∃ r,yj.l15 self (deep:Int) l i (m:Int)=some r∧smallR (∀ e∈l,e.fTrees.length≤70∧∀ x∈e.fTrees,smT d x) r
 |[],i,m,hm=>⟨(true,(m:Int)),rfl,fun _=>⟨⟨m,rfl,hm⟩,fun x hx=>by cases hx⟩⟩
 |e::l,i,m,hm=>by
  rw[yj.l15]
  split
  · exact⟨_,rfl,fun h1=>absurd h1 ul⟩
  rename_i hc
  obtain⟨r,er,h⟩:=small_l29 (x12:=i) (rec15:=yj.l15 self (deep:Int) l) hd hs (fun i m hm=>small_l15 hd hs l i m hm) e.fTrees 0 m hm;refine⟨r,er,fun h1=>⟨(h h1).1,fun y hy=>?_⟩⟩
  rcases uc.1 hy with rfl|hy
  · exact⟨by omega,(h h1).2.2⟩
  exact (h h1).2.1 y hy
theorem small_l8 {self:zi→Int→Int→Option (Bool×Int)}{t:zi}{deep n:Int}:∀ (l:List xF) (i:Int),(∃ v,yj.l8 self t deep n l i=some (false,v))∨yj.l8 self t deep n l i=yj.l15 self deep t.fEntries 0 (IntKind.i64.wrap (n+1))
 |[],i=>Or.inr rfl
 |r::l,i=>by
  rw[yj.l8]
  split
  · exact Or.inl ⟨_,rfl⟩
  exact small_l8 l _
theorem small_t : ∀ (k deep d:Nat) (t:zi) (n:Nat),14<k+deep→deep≤14→d+deep=14→n≤200→∃ r,yj k t (deep:Int) (n:Int)=some r∧smallR (smT d t) r
 |0,deep,d,t,n,h,h',_,_=>by omega
 |k+1,deep,d,t,n,h,h',hdd,hn=>by
  rw[yj,yj.body,ZM (by omega) (by omega)]
  split
  · exact⟨_,rfl,fun h1=>absurd h1 ul⟩
  rename_i hc
  simp only[qS,decide_eq_true_eq,not_or] at hc
  obtain⟨d',rfl⟩:∃ d',d=d'+1:=⟨d-1,by omega⟩
  rcases small_l8 (self:=yj k) (t:=t) (deep:=(deep:Int)) (n:=(n:Int)) t.fRest 0 with ⟨v,e⟩|e
  · exact⟨_,e,fun h1=>absurd h1 ul⟩
  rw[e,ZM (by omega) (by omega),show (n:Int)+1=((n+1:Nat):Int) by omega];obtain⟨r,er,h2⟩:=small_l15 (deep:=deep) (d:=d') (by omega) (fun x m hm=>small_t k (deep+1) d' x m (by omega) (by omega) (by omega) hm) t.fEntries 0 (n+1) (by omega);exact⟨r,er,fun h1=>⟨(h2 h1).1,by omega,by omega,(h2 h1).2⟩⟩
theorem Small_t (t:zi):∃ b,ZP t=some b∧(b=true→smT 14 t):=by
 obtain⟨r,e,h⟩:=small_t yp 0 14 t 0 (by have:=xJ; omega) (by omega) rfl (by omega);refine⟨r.1,?_,fun h1=>(h h1).2⟩;have e':yj yp t 0 0=some r:=e
 rw[ZP,e']; rfl
def restT : Nat→zi→Prop
 |0,t=>t.fRest.length≤40
 |d+1,t=>t.fRest.length≤40∧∀ x∈kids t,restT d x
theorem smT_rest : ∀ (d j:Nat) (t:zi),smT d t→restT j t
 |0,_,_,h=>h.elim
 |d+1,0,t,h=>h.1
 |d+1,j+1,t,h=>⟨h.1,fun x hx=>by
  obtain⟨e,he,hxe⟩:=List.mem_flatMap.1 hx
  exact smT_rest d j x ((h.2.2 e he).2 x hxe)⟩
theorem tr_eta (t:zi):(⟨t.fKind,t.fN,t.fS,t.fEntries,t.fRest⟩:zi)=t:=by cases t; rfl
theorem et_eta (e:zp):(⟨e.fTag,e.fTrees⟩:zp)=e:=by cases e; rfl
theorem treeC_l22 {self:zi→Option zi}{x5:Int}{l3:List zp}{rec9:Int→List zp→Option zi}{y:zp}(h3:l3.length≤1000):∀ (l:List zi) (i:Int) (acc:List zi),(∀ x∈l,self x=some x)→acc.length+l.length≤70→yI.l22 self x5 l3 rec9 y l i acc=rec9 (x5+1) (l3++[⟨y.fTag,acc++l⟩])
 |[],i,acc,_,_=>by rw[yI.l22,Xp (by omega),qh,qT]
 |x::l,i,acc,h,hl=>by
  rw[qk] at hl
  rw[yI.l22,h x (qG ..),qh,Xp (by omega),qh,treeC_l22 h3 l _ _ (fun z hz=>h z (qB _ hz)) (by rw[qt,qZ]; omega),qP]; rfl
theorem treeC_l9 {self:zi→Option zi}{t:zi}{r1:List xF}:∀ (l:List zp) (i:Int) (acc:List zp),(∀ e∈l,e.fTrees.length≤70∧∀ x∈e.fTrees,self x=some x)→acc.length+l.length≤1000→yI.l9 self t r1 l i acc=some ⟨t.fKind,t.fN,t.fS,acc++l,r1⟩
 |[],i,acc,_,_=>by rw[yI.l9,qT]
 |e::l,i,acc,h,hl=>by
  rw[qk] at hl;have he:=h e (qG ..)
  rw[yI.l9,treeC_l22 (by omega) e.fTrees 0 [] he.2 (by rw[qp]; omega),qC,et_eta,treeC_l9 l _ _ (fun z hz=>h z (qB _ hz)) (by rw[qt,qZ]; omega),qP]; rfl
theorem treeC : ∀ (d k:Nat) (t:zi),d≤k→smT d t→yI k t=some t
 |0,_,_,_,h=>h.elim
 |d+1,0,_,h,_=>absurd h (by omega)
 |d+1,k+1,t,hk,h=>by
  rw[yI,yI.body,Y6,Xp (by have:=h.1; omega),qh,qh,treeC_l9 t.fEntries 0 [] (fun e hm=>⟨(h.2.2 e hm).1,fun x hx=>treeC d k x (by omega) ((h.2.2 e hm).2 x hx)⟩) (by have:=h.2.1; rw[qp]; omega),qC,tr_eta]
def vb1 (x y:xF):Bool:=decide (x.fTag=y.fTag)&&(decide (x.fWire=y.fWire)&&(decide (x.fN=y.fN)&&decide (x.fB=y.fB)))
def YK {α:Type}(f:α→α→Bool):List α→List α→Bool
 |[],[]=>true
 |x::l,y::m=>f x y&&YK f l m
 |[],_::_=>false
 |_::_,[]=>false
def entEq (f:zi→zi→Bool)(x y:zp):Bool:=decide (x.fTag=y.fTag)&&YK f x.fTrees y.fTrees
def sameS (f:zi→zi→Bool)(a b:zi):Bool:=decide (a.fKind=b.fKind)&&decide (a.fN=b.fN)&&decide (a.fS=b.fS)&&YK vb1 a.fRest b.fRest&&YK (entEq f) a.fEntries b.fEntries
def sameT : Nat→zi→zi→Bool
 |0=>sameS fun _ _=>false
 |d+1=>sameS (sameT d)
theorem XL {α:Type}{f:α→α→Bool}:∀ {l m:List α},l.length≠m.length→YK f l m=false
 |[],[],h=>absurd rfl h
 |[],_::_,_=>rfl
 |_::_,[],_=>rfl
 |x::l,y::m,h=>by rw[YK,XL (l:=l) (m:=m) (by simpa using h),qz]
theorem vaI {α:Type}(A:List α)(y:α)(B:List α):A++y::B=(A++[y])++B:=by simp
theorem vbS {α:Type}(A:List α)(y:α):(A.length:Int)+1=((A++[y]).length:Int):=by rw[qt,qZ]; omega
theorem eqRaw_l : ∀ (q A B:List xF),q.length=B.length→xH.l8 (A++B) q (A.length:Int)=some (YK vb1 q B)
 |[],A,[],_=>rfl
 |[],A,_::_,h=>by simp at h
 |_::_,A,[],h=>by simp at h
 |x::q,A,y::B,h=>by
  rw[xH.l8,vas rfl,qh,YK]
  show (if (!vb1 x y)=true then _ else _)=_
  cases vb1 x y with
  |false=>rfl
  |true=>
   rw[if_neg (by decide),qX,vbS A y,vaI];exact eqRaw_l q (A++[y]) B (by simpa using h)
theorem eqRaw (a b:List xF):xH a b=some (YK vb1 a b):=by
 rw[xH]
 by_cases h:(qa a:Int)=(qa b:Int)
 · rw[if_pos h]; exact eqRaw_l a [] b (by omega)
 rw[if_neg h,XL (by omega)]
theorem eqTree_l {self:zi→zi→Option Bool}{f:zi→zi→Bool}:∀ (q A B:List zi),q.length=B.length→(∀ x∈q,∀ y,self x y=some (f x y))→zy.l8 self (A++B) q (A.length:Int)=some (YK f q B)
 |[],A,[],_,_=>rfl
 |[],A,_::_,h,_=>by simp at h
 |_::_,A,[],h,_=>by simp at h
 |x::q,A,y::B,h,hs=>by
  rw[zy.l8,vas rfl,qh,hs x (qG ..),qh,YK]
  cases f x y with
  |false=>rfl
  |true=>
   rw[if_neg (by decide),qX,vbS A y,vaI]
   exact eqTree_l q (A++[y]) B (by simpa using h) fun z hz=>hs z (qB _ hz)
theorem eqEnt_l {self:zp→zp→Option Bool}{f:zp→zp→Bool}:∀ (q A B:List zp),q.length=B.length→(∀ x∈q,∀ y,self x y=some (f x y))→zr.l8 self (A++B) q (A.length:Int)=some (YK f q B)
 |[],A,[],_,_=>rfl
 |[],A,_::_,h,_=>by simp at h
 |_::_,A,[],h,_=>by simp at h
 |x::q,A,y::B,h,hs=>by
  rw[zr.l8,vas rfl,qh,hs x (qG ..),qh,YK]
  cases f x y with
  |false=>rfl
  |true=>
   rw[if_neg (by decide),qX,vbS A y,vaI]
   exact eqEnt_l q (A++[y]) B (by simpa using h) fun z hz=>hs z (qB _ hz)
theorem vstep {k:Nat}{f:zi→zi→Bool}{a:zi}(b:zi)(h:∀ e∈a.fEntries,∀ x∈e.fTrees,∀ y,xW k x y=some (f x y)):xW (k+4) a b=some (sameS f a b):=by
 have ht:∀ e∈a.fEntries,∀ m,zy (k+1) e.fTrees m=some (YK f e.fTrees m):=by
  intro e he m
  rw[zy,zy.body]
  by_cases hl:(qa e.fTrees:Int)=(qa m:Int)
  · rw[if_pos hl]; exact eqTree_l e.fTrees [] m (by omega) (h e he)
  rw[if_neg hl,XL (by omega)]
 have he:∀ e∈a.fEntries,∀ y,wC (k+2) e y=some (entEq f e y):=by
  intro e he y
  rw[wC,wC.body,entEq]
  by_cases hg:e.fTag=y.fTag
  · rw[if_pos hg,ht e he,decide_eq_true hg]; rfl
  rw[if_neg hg,decide_eq_false hg]; rfl
 have hs:zr (k+3) a.fEntries b.fEntries=some (YK (entEq f) a.fEntries b.fEntries):=by
  rw[zr,zr.body]
  by_cases hl:(qa a.fEntries:Int)=(qa b.fEntries:Int)
  · rw[if_pos hl]; exact eqEnt_l a.fEntries [] b.fEntries (by omega) he
  rw[if_neg hl,XL (by omega)]
 rw[xW,xW.body,sameS]
 cases h1:((decide (a.fKind=b.fKind)&&decide (a.fN=b.fN))&&decide (a.fS=b.fS)) with
 |false=>rfl
 |true=>
  rw[if_pos rfl,eqRaw,qh,qh]
  cases h2:YK vb1 a.fRest b.fRest with
  |false=>rfl
  |true=>rw[if_pos rfl,hs]; rfl
theorem r28 {self:zi→zi→Option Bool}{f:zi→zi→Bool}{x11:Int}{rec13:Int→Option Bool}{e:zp}:∀ (q A B:List zi),e.fTrees=A++B→q.length=B.length→(∀ x∈q,∀ y,self x y=some (f x y))→
 zW.l28 self x11 rec13 e q (A.length:Int)=if YK f q B=true then rec13 (x11+1) else some false
 |[],A,[],_,_,_=>rfl
 |[],A,_::_,_,h,_=>by simp at h
 |_::_,A,[],_,h,_=>by simp at h
 |x::q,A,y::B,he,h,hs=>by
  rw[zW.l28,he,vas rfl,qh,hs x (qG ..),qh,YK]
  cases f x y with
  |false=>rfl
  |true=>
   rw[if_neg (by decide),qX,vbS A y]
   exact r28 q (A++[y]) B (by rw[he,vaI]) (by simpa using h) fun z hz=>hs z (qB _ hz)
theorem r13 {self:zi→zi→Option Bool}{f:zi→zi→Bool}{t:zi}:∀ (q A B:List zp),t.fEntries=A++B→q.length=B.length→(∀ e∈q,∀ x∈e.fTrees,∀ y,self x y=some (f x y))→
 zW.l13 self t q (A.length:Int)=some (YK (entEq f) q B)
 |[],A,[],_,_,_=>rfl
 |[],A,_::_,_,h,_=>by simp at h
 |_::_,A,[],_,h,_=>by simp at h
 |x::q,A,y::B,he,h,hs=>by
  have ih:=r13 q (A++[y]) B (by rw[he,vaI]) (by simpa using h) fun z hz=>hs z (qB _ hz)
  rw[zW.l13,he,vas rfl,qh,YK,entEq]
  by_cases hg:x.fTag=y.fTag
  · by_cases hl:(qa x.fTrees:Int)=(qa y.fTrees:Int)
    · rw[if_neg (by rw[decide_eq_true hg,decide_eq_true hl]; decide),decide_eq_true hg,qX];refine (r28 x.fTrees [] y.fTrees rfl (by omega) (hs x (qG ..))).trans ?_;rw[vbS A y,ih]
      cases YK f x.fTrees y.fTrees<;>rfl
    rw[if_pos (by rw[decide_eq_false hl,qn,qv]),XL (l:=x.fTrees) (m:=y.fTrees) (by omega),qz,ub]
  rw[if_pos (by rw[decide_eq_false hg,qn,ug]),decide_eq_false hg,ub,ub]
theorem r8 {self:zi→zi→Option Bool}{a b:zi}:∀ (q A B:List xF),b.fRest=A++B→q.length=B.length→
 zW.l8 self a b q (A.length:Int)=if YK vb1 q B=true then zW.l13 self b a.fEntries 0 else some false
 |[],A,[],_,_=>rfl
 |[],A,_::_,_,h=>by simp at h
 |_::_,A,[],_,h=>by simp at h
 |x::q,A,y::B,he,h=>by
  rw[zW.l8,he,vas rfl,qh,YK]
  show (if (!vb1 x y)=true then _ else _)=_
  cases vb1 x y with
  |false=>rfl
  |true=>
   rw[if_neg (by decide),qX,vbS A y];exact r8 q (A++[y]) B (by rw[he,vaI]) (by simpa using h)
theorem rstep {k:Nat}{f:zi→zi→Bool}{a:zi}(b:zi)(h:∀ e∈a.fEntries,∀ x∈e.fTrees,∀ y,zW k x y=some (f x y)):zW (k+1) a b=some (sameS f a b):=by
 rw[zW,zW.body,sameS]
 by_cases h1:a.fKind=b.fKind
 · by_cases h2:a.fN=b.fN
   · by_cases h3:a.fS=b.fS
     · by_cases h4:(qa a.fEntries:Int)=(qa b.fEntries:Int)
       · by_cases h5:(qa a.fRest:Int)=(qa b.fRest:Int)
         · rw[if_neg (by rw[decide_eq_true h1,decide_eq_true h2,decide_eq_true h3,decide_eq_true h4,decide_eq_true h5]; decide),decide_eq_true h1,decide_eq_true h2,decide_eq_true h3];refine (r8 a.fRest [] b.fRest rfl (by omega)).trans ?_;rw[show zW.l13 (zW k) b a.fEntries 0=_ from r13 a.fEntries [] b.fEntries rfl (by omega) h]
           cases YK vb1 a.fRest b.fRest<;>rfl
         rw[if_pos (by rw[decide_eq_false h5,qn,qv]),XL (l:=a.fRest) (m:=b.fRest) (by omega),qz,ub]
       rw[if_pos (by rw[decide_eq_false h4,qn,qv,ug]),XL (l:=a.fEntries) (m:=b.fEntries) (by omega),qz]
     rw[if_pos (by rw[decide_eq_false h3,qn,qv,ug,ug]),decide_eq_false h3,qz,ub,ub]
   rw[if_pos (by rw[decide_eq_false h2,qn,qv,ug,ug,ug]),decide_eq_false h2,qz,ub,ub,ub]
 rw[if_pos (by rw[decide_eq_false h1,qn,ug,ug,ug,ug]),decide_eq_false h1,ub,ub,ub,ub]
theorem same_eq : ∀ (d k j:Nat) (a b:zi),4*d+4≤k→d<j→vcS d a→xW k a b=some (sameT d a b)∧zW j a b=some (sameT d a b)
 |0,k,j,a,b,hk,hj,hd=>by
  obtain⟨k,rfl⟩:∃ k',k=k'+4:=⟨k-4,by omega⟩
  obtain⟨j,rfl⟩:∃ j',j=j'+1:=⟨j-1,by omega⟩
  have no:∀ e∈a.fEntries,∀ x∈e.fTrees,False:=fun e he x hx=>by
   have:=vaC he hx
   rw[show kids a=[] from hd] at this; cases this
  exact⟨vstep b fun e he x hx=>(no e he x hx).elim,rstep b fun e he x hx=>(no e he x hx).elim⟩
 |d+1,k,j,a,b,hk,hj,hd=>by
  obtain⟨k,rfl⟩:∃ k',k=k'+4:=⟨k-4,by omega⟩
  obtain⟨j,rfl⟩:∃ j',j=j'+1:=⟨j-1,by omega⟩
  exact⟨vstep b fun e he x hx y=>(same_eq d k (d+1) x y (by omega) (by omega) (hd x (vaC he hx))).1,rstep b fun e he x hx y=>(same_eq d (4*d+4) j x y (by omega) (by omega) (hd x (vaC he hx))).2⟩
theorem same_rounds {d:Nat}{a:zi}(b:zi)(hd:d<1000)(h:vcS d a):xW yp a b=some (sameT d a b)∧zW yp a b=some (sameT d a b):=
 same_eq d yp yp a b (by have:=xJ; omega) (by have:=xJ; omega) h
theorem clamp_eq (n:Int):Xg n=ZV n:=by
 unfold Xg ZV
 repeat' split
 all_goals omega
def X0 (y:YE)(t:zi):Bool:=
 if y.fKind=1 then decide (t.fKind=1) else if y.fKind=2 then decide (t.fKind=1) else if y.fKind=3 then decide (t.fKind=1)&&Zo y t.fN else if y.fKind=4 then decide (t.fKind=2)&&vdL t.fS
 else if y.fKind=5 then decide (t.fKind=2) else if y.fKind=6 then decide (t.fKind=1)&&Zo y t.fN else decide (t.fKind=3)
theorem fits_eq {y:YE}{t:zi}(hl:t.fS.length≤30000):xI y t=some (X0 y t):=by
 have hv:xD t.fS=some (vdL t.fS):=runesV_eq (by omega);unfold xI X0
 by_cases h1:y.fKind=1
 · rw[if_pos h1,if_pos h1]; rfl
 rw[if_neg h1,if_neg h1]
 by_cases h2:y.fKind=2
 · rw[if_pos h2,if_pos h2]; rfl
 rw[if_neg h2,if_neg h2]
 by_cases h3:y.fKind=3
 · rw[if_pos h3,if_pos h3,decide_eq_true h3,xI.j18,if_pos rfl];unfold bnd
   by_cases hk:t.fKind=1
   · rw[if_pos hk,decide_eq_true hk,qX]
   rw[if_neg hk,decide_eq_false hk,ub]
 rw[if_neg h3,if_neg h3]
 by_cases h4:y.fKind=4
 · rw[if_pos h4,decide_eq_false (by omega),xI.j18,if_neg (by decide),if_pos h4]
   by_cases hk:t.fKind=2
   · rw[if_pos hk,hv,decide_eq_true hk,qX]; rfl
   rw[if_neg hk,decide_eq_false hk,ub]; rfl
 rw[if_neg h4]
 by_cases h5:y.fKind=5
 · rw[if_pos h5,decide_eq_false (by omega),xI.j18,if_neg (by decide),if_neg h4,if_pos h5]
 rw[if_neg h5]
 by_cases h6:y.fKind=6
 · rw[if_pos h6,decide_eq_true h6,xI.j18,if_pos rfl];unfold bnd
   by_cases hk:t.fKind=1
   · rw[if_pos hk,decide_eq_true hk,qX]
   rw[if_neg hk,decide_eq_false hk,ub]
 rw[if_neg h6,decide_eq_false h6,xI.j18,if_neg (by decide),if_neg h4,if_neg h5]
theorem kindR {y:YE}(n:Int)(h:(y.fKind=4∨y.fKind=5)∧n=2∨y.fKind=7∧n=3∨¬ (y.fKind=4∨y.fKind=5∨y.fKind=7)∧n=1):Zs y=n:=by
 unfold Zs Zs.j3
 by_cases h4:y.fKind=4
 · rw[if_pos h4,decide_eq_true h4,if_pos rfl]; omega
 by_cases h5:y.fKind=5
 · rw[if_neg h4,decide_eq_true h5,if_pos rfl]; omega
 rw[if_neg h4,decide_eq_false h5,if_neg ul]
 split<;>omega
theorem rfits_eq {fd:yY}{t:zi}(hl:t.fS.length≤30000)(hk:1≤fd.fType.fKind∧fd.fType.fKind≤7):Yg fd t=some (X0 fd.fType t):=by
 have hv:YT t.fS=some (vdL t.fS):=ref01_Valid_eq hl;obtain⟨k1,k7⟩:=hk
 have plain:∀ n:Int,Zs fd.fType=n→((decide (fd.fType.fKind=3))||(decide (fd.fType.fKind=6)))=false→fd.fType.fKind≠4→Yg fd t=some (decide (t.fKind=n)):=by
  intro n hn h36 h4
  rw[Yg,bnd,hn]
  by_cases hk:t.fKind=n
  · rw[if_pos hk,h36,if_neg ul,if_neg h4,decide_eq_true hk]
  rw[if_neg hk,decide_eq_false hk]
 have num:Zs fd.fType=1→((decide (fd.fType.fKind=3))||(decide (fd.fType.fKind=6)))=true→Yg fd t=some (decide (t.fKind=1)&&Zo fd.fType t.fN):=by
  intro hn h36
  rw[Yg,bnd,hn]
  by_cases hk:t.fKind=1
  · rw[if_pos hk,h36,if_pos rfl,bnd,number_eq,decide_eq_true hk,qX]
  rw[if_neg hk,decide_eq_false hk,ub]
 unfold X0
 by_cases h1:fd.fType.fKind=1
 · rw[if_pos h1]; exact plain 1 (kindR 1 (by omega)) (by rw[h1]; rfl) (by omega)
 rw[if_neg h1]
 by_cases h2:fd.fType.fKind=2
 · rw[if_pos h2]; exact plain 1 (kindR 1 (by omega)) (by rw[h2]; rfl) (by omega)
 rw[if_neg h2]
 by_cases h3:fd.fType.fKind=3
 · rw[if_pos h3]; exact num (kindR 1 (by omega)) (by rw[h3]; rfl)
 rw[if_neg h3]
 by_cases h4:fd.fType.fKind=4
 · rw[if_pos h4,Yg,bnd,kindR 2 (by omega)]
   by_cases hk:t.fKind=2
   · rw[if_pos hk,h4,if_neg (by decide),if_pos rfl,hv,decide_eq_true hk,qX]; rfl
   rw[if_neg hk,decide_eq_false hk,ub]
 rw[if_neg h4]
 by_cases h5:fd.fType.fKind=5
 · rw[if_pos h5]; exact plain 2 (kindR 2 (by omega)) (by rw[h5]; rfl) (by omega)
 rw[if_neg h5]
 by_cases h6:fd.fType.fKind=6
 · rw[if_pos h6]; exact num (kindR 1 (by omega)) (by rw[h6]; rfl)
 rw[if_neg h6]; exact plain 3 (kindR 3 (by omega)) (by rw[decide_eq_false h3,decide_eq_false h6]; rfl) (by omega)
def vbC (f:zz→zi→zi)(s:zm)(y:YE)(t:zi):zi:=
 if y.fKind=1 then ⟨t.fKind,ZV t.fN,t.fS,t.fEntries,t.fRest⟩ else if y.fKind=7 then f (msgOf s y.fName) t else t
def lastL (l:List zi):List zi:=l.drop (l.length-1)
def vcy (f:zz→zi→zi)(s:zm)(fd:yY)(l:List zi):List zi:=(if fd.fLabel=3 then l else lastL l).map (vbC f s fd.fType)
def vd1 (fd:yY)(l:List zi):Bool := !(decide (fd.fLabel=1)&&YF (l.headD vcZ))
def vdU (f:zz→zi→zi)(s:zm)(m:zz)(e:zp):List zp:=
 if (zQ m e.fTag).2&&e.fTrees.all (X0 (zQ m e.fTag).1.fType) then
  (if vd1 (zQ m e.fTag).1 (vcy f s (zQ m e.fTag).1 e.fTrees) then [⟨e.fTag,vcy f s (zQ m e.fTag).1 e.fTrees⟩] else []) else []
def projT (s:zm):Nat→zz→zi→zi
 |0,_,_=>⟨3,0,[],[],[]⟩
 |d+1,m,t=>⟨3,0,[],t.fEntries.flatMap (vdU (projT s d) s m),[]⟩
theorem vdB {l:List zi}(h:1≤l.length):(lastL l).length=1:=by rw[lastL,uT]; omega
theorem vdZ {l:List zi}{x:zi}(h:x∈lastL l):x∈l:=List.mem_of_mem_drop h
theorem last_cut {l:List zi}(h:1≤l.length)(h':l.length≤100000):IntKind.i64.wrap ((qa l:Int)-1)=((l.length-1:Nat):Int)∧va3 l (IntKind.i64.wrap ((qa l:Int)-1)) (qa l:Int)=lastL l:=by
 have w:IntKind.i64.wrap ((qa l:Int)-1)=((l.length-1:Nat):Int):=by rw[ZM (by omega) (by omega)]; omega
 refine⟨w,?_⟩;rw[w,lastL,va3,uw,uw,ut (by rw[uT]; omega)]
section
variable {selfF:zm→yY→List zi→Option (List zi×Bool)} {selfM:zm→zz→zi→Option zi} {s:zm} {fd:yY} {f:zz→zi→zi}
theorem pl15 : ∀ (X:List zi) (i:Int) (acc:List zi),(∀ x∈X,fd.fType.fKind=7→selfM s (zP s fd.fType.fName).1 x=some (f (msgOf s fd.fType.fName) x))→acc.length+X.length≤100000→1≤acc.length+X.length→
 zN.l15 selfM s fd X i acc=some (acc++X.map (vbC f s fd.fType),vd1 fd (acc++X.map (vbC f s fd.fType)))
 |[],i,acc,_,_,h1=>by
  rw[zN.l15,qq,qT,vd1]
  cases acc with
  |nil=>simp at h1
  |cons y acc=>
   by_cases hl:fd.fLabel=1
   · rw[if_pos hl,show Yl (y::acc) 0=some y from rfl,decide_eq_true hl,qX]; rfl
   rw[if_neg hl,decide_eq_false hl,ub]; rfl
 |x::X,i,acc,hm,hl,h1=>by
  rw[qk] at hl
  have ih:=fun z=>pl15 X (i+1) (acc++[z]) (fun y hy=>hm y (qB _ hy)) (by rw[qt,qZ]; omega) (by rw[qt,qZ]; omega)
  have fin:∀ z,z=vbC f s fd.fType x→zN.j29 i acc (zN.l15 selfM s fd X) z=some (acc++(x::X).map (vbC f s fd.fType),vd1 fd (acc++(x::X).map (vbC f s fd.fType))):=by
   intro z hz
   rw[zN.j29,Xp (by omega),qh,ih,hz,qy,qP]; rfl
  rw[zN.l15]
  by_cases k1:fd.fType.fKind=1
  · rw[if_pos k1,bnd]; exact fin _ (by rw[vbC,if_pos k1])
  rw[if_neg k1]
  by_cases k7:fd.fType.fKind=7
  · rw[if_pos k7,bnd,hm x (qG ..) k7,qh]; exact fin _ (by rw[vbC,if_neg k1,if_pos k7])
  rw[if_neg k7]; exact fin _ (by rw[vbC,if_neg k1,if_neg k7])
theorem pl4 {l:List zi}(h1:1≤l.length)(hl:l.length≤100000)(hm:∀ x∈l,fd.fType.fKind=7→X0 fd.fType x=true→selfM s (zP s fd.fType.fName).1 x=some (f (msgOf s fd.fType.fName) x)):
 ∀ (q A:List zi) (i:Int),l=A++q→A.all (X0 fd.fType)=true→(∀ x∈q,x.fS.length≤30000)→
 zN.l4 selfM s fd l q i=some (if l.all (X0 fd.fType) then (vcy f s fd l,vd1 fd (vcy f s fd l)) else ([],false))
 |[],A,i,he,ha,_=>by
  have hall:l.all (X0 fd.fType)=true:=by rw[he,qT]; exact ha
  have hm':∀ x∈l,fd.fType.fKind=7→selfM s (zP s fd.fType.fName).1 x=some (f (msgOf s fd.fType.fName) x):=fun x hx h7=>hm x hx h7 (uk.1 hall x hx)
  obtain⟨w,c⟩:=last_cut h1 hl;rw[zN.l4,if_pos hall,vcy]
  by_cases h3:fd.fLabel=3
  · rw[if_pos h3,if_pos h3,zN.j7,pl15 l 0 [] hm' (by simpa using hl) (by simpa using h1)]; rfl
  rw[if_neg h3,if_neg h3,c,show grd ((0:Int)≤IntKind.i64.wrap ((qa l:Int)-1)∧IntKind.i64.wrap ((qa l:Int)-1)≤(qa l:Int)∧(qa l:Int)≤(qa l:Int))=some () from if_pos (by rw[w]; omega),qh,zN.j7,
   pl15 (lastL l) 0 [] (fun x hx=>hm' x (vdZ hx)) (by have:=vdB h1; rw[qp]; omega) (by have:=vdB h1; rw[qp]; omega)]; rfl
 |x::q,A,i,he,ha,hs=>by
  rw[zN.l4,fits_eq (hs x (qG ..)),qh]
  cases hf:X0 fd.fType x with
  |false=>
   have:l.all (X0 fd.fType)=false:=by rw[he,List.all_append,qQ,hf,ub,qz]
   rw[this]; rfl
  |true=>
   rw[if_neg (by decide)]
   exact pl4 h1 hl hm q (A++[x]) _ (by rw[he,vaI]) (by rw[List.all_append,ha,qQ,hf]; rfl) fun z hz=>hs z (qB _ hz)
theorem pl8 {m:zz}:∀ (q:List zp) (i:Int) (acc:List zp),(∀ e∈q,1≤e.fTrees.length∧e.fTrees.length≤64)→
 (∀ e∈q,(zQ m e.fTag).2=true→selfF s (zQ m e.fTag).1 e.fTrees=some (if e.fTrees.all (X0 (zQ m e.fTag).1.fType) then (vcy f s (zQ m e.fTag).1 e.fTrees,vd1 (zQ m e.fTag).1 (vcy f s (zQ m e.fTag).1 e.fTrees)) else ([],false)))→
 acc.length+q.length≤100000→zS.l8 selfF s m q i acc=some ⟨3,0,[],acc++q.flatMap (vdU f s m),[]⟩
 |[],i,acc,_,_,_=>by rw[zS.l8,uo,qT]
 |e::q,i,acc,h1,hs,hl=>by
  rw[qk] at hl
  have ih:=fun acc' (h:acc'.length+q.length≤100000)=>pl8 q (i+1) acc' (fun z hz=>h1 z (qB _ hz)) (fun z hz=>hs z (qB _ hz)) h
  have he:=hs e (qG ..);rw[zS.l8,bnd,ua,vdU]
  cases hf:(zQ m e.fTag).2 with
  |false=>rw[qn,if_pos rfl,zS.j13,ih acc (by omega)]; rfl
  |true=>
   rw[qu,if_neg (by decide),he hf,qh,qX]
   cases ha:e.fTrees.all (X0 (zQ m e.fTag).1.fType) with
   |false=>simp only[qU,if_false]; rw[zS.j13,ih acc (by omega)]; rfl
   |true=>
    rw[if_pos rfl,if_pos rfl]
    dsimp only
    cases hk:vd1 (zQ m e.fTag).1 (vcy f s (zQ m e.fTag).1 e.fTrees) with
    |false=>rw[if_neg (by decide),if_neg (by decide),zS.j13,ih acc (by omega)]; rfl
    |true=>rw[if_pos rfl,if_pos rfl,Xp (by omega),qh,zS.j13,ih _ (by rw[qt,qZ]; omega),qP]
end
section
variable {selfO:zm→yY→zi→Option zi} {s:zm} {f:zz→zi→zi} {x4:Int} {l2:List zp} {rec8:Int→List zp→Option zi} {r16:yY×Bool} {e:zp}
theorem rl37 (h2:l2.length≤100000):∀ (X:List zi) (i:Int) (acc:List zi),(∀ x∈X,selfO s r16.1 x=some (vbC f s r16.1.fType x))→acc.length+X.length≤100000→1≤acc.length+X.length→
 zw.l37 selfO s x4 l2 rec8 r16 X i acc=rec8 (x4+1) (l2++if vd1 r16.1 (acc++X.map (vbC f s r16.1.fType)) then [⟨r16.1.fTag,acc++X.map (vbC f s r16.1.fType)⟩] else [])
 |[],i,acc,_,_,h1=>by
  rw[zw.l37,qq,qT,vd1]
  cases acc with
  |nil=>simp at h1
  |cons y acc=>
   have hc:((if r16.1.fLabel=1 then (Yl (y::acc) 0).bind fun y39=>bnd (vai y39) fun r42=>some (!r42) else some true):Option Bool)=some (!(decide (r16.1.fLabel=1)&&YF ((y::acc).headD vcZ))):=by
    by_cases hl:r16.1.fLabel=1
    · rw[if_pos hl,show Yl (y::acc) 0=some y from rfl,decide_eq_true hl,qX]; rfl
    rw[if_neg hl,decide_eq_false hl,ub]; rfl
   rw[hc,qh]
   cases hk:(!(decide (r16.1.fLabel=1)&&YF ((y::acc).headD vcZ))) with
   |false=>rw[if_neg (by decide),if_neg (by decide),qT]; rfl
   |true=>rw[if_pos rfl,if_pos rfl,Xp (by omega),qh]; rfl
 |x::X,i,acc,hm,hl,h1=>by
  rw[qk] at hl;rw[zw.l37,hm x (qG ..),qh,Xp (by omega),qh,rl37 h2 X _ _ (fun y hy=>hm y (qB _ hy)) (by rw[qt,qZ]; omega) (by rw[qt,qZ]; omega),qy,qP]
  rfl
theorem rl24 (h2:l2.length≤100000)(h1:1≤e.fTrees.length)(hl:e.fTrees.length≤100000)(hk:r16.2=true→1≤r16.1.fType.fKind∧r16.1.fType.fKind≤7)(hm:∀ x∈e.fTrees,X0 r16.1.fType x=true→selfO s r16.1 x=some (vbC f s r16.1.fType x)):
 ∀ (q A:List zi) (i:Int),e.fTrees=A++q→(∀ x∈q,x.fS.length≤30000)→
 zw.l24 selfO s x4 l2 rec8 e r16 q i (r16.2&&A.all (X0 r16.1.fType))=rec8 (x4+1) (l2++if r16.2&&e.fTrees.all (X0 r16.1.fType) then (if vd1 r16.1 (vcy f s r16.1 e.fTrees) then [⟨r16.1.fTag,vcy f s r16.1 e.fTrees⟩] else []) else [])
 |[],A,i,he,_=>by
  rw[zw.l24,he,qT,← he.trans (qT A)]
  cases hf:(r16.2&&e.fTrees.all (X0 r16.1.fType)) with
  |false=>rw[qn,if_pos rfl,if_neg (by decide),qT]; rfl
  |true=>
   obtain⟨_,hall⟩:=Bool.and_eq_true_iff.1 hf
   have hm':∀ x∈e.fTrees,selfO s r16.1 x=some (vbC f s r16.1.fType x):=fun x hx=>hm x hx (uk.1 hall x hx)
   obtain⟨w,c⟩:=last_cut h1 hl;rw[qu,if_neg (by decide),if_pos rfl,vcy]
   by_cases h3:r16.1.fLabel=3
   · rw[if_pos h3,if_pos h3,zw.j29,rl37 h2 e.fTrees 0 [] hm' (by simpa using hl) (by simpa using h1)]; rfl
   rw[if_neg h3,if_neg h3,c,show grd ((0:Int)≤IntKind.i64.wrap ((qa e.fTrees:Int)-1)∧IntKind.i64.wrap ((qa e.fTrees:Int)-1)≤(qa e.fTrees:Int)∧(qa e.fTrees:Int)≤(qa e.fTrees:Int))=some () from if_pos (by rw[w]; omega),qh,zw.j29,
    rl37 h2 (lastL e.fTrees) 0 [] (fun x hx=>hm' x (vdZ hx)) (by have:=vdB h1; rw[qp]; omega) (by have:=vdB h1; rw[qp]; omega)]; rfl
 |x::q,A,i,he,hs=>by
  have ih:=rl24 h2 h1 hl hk hm q (A++[x]) (i+1) (by rw[he,vaI]) fun z hz=>hs z (qB _ hz)
  rw[List.all_append,qQ,qW,qI] at ih;rw[zw.l24]
  cases hf:(r16.2&&A.all (X0 r16.1.fType)) with
  |false=>
   rw[if_neg (by decide),zw.j63,← ih,← Bool.and_assoc,hf,ub]
  |true=>
   obtain⟨h5,_⟩:=Bool.and_eq_true_iff.1 hf;rw[if_pos rfl,rfits_eq (hs x (qG ..)) (hk h5),qh,zw.j63,← ih,← Bool.and_assoc,hf,qX]
end
theorem rl8 {selfO:zm→yY→zi→Option zi}{s:zm}{f:zz→zi→zi}{m:zz}(hkm:kindsM m):∀ (q:List zp) (i:Int) (acc:List zp),(∀ e∈q,1≤e.fTrees.length∧e.fTrees.length≤64∧∀ x∈e.fTrees,x.fS.length≤30000)→
 (∀ e∈q,∀ x∈e.fTrees,X0 (zQ m e.fTag).1.fType x=true→selfO s (zQ m e.fTag).1 x=some (vbC f s (zQ m e.fTag).1.fType x))→
 acc.length+q.length≤100000→zw.l8 selfO s m q i acc=some ⟨3,0,[],acc++q.flatMap (vdU f s m),[]⟩
 |[],i,acc,_,_,_=>by rw[zw.l8,uo,qT]
 |e::q,i,acc,h1,hs,hl=>by
  rw[qk] at hl;obtain⟨a1,a2,a3⟩:=h1 e (qG ..)
  have ih:=fun acc' (h:acc'.length+q.length≤100000)=>rl8 hkm q (i+1) acc' (fun z hz=>h1 z (qB _ hz)) (fun z hz=>hs z (qB _ hz)) h
  rw[zw.l8,bnd,fieldR_eq];have h24:=rl24 (selfO:=selfO) (s:=s) (f:=f) (x4:=i) (l2:=acc) (rec8:=zw.l8 selfO s m q) (r16:=zQ m e.fTag) (e:=e) (by omega) a1 (by omega) (fun h=>hkm _ (vb8 h).2) (hs e (qG ..)) e.fTrees [] 0 rfl a3;rw[qW,qI] at h24;rw[h24,ua]
  have htag:(if (zQ m e.fTag).2&&e.fTrees.all (X0 (zQ m e.fTag).1.fType) then (if vd1 (zQ m e.fTag).1 (vcy f s (zQ m e.fTag).1 e.fTrees) then [(⟨(zQ m e.fTag).1.fTag,vcy f s (zQ m e.fTag).1 e.fTrees⟩:zp)] else []) else [])=vdU f s m e:=by
   rw[vdU]
   cases hf:(zQ m e.fTag).2 with
   |false=>rfl
   |true=>rw[(vb8 hf).1]
  rw[htag,ih _ (by
   rw[qt]
   have:(vdU f s m e).length≤1:=by
    unfold vdU
    repeat' split
    all_goals simp
   omega),qP]
theorem proj_eq {s:zm}(hks:kindsS s):∀ (d k j:Nat) (m:zz) (t:zi),kindsM m→Yy d t=true→t.fKind=3→2*d≤k→smT (d+j) t→zS k s m t=some (projT s d m t)∧zw k s m t=some (projT s d m t)
 |0,k,j,m,t,_,hr,h3,_,_=>by
  rw[Yy,vcF,if_neg (by omega),if_neg (by omega)] at hr; cases hr
 |d+1,k,j,m,t,hkm,hr,h3,hk,hsm=>by
  obtain⟨k,rfl⟩:∃ k',k=k'+2:=⟨k-2,by omega⟩
  obtain⟨hlen,hE,_,_,_⟩:=ents_len hr h3;have hmem:=vbT hE;rw[show d+1+j=(d+j)+1 by omega] at hsm
  have hsmx:∀ e∈t.fEntries,∀ x∈e.fTrees,smT (d+j) x:=fun e he=>(hsm.2.2 e he).2
  have hS:∀ e∈t.fEntries,∀ x∈e.fTrees,x.fS.length≤30000:=by
   intro e he x hx
   have:=hsmx e he x hx
   cases hd:d+j with
   |zero=>rw[hd] at this; exact this.elim
   |succ z=>rw[hd] at this; have:=this.2.1.2; omega
  have ih:∀ e∈t.fEntries,∀ x∈e.fTrees,∀ m',kindsM m'→x.fKind=3→zS k s m' x=some (projT s d m' x)∧zw k s m' x=some (projT s d m' x):=fun e he x hx m' hm' h3'=>
   proj_eq hks d k j m' x hm' ((hmem e he).2.2.2.2 x hx).2 h3' (by omega) (hsmx e he x hx)
  have k7:∀ (y:YE) (x:zi),y.fKind=7→X0 y x=true→x.fKind=3:=by
   intro y x h7 hf
   unfold X0 at hf;rw[if_neg (by omega),if_neg (by omega),if_neg (by omega),if_neg (by omega),if_neg (by omega),if_neg (by omega)] at hf;exact of_decide_eq_true hf
  constructor
  · rw[zS,zS.body,pl8 (f:=projT s d) t.fEntries 0 [] (fun e he=>⟨(hmem e he).2.2.1,(hmem e he).2.2.2.1⟩) (fun e he hf=>?_) (by rw[qp]; omega)]; · rfl
    rw[zN,zN.body];exact pl4 (hmem e he).2.2.1 (by have:=(hmem e he).2.2.2.1; omega) (fun x hx h7 hfx=>(ih e he x hx _ (vd0 hks _) (k7 _ _ h7 hfx)).1) e.fTrees [] 0 rfl rfl (hS e he)
  rw[zw,zw.body,rl8 (f:=projT s d) hkm t.fEntries 0 [] (fun e he=>⟨(hmem e he).2.2.1,(hmem e he).2.2.2.1,hS e he⟩) (fun e he x hx hfx=>?_) (by rw[qp]; omega)]; · rfl
  rw[Yf,Yf.body,vbC]
  by_cases h1:(zQ m e.fTag).1.fType.fKind=1
  · rw[if_pos h1,if_pos h1,bnd,clamp_eq]
    have hx1:x.fKind=1:=by unfold X0 at hfx; rw[if_pos h1] at hfx; exact of_decide_eq_true hfx
    have hrx:=((hmem e he).2.2.2.2 x hx).2
    have hlf:vcF x=true:=by
     cases d with
     |zero=>exact hrx
     |succ d=>rw[Yy,if_neg (by omega)] at hrx; exact hrx
    rw[vcF,if_pos hx1] at hlf;simp only[qs,decide_eq_true_eq] at hlf;rw[hx1,hlf.1.1,q1 (show x.fEntries.length=0 by omega),q1 (show x.fRest.length=0 by omega)]
  rw[if_neg h1,if_neg h1]
  by_cases h7:(zQ m e.fTag).1.fType.fKind=7
  · rw[if_pos h7,if_pos h7,bnd,vdY];have:=(ih e he x hx _ (vd0 hks (zQ m e.fTag).1.fType.fName) (k7 _ _ h7 hfx)).2
    rw[show (zP s (zQ m e.fTag).1.fType.fName).1=msgOf s (zQ m e.fTag).1.fType.fName from rfl,this]; rfl
  rw[if_neg h7,if_neg h7]
theorem projE_mem {f:zz→zi→zi}{s:zm}{m:zz}{e x:zp}(h:x∈vdU f s m e):e.fTrees.all (X0 (zQ m e.fTag).1.fType)=true∧x=⟨e.fTag,vcy f s (zQ m e.fTag).1 e.fTrees⟩:=by
 unfold vdU at h
 split at h
 · rename_i hc
   split at h
   · exact⟨(Bool.and_eq_true_iff.1 hc).2,List.mem_singleton.1 h⟩
   cases h
 cases h
theorem proj_deep {s:zm}:∀ (d:Nat) (m:zz) (t:zi),Yy d t=true→t.fKind=3→vcS d (projT s d m t)
 |0,m,t,hr,h3=>by rw[Yy,vcF,if_neg (by omega),if_neg (by omega)] at hr; cases hr
 |d+1,m,t,hr,h3=>by
  obtain⟨_,hE,_,_,_⟩:=ents_len hr h3
  intro y hy
  obtain⟨e',he',hye⟩:=List.mem_flatMap.1 hy;obtain⟨e,he,hx⟩:=List.mem_flatMap.1 (show e'∈t.fEntries.flatMap (vdU (projT s d) s m) from he');obtain⟨hall,rfl⟩:=projE_mem hx;obtain⟨x,hxm,rfl⟩:=uB.1 (show y∈(if (zQ m e.fTag).1.fLabel=3 then e.fTrees else lastL e.fTrees).map _ from hye)
  have hx':x∈e.fTrees:=by
   split at hxm
   · exact hxm
   exact vdZ hxm
  have hfx:=uk.1 hall x hx';have hrx:=((vbT hE e he).2.2.2.2 x hx').2
  have leaf:x.fKind≠3→x.fEntries=[]:=by
   intro hk
   have hlf:vcF x=true:=by
    cases d with
    |zero=>exact hrx
    |succ d=>rw[Yy,if_neg hk] at hrx; exact hrx
   unfold vcF at hlf
   split at hlf
   · simp only[qs,decide_eq_true_eq] at hlf; exact q1 (by omega)
   split at hlf
   · simp only[qs,decide_eq_true_eq] at hlf; exact q1 (by omega)
   cases hlf
  have nokids:∀ (z:zi),z.fEntries=[]→vcS d z:=by
   intro z hz
   have:kids z=[]:=kids_nil hz
   cases d with
   |zero=>exact this
   |succ d=>intro w hw; rw[this] at hw; cases hw
  unfold vbC
  split
  · rename_i h1
    refine nokids _ (leaf ?_)
    unfold X0 at hfx; rw[if_pos h1] at hfx
    have:=of_decide_eq_true hfx; omega
  split
  · rename_i h7
    unfold X0 at hfx;rw[if_neg (by omega),if_neg (by omega),if_neg (by omega),if_neg (by omega),if_neg (by omega),if_neg (by omega)] at hfx;exact proj_deep d _ x hrx (of_decide_eq_true hfx)
  rename_i h1 h7
  by_cases h3':x.fKind=3
  · exact right_deep d x hrx
  exact nokids _ (leaf h3')
def zTr : zi:=⟨0,0,[],[],[]⟩
theorem project_eq {s:zm}{n:List UInt8}{t:zi}(hs:nmS s)(hn:nm3 s)(hz:szT 10 t)(hsm:smT 14 t):∃ r,Zi s n t=some r∧ZI s n t=some r∧vcS 10 r.1:=by
 rw[Zi,ZI,check07_eq hn,chkV_eq hs,qh,qh,bnd,bnd,vdY,check_eq hz,ref09_Check_eq hz]
 have dz:vcS 10 zTr:=fun x hx=>by cases hx
 by_cases hc:chkV s=0
 · rw[if_pos hc,decide_eq_true hc]
   cases hm:(zP s n).2 with
   |false=>exact⟨_,rfl,rfl,dz⟩
   |true=>
    simp only[qu,qU,if_false,qh,ur]
    by_cases h3:t.fKind=3
    · simp only[decide_eq_true h3,qu,qU,if_false]
      cases hk:checkT t with
      |false=>exact⟨_,rfl,rfl,dz⟩
      |true=>
       have hr:Yy 10 t=true:=(Bool.and_eq_true_iff.1 hk).2;have hks:kindsS s:=kindsS_of (by rw[chkV_eq hs,hc]);obtain⟨e1,e2⟩:=proj_eq hks 10 yp 4 (zP s n).1 t (vd0 hks n) hr h3 (by have:=xJ; omega) hsm;simp only[qu,qU,if_false,e1,e2,qh];exact⟨_,rfl,rfl,proj_deep 10 _ t hr h3⟩
    rw[decide_eq_false h3,qn,if_pos rfl];exact⟨_,rfl,rfl,dz⟩
 rw[if_neg hc,decide_eq_false hc];refine⟨_,?_,rfl,dz⟩
 cases (zP s n).2 with
 |false=>rfl
 |true=>rfl
theorem awakeS : YV=some true:=by decide +kernel
theorem method_l (n:List UInt8):∀ (l:List Zk) (i j:Int),w5.l4 n l i=wa.l4 n l j
 |[],_,_=>rfl
 |y::l,i,j=>by rw[w5.l4,wa.l4,method_l n l (i+1) (j+1)]
def smR (y:vay):Prop:=smT 14 y.fIn∧smT 14 y.fOut
def szR (y:vay):Prop:=((∀ e,restT e y.fIn)→szT 10 y.fIn)∧((∀ e,restT e y.fOut)→szT 10 y.fOut)
theorem rows_l {L:List vay}:∀ (k j:Nat),40<k+j→j≤40→∃ b,ZN.l4 L k (j:Int)=some b∧(b=true→L.length≤40∧∀ (i:Nat) (h:i<L.length),j≤i→smR L[i])
 |0,j,h,h'=>by omega
 |k+1,j,h,h'=>by
  rw[ZN.l4]
  by_cases hj:j<L.length
  · by_cases h40:j<40
    · obtain⟨b1,e1,g1⟩:=Small_t L[j].fIn;obtain⟨b2,e2,g2⟩:=Small_t L[j].fOut
      have w:IntKind.i64.wrap ((j:Int)+1)=((j+1:Nat):Int):=by rw[IntKind.wrap_i64]; omega
      rw[if_pos (by rw[decide_eq_true (by omega),decide_eq_true (by omega)]; rfl),vbm hj,qh,e1,qh]
      cases b1 with
      |false=>exact⟨false,rfl,fun h=>by cases h⟩
      |true=>
       rw[qu,if_neg ul,e2,qh,qh]
       cases b2 with
       |false=>exact⟨false,rfl,fun h=>by cases h⟩
       |true=>
        rw[qu,if_neg ul,w];obtain⟨b,hb,hg⟩:=rows_l (L:=L) k (j+1) (by omega) (by omega);refine⟨b,hb,fun ht=>⟨(hg ht).1,fun i hi hji=>?_⟩⟩
        by_cases e:j=i
        · subst e; exact⟨g1 rfl,g2 rfl⟩
        exact (hg ht).2 i hi (by omega)
    rw[if_neg (by rw[decide_eq_false (show ¬ (j:Int)<40 by omega),qz]; decide),decide_eq_false (by omega)];exact⟨false,rfl,fun h=>by cases h⟩
  rw[if_neg (by rw[decide_eq_false (show ¬ (j:Int)<(qa L:Int) by omega),ub]; decide),decide_eq_true (by omega)];exact⟨true,rfl,fun _=>⟨by omega,fun i hi hji=>by omega⟩⟩
theorem rows_t (L:List vay):∃ b,ZN L=some b∧(b=true→L.length≤40∧∀ y∈L,smR y):=by
 obtain⟨b,hb,hg⟩:=rows_l (L:=L) yp 0 (by have:=xJ; omega) (by omega);refine⟨b,hb,fun h=>⟨(hg h).1,fun y hy=>?_⟩⟩;obtain⟨i,hi,rfl⟩:=List.getElem_of_mem hy;exact (hg h).2 i hi (ux _)
theorem rowsC_l : ∀ (q:List vay) (i:Int) (acc:List vay),(∀ y∈q,smR y)→acc.length+q.length≤1000→wP.l8 q i acc=some (acc++q)
 |[],i,acc,_,_=>by rw[wP.l8,qT]
 |y::q,i,acc,h,hl=>by
  rw[qk] at hl;obtain⟨h1,h2⟩:=h y (qG ..)
  rw[wP.l8,treeC 14 yp y.fIn (by have:=xJ; omega) h1,qh,treeC 14 yp y.fOut (by have:=xJ; omega) h2,qh,Xp (by omega),qh,
   rowsC_l q _ _ (fun z hz=>h z (qB _ hz)) (by rw[qt,qZ]; omega),qP]
  rfl
theorem rowsC {L:List vay}(h:∀ y∈L,smR y)(hl:L.length≤40):wP L=some L:=by
 rw[wP,rowsC_l L 0 [] h (by rw[qp]; omega),qC]
theorem answer_l {s:zm}{m:List UInt8}{t:zi}{r1:Zk×Bool}(hs:nmS s)(hn:nm3 s):∀ (q:List vay) (i j:Int),(∀ y∈q,smR y∧szT 10 y.fIn∧szT 10 y.fOut)→
 ∃ r,yO.l7 s m t r1 q i=some r∧wK.l7 s m t r1 q j=some r∧vcS 10 r
 |[],i,j,_=>⟨_,rfl,rfl,fun x hx=>by cases hx⟩
 |y::q,i,j,h=>by
  obtain⟨⟨h1,h2⟩,h3,h4⟩:=h y (qG ..);obtain⟨ri,a1,a2,a3⟩:=project_eq (n:=r1.1.fIn) hs hn h3 h1;obtain⟨ro,b1,b2,b3⟩:=project_eq (n:=r1.1.fOut) hs hn h4 h2
  have ih:=answer_l (m:=m) (t:=t) (r1:=r1) hs hn q (i+1) (j+1) fun z hz=>h z (qB _ hz)
  obtain⟨s1,s2⟩:=same_rounds (d:=10) t (by decide) a3;rw[yO.l7,wK.l7,a2,qh,b2,qh]
  by_cases hm:y.fMethod=m
  · rw[if_pos hm,a1,qh,b1,qh,decide_eq_true hm,qX,s1,s2]
    cases ri.2&&ro.2 with
    |false=>simpa only [qU,if_false,qh,yO.j10] using ih
    |true=>
     simp only[if_true,qh]
     cases sameT 10 ri.1 t with
     |false=>simpa only [qU,if_false,yO.j10] using ih
     |true=>exact⟨ro.1,rfl,rfl,b3⟩
  rw[if_neg hm,decide_eq_false hm]
  simpa only [ub,qU,if_false,qh,yO.j10] using ih
theorem answer_eq {s s':zm}{m:List UInt8}{t:zi}{L:List vay}(hs:nmS s)(hn:nm3 s)(hL:∀ y∈L,smR y∧szT 10 y.fIn∧szT 10 y.fOut):
 ∃ r,yO s s' L m t=some r∧wK s L m t=some r∧vcS 10 r:=by
 have hM:w5 s m=wa s m:=method_l _ _ _ _;rw[yO,wK,bnd,bnd,hM]
 cases hc:(wa s m).2 with
 |false=>exact⟨_,rfl,rfl,fun x hx=>by cases hx⟩
 |true=>
  rw[qu,if_neg ul,if_neg ul];exact answer_l hs hn L 0 0 hL
theorem answers_true {a0 a1:zm}{a2:List vay}{a3:List UInt8}{a4:zi}(hs0:szS a0)(hs1:szS a1)(hr:∀ y∈a2,szR y):law24_ServerAnswers a0 a1 a2 a3 a4=some true:=by
 obtain⟨f0,e0⟩:=few_t a0;obtain⟨f1,e1⟩:=few_t a1;obtain⟨f2,e2,g2⟩:=rows_t a2;obtain⟨f4,e4,g4⟩:=Small_t a4;rw[law24_ServerAnswers,e0,qh]
 cases f0 with
 |false=>simp only[qn,if_true,qh,awakeS]
 |true=>
 simp only[qu,qU,if_false,e1,qh]
 cases f1 with
 |false=>simp only[qn,if_true,qh,awakeS]
 |true=>
 simp only[qu,qU,if_false,e2,qh]
 cases f2 with
 |false=>simp only[qn,if_true,qh,awakeS]
 |true=>
 simp only[qu,qU,if_false,e4,qh]
 cases f4 with
 |false=>simp only[qn,if_true,qh,awakeS]
 |true=>
 have hn:=few_names hs0.1 e0;obtain⟨hl,hsm⟩:=g2 rfl;simp only[qu,qU,if_false,check07_eq hn,chkV_eq hs0.1,qh]
 by_cases hc:chkV a0=0
 · obtain⟨r,h1,h2,h3⟩:=answer_eq (s':=a1) (m:=a3) (t:=a4) hs0.1 hn (L:=a2) fun y hy=>
    ⟨hsm y hy,(hr y hy).1 fun e=>smT_rest 14 e _ (hsm y hy).1,(hr y hy).2 fun e=>smT_rest 14 e _ (hsm y hy).2⟩
   rw[decide_eq_true hc,qu,if_neg ul,schema_eq hs0,qh,schema_eq hs1,qh,rowsC hsm hl,qh,treeC 14 yp a4 (by have:=xJ; omega) (g4 rfl),qh,h1,qh,h2,qh,Same_refl (by decide) h3,qh,if_pos rfl,awakeS]
   rfl
 rw[decide_eq_false hc,qn,if_pos rfl,awakeS]; rfl
end
section
open Go.ChangeShapes Go.WideShapes Go.ChangeAt Go.RowKit Go.Shelf Go.Lib AM
theorem own : ownKnob Tryz.prog.godebug=none:=by kernel_rfl
theorem laidOut : laidOutB qf=true:=by kernel_rfl
def listed : List (String×DataW Unit):=[("unicode/utf8.acceptRanges",Rows.laid_unicode_utf8_acceptRanges),("unicode/utf8.first",Rows.laid_unicode_utf8_first)]
noncomputable def laidWorld (os:Os):World:=
 let w0:=World.holding qf os ⟨#[],#[],[]⟩
 let put (h:Array Obj) (g:Nat) (cs:Array Value):Array Obj:=h.modify g fun
  |.cells _ t frozen=>.cells cs t frozen
  |o=>o
 let h1:=put w0.heap (vc0.g 3) (Lib.firstTab.map fun z=>Value.int .u8 z).toArray
 let h2:=put h1 (vc0.g 4) ((uG 16).flatMap fun i=>[Value.int .u8 (Lib.accLo i),Value.int .u8 (Lib.accHi i)]).toArray
 { w0 with heap:=h2 }
theorem laid_met (os:Os)(args:Array Value):laidMet qf listed ((laidWorld os).forCall (fun _ _=>0) ⟨#[],args,[]⟩).memory:=
 (LaidIn.of_run (l:=listed) [0,1] 8 (by kernel_rfl) (by kernel_rfl) (by kernel_rfl) (by kernel_rfl)).met
theorem laid_metH (os:Os)(args:Array Value):laidMetH qf listed ((laidWorld os).forCall (fun _ _=>0) ⟨#[],args,[]⟩).memory:=laid_met os args
theorem firstD : Rows.laid_unicode_utf8_first=Lib.firstData:=by kernel_rfl
theorem acceptD : (Rows.laid_unicode_utf8_acceptRanges:DataW Unit)=Lib.acceptData:=by kernel_rfl
theorem u8types : U8Types qf vc0:=⟨vcp.t5,vcp.t119,vcp.t138,vcp.t139⟩
theorem glb_of_laid {W:World}(hL:laidMetH qf listed W):Glb W fun b=>b<W.heap.size:=by
 have h':laidMet qf listed W:=hL;have r1:=Lib.laidMet.reads h' (.tail _ (.head _));have r2:=Lib.laidMet.reads h' (.head _);rw[firstD] at r1;rw[acceptD] at r2;have ht:Lib.Utf8Tabs (vc0.g 3) (vc0.g 4) W:=utf8Tabs_of_readsT u8types ⟨by kernel_rfl,by kernel_rfl,by kernel_rfl,by kernel_rfl,by kernel_rfl,by kernel_rfl,by kernel_rfl⟩ r1 r2;obtain⟨t1,t2⟩:=ht
 have lt:∀ {g o:Nat} {v:Value},W.cell? ⟨g,o,none⟩=some v→g<W.heap.size:=by
  intro g o v h
  refine Nat.lt_of_not_le fun hle=>?_
  unfold World.cell? at h;rw[Array.getElem?_eq_none hle] at h;cases h
 refine⟨fun g vs hm=>?_,fun g vs hm i v hv=>?_⟩
 · rcases uc.1 hm with e|hm
   · cases e; exact lt (t1 0 (by decide))
   rcases uc.1 hm with e|hm
   · cases e; exact lt (t2 0 (by decide)).1
   cases hm
 rcases uc.1 hm with e|hm
 · cases e
   have hi:i<256:=by
    have:=(qO.1 hv).1; simpa using this
   rw[u9,List.getElem?_range hi] at hv;cases hv;exact t1 i hi
 rcases uc.1 hm with e|hm
 · cases e
   have hi:i<32:=by
    have:=(qO.1 hv).1; simpa using this
   rw[u9,List.getElem?_range hi] at hv;cases hv;have h1:=t2 (i / 2) (by omega)
   have:i % 2=0∨i % 2=1:=by omega
   rcases this with h|h
   · have e:2*(i / 2)=i:=by omega
     rw[e] at h1
     simp only[h,if_true]; exact h1.1
   have e:2*(i / 2)+1=i:=by omega
   rw[e] at h1
   simp only[h]; exact h1.2
 cases hm
end
section
namespace AM
open Go.RowKit Go.ChangeShapes Go.WideShapes Go.Deep
section
variable {H:Type} {enc:TypeId×Value→H} {P:Program} {w:World} {base:Nat} {spare:Nat→Bool} {held:Bool}
def OpensS (enc:TypeId×Value→H)(P:Program)(w:World)(base:Nat)(spare:Nat→Bool)(held:Bool)(N:Nat)(t:TypeId)(A:List AV→Prop):Prop:=
 ∀ n cs y,DataW.trod enc P w base spare held n t cs=some y→SizeOf.sizeOf y.1<N→(∀ x∈y.1.weights P t,x≤reachBytes)→∃ avs,avs.length=cs.length∧A avs∧∀ i,i<avs.length→VR (Env.start w) (gc avs i) (cs.getD i undef)
variable {N:Nat}
theorem OpensS.mono {t:TypeId}{A B:List AV→Prop}(h:OpensS enc P w base spare held N t A)(k:∀ l,A l→B l):OpensS enc P w base spare held N t B:=fun n cs y hy hN hs=>by
 obtain⟨avs,h1,h2,h3⟩:=h n cs y hy hN hs;exact⟨avs,h1,k _ h2,h3⟩
theorem OpensS.less {t:TypeId}{A:List AV→Prop}(h:OpensS enc P w base spare held (N+1) t A):OpensS enc P w base spare held N t A:=fun n cs y hy hN hs=>h n cs y hy (by omega) hs
theorem Opens.sized {t:TypeId}{A:List AV→Prop}(h:Opens enc P w base spare held t A):OpensS enc P w base spare held N t A:=fun n cs y hy _ _=>h n cs y hy
theorem opensS_string {t:TypeId}(ht:P.underlying t=some .string):OpensS enc P w base spare held N t fun l=>∃ s,l=[.str s]∧s.length≤reachBytes:=by
 intro n cs y hy _ hs
 obtain⟨m,rfl,hy,hl⟩:=DataW.trod_string ht hy;refine⟨[.str m.data.toList],rfl,⟨_,rfl,?_⟩,fun i hi=>by simp at hi; subst hi; exact .str _ _ rfl⟩;have:=hs m.data.toList.length (by subst hy; simp[DataW.weights])
 simpa using this
def tiles (P:Program):List Field→Nat→Nat→Bool
 |[],o,e=>o==e
 |f::l,o,e=>f.offset==o&&tiles P l (o+P.cellsOf f.type) e
theorem tile {cs:List Value}{A:Nat→List AV→Prop}:∀ (l:List Field) (o k e:Nat),tiles P l o e=true→
 (∀ j f,l[j]?=some f→∃ avs:List AV,avs.length=P.cellsOf f.type∧A (k+j) avs∧∀ i,i<avs.length→VR (Env.start w) (gc avs i) (cs.getD (f.offset+i) undef))→
 ∃ parts:List (List AV),parts.length=l.length∧(∀ j,j<l.length→A (k+j) (parts.getD j []))∧o+parts.flatten.length=e∧∀ i,i<parts.flatten.length→VR (Env.start w) (gc parts.flatten i) (cs.getD (o+i) undef)
 |[],o,k,e,h,_=>⟨[],rfl,(fun j hj=>by simp at hj),by simpa [tiles] using h,(fun i hi=>by simp at hi)⟩
 |f::l,o,k,e,h,hA=>by
  simp only[tiles,qs,beq_iff_eq] at h;obtain⟨avs,a1,a2,a3⟩:=hA 0 f rfl
  obtain⟨parts,p1,p2,p3,p4⟩:=tile l (o+P.cellsOf f.type) (k+1) e h.2 fun j g hg=>by
   obtain⟨x,x1,x2,x3⟩:=hA (j+1) g (by simpa using hg);exact⟨x,x1,by rw[show k+1+j=k+(j+1) by omega]; exact x2,x3⟩
  refine⟨avs::parts,by simp[p1],?_,by rw[List.flatten_cons,qt]; omega,?_⟩
  · intro j hj
    cases j with
    |zero=>simpa using a2
    |succ j=>
     have:=p2 j (by simpa using hj);rw[show k+1+j=k+(j+1) by omega] at this
     simpa using this
  intro i hi
  rw[List.flatten_cons] at hi ⊢
  by_cases hlt:i<avs.length
  · have:=a3 i hlt;rw[h.1] at this;rw[gc,qx,qR hlt]
    simpa [gc,qx] using this
  rw[qt] at hi;have:=p4 (i-avs.length) (by omega);rw[show o+P.cellsOf f.type+(i-avs.length)=o+i by omega] at this;rw[gc,qx,uj (by omega)]
  simpa [gc,qx] using this
theorem mem_weightsEach {x:Nat}:∀ {ts:List TypeId} {ds:List (DataW H)} (j:Nat) (t:TypeId) (d:DataW H),ts[j]?=some t→ds[j]?=some d→x∈d.weights P t→x∈DataW.weightsEach P ts ds
 |[],_,j,t,d,h,_,_=>by simp at h
 |_::_,[],j,t,d,_,h,_=>by simp at h
 |t'::ts,d'::ds,j,t,d,ht,hd,hx=>by
  rw[DataW.weightsEach,u4]
  cases j with
  |zero=>
   simp at ht hd; subst ht hd; exact Or.inl hx
  |succ j=>exact Or.inr (mem_weightsEach j t d (by simpa using ht) (by simpa using hd) hx)
theorem vb2 {x:Nat}{e:TypeId}:∀ {ds:List (DataW H)} {d:DataW H},d∈ds→x∈d.weights P e→x∈DataW.weightsAll P e ds
 |[],_,h,_=>by cases h
 |d'::ds,d,h,hx=>by
  rw[DataW.weightsAll,u4]
  rcases uc.1 h with rfl|h
  · exact Or.inl hx
  exact Or.inr (vb2 h hx)
theorem Zj {t:TypeId}{fs:Array Field}(ht:P.underlying t=some (.struct fs))(hC:tiles P fs.toList 0 (P.cellsOf t)=true){A:Nat→List AV→Prop}
 (hA:∀ j f,fs[j]?=some f→OpensS enc P w base spare held N f.type (A j)):OpensS enc P w base spare held (N+1) t fun l=>∃ parts:List (List AV),l=parts.flatten∧parts.length=fs.size∧∀ j,j<fs.size→A j (parts.getD j []):=by
 intro n cs y hy hN hs
 obtain⟨ys,n',_,he,hlen,hyl,hf⟩:=DataW.trod_struct ht hy
 have hends:∀ (l:List Field) (o e:Nat),tiles P l o e=true→o≤e∧∀ (j:Nat) (f:Field),l[j]?=some f→f.offset+P.cellsOf f.type≤e:=by
  intro l
  induction l with
  |nil=>intro o e h; simp[tiles] at h; exact⟨by omega,fun j f h=>by simp at h⟩
  |cons f l ih=>
   intro o e h
   simp only[tiles,qs,beq_iff_eq] at h;obtain⟨h1,h2⟩:=ih _ _ h.2;refine⟨by omega,fun j g hg=>?_⟩
   cases j with
   |zero=>simp at hg; subst hg; omega
   |succ j=>exact h2 j g (by simpa using hg)
 obtain⟨parts,p1,p2,p3,p4⟩:=tile (w:=w) (cs:=cs) (A:=A) fs.toList 0 0 (P.cellsOf t) hC fun j f hj=>by
  have hfj:fs[j]?=some f:=by simpa using hj
  have hlt:j<fs.size:=(Array.getElem?_eq_some_iff.1 hfj).1;have h1:=hf j f hfj;rw[qY (by omega)] at h1;have hend:=(hends _ _ _ hC).2 j f hj;have hm:ys[j]'(by omega)∈ys:=List.getElem_mem _
  have hsz:SizeOf.sizeOf (ys[j]'(by omega)).1<N:=by
   have h2:(ys[j]'(by omega)).1∈ys.map (·.1):=List.mem_map_of_mem hm;have h3:=List.sizeOf_lt_of_mem h2;rw[he] at hN;simp only[DataW.agg.sizeOf_spec] at hN
   omega
  obtain⟨avs,e1,e2,e3⟩:=hA j f hfj _ _ _ h1 hsz fun x hx=>hs x (by
   rw[he,DataW.weights,ht]
   exact mem_weightsEach j f.type _ (by simp[hj]) (by rw[u9,qY (by omega)]; rfl) hx)
  have hl1:avs.length=P.cellsOf f.type:=by rw[e1,u0,uT]; omega
  refine⟨avs,hl1,by rw[ql]; exact e2,fun i hi=>?_⟩;have h4:=e3 i hi
  have h5:((cs.drop f.offset).take (P.cellsOf f.type)).getD i undef=cs.getD (f.offset+i) undef:=by
   simp only[qx];rw[List.getElem?_take_of_lt (by omega),List.getElem?_drop]
  rw[h5] at h4; exact h4
 refine⟨parts.flatten,by omega,⟨parts,rfl,by simpa using p1,fun j hj=>?_⟩,fun i hi=>?_⟩
 · have:=p2 j (by simpa using hj)
   rwa [ql] at this
 have:=p4 i hi
 rwa [ql] at this
theorem ZL {t e:TypeId}(ht:P.underlying t=some (.slice e))(hpos:0<P.cellsOf e){A:List AV→Prop}(hA:OpensS enc P w base spare held N e A):
 OpensS enc P w base spare held (N+1) t fun l=>∃ es,l=[.ds true (List.flatten es) (qa es) false]∧(∀ x∈es,A x∧x.length=P.cellsOf e)∧es.length*P.bytesOf e≤reachBytes∧es.length≤maxLen:=by
 intro n cs y hy hN hs
 rcases open_slice ht hy with ⟨rfl,_⟩|⟨a,len,cap,m,n',D,Pl,rfl,_,hl,hm,hmm,hye,hi⟩
 · refine⟨[.ds true [] 0 false],rfl,⟨[],by simp,by simp,by simp,by simp⟩,fun i hi=>?_⟩
   simp at hi; subst hi; exact .dsn _
 have hlm:len≤m:=by rw[hmm]; split<;>omega
 have hlen:len*P.bytesOf e≤reachBytes:=by
  have:=hs ((((uG len).map D).length+((uG (m-len)).map fun j=>D (len+j)).length)*P.bytesOf e) (by rw[hye]; simp only[DataW.weights,ht]; exact qG ..);rw[ud,List.length_range] at this;exact uv (uf _ (Nat.le_add_right _ _)) this
 have each:∀ i,i<len→∃ avs:List AV,avs.length=P.cellsOf e∧A avs∧∀ j,j<avs.length→∃ v,w.cell? ((a.add (i*P.cellsOf e)).add j)=some v∧VR (Env.start w) (gc avs j) v:=by
  intro i hil
  obtain⟨cs',h1,h2⟩:=hi i (by omega);obtain⟨_,hcl,hat⟩:=World.cells?_some h1;have hmem:D i∈(uG len).map D:=List.mem_map_of_mem (List.mem_range.2 hil)
  have hsz:SizeOf.sizeOf (D i)<N:=by
   have h3:=List.sizeOf_lt_of_mem hmem;rw[hye] at hN;simp only[DataW.slice.sizeOf_spec] at hN
   omega
  obtain⟨avs,e1,e2,e3⟩:=hA _ _ _ h2 hsz fun x hx=>hs x (by
   rw[hye]; simp only[DataW.weights,ht]
   exact qB _ (uL _ (vb2 hmem hx)))
  refine⟨avs,by omega,e2,fun j hj=>⟨cs'.getD j undef,?_,e3 j hj⟩⟩
  rw[hat j (by omega),qx,qY (by omega)]; rfl
 obtain⟨g,hg⟩:=Classical.axiomOfChoice (r:=fun (i:Fin len) (avs:List AV)=>avs.length=P.cellsOf e∧A avs∧∀ j,j<avs.length→∃ v,w.cell? ((a.add (i.1*P.cellsOf e)).add j)=some v∧VR (Env.start w) (gc avs j) v) (fun i=>each i.1 i.2)
 have hes:∀ x∈List.ofFn g,A x∧x.length=P.cellsOf e:=by
  intro x hx
  obtain⟨i,rfl⟩:=List.mem_ofFn.1 hx;exact⟨(hg i).2.1,(hg i).1⟩
 refine⟨[.ds true (List.ofFn g).flatten (List.ofFn g).length false],rfl,⟨_,rfl,hes,by simpa using hlen,by simp; omega⟩,fun i hi=>?_⟩
 simp at hi; subst hi
 have hfl:=length_flat (es:=List.ofFn g) (sz:=P.cellsOf e) fun x hx=>(hes x hx).2
 have hsp:(List.ofFn g).flatten.length≠0→a.spot=none:=by
  intro h0
  rw[hfl] at h0
  have hl0:0<len:=by
   rcases Nat.eq_zero_or_pos len with h|h
   · subst h; simp at h0
   exact h
  obtain⟨v,h1,_⟩:=(hg ⟨0,hl0⟩).2.2 0 (by rw[(hg ⟨0,hl0⟩).1]; exact hpos);have:=World.cell?_spot h1
  simpa [Addr.add] using this
 have hcell:∀ k,k<(List.ofFn g).flatten.length→∃ v,w.cell? ⟨a.block,a.off+k,none⟩=some v∧VR (Env.start w) (gc (List.ofFn g).flatten k) v:=by
  intro k hk
  have hs:=hsp (by omega);rw[hfl] at hk;simp only[List.length_ofFn] at hk;have hd:k / P.cellsOf e<len:=Nat.div_lt_of_lt_mul (by rw[Nat.mul_comm]; exact hk);have hmd:k % P.cellsOf e<P.cellsOf e:=Nat.mod_lt _ hpos
  have hsplit:k / P.cellsOf e*P.cellsOf e+k % P.cellsOf e=k:=by rw[Nat.mul_comm]; exact Nat.div_add_mod _ _
  obtain⟨v,h1,h2⟩:=(hg ⟨_,hd⟩).2.2 (k % P.cellsOf e) (by rw[(hg ⟨_,hd⟩).1]; exact hmd);refine⟨v,?_,?_⟩
  · rw[add_spot hs,add_spot rfl] at h1;simp only at h1
    rw[Nat.add_assoc,hsplit] at h1; exact h1
  have:=gc_flat (es:=List.ofFn g) (fun x hx=>(hes x hx).2) (k / P.cellsOf e) (k % P.cellsOf e) hmd (by simpa using hd);rw[hsplit] at this
  rw[this]; simpa using h2
 obtain⟨vs,hvs⟩:∃ vs:Nat→Value,∀ k,k<(List.ofFn g).flatten.length→w.cell? ⟨a.block,a.off+k,none⟩=some (vs k)∧VR (Env.start w) (gc (List.ofFn g).flatten k) (vs k):=by
  refine⟨fun k=>(w.cell? ⟨a.block,a.off+k,none⟩).getD undef,fun k hk=>?_⟩;obtain⟨v,h1,h2⟩:=hcell k hk
  simp only[h1,uJ]; exact⟨trivial,h2⟩
 show VR (Env.start w) (.ds true _ _ false) (.slice (some a) len cap)
 rw[List.length_ofFn];refine .ds _ _ _ _ a cap vs ?_ ?_ (fun k hk=>(hvs k hk).2) hl (fun h=>by cases h) ?_
 · by_cases h0:(List.ofFn g).flatten.length=0
   · exact .inl (qH.1 h0)
   exact .inr (hsp h0)
 · by_cases h0:(List.ofFn g).flatten.length=0
   · exact .inl h0
   refine .inr ⟨?_,fun k hk=>(hvs k hk).1⟩;obtain⟨_,h,_⟩:=hcell 0 (by omega);exact cell_lt (a:=⟨a.block,a.off+0,none⟩) h
 unfold maxLen at *; omega
theorem OpensS.arg {t:TypeId}{A:List AV→Prop}(h:∀ N,OpensS enc P w base spare held N t A){v:Value}{d:DataW H}{p:List MemPlace}(hv:DataW.Trod enc P w base spare held t v d p)(hw:∀ x∈d.weights P t,x≤reachBytes)(h1:v.cells.toList=[v]):∃ a,A [a]∧VR (Env.start w) a v:=by
 obtain⟨n,hn⟩:=hv;obtain⟨avs,e1,e2,e3⟩:=h _ _ _ _ hn (qo _) hw;rw[h1] at e1 e3
 match avs,e1 with
 |[a],_=>exact⟨a,e2,by simpa [gc] using e3 0 (by simp)⟩
theorem OpensS.agg {t:TypeId}{A:List AV→Prop}(h:∀ N,OpensS enc P w base spare held N t A){vs:Array Value}{d:DataW H}{p:List MemPlace}(hv:DataW.Trod enc P w base spare held t (.agg vs) d p)(hw:∀ x∈d.weights P t,x≤reachBytes):∃ l,A l∧VR (Env.start w) (.agg l) (.agg vs):=by
 obtain⟨n,hn⟩:=hv;obtain⟨avs,e1,e2,e3⟩:=h _ _ _ _ hn (qo _) hw;refine⟨avs,e2,.agg _ _ (by simpa [Value.cells] using e1.symm) fun i hi=>?_⟩;have:=e3 i hi
 simpa [Value.cells,qx,uE] using this
end
end AM
open AM
theorem vaM {α:Type}{e:α→List AV}{p:α→Prop}{es:List (List AV)}(h:∀ x∈es,∃ y:α,x=e y∧p y):∃ zs:List α,es.flatten=zs.flatMap e∧zs.length=es.length∧∀ z∈zs,p z:=by
 induction es with
 |nil=>exact⟨[],rfl,rfl,fun z hz=>by cases hz⟩
 |cons x es ih=>
  obtain⟨zs,h1,h2,h3⟩:=ih fun y hy=>h y (by simp[hy])
  obtain⟨y,rfl,hp⟩:=h x (by simp);refine⟨y::zs,by simp[h1],by simp[h2],fun z hz=>?_⟩
  rcases uc.1 hz with rfl|hz
  · exact hp
  exact h3 z hz
def vdu (n:Int):Prop := -9223372036854775808≤n∧n<9223372036854775808
theorem wf64 {n:Int}(h:(Lit.int .i64 n).wf=true):vdu n:=by
 simp only[Lit.wf,IntKind.min,IntKind.max,IntKind.signed,IntKind.bits,qs,decide_eq_true_eq,if_true] at h
 unfold vdu; omega
section
variable {H:Type} {enc:TypeId×Value→H} {w:World} {base:Nat} {spare:Nat→Bool} {held:Bool} {N:Nat}
theorem Yh : OpensS enc qf w base spare held N 3 fun x=>∃ n,x=[.int .i64 n]∧vdu n:=
 ((opens_int Tryz.underlying3).mono fun x ⟨n,h1,h2⟩=>⟨n,h1,wf64 h2⟩).sized
theorem opens_str : OpensS enc qf w base spare held N 9 fun x=>∃ s,x=[.str s]∧s.length≤140737488351232:=opensS_string Tryz.underlying9
theorem opens_ints (N:Nat):OpensS enc qf w base spare held N 26 fun x=>∃ zs:List Int,x=[AV.ds true (zs.flatMap ZC) zs.length false]∧zs.length*8≤140737488351232∧∀ z∈zs,vdu z:=by
 refine ((ZL (N:=N) Tryz.underlying26 (by decide +kernel) Yh).mono ?_).less;rintro x ⟨es,rfl,h1,h2,_⟩
 obtain⟨l,e1,e2,e3⟩:=vaM (e:=ZC) (p:=vdu) fun y hy=>(h1 y hy).1
 rw[show Tryz.prog.bytesOf 3=8 by kernel_rfl] at h2;exact⟨l,by rw[e1,e2],by rw[e2]; exact h2,e3⟩
end
end
section
open AM
section
variable {H:Type} {enc:TypeId×Value→H} {w:World} {base:Nat} {spare:Nat→Bool} {held:Bool}
def okRaw (y:xF):Prop:=vdu y.fTag∧vdu y.fWire∧vdu y.fN∧y.fB.length≤140737488351232
theorem opens_raw (N:Nat):OpensS enc qf w base spare held N 139 fun x=>∃ y:xF,x=zA y∧okRaw y:=by
 refine ((Zj (N:=N) (A:=fun j x=>if j<3 then ∃ n,x=[.int .i64 n]∧vdu n else ∃ s,x=[.str s]∧s.length≤140737488351232) Tryz.underlying139 (by decide +kernel) ?_).mono ?_).less
 · intro j f hf
   match j with
   |0=>cases hf; exact Yh
   |1=>cases hf; exact Yh
   |2=>cases hf; exact Yh
   |3=>cases hf; exact opens_str
   |j+4=>simp at hf
 rintro x ⟨parts,rfl,hl,hx⟩;obtain⟨a,e0,w0⟩:=hx 0 (by decide);obtain⟨b,e1,w1⟩:=hx 1 (by decide);obtain⟨c,e2,w2⟩:=hx 2 (by decide);obtain⟨d,e3,w3⟩:=hx 3 (by decide);refine⟨⟨a,b,c,d⟩,?_,w0,w1,w2,w3⟩
 match parts,hl with
 |[p,q,r,s],_=>
  simp only[uM,uN] at e0 e1 e2 e3
  subst e0 e1 e2 e3; rfl
theorem opens_raws (N:Nat):OpensS enc qf w base spare held N 35 fun x=>∃ zs:List xF,x=[AV.ds true (zs.flatMap zA) zs.length false]∧zs.length*40≤140737488351232∧∀ y∈zs,okRaw y:=by
 refine ((ZL (N:=N) Tryz.underlying35 (by decide +kernel) (opens_raw N)).mono ?_).less;rintro x ⟨es,rfl,h1,h2,_⟩
 obtain⟨l,e1,e2,e3⟩:=vaM fun y hy=>(h1 y hy).1
 rw[show Tryz.prog.bytesOf 139=40 by kernel_rfl] at h2;exact⟨l,by rw[e1,e2],by rw[e2]; exact h2,e3⟩
end
def okType (y:YE):Prop:=vdu y.fKind∧y.fName.length≤140737488351232
def okField (y:yY):Prop:=y.fName.length≤140737488351232∧vdu y.fTag∧vdu y.fLabel∧okType y.fType
def vcC (y:zz):Prop:=y.fName.length≤140737488351232∧(y.fFields.length*56≤140737488351232∧∀ v∈y.fFields,okField v)∧(y.fReserved.length*8≤140737488351232∧∀ v∈y.fReserved,vdu v)
def okNamed (y:Zx):Prop:=y.fName.length≤140737488351232∧vdu y.fN
def X9 (y:zT):Prop:=y.fName.length≤140737488351232∧(y.fValues.length*24≤140737488351232∧∀ v∈y.fValues,okNamed v)
def vdz (y:Zk):Prop:=y.fName.length≤140737488351232∧y.fIn.length≤140737488351232∧y.fOut.length≤140737488351232
def okSchema (y:zm):Prop:=y.fName.length≤140737488351232∧(y.fMessages.length*64≤140737488351232∧∀ v∈y.fMessages,vcC v)∧(y.fEnums.length*40≤140737488351232∧∀ v∈y.fEnums,X9 v)∧(y.fMethods.length*48≤140737488351232∧∀ v∈y.fMethods,vdz v)
section
variable {H:Type} {enc:TypeId×Value→H} {w:World} {base:Nat} {spare:Nat→Bool} {held:Bool}
theorem opens_Type (N:Nat):OpensS enc qf w base spare held N 124 fun x=>∃ y:YE,x=wd y∧okType y:=by
 refine ((Zj (N:=N) (A:=fun j x=>if j=0 then ∃ z:Int,x=[.int .i64 z]∧vdu z else if j=1 then ∃ z:List UInt8,x=[.str z]∧z.length≤140737488351232 else False) Tryz.underlying124 (by decide +kernel) ?_).mono ?_).less
 · intro j f hf
   match j with
   |0=>cases hf; exact Yh
   |1=>cases hf; exact opens_str
   |j+2=>simp at hf
 rintro x ⟨parts,rfl,hl,hx⟩;obtain⟨a0,e0,w0⟩:=hx 0 (by decide);obtain⟨a1,e1,w1⟩:=hx 1 (by decide);refine⟨⟨a0,a1⟩,?_,w0,w1⟩
 match parts,hl with
 |[p0,p1],_=>
  simp only[uM,uN] at e0 e1
  subst e0 e1; rfl
theorem opens_Field (N:Nat):OpensS enc qf w base spare held N 126 fun x=>∃ y:yY,x=z7 y∧okField y:=by
 refine ((Zj (N:=N) (A:=fun j x=>if j=0 then ∃ z:List UInt8,x=[.str z]∧z.length≤140737488351232 else if j=1 then ∃ z:Int,x=[.int .i64 z]∧vdu z else if j=2 then ∃ z:Int,x=[.int .i64 z]∧vdu z else if j=3 then ∃ z:YE,x=wd z∧okType z else False) Tryz.underlying126 (by decide +kernel) ?_).mono ?_).less
 · intro j f hf
   match j with
   |0=>cases hf; exact opens_str
   |1=>cases hf; exact Yh
   |2=>cases hf; exact Yh
   |3=>cases hf; exact opens_Type N
   |j+4=>simp at hf
 rintro x ⟨parts,rfl,hl,hx⟩;obtain⟨a0,e0,w0⟩:=hx 0 (by decide);obtain⟨a1,e1,w1⟩:=hx 1 (by decide);obtain⟨a2,e2,w2⟩:=hx 2 (by decide);obtain⟨a3,e3,w3⟩:=hx 3 (by decide);refine⟨⟨a0,a1,a2,a3⟩,?_,w0,w1,w2,w3⟩
 match parts,hl with
 |[p0,p1,p2,p3],_=>
  simp only[uM,uN] at e0 e1 e2 e3
  subst e0 e1 e2 e3; rfl
theorem opens_Fields (N:Nat):OpensS enc qf w base spare held N 127 fun x=>∃ zs:List yY,x=[AV.ds true (zs.flatMap z7) zs.length false]∧zs.length*56≤140737488351232∧∀ y∈zs,okField y:=by
 refine ((ZL (N:=N) Tryz.underlying127 (by decide +kernel) (opens_Field N)).mono ?_).less;rintro x ⟨es,rfl,h1,h2,_⟩
 obtain⟨l,e1,e2,e3⟩:=vaM fun y hy=>(h1 y hy).1
 rw[show Tryz.prog.bytesOf 126=56 by kernel_rfl] at h2;exact⟨l,by rw[e1,e2],by rw[e2]; exact h2,e3⟩
theorem opens_Message (N:Nat):OpensS enc qf w base spare held N 129 fun x=>∃ y:zz,x=ze y∧vcC y:=by
 refine ((Zj (N:=N) (A:=fun j x=>if j=0 then ∃ z:List UInt8,x=[.str z]∧z.length≤140737488351232 else if j=1 then ∃ z:List yY,x=[AV.ds true (qb z7 z) (qa z) false]∧(z.length*56≤140737488351232∧∀ v∈z,okField v) else if j=2 then ∃ z:List Int,x=[AV.ds true (qb ZC z) (qa z) false]∧(z.length*8≤140737488351232∧∀ v∈z,vdu v) else False) Tryz.underlying129 (by decide +kernel) ?_).mono ?_).less
 · intro j f hf
   match j with
   |0=>cases hf; exact opens_str
   |1=>cases hf; exact opens_Fields N
   |2=>cases hf; exact opens_ints N
   |j+3=>simp at hf
 rintro x ⟨parts,rfl,hl,hx⟩;obtain⟨a0,e0,w0⟩:=hx 0 (by decide);obtain⟨a1,e1,w1⟩:=hx 1 (by decide);obtain⟨a2,e2,w2⟩:=hx 2 (by decide);refine⟨⟨a0,a1,a2⟩,?_,w0,w1,w2⟩
 match parts,hl with
 |[p0,p1,p2],_=>
  simp only[uM,uN] at e0 e1 e2
  subst e0 e1 e2; rfl
theorem opens_Messages (N:Nat):OpensS enc qf w base spare held N 27 fun x=>∃ zs:List zz,x=[AV.ds true (zs.flatMap ze) zs.length false]∧zs.length*64≤140737488351232∧∀ y∈zs,vcC y:=by
 refine ((ZL (N:=N) Tryz.underlying27 (by decide +kernel) (opens_Message N)).mono ?_).less;rintro x ⟨es,rfl,h1,h2,_⟩
 obtain⟨l,e1,e2,e3⟩:=vaM fun y hy=>(h1 y hy).1
 rw[show Tryz.prog.bytesOf 129=64 by kernel_rfl] at h2;exact⟨l,by rw[e1,e2],by rw[e2]; exact h2,e3⟩
theorem opens_Named (N:Nat):OpensS enc qf w base spare held N 144 fun x=>∃ y:Zx,x=wS y∧okNamed y:=by
 refine ((Zj (N:=N) (A:=fun j x=>if j=0 then ∃ z:List UInt8,x=[.str z]∧z.length≤140737488351232 else if j=1 then ∃ z:Int,x=[.int .i64 z]∧vdu z else False) Tryz.underlying144 (by decide +kernel) ?_).mono ?_).less
 · intro j f hf
   match j with
   |0=>cases hf; exact opens_str
   |1=>cases hf; exact Yh
   |j+2=>simp at hf
 rintro x ⟨parts,rfl,hl,hx⟩;obtain⟨a0,e0,w0⟩:=hx 0 (by decide);obtain⟨a1,e1,w1⟩:=hx 1 (by decide);refine⟨⟨a0,a1⟩,?_,w0,w1⟩
 match parts,hl with
 |[p0,p1],_=>
  simp only[uM,uN] at e0 e1
  subst e0 e1; rfl
theorem opens_Nameds (N:Nat):OpensS enc qf w base spare held N 140 fun x=>∃ zs:List Zx,x=[AV.ds true (zs.flatMap wS) zs.length false]∧zs.length*24≤140737488351232∧∀ y∈zs,okNamed y:=by
 refine ((ZL (N:=N) Tryz.underlying140 (by decide +kernel) (opens_Named N)).mono ?_).less;rintro x ⟨es,rfl,h1,h2,_⟩
 obtain⟨l,e1,e2,e3⟩:=vaM fun y hy=>(h1 y hy).1
 rw[show Tryz.prog.bytesOf 144=24 by kernel_rfl] at h2;exact⟨l,by rw[e1,e2],by rw[e2]; exact h2,e3⟩
theorem vc5 (N:Nat):OpensS enc qf w base spare held N 142 fun x=>∃ y:zT,x=zh y∧X9 y:=by
 refine ((Zj (N:=N) (A:=fun j x=>if j=0 then ∃ z:List UInt8,x=[.str z]∧z.length≤140737488351232 else if j=1 then ∃ z:List Zx,x=[AV.ds true (qb wS z) (qa z) false]∧(z.length*24≤140737488351232∧∀ v∈z,okNamed v) else False) Tryz.underlying142 (by decide +kernel) ?_).mono ?_).less
 · intro j f hf
   match j with
   |0=>cases hf; exact opens_str
   |1=>cases hf; exact opens_Nameds N
   |j+2=>simp at hf
 rintro x ⟨parts,rfl,hl,hx⟩;obtain⟨a0,e0,w0⟩:=hx 0 (by decide);obtain⟨a1,e1,w1⟩:=hx 1 (by decide);refine⟨⟨a0,a1⟩,?_,w0,w1⟩
 match parts,hl with
 |[p0,p1],_=>
  simp only[uM,uN] at e0 e1
  subst e0 e1; rfl
theorem vcA (N:Nat):OpensS enc qf w base spare held N 28 fun x=>∃ zs:List zT,x=[AV.ds true (zs.flatMap zh) zs.length false]∧zs.length*40≤140737488351232∧∀ y∈zs,X9 y:=by
 refine ((ZL (N:=N) Tryz.underlying28 (by decide +kernel) (vc5 N)).mono ?_).less;rintro x ⟨es,rfl,h1,h2,_⟩
 obtain⟨l,e1,e2,e3⟩:=vaM fun y hy=>(h1 y hy).1
 rw[show Tryz.prog.bytesOf 142=40 by kernel_rfl] at h2;exact⟨l,by rw[e1,e2],by rw[e2]; exact h2,e3⟩
theorem opens_Method (N:Nat):OpensS enc qf w base spare held N 61 fun x=>∃ y:Zk,x=zv y∧vdz y:=by
 refine ((Zj (N:=N) (A:=fun j x=>if j=0 then ∃ z:List UInt8,x=[.str z]∧z.length≤140737488351232 else if j=1 then ∃ z:List UInt8,x=[.str z]∧z.length≤140737488351232 else if j=2 then ∃ z:List UInt8,x=[.str z]∧z.length≤140737488351232 else False) Tryz.underlying61 (by decide +kernel) ?_).mono ?_).less
 · intro j f hf
   match j with
   |0=>cases hf; exact opens_str
   |1=>cases hf; exact opens_str
   |2=>cases hf; exact opens_str
   |j+3=>simp at hf
 rintro x ⟨parts,rfl,hl,hx⟩;obtain⟨a0,e0,w0⟩:=hx 0 (by decide);obtain⟨a1,e1,w1⟩:=hx 1 (by decide);obtain⟨a2,e2,w2⟩:=hx 2 (by decide);refine⟨⟨a0,a1,a2⟩,?_,w0,w1,w2⟩
 match parts,hl with
 |[p0,p1,p2],_=>
  simp only[uM,uN] at e0 e1 e2
  subst e0 e1 e2; rfl
theorem opens_Methods (N:Nat):OpensS enc qf w base spare held N 29 fun x=>∃ zs:List Zk,x=[AV.ds true (zs.flatMap zv) zs.length false]∧zs.length*48≤140737488351232∧∀ y∈zs,vdz y:=by
 refine ((ZL (N:=N) Tryz.underlying29 (by decide +kernel) (opens_Method N)).mono ?_).less;rintro x ⟨es,rfl,h1,h2,_⟩
 obtain⟨l,e1,e2,e3⟩:=vaM fun y hy=>(h1 y hy).1
 rw[show Tryz.prog.bytesOf 61=48 by kernel_rfl] at h2;exact⟨l,by rw[e1,e2],by rw[e2]; exact h2,e3⟩
theorem opens_Schema (N:Nat):OpensS enc qf w base spare held N 31 fun x=>∃ y:zm,x=zd y∧okSchema y:=by
 refine ((Zj (N:=N) (A:=fun j x=>if j=0 then ∃ z:List UInt8,x=[.str z]∧z.length≤140737488351232 else if j=1 then ∃ z:List zz,x=[AV.ds true (qb ze z) (qa z) false]∧(z.length*64≤140737488351232∧∀ v∈z,vcC v) else if j=2 then ∃ z:List zT,x=[AV.ds true (qb zh z) (qa z) false]∧(z.length*40≤140737488351232∧∀ v∈z,X9 v) else if j=3 then ∃ z:List Zk,x=[AV.ds true (qb zv z) (qa z) false]∧(z.length*48≤140737488351232∧∀ v∈z,vdz v) else False) Tryz.underlying31 (by decide +kernel) ?_).mono ?_).less
 · intro j f hf
   match j with
   |0=>cases hf; exact opens_str
   |1=>cases hf; exact opens_Messages N
   |2=>cases hf; exact vcA N
   |3=>cases hf; exact opens_Methods N
   |j+4=>simp at hf
 rintro x ⟨parts,rfl,hl,hx⟩;obtain⟨a0,e0,w0⟩:=hx 0 (by decide);obtain⟨a1,e1,w1⟩:=hx 1 (by decide);obtain⟨a2,e2,w2⟩:=hx 2 (by decide);obtain⟨a3,e3,w3⟩:=hx 3 (by decide);refine⟨⟨a0,a1,a2,a3⟩,?_,w0,w1,w2,w3⟩
 match parts,hl with
 |[p0,p1,p2,p3],_=>
  simp only[uM,uN] at e0 e1 e2 e3
  subst e0 e1 e2 e3; rfl
end
section
variable {H:Type} {enc:TypeId×Value→H} {w:World} {base:Nat} {spare:Nat→Bool} {held:Bool}
end
theorem szS_of {s:zm}(h:okSchema s):szS s:=
 ⟨⟨h.1,fun m hm=>⟨(h.2.1.2 m hm).1,fun f hf=>((h.2.1.2 m hm).2.1.2 f hf).1⟩,fun e he=>⟨(h.2.2.1.2 e he).1,fun v hv=>((h.2.2.1.2 e he).2.2 v hv).1⟩,fun x hx=>(h.2.2.2.2 x hx).1⟩,
  h.2.1.1,h.2.2.1.1,h.2.2.2.1,fun m hm=>⟨(h.2.1.2 m hm).2.1.1,(h.2.1.2 m hm).2.2.1⟩,fun e he=>(h.2.2.1.2 e he).2.1⟩
def okOwn (y:zi):Prop:=vdu y.fKind∧vdu y.fN∧y.fS.length≤140737488351232∧(y.fEntries.length*32≤140737488351232∧∀ e∈y.fEntries,vdu e.fTag∧e.fTrees.length*80≤140737488351232)∧(y.fRest.length*40≤140737488351232∧∀ r∈y.fRest,okRaw r)
def okDeep : Nat→zi→Prop
 |0,t=>okOwn t
 |d+1,t=>okOwn t∧∀ x∈kids t,okDeep d x
def vcB (t:zi):Prop:=∀ d,okDeep d t
def okEntry (e:zp):Prop:=vdu e.fTag∧e.fTrees.length*80≤140737488351232∧∀ x∈e.fTrees,vcB x
section
variable {H:Type} {enc:TypeId×Value→H} {w:World} {base:Nat} {spare:Nat→Bool} {held:Bool}
theorem opens_Entry {N:Nat}(ih:OpensS enc qf w base spare held N 37 fun x=>∃ y:zi,x=ya y∧vcB y):OpensS enc qf w base spare held N 40 fun x=>∃ y:zp,x=zx y∧okEntry y:=by
 have ts:OpensS enc qf w base spare held N 38 fun x=>∃ zs:List zi,x=[AV.ds true (zs.flatMap ya) zs.length false]∧zs.length*80≤140737488351232∧∀ y∈zs,vcB y:=by
  refine ((ZL (N:=N) Tryz.underlying38 (by decide +kernel) ih).mono ?_).less;rintro x ⟨es,rfl,h1,h2,_⟩
  obtain⟨l,e1,e2,e3⟩:=vaM fun y hy=>(h1 y hy).1
  rw[show Tryz.prog.bytesOf 37=80 by kernel_rfl] at h2;exact⟨l,by rw[e1,e2],by rw[e2]; exact h2,e3⟩
 refine ((Zj (N:=N) (A:=fun j x=>if j=0 then ∃ z:Int,x=[.int .i64 z]∧vdu z else ∃ zs:List zi,x=[AV.ds true (zs.flatMap ya) zs.length false]∧zs.length*80≤140737488351232∧∀ y∈zs,vcB y) Tryz.underlying40 (by decide +kernel) ?_).mono ?_).less
 · intro j f hf
   match j with
   |0=>cases hf; exact Yh
   |1=>cases hf; exact ts
   |j+2=>simp at hf
 rintro x ⟨parts,rfl,hl,hx⟩;obtain⟨a0,e0,w0⟩:=hx 0 (by decide);obtain⟨a1,e1,w1⟩:=hx 1 (by decide);refine⟨⟨a0,a1⟩,?_,w0,w1⟩
 match parts,hl with
 |[p0,p1],_=>
  simp only[uM,uN] at e0 e1
  subst e0 e1; rw[yh]; rfl
theorem opens_Tree : ∀ N:Nat,OpensS enc qf w base spare held N 37 fun x=>∃ y:zi,x=ya y∧vcB y
 |0=>fun n cs y hy hN hs=>absurd hN (Nat.not_lt_zero _)
 |N+1=>by
  have es:OpensS enc qf w base spare held N 34 fun x=>∃ zs:List zp,x=[AV.ds true (zs.flatMap zx) zs.length false]∧zs.length*32≤140737488351232∧∀ y∈zs,okEntry y:=by
   refine ((ZL (N:=N) Tryz.underlying34 (by decide +kernel) (opens_Entry (opens_Tree N))).mono ?_).less;rintro x ⟨es,rfl,h1,h2,_⟩
   obtain⟨l,e1,e2,e3⟩:=vaM fun y hy=>(h1 y hy).1
   rw[show Tryz.prog.bytesOf 40=32 by kernel_rfl] at h2;exact⟨l,by rw[e1,e2],by rw[e2]; exact h2,e3⟩
  refine ((Zj (N:=N) (A:=fun j x=>if j<2 then ∃ z:Int,x=[.int .i64 z]∧vdu z else if j=2 then ∃ z:List UInt8,x=[.str z]∧z.length≤140737488351232 else if j=3 then ∃ zs:List zp,x=[AV.ds true (zs.flatMap zx) zs.length false]∧zs.length*32≤140737488351232∧∀ y∈zs,okEntry y else ∃ zs:List xF,x=[AV.ds true (zs.flatMap zA) zs.length false]∧zs.length*40≤140737488351232∧∀ y∈zs,okRaw y) Tryz.underlying37 (by decide +kernel) ?_).mono ?_)
  · intro j f hf
    match j with
    |0=>cases hf; exact Yh
    |1=>cases hf; exact Yh
    |2=>cases hf; exact opens_str
    |3=>cases hf; exact es
    |4=>cases hf; exact opens_raws N
    |j+5=>simp at hf
  rintro x ⟨parts,rfl,hl,hx⟩;obtain⟨a0,e0,w0⟩:=hx 0 (by decide);obtain⟨a1,e1,w1⟩:=hx 1 (by decide);obtain⟨a2,e2,w2⟩:=hx 2 (by decide);obtain⟨a3,e3,w3,w3'⟩:=hx 3 (by decide);obtain⟨a4,e4,w4⟩:=hx 4 (by decide);have own:okOwn (⟨a0,a1,a2,a3,a4⟩:zi):=⟨w0,w1,w2,⟨w3,fun e he=>⟨(w3' e he).1,(w3' e he).2.1⟩⟩,w4⟩;refine⟨⟨a0,a1,a2,a3,a4⟩,?_,fun d=>?_⟩
  · match parts,hl with
    |[p0,p1,p2,p3,p4],_=>
     simp only[uM,uN] at e0 e1 e2 e3 e4
     subst e0 e1 e2 e3 e4; rw[yC]; rfl
  cases d with
  |zero=>exact own
  |succ d=>
   refine⟨own,fun x hx=>?_⟩;obtain⟨e,he,hxe⟩:=List.mem_flatMap.1 hx;exact (w3' e he).2.2 x hxe d
theorem opens_Tree' (N:Nat):OpensS enc qf w base spare held N 37 fun x=>∃ y:zi,x=zb y∧vcB y:=(opens_Tree N).mono fun x ⟨y,h1,h2⟩=>⟨y,by rw[h1,yC],h2⟩
end
theorem szT_of : ∀ (d:Nat) (t:zi),okDeep d t→(∀ e,restT e t)→szT d t
 |0,t,h,hr=>⟨h.2.1,uv (hr 0) (by decide),fun r hm=>(h.2.2.2.2.2 r hm).2.2.1⟩
 |d+1,t,h,hr=>⟨⟨h.1.2.1,uv (hr 1).1 (by decide),fun r hm=>(h.1.2.2.2.2.2 r hm).2.2.1⟩,fun x hx=>szT_of d x (h.2 x hx) fun e=>(hr (e+1)).2 x hx⟩
def okRow (y:vay):Prop:=y.fMethod.length≤140737488351232∧vcB y.fIn∧vcB y.fOut
section
variable {H:Type} {enc:TypeId×Value→H} {w:World} {base:Nat} {spare:Nat→Bool} {held:Bool}
theorem opens_Row (N:Nat):OpensS enc qf w base spare held N 98 fun x=>∃ y:vay,x=yd y∧okRow y:=by
 refine ((Zj (N:=N) (A:=fun j x=>if j=0 then ∃ z:List UInt8,x=[.str z]∧z.length≤140737488351232 else ∃ z:zi,x=zb z∧vcB z) Tryz.underlying98 (by decide +kernel) ?_).mono ?_).less
 · intro j f hf
   match j with
   |0=>cases hf; exact opens_str
   |1=>cases hf; exact opens_Tree' N
   |2=>cases hf; exact opens_Tree' N
   |j+3=>simp at hf
 rintro x ⟨parts,rfl,hl,hx⟩;obtain⟨a0,e0,w0⟩:=hx 0 (by decide);obtain⟨a1,e1,w1⟩:=hx 1 (by decide);obtain⟨a2,e2,w2⟩:=hx 2 (by decide);refine⟨⟨a0,a1,a2⟩,?_,w0,w1,w2⟩
 match parts,hl with
 |[p0,p1,p2],_=>
  simp only[uM,uN] at e0 e1 e2
  subst e0 e1 e2; rfl
theorem opens_Rows (N:Nat):OpensS enc qf w base spare held N 82 fun x=>∃ zs:List vay,x=[AV.ds true (zs.flatMap yd) zs.length false]∧zs.length*176≤140737488351232∧∀ y∈zs,okRow y:=by
 refine ((ZL (N:=N) Tryz.underlying82 (by decide +kernel) (opens_Row N)).mono ?_).less;rintro x ⟨es,rfl,h1,h2,_⟩
 obtain⟨l,e1,e2,e3⟩:=vaM fun y hy=>(h1 y hy).1
 rw[show Tryz.prog.bytesOf 98=176 by kernel_rfl] at h2;exact⟨l,by rw[e1,e2],by rw[e2]; exact h2,e3⟩
end
end
end Go.Proofs.YtaahlckibpiphaaGreatDoor
