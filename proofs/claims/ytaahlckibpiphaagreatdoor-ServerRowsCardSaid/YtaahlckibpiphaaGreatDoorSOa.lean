/- Parts of the proof, cut down to what it needs. -/
import Derived.Test.YtaahlckibpiphaaGreatDoorSFRab
import Derived.KernelRfl
import Derived.Test.YtaahlckibpiphaaGreatDoorSU
import Derived.Test.YtaahlckibpiphaaGreatDoorRows
import Derived.Test.YtaahlckibpiphaaGreatDoorChecked
import Derived.Test.YtaahlckibpiphaaGreatDoorTie
import Derived.ProofKit
import Derived.OpenShut
import Derived.ShutString
import Derived.ChangeOld
import Derived.ChangeSame
import Derived.ChangeVars
import Derived.JoinedOf
import Derived.RowKit
import Derived.LaidLaws
import Derived.LaidHandle
import Derived.Lib.LaidIn
import Derived.Lib.LaidU8T
import Derived.SevenTiedAt
set_option linter.constructorNameAsVariable false
set_option linter.unusedSimpArgs false
set_option linter.unusedVariables false
namespace Go.Proofs.YtaahlckibpiphaaGreatDoor
open _root_.List renaming length → qa, length_append → qk, length_cons → ql, map_nil → qn, map_cons → qq, length_nil → qr, append_assoc → qx, drop_zero → qz, mem_cons_self → qA, mem_cons_of_mem → qB, nil_append → qD, append_nil → qE, map_append → qF, getD_eq_getElem?_getD → qG, cons_append → qH, getElem?_eq_some_iff → qN, length_eq_zero_iff → qP, length_singleton → qS, getElem?_eq_getElem → qT, flatMap_cons → qU, mem_cons → qW, flatMap_append → qX, all_cons → q9, all_nil → uc, flatMap_nil → uf, all_eq_true → uh, length_map → uk, eq_nil_of_length_eq_zero → ul, take_of_length_le → ur, getElem?_append_right → ut, pairwise_cons → uy, take_append_drop → uz, set_cons_zero → uB, range → uD, filter_cons → uH, mem_singleton → uN, length_take → uR, mem_append_right → uV, mem_append → u5, toList_toArray → ve, drop_drop → vn, getElem?_map → vp
open _root_.Option renaming bind_some → qh, bind → uQ
open _root_.Nat renaming reduceEqDiff → qb, reduceLT → qd, reduceAdd → qe, reduceLeDiff → qf, reduceMul → qj, reduceSub → qm, zero_add → qo, le_refl → qw, lt_succ_self → qy, mul_le_mul_right → ua, lt_of_lt_of_le → uo, zero_le → uu, sub_self → uI, le_trans → uJ, add_zero → uP, add_mul → u0, le_of_not_lt → u6, add_assoc → vj
open _root_.Bool renaming or_true → qs, not_false → qt, not_true → qu, and_false → qv, and_eq_true → qC, and_true → qI, or_false → qK, and_self → qM, false_eq_true → ud, or_eq_true → ui, true_and → um, true_or → uA, false_or → uC, false_and → uY, not_eq_true' → vq
open _root_.Int renaming toNat → qO, toNat_natCast → qY
open _root_.BitVec renaming ofInt → qJ, toNat → ux
open _root_.Array renaming getD_eq_getD_getElem? → uE, toList_map → vo
open _root_.UInt8 renaming ofNat → ub


open _root_.Go.Proofs.Tryz renaming prog → qg
section
set_option maxRecDepth 4000
open AM
def vb (n:Nat):List UInt8:=if h:n<128 then [ub n] else ub (n % 128+128)::vb (n / 128)
termination_by n
decreasing_by omega
theorem vb_lt {n:Nat}(h:n<128):vb n=[ub n]:=by rw[vb,dif_pos h]
theorem vb_ge {n:Nat}(h:¬ n<128):vb n=ub (n % 128+128)::vb (n / 128):=by rw[vb,dif_neg h]
theorem vb_pos (n:Nat):0<(vb n).length:=by
 by_cases h:n<128
 · rw[vb_lt h]; exact Nat.one_pos
 rw[vb_ge h,ql]; omega
theorem vb_len : ∀ (k n:Nat),n<2^(7*(k+1))→(vb n).length≤k+1
 |0,n,h=>by rw[vb_lt (by simpa using h)]; exact qw _
 |k+1,n,h=>by
  by_cases h1:n<128
  · rw[vb_lt h1,ql,qr]; omega
  rw[vb_ge h1,ql]
  have:=vb_len k (n / 128) (by
   have e:2^(7*(k+1+1))=128*2^(7*(k+1)):=by rw[show 7*(k+1+1)=7+7*(k+1) by omega,Nat.pow_add]
   rw[e] at h
   exact Nat.div_lt_of_lt_mul h)
  omega
theorem YX {n:Nat}(h:n<2^64):(vb n).length≤10:=vb_len 9 n (uo h (by decide))
theorem vdw {p:Prop} [Decidable p](h:p):grd p=some ():=if_pos h
theorem Zu {n b:Nat}(h:n*b≤140737488355328):X7 n b=some ():=if_pos h
theorem u64w {n:Nat}(h:n<2^64):IntKind.u64.wrap (n:Int)=(n:Int):=by rw[IntKind.wrap_u64]; omega
theorem u64i {x:Int}(h:0≤x)(h':x<18446744073709551616):IntKind.u64.wrap x=x:=by rw[IntKind.wrap_u64]; omega
theorem u8w (n:Nat):IntKind.u8.wrap (n:Int)=((n % 256:Nat):Int):=by
 simp only[IntKind.wrap,IntKind.bits,IntKind.signed,uY]
 simp
theorem vdk (n:Nat)(h:n<256):(ub n).toNat=n:=by
 rw[UInt8.toNat_ofNat']; omega
theorem or128 : ∀ m:Fin 256,(qJ 8 ((m.val:Nat):Int) ||| qJ 8 128).toNat=m.val % 128+128:=by decide
theorem and127 : ∀ m:Fin 256,(qJ 8 ((m.val:Nat):Int) &&& ~~~(qJ 8 128)).toNat=m.val % 128:=by decide
theorem moreByte (n:Nat):ub (qO (IntKind.u8.wrap ((ux (qJ 8 (IntKind.u8.wrap (n:Int)) ||| qJ 8 128):Nat):Int)))=ub (n % 128+128):=by
 have h:=or128 ⟨n % 256,Nat.mod_lt _ (by decide)⟩;simp only at h;rw[u8w n,h,u8w (n % 256 % 128+128),qY]
 congr 1
 have:=Nat.mod_mod_of_dvd n (show 128 ∣ 256 by decide)
 omega
theorem lastByte (n:Nat)(h:n<128):ub (qO (IntKind.u8.wrap (n:Int)))=ub n:=by
 rw[u8w,qY]; congr 1; omega
theorem shr7 (n:Nat):Int.fdiv (n:Int) (2^(min (qO 7) 64))=((n / 128:Nat):Int):=by
 rw[show ((2:Int)^(min (qO 7) 64))=128 from by decide,Int.fdiv_eq_ediv_of_nonneg _ (by decide)]
 omega
theorem vint_Put_l : ∀ (k n:Nat) (l:List UInt8),n<2^(7*k)→l.length+k≤140737488355328→wM.l9 k l (n:Int)=some (l++vb n)∨k=0
 |0,_,_,_,_=>Or.inr rfl
 |k+1,n,l,h,hl=>by
  left
  by_cases h1:n<128
  · rw[wM.l9,if_neg (by omega),Zu (by omega),qh,lastByte n h1,vb_lt h1]
  rw[wM.l9,if_pos (by omega),Zu (by omega),qh,moreByte,shr7,vb_ge h1]
  have hk:n / 128<2^(7*k):=by
   have e:2^(7*(k+1))=128*2^(7*k):=by rw[show 7*(k+1)=7+7*k by omega,Nat.pow_add]
   rw[e] at h; exact Nat.div_lt_of_lt_mul h
  rcases vint_Put_l k (n / 128) (l++[ub (n % 128+128)]) hk (by rw[qk,qS]; omega) with e|e
  · rw[e,qx]; rfl
  exfalso; subst e; simp at hk; omega
theorem vint_Put_m : ∀ (k j n:Nat) (l r:List UInt8),wM.l9 k l (n:Int)=some r→wM.l9 (k+j) l (n:Int)=some r
 |0,_,_,_,_,h=>by cases h
 |k+1,j,n,l,r,h=>by
  rw[Nat.succ_add_eq_add_succ,Nat.add_succ]
  by_cases h1:(128:Int)≤(n:Int)
  · rw[wM.l9,if_pos h1] at h ⊢
    cases hr:X7 (qa l+1) 1 with
    |none=>rw[hr] at h; cases h
    |some u=>
     rw[hr,qh,shr7] at h
     rw[qh,shr7]; exact vint_Put_m k j _ _ _ h
  rw[wM.l9,if_neg h1] at h ⊢; exact h
theorem vcg (a:List UInt8){n:Nat}(h:n<2^64)(ha:a.length≤140737488355000):wM a (n:Int)=some (a++vb n):=by
 by_cases h1:n<128
 · rw[wM,if_neg (by omega),Zu (by omega),qh,lastByte n h1,vb_lt h1]
 rw[wM,if_pos (by omega),Zu (by omega),qh,moreByte,shr7,vb_ge h1]
 rcases vint_Put_l 10 (n / 128) (a++[ub (n % 128+128)]) (by omega) (by rw[qk,qS]; omega) with e|e
 · have:=vint_Put_m 10 999999999999999999990 _ _ _ e;rw[show 10+999999999999999999990=xo from rfl] at this
   rw[this,qx]; rfl
 cases e
theorem orAdd {i acc d:Nat}(h:acc<2^i):acc ||| d*2^i=acc+d*2^i:=by
 rw[Nat.or_comm,Nat.mul_comm,← Nat.two_pow_add_eq_or_of_lt h]; omega
theorem bv64 {n:Nat}(h:n<2^64):(qJ 64 (n:Int)).toNat=n:=by
 rw[BitVec.ofInt_natCast,BitVec.toNat_ofNat]; exact Nat.mod_eq_of_lt h
theorem stepv {acc i:Nat}{y:UInt8}(hi:i≤9)(ha:acc<2^(7*i))(h9:i=9→y.toNat≤1):IntKind.u64.wrap ((ux (qJ 64 (acc:Int) ||| qJ 64 (IntKind.u64.wrap ((IntKind.u64.wrap (IntKind.u8.wrap ((ux (qJ 8 (y.toNat:Int) &&& ~~~(qJ 8 128)):Nat):Int)))*2^(min (qO (IntKind.i64.wrap (7*(i:Int)))) 64)))):Nat):Int)=((acc+(y.toNat % 128)*2^(7*i):Nat):Int)∧acc+(y.toNat % 128)*2^(7*i)<2^64∧(i<9→acc+(y.toNat % 128)*2^(7*i)<2^(7*(i+1))):=by
 have hy:y.toNat<256:=y.toNat_lt;have h:=and127 ⟨y.toNat,hy⟩;simp only at h
 have e:IntKind.i64.wrap (7*(i:Int))=((7*i:Nat):Int):=by rw[wV (by omega) (by omega)]; omega
 have hm:min (7*i) 64=7*i:=by omega
 have hd:y.toNat % 128<128:=Nat.mod_lt _ (by decide)
 have hp:2^(7*(i+1))=128*2^(7*i):=by rw[show 7*(i+1)=7+7*i by omega,Nat.pow_add]
 have hs:i<9→acc+(y.toNat % 128)*2^(7*i)<2^(7*(i+1)):=by
  intro _
  rw[hp];have:(y.toNat % 128)*2^(7*i)≤127*2^(7*i):=ua _ (by omega)
  omega
 have hb:acc+(y.toNat % 128)*2^(7*i)<2^64:=by
  by_cases h8:i<9
  · have:=hs h8;have h2:2^(7*(i+1))≤2^63:=Nat.pow_le_pow_right (by decide) (by omega)
    omega
  have hi9:i=9:=by omega
  have h1:=h9 hi9;subst hi9
  have:y.toNat % 128≤1:=by omega
  have h2:(y.toNat % 128)*2^(7*9)≤1*2^(7*9):=ua _ this
  omega
 refine⟨?_,hb,hs⟩;rw[h,u8w,Nat.mod_eq_of_lt (show y.toNat % 128<256 by omega),e,qY,hm]
 have hc:((((y.toNat % 128:Nat):Int))*2^(7*i))=(((y.toNat % 128)*2^(7*i):Nat):Int):=by
  rw[Int.natCast_mul,Int.natCast_pow]; rfl
 have hu:IntKind.u64.wrap ((y.toNat % 128:Nat):Int)=((y.toNat % 128:Nat):Int):=u64w (by omega);rw[hu,hc,u64w (n:=y.toNat % 128*2^(7*i)) (by omega),BitVec.toNat_or,bv64 (by omega),bv64 (by omega),orAdd ha,u64w hb]
theorem vdP (a:Nat)(hA:a≤4611686018427387904):∀ (q post:List UInt8) (v i acc:Nat),q=vb v++post→i≤9→acc<2^(7*i)→v*2^(7*i)<2^64→(0<i→v≠0)→
 w7.l12 (a:Int) q (i:Int) (acc:Int)=some (((acc+v*2^(7*i):Nat):Int),((a+i+(vb v).length:Nat):Int),0)
 |[],post,v,i,acc,h,_,_,_,_=>by
  have:=vb_pos v;have h2:=congrArg qa h
  rw[qk,qr] at h2; omega
 |y::q,post,v,i,acc,h,hi,ha,hv,h0=>by
  by_cases h1:v<128
  · rw[vb_lt h1] at h ⊢
    obtain⟨rfl,rfl⟩:y=ub v∧q=post:=by injection h with h2 h3; exact⟨h2,h3⟩
    have hy:(ub v).toNat=v:=vdk v (by omega)
    have h9:i=9→v≤1:=by
     intro e; subst e
     apply u6; intro hc
     have:2*2^(7*9)≤v*2^(7*9):=ua _ hc
     omega
    have st:=(stepv (y:=ub v) hi ha (by rw[hy]; exact h9)).1;have hw1:IntKind.i64.wrap (7*(i:Int))=7*(i:Int):=wV (by omega) (by omega);rw[w7.l12,st,hy];rw[if_neg (by simp only[qC,decide_eq_true_eq,not_and]; intro e; have:=h9 (by omega); omega),vdw (by rw[wV (by omega) (by omega)]; omega),qh,if_neg (by omega),if_neg (by simp only[qC,decide_eq_true_eq,not_and]; intro e e2; exact h0 (by omega) (by omega))];rw[Nat.mod_eq_of_lt h1,wV (x:=(a:Int)+(i:Int)) (by omega) (by omega),wV (x:=(a:Int)+(i:Int)+1) (by omega) (by omega),qS];simp only[Int.natCast_add,Int.natCast_one]
  rw[vb_ge h1] at h ⊢
  obtain⟨rfl,rfl⟩:y=ub (v % 128+128)∧q=vb (v / 128)++post:=by injection h with h2 h3; exact⟨h2,h3⟩
  have hy:(ub (v % 128+128)).toNat=v % 128+128:=vdk _ (by omega)
  have hi8:i<9:=by
   apply Nat.lt_of_not_le; intro hc
   have:i=9:=by omega
   subst this;have:128*2^(7*9)≤v*2^(7*9):=ua _ (by omega)
   omega
  obtain⟨st,sb,sn⟩:=stepv (y:=ub (v % 128+128)) hi ha (by intro e; omega);rw[w7.l12,st,hy,if_neg (by simp only[qC,decide_eq_true_eq,not_and]; intro e; omega),vdw (by rw[wV (by omega) (by omega)]; omega),qh,if_pos (by omega)];rw[hy] at sn
  have hm:(v % 128+128) % 128=v % 128:=by omega
  rw[hm] at sn ⊢
  have hp:2^(7*(i+1))=128*2^(7*i):=by rw[show 7*(i+1)=7+7*i by omega,Nat.pow_add]
  have hvd:v=128*(v / 128)+v % 128:=(Nat.div_add_mod v 128).symm
  have hmul:v*2^(7*i)=(v / 128)*2^(7*(i+1))+(v % 128)*2^(7*i):=by
   rw[hp]
   calc v*2^(7*i)=(128*(v / 128)+v % 128)*2^(7*i):=by rw[← hvd]
    _=_:=by rw[u0,Nat.mul_comm 128,Nat.mul_assoc]
  have ih:=vdP a hA (vb (v / 128)++post) post (v / 128) (i+1) (acc+v % 128*2^(7*i)) rfl (by omega) (sn hi8) (by rw[hmul] at hv; omega) (by intro _; omega);rw[show ((i:Int)+1)=((i+1:Nat):Int) by omega,ih,hmul,ql]
  congr 2
  · congr 1; omega
  congr 2; omega
theorem vdO (a:Nat)(hA:a≤4611686018427387904):∀ (q:List UInt8) (i acc:Nat),i+q.length≤10→acc<2^(7*i)→∃ r,w7.l12 (a:Int) q (i:Int) (acc:Int)=some r∧
 (r.2.2=0→∃ v post,q=vb v++post∧v*2^(7*i)<2^64∧(0<i→v≠0))∧0≤r.2.2
 |[],i,acc,_,_=>⟨_,rfl,(by intro h; cases h),by decide⟩
 |y::q,i,acc,hl,ha=>by
  rw[ql] at hl;rw[w7.l12]
  by_cases h9:((decide ((i:Int)=9))&&(decide (1<(y.toNat:Int))))=true
  · rw[if_pos h9]; exact⟨_,rfl,(by intro h; cases h),by decide⟩
  rw[if_neg h9]
  have h9':i=9→y.toNat≤1:=by
   intro e
   simp only[qC,decide_eq_true_eq,not_and] at h9
   have:=h9 (by omega); omega
  obtain⟨st,sb,sn⟩:=stepv (y:=y) (show i≤9 by omega) ha h9';rw[st,vdw (by rw[wV (by omega) (by omega)]; omega),qh];have hy:y.toNat<256:=y.toNat_lt
  by_cases h1:(128:Int)≤(y.toNat:Int)
  · rw[if_pos h1]
    have hi8:i<9:=by
     apply Nat.lt_of_not_le; intro hc
     have:=h9' (by omega); omega
    obtain⟨r,e,hr,h0⟩:=vdO a hA q (i+1) (acc+y.toNat % 128*2^(7*i)) (by omega) (sn hi8);rw[show ((i:Int)+1)=((i+1:Nat):Int) by omega];refine⟨r,e,?_,h0⟩
    intro hz
    obtain⟨v,post,hq,hv,hn⟩:=hr hz
    have hp:2^(7*(i+1))=128*2^(7*i):=by rw[show 7*(i+1)=7+7*i by omega,Nat.pow_add]
    have hvn:=hn (by omega)
    have hw:¬ (v*128+y.toNat % 128)<128:=by omega
    refine⟨v*128+y.toNat % 128,post,?_,?_,by intro _; omega⟩
    · rw[vb_ge hw,show (v*128+y.toNat % 128) % 128+128=y.toNat by omega,show (v*128+y.toNat % 128) / 128=v by omega,UInt8.ofNat_toNat,hq]; rfl
    rw[hp] at hv
    have hmul:(v*128+y.toNat % 128)*2^(7*i)=v*(128*2^(7*i))+y.toNat % 128*2^(7*i):=by rw[u0,Nat.mul_assoc]
    rw[hmul]
    by_cases hi7:i<9
    · have hd:y.toNat % 128*2^(7*i)<128*2^(7*i):=Nat.mul_lt_mul_of_pos_right (by omega) (Nat.pow_pos (by decide))
      have h64:128*2^(7*i) ∣ 2^64:=by rw[← hp]; exact Nat.pow_dvd_pow 2 (by omega)
      obtain⟨c,hc⟩:=h64;rw[hc] at hv ⊢
      have hvc:v<c:=by
       apply Nat.lt_of_not_le; intro hle
       have:=ua (128*2^(7*i)) hle
       rw[Nat.mul_comm c] at this; omega
      have h3:(v+1)*(128*2^(7*i))≤c*(128*2^(7*i)):=ua _ hvc;rw[u0,Nat.one_mul] at h3
      rw[Nat.mul_comm (128*2^(7*i)) c]; omega
    omega
  rw[if_neg h1]
  by_cases h2:((decide ((y.toNat:Int)=0))&&(decide (0<(i:Int))))=true
  · rw[if_pos h2]; exact⟨_,rfl,(by intro h; cases h),by decide⟩
  rw[if_neg h2];refine⟨_,rfl,?_,Int.le_refl 0⟩
  intro _
  refine⟨y.toNat,q,?_,?_,?_⟩
  · rw[vb_lt (by omega),UInt8.ofNat_toNat]; rfl
  · rw[Nat.mod_eq_of_lt (by omega)] at sb; omega
  intro hi e
  apply h2
  simp only[qC,decide_eq_true_eq]; omega
theorem get_head {b:List UInt8}{n:Nat}(hb:b.length≤4096)(hn:n≤b.length):w7 b (n:Int)=w7.l12 (n:Int) ((b.drop n).take 10) 0 0:=by
 have e1:IntKind.i64.wrap ((qa b:Int)-(n:Int))=((b.length-n:Nat):Int):=by rw[wV (by omega) (by omega)]; omega
 rw[w7,if_neg (by simp only[ui,decide_eq_true_eq]; omega),e1]
 by_cases h:(10:Int)<((b.length-n:Nat):Int)
 · rw[if_pos h]
   have e2:IntKind.i64.wrap ((n:Int)+10)=((n+10:Nat):Int):=by rw[wV (by omega) (by omega)]; omega
   rw[e2,vdw (by omega),qh,vct,qY,qY,show n+10-n=10 by omega]
 rw[if_neg h]
 have e2:IntKind.i64.wrap ((n:Int)+((b.length-n:Nat):Int))=(b.length:Int):=by rw[wV (by omega) (by omega)]; omega
 rw[e2,vdw (by omega),qh,vct,qY,qY,ur (by rw[List.length_drop]; exact qw _),ur (by rw[List.length_drop]; omega)]
theorem get_ok {b post:List UInt8}{n v:Nat}(hb:b.length≤4096)(hn:n≤b.length)(h:b.drop n=vb v++post)(hv:v<2^64):w7 b (n:Int)=some ((v:Int),((n+(vb v).length:Nat):Int),0):=by
 have:=vdP n (by omega) ((b.drop n).take 10) (post.take (10-(vb v).length)) v 0 0 (by rw[h,List.take_append,ur (YX hv)]) (by omega) (by decide) (by omega) (by omega);rw[get_head hb hn]
 simpa using this
theorem get_inv {b:List UInt8}{n:Nat}(hb:b.length≤4096)(hn:n≤b.length):∃ r,w7 b (n:Int)=some r∧(r.2.2=0→∃ v post,b.drop n=vb v++post∧v<2^64∧r=((v:Int),((n+(vb v).length:Nat):Int),0))∧0≤r.2.2:=by
 obtain⟨r,e,hr,h0⟩:=vdO n (by omega) ((b.drop n).take 10) 0 0 (by rw[uR]; omega) (by decide);rw[get_head hb hn];refine⟨r,e,?_,h0⟩
 intro hz
 obtain⟨v,post,hq,hv,_⟩:=hr hz
 have hv':v<2^64:=by omega
 have hd:b.drop n=vb v++(post++(b.drop n).drop 10):=by
  rw[← qx,← hq,uz]
 refine⟨v,_,hd,hv',?_⟩;have:=get_ok hb hn hd hv';rw[get_head hb hn] at this;exact Option.some.inj (e.symm.trans this)
def va0 (n:Int):Prop := -9223372036854775808≤n∧n<9223372036854775808
def zg (n:Int):Nat:=if 0≤n then (2*n).toNat else (-2*n-1).toNat
def zu (v:Nat):Int:=if v % 2=0 then ((v / 2:Nat):Int) else -((v / 2:Nat):Int)-1
theorem zg_lt {n:Int}(h:va0 n):zg n<2^64:=by
 unfold zg; obtain⟨h1,h2⟩:=h; split<;>omega
theorem zu_zg (n:Int):zu (zg n)=n:=by
 unfold zg zu; split<;>split<;>omega
theorem zg_zu (v:Nat):zg (zu v)=v:=by
 unfold zg zu; split<;>split<;>omega
theorem zu_in {v:Nat}(h:v<2^64):va0 (zu v):=by
 unfold zu va0; split<;>omega
theorem bvm1 : qJ 64 (-1)=BitVec.allOnes 64:=by decide
theorem bv0 : qJ 64 0=0#64:=by decide
theorem fdiv2 (n:Int)(k:Nat):Int.fdiv n (2^k)=n / (2^k):=Int.fdiv_eq_ediv_of_nonneg _ (Int.le_of_lt (Int.pow_pos (by decide)))
theorem vint_Zig_eq {n:Int}(h:va0 n):va3 n=(zg n:Int):=by
 obtain⟨h1,h2⟩:=h;unfold va3 zg;rw[show min (qO 1) 64=1 from rfl,show min (qO 63) 64=63 from rfl,fdiv2]
 by_cases h0:0≤n
 · have e:n / 2^63=0:=Int.ediv_eq_zero_of_lt h0 (by omega);rw[if_pos h0,e,show IntKind.u64.wrap 0=0 from by rw[IntKind.wrap_u64]; rfl,bv0,BitVec.xor_zero]
   have e2:IntKind.u64.wrap (IntKind.u64.wrap n*2^1)=(((2*n).toNat:Nat):Int):=by rw[IntKind.wrap_u64,IntKind.wrap_u64]; omega
   rw[e2,bv64 (by omega),u64w (by omega)]
 have e:n / 2^63 = -1:=by omega
 have e1:IntKind.u64.wrap (-1)=18446744073709551615:=by rw[IntKind.wrap_u64]; rfl
 have e3:qJ 64 18446744073709551615=BitVec.allOnes 64:=by decide
 rw[if_neg h0,e,e1,e3,BitVec.xor_allOnes,BitVec.toNat_not]
 have e2:IntKind.u64.wrap (IntKind.u64.wrap n*2^1)=(((2*n+18446744073709551616).toNat:Nat):Int):=by rw[IntKind.wrap_u64,IntKind.wrap_u64]; omega
 rw[e2,bv64 (by omega),u64w (by omega)]
 omega
theorem vint_Zag_eq {v:Nat}(h:v<2^64):va4 (v:Int)=zu v:=by
 unfold va4 zu;rw[show min (qO 1) 64=1 from rfl,fdiv2]
 have ea:(qJ 64 (v:Int) &&& qJ 64 1).toNat=v % 2:=by
  rw[BitVec.toNat_and,bv64 h,show (qJ 64 1).toNat=1 from by decide,Nat.and_one_is_mod]
 have e1:IntKind.i64.wrap ((v:Int) / 2^1)=((v / 2:Nat):Int):=by rw[wV (by omega) (by omega)]; omega
 rw[ea,e1,u64w (n:=v % 2) (by omega)]
 by_cases h0:v % 2=0
 · rw[if_pos h0,h0]
   have e2:IntKind.i64.wrap (0-IntKind.i64.wrap ((0:Nat):Int))=0:=by decide
   rw[e2,bv0,BitVec.xor_zero,bv64 (by omega),wV (by omega) (by omega)]
 have h1:v % 2=1:=by omega
 rw[if_neg h0,h1]
 have e2:IntKind.i64.wrap (0-IntKind.i64.wrap ((1:Nat):Int)) = -1:=by decide
 rw[e2,bvm1,BitVec.xor_allOnes,BitVec.toNat_not,bv64 (by omega),IntKind.wrap_i64]
 omega
def vaw (r:yc):Prop:=xD r=true∧va0 r.fN
def vc6 (r:yc):Nat:=(2*r.fTag+r.fWire).toNat
def vcs (r:yc):List UInt8:=vb (vc6 r)++(if r.fWire=0 then vb (zg r.fN) else vb r.fB.length++r.fB)
def Y1 (l:List yc):List UInt8:=l.flatMap vcs
theorem Xw {r:yc}(h:xD r=true):1≤r.fTag∧r.fTag≤500∧((r.fWire=0∧r.fB=[])∨(r.fWire=1∧r.fN=0∧r.fB.length≤4096)):=by
 unfold xD at h
 split at h
 · cases h
 rename_i h1
 simp only[ui,decide_eq_true_eq,not_or] at h1;refine⟨by omega,by omega,?_⟩
 split at h
 · left; exact⟨‹_›,by simpa using h⟩
 split at h
 · right
   simp only[qC,decide_eq_true_eq] at h;exact⟨‹_›,h.1,by omega⟩
 cases h
theorem check_num {t n:Int}(h1:1≤t)(h2:t≤500):xD ⟨t,0,n,[]⟩=true:=by
 unfold xD
 rw[if_neg (by simp only[ui,decide_eq_true_eq]; omega)]; rfl
theorem vdb {t:Int}{s:List UInt8}(h1:1≤t)(h2:t≤500)(h3:s.length≤4096):xD ⟨t,1,0,s⟩=true:=by
 unfold xD;rw[if_neg (by simp only[ui,decide_eq_true_eq]; omega)];simp only[decide_true,um]
 rw[if_neg (by decide),if_pos trivial]; exact decide_eq_true (by omega)
theorem rawB_pos (r:yc):2≤(vcs r).length:=by
 unfold vcs;have h1:=vb_pos (vc6 r);have h2:=vb_pos (zg r.fN);have h3:=vb_pos r.fB.length
 split<;>simp only[qk]<;>omega
theorem rawB_le {r:yc}(h:vaw r):(vcs r).length≤4116:=by
 obtain⟨hc,hn⟩:=h;obtain⟨h1,h2,h3⟩:=Xw hc;unfold vcs vc6;have k1:(vb (2*r.fTag+r.fWire).toNat).length≤10:=YX (by omega);have k2:(vb (zg r.fN)).length≤10:=YX (zg_lt hn)
 rcases h3 with ⟨h3,h4⟩|⟨h3,h4,h5⟩
 · rw[if_pos h3,qk]; omega
 have k3:(vb r.fB.length).length≤10:=YX (by omega)
 rw[if_neg (by omega),qk,qk]; omega
theorem wire_Put_eq {a:List UInt8}{r:yc}(h:vaw r)(ha:a.length≤1000000):va2 a r=some (a++vcs r,true):=by
 obtain⟨hc,hn⟩:=h;obtain⟨h1,h2,h3⟩:=Xw hc;unfold va2 bnd
 rw[hc]; simp only[]
 have ek:IntKind.u64.wrap (IntKind.i64.wrap ((IntKind.i64.wrap (2*r.fTag))+r.fWire))=((vc6 r:Nat):Int):=by
  rw[wV (x:=2*r.fTag) (by omega) (by omega),wV (by omega) (by omega),u64i (by omega) (by omega),vc6]; omega
 have k1:vc6 r<2^64:=by unfold vc6; omega
 have kl:=YX k1;rw[if_neg (by decide),ek,vcg a k1 (by omega),qh]
 rcases h3 with ⟨h3,h4⟩|⟨h3,h4,h5⟩
 · rw[if_pos h3,vint_Zig_eq hn,vcg _ (zg_lt hn) (by rw[qk]; omega),qh,vcs,if_pos h3,qx]
 have hb:=YX (n:=r.fB.length) (by omega);rw[if_neg (by omega),u64w (by omega),vcg _ (by omega) (by rw[qk]; omega),qh,Zu (by simp only[qk]; omega),qh,vcs,if_neg (by omega)];simp only[qx]
theorem putAll_l11 : ∀ (q:List yc) (x:Int) (acc:List UInt8),(∀ r∈q,vaw r)→acc.length≤4096→xm.l11 q x acc=some (if 4096<(acc++Y1 q).length then ([],4) else (acc++Y1 q,0))
 |[],x,acc,_,ha=>by
  rw[xm.l11,Y1,uf,qE,if_neg (by omega)]
 |r::q,x,acc,h,ha=>by
  have hr:=h r (qA ..)
  rw[xm.l11,wire_Put_eq hr (by omega),qh]; dsimp only
  have e:acc++Y1 (r::q)=(acc++vcs r)++Y1 q:=by rw[Y1,qU,qx]; rfl
  rw[e]
  by_cases h1:4096<(acc++vcs r).length
  · rw[if_pos (by omega),if_pos (by rw[qk]; omega)]
  rw[if_neg (by omega),putAll_l11 q (x+1) _ (fun s hs=>h s (qB _ hs)) (by omega)]
theorem putAll_l4 (a:List yc):∀ (q:List yc) (x:Int),xm.l4 a q x=if q.all xD then xm.l11 a 0 [] else some ([],1)
 |[],x=>by rw[xm.l4]; rfl
 |r::q,x=>by
  rw[xm.l4,bnd,q9]
  by_cases h:xD r=true
  · rw[h,if_neg (by decide),putAll_l4 a q]; rfl
  rw[if_pos (by simpa using h),if_neg (by rw[qC]; exact fun hh=>h hh.1)]
theorem putAll_eq {l:List yc}(h:∀ r∈l,va0 r.fN):xm l=some (if l.all xD then (if 4096<(Y1 l).length then ([],4) else (Y1 l,0)) else ([],1)):=by
 rw[xm,putAll_l4]
 by_cases h1:l.all xD=true
 · rw[if_pos h1,if_pos h1,putAll_l11 l 0 [] (fun r hr=>⟨uh.1 h1 r hr,h r hr⟩) (by decide)]; rfl
 rw[if_neg h1,if_neg h1]
theorem vag {b x post:List UInt8}{n:Nat}(h:b.drop n=x++post):b.drop (n+x.length)=post:=by
 rw[← vn,h,List.drop_left' rfl]
theorem vbZ {b x post:List UInt8}{n:Nat}(hn:n≤b.length)(h:b.drop n=x++post):n+x.length+post.length=b.length:=by
 have:=congrArg qa h
 rw[List.length_drop,qk] at this; omega
theorem one_ok {b post:List UInt8}{n:Nat}{r:yc}(hb:b.length≤4096)(hn:n≤b.length)(h:b.drop n=vcs r++post)(hr:vaw r):YW b (n:Int)=some (r,((n+(vcs r).length:Nat):Int),0):=by
 obtain⟨hc,hN⟩:=hr;obtain⟨h1,h2,h3⟩:=Xw hc
 have k1:vc6 r<2^64:=by unfold vc6; omega
 rw[vcs,qx] at h;have hl:=vbZ hn h;unfold YW;rw[get_ok hb hn h k1,qh];have hk:vc6 r=(2*r.fTag+r.fWire).toNat:=rfl
 have d1:((vc6 r:Nat):Int).tdiv 2=r.fTag:=by rw[Int.tdiv_eq_ediv_of_nonneg (by omega),hk]; rcases h3 with h3|h3<;>omega
 have d2:((vc6 r:Nat):Int).tmod 2=r.fWire:=by rw[Int.tmod_eq_emod_of_nonneg (by omega),hk]; rcases h3 with h3|h3<;>omega
 simp only[d1,d2];rw[if_pos trivial,if_neg (by rw[u64i (by omega) (by omega)]; simp only[ui,decide_eq_true_eq]; omega),u64i (x:=r.fTag) (by omega) (by omega),wV (x:=r.fTag) (by omega) (by omega),wV (x:=r.fWire) (by omega) (by omega)];have h':=vag h
 rcases h3 with ⟨h3,h4⟩|⟨h3,h4,h5⟩
 · rw[if_pos h3] at h';rw[get_ok hb (by omega) h' (zg_lt hN),qh];simp only[];rw[if_pos trivial,if_pos h3,bnd,vint_Zag_eq (zg_lt hN),zu_zg,vcs,if_pos h3]
   have e:r=⟨r.fTag,r.fWire,r.fN,[]⟩:=by cases r; simp only at h4; subst h4; rfl
   rw[← e,qk,vj]
 rw[if_neg (by omega)] at h' hl;rw[qx] at h';have hl':=vbZ (by omega) h';rw[qk] at hl';rw[get_ok hb (by omega) h' (show r.fB.length<2^64 by omega),qh];simp only[];have h'':=vag h'
 have e1:IntKind.i64.wrap ((b.length:Int)-((n+(vb (vc6 r)).length+(vb r.fB.length).length:Nat):Int))=((r.fB.length+post.length:Nat):Int):=by rw[wV (by omega) (by omega)]; omega
 have e2:IntKind.i64.wrap (r.fB.length:Int)=(r.fB.length:Int):=wV (by omega) (by omega)
 have e3:IntKind.i64.wrap (((n+(vb (vc6 r)).length+(vb r.fB.length).length:Nat):Int)+(r.fB.length:Int))=((n+(vb (vc6 r)).length+(vb r.fB.length).length+r.fB.length:Nat):Int):=by rw[wV (by omega) (by omega)]; omega
 rw[if_pos trivial,if_neg (by omega),e1,u64w (by omega),if_neg (by omega),e2,e3,vdw (by omega),qh,vct,qY,qY,h'',Nat.add_sub_cancel_left,List.take_left' rfl,vcs,if_neg (by omega),qk,qk]
 have e:r=⟨r.fTag,r.fWire,0,r.fB⟩:=by cases r; simp only at h4; subst h4; rfl
 rw[← e,show n+(vb (vc6 r)).length+(vb r.fB.length).length+r.fB.length=n+((vb (vc6 r)).length+((vb r.fB.length).length+r.fB.length)) by omega]
theorem one_inv {b:List UInt8}{n:Nat}(hb:b.length≤4096)(hn:n≤b.length):∃ r,YW b (n:Int)=some r∧
 (r.2.2=0→∃ x post,b.drop n=vcs x++post∧vaw x∧r=(x,((n+(vcs x).length:Nat):Int),0))∧0≤r.2.2:=by
 obtain⟨r1,e1,i1,p1⟩:=get_inv hb hn
 by_cases z1:r1.2.2=0
 · obtain⟨v,post,hd,hv,rfl⟩:=i1 z1;have hl:=vbZ hn hd;have hd':=vag hd
   by_cases c1:(decide ((v:Int)<2)||decide ((500:Int)<IntKind.u64.wrap ((v:Int).tdiv 2)))=true
   · refine⟨_,by unfold YW; rw[e1,qh,if_pos rfl,if_pos c1],?_,by decide⟩
     intro h; exact absurd h (by decide)
   have c1':=c1;simp only[ui,decide_eq_true_eq,not_or] at c1;obtain⟨c2,c3⟩:=c1
   have d1:(v:Int).tdiv 2=((v / 2:Nat):Int):=by rw[Int.tdiv_eq_ediv_of_nonneg (by omega)]; omega
   have d2:(v:Int).tmod 2=((v % 2:Nat):Int):=by rw[Int.tmod_eq_emod_of_nonneg (by omega)]; omega
   rw[d1,u64w (by omega)] at c3;obtain⟨r2,e2,i2,p2⟩:=get_inv hb (n:=n+(vb v).length) (by omega)
   by_cases z2:r2.2.2=0
   · obtain⟨w,post2,hd2,hw,rfl⟩:=i2 z2;have hl2:=vbZ (by omega) hd2
     by_cases c4:v % 2=0
     · have ok:vaw ⟨((v / 2:Nat):Int),0,zu w,[]⟩:=⟨check_num (by omega) (by omega),zu_in hw⟩
       have hkey:vc6 ⟨((v / 2:Nat):Int),0,zu w,[]⟩=v:=by unfold vc6; simp only[]; omega
       have hdr:b.drop n=vcs ⟨((v / 2:Nat):Int),0,zu w,[]⟩++post2:=by
        rw[vcs,hkey,if_pos rfl]; simp only[zg_zu]; rw[hd,← hd',hd2,qx]
       refine⟨_,one_ok hb hn hdr ok,?_,Int.le_refl 0⟩
       intro _; exact⟨_,_,hdr,ok,rfl⟩
     have c5:v % 2=1:=by omega
     by_cases c6:w≤post2.length
     · have ok:vaw ⟨((v / 2:Nat):Int),1,0,post2.take w⟩:=⟨vdb (by omega) (by omega) (by rw[uR]; omega),(show va0 0 from ⟨by decide,by decide⟩)⟩
       have hkey:vc6 ⟨((v / 2:Nat):Int),1,0,post2.take w⟩=v:=by unfold vc6; simp only[]; omega
       have hdr:b.drop n=vcs ⟨((v / 2:Nat):Int),1,0,post2.take w⟩++post2.drop w:=by
        rw[vcs,hkey,if_neg (show ¬ (1:Int)=0 by decide)];simp only[uR,Nat.min_eq_left c6];rw[hd,← hd',hd2,qx,qx,uz]
       refine⟨_,one_ok hb hn hdr ok,?_,Int.le_refl 0⟩
       intro _; exact⟨_,_,hdr,ok,rfl⟩
     have e3:IntKind.i64.wrap ((b.length:Int)-((n+(vb v).length+(vb w).length:Nat):Int))=((post2.length:Nat):Int):=by rw[wV (by omega) (by omega)]; omega
     refine⟨_,by unfold YW; rw[e1,qh,if_pos rfl,if_neg c1',e2,qh,if_pos rfl,d2,if_neg (by rw[wV (by omega) (by omega)]; omega),e3,u64w (by omega),if_pos (by omega)],?_,by decide⟩
     intro h; exact absurd h (by decide)
   refine⟨_,by unfold YW; rw[e1,qh,if_pos rfl,if_neg c1',e2,qh,if_neg z2],?_,p2⟩
   intro h; exact absurd h z2
 refine⟨_,by unfold YW; rw[e1,qh,if_neg z1],?_,p1⟩
 intro h; exact absurd h z1
theorem vc2 (r:yc)(l:List yc):Y1 (r::l)=vcs r++Y1 l:=by rw[Y1,qU]; rfl
theorem get_l_ok {b:List UInt8}(hb:b.length≤4096):∀ (l:List yc) (k n:Nat) (acc:List yc),n≤b.length→b.drop n=Y1 l→(∀ r∈l,vaw r)→2*acc.length≤n→b.length<k+n→
 w5.l12 b k acc (n:Int)=some (acc++l,0)
 |l,0,n,acc,hn,_,_,_,hk=>by omega
 |[],k+1,n,acc,hn,hd,_,_,hk=>by
  have:=congrArg qa hd;rw[List.length_drop,Y1,uf,qr] at this;rw[w5.l12,if_neg (by omega),qE]
 |r::l,k+1,n,acc,hn,hd,hr,ha,hk=>by
  rw[vc2] at hd;have hl:=vbZ hn hd;have h2:=rawB_pos r;rw[w5.l12,if_pos (by omega),one_ok hb hn hd (hr r (qA ..)),qh,if_pos rfl,Zu (by omega),qh]
  rw[get_l_ok hb l k (n+(vcs r).length) (acc++[r]) (by omega) (vag hd) (fun s hs=>hr s (qB _ hs)) (by rw[qk,qS]; omega) (by omega),qx]; rfl
theorem get_l_inv {b:List UInt8}(hb:b.length≤4096):∀ (k n:Nat) (acc:List yc),n≤b.length→2*acc.length≤n→b.length<k+n→
 ∃ r,w5.l12 b k acc (n:Int)=some r∧(r.2=0→∃ l,b.drop n=Y1 l∧(∀ r∈l,vaw r)∧r=(acc++l,0))∧0≤r.2∧(r.2≠0→r.1=[])
 |0,n,acc,hn,_,hk=>by omega
 |k+1,n,acc,hn,ha,hk=>by
  by_cases h:n<b.length
  · obtain⟨r1,e1,i1,p1⟩:=one_inv hb hn
    by_cases z1:r1.2.2=0
    · obtain⟨x,post,hd,ok,rfl⟩:=i1 z1;have hl:=vbZ hn hd;have h2:=rawB_pos x;obtain⟨r2,e2,i2,p2⟩:=get_l_inv hb k (n+(vcs x).length) (acc++[x]) (by omega) (by rw[qk,qS]; omega) (by omega);refine⟨r2,by rw[w5.l12,if_pos (by omega),e1,qh,if_pos rfl,Zu (by omega),qh]; exact e2,?_,p2⟩
      intro hz
      obtain⟨l,hd2,hok,rfl⟩:=i2 hz;refine⟨x::l,?_,?_,by rw[qx]; rfl⟩
      · rw[vc2,hd,← hd2,vag hd]
      intro s hs
      rcases qW.1 hs with rfl|hs
      · exact ok
      exact hok s hs
    refine⟨_,by rw[w5.l12,if_pos (by omega),e1,qh,if_neg z1],fun h=>absurd h z1,p1,fun _=>rfl⟩
  refine⟨_,by rw[w5.l12,if_neg (by omega)],fun _=>⟨[],?_,(fun r hr=>by cases hr),by rw[qE]⟩,Int.le_refl 0,fun h=>absurd rfl h⟩
  rw[List.drop_eq_nil_of_le (by omega)]; rfl
theorem get_rounds : 4097≤xo:=by decide
theorem wire_Get_ok {l:List yc}(h:∀ r∈l,vaw r)(hb:(Y1 l).length≤4096):w5 (Y1 l)=some (l,0):=by
 rw[w5,if_neg (by omega)];have:=get_l_ok hb l xo 0 [] (uu _) rfl h (qw _) (by have:=get_rounds; omega)
 simpa using this
theorem vdf (b:List UInt8):∃ r,w5 b=some r∧(r.2=0→b=Y1 r.1∧b.length≤4096∧∀ x∈r.1,vaw x)∧0≤r.2∧(r.2≠0→r.1=[]):=by
 by_cases hb:b.length≤4096
 · obtain⟨r,e,i,p,q⟩:=get_l_inv hb xo 0 [] (uu _) (qw _) (by have:=get_rounds; omega);refine⟨r,by rw[w5,if_neg (by omega)]; exact e,?_,p,q⟩
   intro hz
   obtain⟨l,hd,ok,rfl⟩:=i hz;exact⟨hd,hb,ok⟩
 refine⟨_,by rw[w5,if_pos (by omega)],fun h=>absurd h (by decide),by decide,fun _=>rfl⟩
def vdl (r:yc):List yc→List yc
 |[]=>[r]
 |x::l=>if r.fTag<x.fTag then r::x::l else x::vdl r l
def srtA : List yc→List yc→List yc
 |[],S=>S
 |r::q,S=>srtA q (vdl r S)
def srt (l:List yc):List yc:=srtA l []
def Xj (a b:yc):Prop:=a.fTag≤b.fTag
theorem vdE {r:yc}:∀ {A B:List yc},(∀ a∈A,a.fTag≤r.fTag)→(∀ b∈B,r.fTag<b.fTag)→vdl r (A++B)=A++r::B
 |[],[],_,_=>rfl
 |[],b::B,_,hB=>by
  rw[qD,vdl,if_pos (hB b (qA ..))]; rfl
 |a::A,B,hA,hB=>by
  rw[qH,vdl,if_neg (by have:=hA a (qA ..); omega),vdE (fun x hx=>hA x (qB _ hx)) hB]; rfl
theorem insR_mem {r x:yc}:∀ {l:List yc},x∈vdl r l↔x=r∨x∈l
 |[]=>by simp[vdl]
 |y::l=>by
  rw[vdl]; split
  · simp
  rw[qW,insR_mem,qW]
  constructor
  · rintro (h|h|h)
    · exact Or.inr (Or.inl h)
    · exact Or.inl h
    exact Or.inr (Or.inr h)
  rintro (h|h|h)
  · exact Or.inr (Or.inl h)
  · exact Or.inl h
  exact Or.inr (Or.inr h)
theorem vdD (r:yc):∀ l:List yc,(vdl r l).length=l.length+1
 |[]=>rfl
 |x::l=>by
  rw[vdl]; split
  · rfl
  rw[ql,vdD r l,ql]
theorem Xs {r:yc}:∀ {l:List yc},l.Pairwise Xj→(vdl r l).Pairwise Xj
 |[],_=>by simp[vdl]
 |x::l,h=>by
  rw[uy] at h
  rw[vdl]; split
  · rename_i hlt
    rw[uy,uy];refine⟨?_,h⟩
    intro y hy
    rcases qW.1 hy with rfl|hy
    · unfold Xj; omega
    have:=h.1 y hy; unfold Xj at *; omega
  rename_i hge
  rw[uy];refine⟨?_,Xs h.2⟩
  intro y hy
  rcases insR_mem.1 hy with rfl|hy
  · unfold Xj; omega
  exact h.1 y hy
theorem vee {r:yc}(t:Int):∀ {l:List yc},l.Pairwise Xj→(vdl r l).filter (fun x=>x.fTag=t)=l.filter (fun x=>x.fTag=t)++(if r.fTag=t then [r] else [])
 |[],_=>by rw[vdl,List.filter_nil,qD,uH,List.filter_nil]; simp only[decide_eq_true_eq]
 |x::l,h=>by
  rw[uy] at h
  rw[vdl]; split
  · rename_i hlt
    rw[uH]
    by_cases hr:r.fTag=t
    · have hn:(x::l).filter (fun x=>x.fTag=t)=[]:=by
       rw[List.filter_eq_nil_iff]
       intro y hy
       simp only[decide_eq_true_eq]
       rcases qW.1 hy with rfl|hy
       · omega
       have:=h.1 y hy; unfold Xj at this; omega
      rw[hn,if_pos (by simpa using hr),if_pos hr]; rfl
    rw[if_neg (by simpa using hr),if_neg hr,qE]
  rw[uH,uH,vee t h.2]
  split<;>rfl
theorem vdR : ∀ {l S:List yc},S.Pairwise Xj→(srtA l S).Pairwise Xj
 |[],_,h=>h
 |r::l,S,h=>by rw[srtA]; exact vdR (l:=l) (Xs h)
theorem vcX (l:List yc):(srt l).Pairwise Xj:=vdR List.Pairwise.nil
theorem srtA_mem {x:yc}:∀ {l S:List yc},x∈srtA l S↔x∈S∨x∈l
 |[],S=>by simp[srtA]
 |r::l,S=>by
  rw[srtA,srtA_mem,insR_mem,qW]
  constructor
  · rintro ((h|h)|h)
    · exact Or.inr (Or.inl h)
    · exact Or.inl h
    exact Or.inr (Or.inr h)
  rintro (h|h|h)
  · exact Or.inl (Or.inr h)
  · exact Or.inl (Or.inl h)
  exact Or.inr h
theorem srt_mem {x:yc}{l:List yc}:x∈srt l↔x∈l:=by rw[srt,srtA_mem]; simp
theorem vdS (t:Int):∀ {l S:List yc},S.Pairwise Xj→(srtA l S).filter (fun x=>x.fTag=t)=S.filter (fun x=>x.fTag=t)++l.filter (fun x=>x.fTag=t)
 |[],S,_=>by rw[srtA,List.filter_nil,qE]
 |r::l,S,h=>by
  rw[srtA,vdS t (Xs h),vee t h,uH,qx]
  congr 1
  simp only[decide_eq_true_eq]
  split<;>rfl
theorem vcY (l:List yc)(t:Int):(srt l).filter (fun x=>x.fTag=t)=l.filter (fun x=>x.fTag=t):=by
 rw[srt,vdS t List.Pairwise.nil]; rfl
theorem srtA_id : ∀ {l S:List yc},(S++l).Pairwise Xj→srtA l S=S++l
 |[],S,_=>by rw[srtA,qE]
 |r::l,S,h=>by
  have hS:∀ a∈S,a.fTag≤r.fTag:=fun a ha=>(List.pairwise_append.1 h).2.2 a ha r (qA ..)
  have e:vdl r S=S++[r]:=by
   have:=vdE (r:=r) (A:=S) (B:=[]) hS (fun b hb=>by cases hb)
   rwa [qE] at this
  rw[srtA,e,srtA_id (by rwa [qx]),qx]; rfl
theorem srt_id {l:List yc}(h:l.Pairwise Xj):srt l=l:=srtA_id (S:=[]) h
theorem sorted_ext : ∀ {l m:List yc},l.Pairwise Xj→m.Pairwise Xj→(∀ t:Int,l.filter (fun x=>x.fTag=t)=m.filter (fun x=>x.fTag=t))→l=m
 |[],[],_,_,_=>rfl
 |[],y::m,_,_,h=>by
  have:=h y.fTag
  rw[List.filter_nil,uH,if_pos (by simp)] at this; cases this
 |x::l,[],_,_,h=>by
  have:=h x.fTag
  rw[List.filter_nil,uH,if_pos (by simp)] at this; cases this
 |x::l,y::m,hl,hm,h=>by
  rw[uy] at hl hm
  have hxy:x.fTag=y.fTag:=by
   have h1:x∈(y::m).filter (fun z=>z.fTag=x.fTag):=by rw[← h,uH,if_pos (by simp)]; exact qA ..
   have h2:y∈(x::l).filter (fun z=>z.fTag=y.fTag):=by rw[h,uH,if_pos (by simp)]; exact qA ..
   have a1:y.fTag≤x.fTag:=by
    rcases qW.1 (List.mem_filter.1 h1).1 with e|h1
    · rw[e]; exact Int.le_refl _
    exact hm.1 x h1
   have a2:x.fTag≤y.fTag:=by
    rcases qW.1 (List.mem_filter.1 h2).1 with e|h2
    · rw[e]; exact Int.le_refl _
    exact hl.1 y h2
   omega
  have e:x=y:=by
   have:=h x.fTag;rw[uH,uH,if_pos (by simp),if_pos (by simp[hxy])] at this
   injection this
  subst e
  congr 1
  refine sorted_ext hl.2 hm.2 fun t=>?_
  have:=h t;rw[uH,uH] at this
  split at this
  · injection this
  exact this
theorem srt_of {l m:List yc}(hm:m.Pairwise Xj)(h:∀ t:Int,l.filter (fun x=>x.fTag=t)=m.filter (fun x=>x.fTag=t)):srt l=m:=
 sorted_ext (vcX l) hm fun t=>by rw[vcY,h]
theorem Xe {α:Type}{A B:List α}{x:α}{i:Int}(h:i=A.length):Yz (A++x::B) i=some x:=by
 subst h
 rw[Yz,if_pos (by omega),qY,ut (qw _),uI]; rfl
theorem idx_t {α:Type}{l:List α}{i:Int}{x:α}(h0:0≤i)(h:l[i.toNat]?=some x):Yz l i=some x:=by rw[Yz,if_pos h0,h]
theorem sorted_l17 {r z:yc}{S P:List yc}(rec8:Int→List yc→Option (List yc)):∀ (k:Nat) (A B:List yc),S=A++B→(∀ b∈B,r.fTag<b.fTag)→A.Pairwise Xj→A.length<k→S.length<1000000→
 yC.l17 (S.length:Int) (S++z::P) rec8 r k (A.length:Int)=rec8 ((S.length:Int)+1) (vdl r S++P)
 |0,_,_,_,_,_,h,_=>by omega
 |k+1,A,B,hS,hB,hA,hk,hn=>by
  have stop:(∀ a∈A,a.fTag≤r.fTag)→yC.j20 (S.length:Int) (S++z::P) rec8 r (A.length:Int) (yC.l17 (S.length:Int) (S++z::P) rec8 r k) false=rec8 ((S.length:Int)+1) (vdl r S++P):=by
   intro hle
   have hl:S.length=A.length+B.length:=by rw[hS,qk]
   have e1:IntKind.i64.wrap ((A.length:Int)+1)=((A.length+1:Nat):Int):=by rw[wV (by omega) (by omega)]; omega
   rw[yC.j20,if_neg (by decide),e1,vdw (by rw[qk,ql]; omega),qh,vdw (by rw[qk,ql]; omega),qh]
   have e2:qO ((S.length:Int)+1)=S.length+1:=by omega
   rw[qY,qY,qY,e2,show min (S.length-A.length) (S.length+1-(A.length+1))=B.length by omega]
   have hc:∃ w:yc,A.length<(S++z::P).length∧vb3 (S++z::P) (A.length+1) A.length B.length=A++w::(B++P):=by
    cases hB':B with
    |nil=>
     subst hB';rw[qE] at hS;refine⟨z,by rw[hS,qk,ql]; omega,?_⟩;rw[vb3,hS,qr,List.take_zero,qD,uP,List.drop_append,List.drop_eq_nil_of_le (by omega),List.take_append,ur (by omega)];rw[show A.length+1-A.length=1 by omega]
     simp
    |cons b B'=>
     refine⟨b,by rw[hS,hB',qk,qk,ql]; omega,?_⟩;rw[hS,hB',vb3]
     have t1:((A++b::B')++z::P).take (A.length+1)=A++[b]:=by
      rw[qx,List.take_append,ur (by omega),show A.length+1-A.length=1 by omega]; rfl
     have t2:(((A++b::B')++z::P).drop A.length).take (b::B').length=b::B':=by
      rw[qx,List.drop_left' rfl,List.take_left' rfl]
     have t3:((A++b::B')++z::P).drop (A.length+1+(b::B').length)=P:=by
      rw[show (A++b::B')++z::P=((A++b::B')++[z])++P by rw[qx (A++b::B')]; rfl];rw[List.drop_left']
      simp only[qk,ql,qr]; omega
     rw[t1,t2,t3];simp only[qx,qH,qD]
   obtain⟨w,hlt,hc⟩:=hc
   rw[hc,Xe rfl,qh,setI,qY,List.set_append_right _ _ (qw _),uI,uB,hS,vdE hle hB,qx]; rfl
  rcases List.eq_nil_or_concat A with rfl|⟨A',a,rfl⟩
  · rw[yC.l17,if_neg (by simp)];exact stop (fun a ha=>by cases ha)
  rw[List.concat_eq_append] at *
  have hlA:(A'++[a]).length=A'.length+1:=by rw[qk,qS]
  have hlS:S.length=(A'++[a]).length+B.length:=by rw[hS,qk]
  have e1:IntKind.i64.wrap (((A'++[a]).length:Int)-1)=(A'.length:Int):=by
   rw[wV (by omega) (by omega)]; omega
  rw[yC.l17,if_pos (by omega),e1]
  have ei:Yz (S++z::P) (A'.length:Int)=some a:=by
   rw[hS,qx,qx]; exact Xe rfl
  rw[ei,qh]
  by_cases hgt:r.fTag<a.fTag
  · rw[decide_eq_true hgt,yC.j20,if_pos rfl,e1];refine sorted_l17 rec8 k A' (a::B) (by rw[hS,qx]; rfl) ?_ (List.pairwise_append.1 hA).1 (by omega) hn
    intro b hb
    rcases qW.1 hb with rfl|hb
    · exact hgt
    exact hB b hb
  rw[decide_eq_false hgt];refine stop ?_
  intro x hx
  rcases u5.1 hx with hx|hx
  · have:=(List.pairwise_append.1 hA).2.2 x hx a (uN.2 rfl)
    unfold Xj at this; omega
  rw[uN] at hx; subst hx; omega
theorem sorted_l8 : ∀ (q S P:List yc),P.length=q.length→S.Pairwise Xj→S.length+q.length<1000000→yC.l8 q (S.length:Int) (S++P)=some (srtA q S)
 |[],S,P,hP,_,_=>by
  have:P=[]:=qP.1 (by simpa using hP);subst this;rw[yC.l8,srtA,qE]
 |r::q,S,[],hP,_,_=>by cases hP
 |r::q,S,z::P,hP,hS,hn=>by
  rw[ql] at hn;rw[yC.l8,sorted_l17 (S:=S) (yC.l8 q) xo S [] (qE S).symm (fun b hb=>by cases hb) hS (uo (show S.length<1000000 by omega) (by decide)) (by omega)]
  have e:(S.length:Int)+1=((vdl r S).length:Int):=by rw[vdD]; omega
  rw[e,sorted_l8 q (vdl r S) P (by simpa using hP) (Xs hS) (by rw[vdD]; omega),srtA]
theorem sorted_eq {l:List yc}(h:l.length<1000000):yC l=some (srt l):=by
 rw[yC,vdw (by omega),qh,qY];exact sorted_l8 l [] _ List.length_replicate List.Pairwise.nil (by rw[qr]; omega)
theorem decU_pos (s:List UInt8)(p:Nat):1≤(vem s p).2:=by
 unfold vem Utf8.decode
 dsimp only
 repeat' split
 all_goals first|exact qw 1|exact (by decide:1≤2)|exact (by decide:1≤3)|exact (by decide:1≤4)
theorem runesNext_t (a:List UInt8)(n:Nat)(h:a.length≤9223372036854775807):∃ r,Xo a (n:Int)=some r:=by
 unfold Xo
 split
 · exact⟨_,rfl⟩
 rename_i h1
 simp only[ui,decide_eq_true_eq,not_or] at h1;rw[vdw (by omega),qh,bnd]
 split<;>exact⟨_,rfl⟩
theorem vdg (a:List UInt8)(h:a.length≤9223372036854775807):∀ (k p:Nat),0<k→a.length<p+k→∃ v,wt.l4 a k p=some v
 |0,p,h0,hk=>by omega
 |k+1,p,_,hk=>by
  have hd:=decU_pos a p;rw[wt.l4]
  split
  · have ih:=vdg a h k (p+(vem a p).2) (by omega) (by omega)
    split
    · obtain⟨r,e⟩:=runesNext_t a p h;rw[e,qh]
      split
      · exact⟨_,rfl⟩
      exact ih
    exact ih
  exact⟨_,rfl⟩
theorem Zz : 9223372036854775808≤xo:=by decide
def runesV (b:List UInt8):Bool:=(wt b).getD false
theorem runesV_eq {a:List UInt8}(h:a.length≤9223372036854775807):wt a=some (runesV a):=by
 obtain⟨v,e⟩:=vdg a h xo 0 (by have:=Zz; omega) (by have:=Zz; omega);unfold runesV
 rw[show wt a=some v from e]; rfl
theorem YJ (t:Int)(l:List zk):(zr.mk t l).fTag=t:=rfl
theorem XZ (t:Int)(l:List zk):(zr.mk t l).fTrees=l:=rfl
def vbi (a b:zr):Prop:=a.fTag<b.fTag
def XW (t:Int)(rep:Prop) [Decidable rep](x:zk):List zr→List zr
 |[]=>[⟨t,[x]⟩]
 |e::l=>if e.fTag<t then e::XW t rep x l else if e.fTag=t then ⟨t,(if rep then e.fTrees else [])++[x]⟩::l else ⟨t,[x]⟩::e::l
def vc4 (t:Int)(rep:Prop) [Decidable rep]:List zr→Nat
 |[]=>1
 |e::l=>if e.fTag<t then vc4 t rep l else if e.fTag=t then (if rep then e.fTrees.length else 0)+1 else 1
theorem vdC {t:Int}{rep:Prop} [Decidable rep]{x:zk}{B:List zr}:∀ {A:List zr},(∀ a∈A,a.fTag<t)→XW t rep x (A++B)=A++XW t rep x B
 |[],_=>rfl
 |a::A,h=>by
  rw[qH,XW,if_pos (h a (qA ..)),vdC fun b hb=>h b (qB _ hb)]; rfl
theorem vdB {t:Int}{rep:Prop} [Decidable rep]{B:List zr}:∀ {A:List zr},(∀ a∈A,a.fTag<t)→vc4 t rep (A++B)=vc4 t rep B
 |[],_=>rfl
 |a::A,h=>by
  rw[qH,vc4,if_pos (h a (qA ..)),vdB fun b hb=>h b (qB _ hb)]
theorem splitE (t:Int):∀ {es:List zr},es.Pairwise vbi→∃ A B,es=A++B∧(∀ a∈A,a.fTag<t)∧(∀ b∈B,t≤b.fTag)
 |[],_=>⟨[],[],rfl,(fun _ h=>by cases h),(fun _ h=>by cases h)⟩
 |e::es,h=>by
  rw[uy] at h
  by_cases he:e.fTag<t
  · obtain⟨A,B,rfl,hA,hB⟩:=splitE t h.2;refine⟨e::A,B,rfl,?_,hB⟩
    intro a ha
    rcases qW.1 ha with rfl|ha
    · exact he
    exact hA a ha
  refine⟨[],e::es,rfl,(fun _ h=>by cases h),?_⟩
  intro b hb
  rcases qW.1 hb with rfl|hb
  · omega
  have:=h.1 b hb; unfold vbi at this; omega
theorem put1_eq {e:zr}{t:Int}(h1:1≤e.fTag∧e.fTag≤500)(h2:1≤t∧t≤500):ZX e t=e.fTag-t:=by
 unfold ZX; exact wV (by omega) (by omega)
theorem half {x y:Nat}(h:x+y<9223372036854775808):IntKind.i64.wrap (Int.fdiv (IntKind.u64.wrap (IntKind.i64.wrap ((x:Int)+(y:Int)))) (2^(min (qO 1) 64)))=(((x+y) / 2:Nat):Int):=by
 rw[wV (x:=(x:Int)+y) (by omega) (by omega),u64i (by omega) (by omega),show min (qO 1) 64=1 from rfl,Int.fdiv_eq_ediv_of_nonneg _ (by decide),wV (by omega) (by omega)]
 omega
def vaN (t:Int):List zr→Bool
 |[]=>false
 |b::_=>decide (b.fTag=t)
theorem bs_l {t:Int}{A B:List zr}(ht:1≤t∧t≤500)(hA:∀ a∈A,a.fTag<t)(hB:∀ b∈B,t≤b.fTag)(hr:∀ e∈A++B,1≤e.fTag∧e.fTag≤500)(hn:(A++B).length<4611686018427387904):
 ∀ (k x y:Nat),x≤A.length→A.length≤y→y≤(A++B).length→y<x+k→zL.l6 (A++B) t k (x:Int) (y:Int)=some ((A.length:Int),vaN t B)
 |0,x,y,_,_,_,hk=>by omega
 |k+1,x,y,hx,hy,hl,hk=>by
  rw[zL.l6]
  by_cases hlt:x<y
  · rw[if_pos (by omega),half (by omega)]
    have hm:(x+y) / 2<(A++B).length:=by omega
    rw[idx_t (by omega) (show (A++B)[qO (((x+y) / 2:Nat):Int)]?=some ((A++B)[(x+y) / 2]'hm) by rw[qY]; exact qT hm),qh,bnd,put1_eq (hr _ (List.getElem_mem hm)) ht]
    by_cases hc:(x+y) / 2<A.length
    · have e:(A++B)[(x+y) / 2]'hm=A[(x+y) / 2]'hc:=List.getElem_append_left hc;have:=hA _ (List.getElem_mem hc);rw[e,if_pos (by omega),wV (by omega) (by omega),show (((x+y) / 2:Nat):Int)+1=(((x+y) / 2+1:Nat):Int) by omega];exact bs_l ht hA hB hr hn k _ y (by omega) hy hl (by omega)
    have hlB:(x+y) / 2-A.length<B.length:=by rw[qk] at hm; omega
    have e:(A++B)[(x+y) / 2]'hm=B[(x+y) / 2-A.length]'hlB:=List.getElem_append_right (by omega);have:=hB _ (List.getElem_mem hlB);rw[e,if_neg (by omega)];exact bs_l ht hA hB hr hn k x _ hx (by omega) (by omega) (by omega)
  have e:x=A.length:=by omega
  subst e;rw[if_neg (by omega)]
  cases B with
  |nil=>rw[qE,if_neg (by omega)]; rfl
  |cons b B=>
   rw[if_pos (by rw[qk,ql]; omega),Xe rfl,qh,bnd,put1_eq (hr b (uV _ (qA ..))) ht,qh,vaN]
   congr 2
   exact decide_eq_decide.2 (by omega)
theorem decode_put_eq {es:List zr}{f:ZS}{x:zk}(hs:es.Pairwise vbi)(hr:∀ e∈es,1≤e.fTag∧e.fTag≤500)(hf:1≤f.fTag∧f.fTag≤500)(hn:es.length<1000000)(ht:∀ e∈es,e.fTrees.length<1000000):
 vaT es f x=some (XW f.fTag (f.fLabel=3) x es,decide (vc4 f.fTag (f.fLabel=3) es≤64)):=by
 obtain⟨A,B,rfl,hA,hB⟩:=splitE f.fTag hs;have hln:(A++B).length=A.length+B.length:=qk;have bs:zL (A++B) f.fTag=some ((A.length:Int),vaN f.fTag B):=bs_l hf hA hB hr (by omega) xo 0 (A++B).length (uu _) (by omega) (qw _) (by have:=Zz; omega);rw[vaT,bs,qh,vdC hA,vdB hA]
 have ins:∀ (B:List zr),(A++B).length<1000000→vaN f.fTag B=false→(∀ b∈B,f.fTag≤b.fTag)→((if ((A.length:Int),vaN f.fTag B).2=true then some (A++B) else (grd (0≤((A.length:Int),vaN f.fTag B).1∧((A.length:Int),vaN f.fTag B).1≤((A++B).length:Int))).bind fun _=>(X7 ((A++B).length+1) 32).bind fun _=>some ((A++B).take ((A.length:Int),vaN f.fTag B).1.toNat++⟨f.fTag,[]⟩::(A++B).drop ((A.length:Int),vaN f.fTag B).1.toNat)).bind fun es1=>
  (Yz es1 ((A.length:Int),vaN f.fTag B).1).bind fun e=>
  (X7 ((if f.fLabel=3 then e.fTrees.length else 0)+1) 80).bind fun _=>
  some (es1.set ((A.length:Int),vaN f.fTag B).1.toNat ⟨e.fTag,(if f.fLabel=3 then e.fTrees else [])++[x]⟩,decide ((((if f.fLabel=3 then e.fTrees else [])++[x]).length:Int)≤64)))=some (A++⟨f.fTag,[x]⟩::B,true):=by
  intro B hln hh _
  have hl2:(A++B).length=A.length+B.length:=qk;rw[hh];simp only[qY];rw[if_neg (by decide),vdw (by omega),qh,Zu (by omega),qh,qh,List.take_left' rfl,List.drop_left' rfl,Xe rfl,qh,Zu (by rw[XZ]; split<;>decide),qh,List.set_append_right _ _ (qw _),uI,uB]
  simp only[YJ,XZ,ite_self,qD,qS]; rfl
 cases B with
 |nil=>
  rw[ins [] hn rfl (fun _ h=>by cases h)]; rfl
 |cons b B=>
  have hb:=hB b (qA ..)
  by_cases hbt:b.fTag=f.fTag
  · have hh:vaN f.fTag (b::B)=true:=decide_eq_true hbt;have htb:=ht b (uV _ (qA ..));rw[hh];simp only[qY];rw[if_pos trivial,qh,Xe rfl,qh,Zu (by split<;>omega),qh,List.set_append_right _ _ (qw _),uI,uB,XW,if_neg (show ¬ b.fTag<f.fTag by omega),if_pos hbt,vc4,if_neg (show ¬ b.fTag<f.fTag by omega),if_pos hbt,hbt]
    congr 2
    refine decide_eq_decide.2 ?_;rw[qk,qS]
    by_cases h3:f.fLabel=3
    · rw[if_pos h3,if_pos h3]; omega
    rw[if_neg h3,if_neg h3,qr]; omega
  have hh:vaN f.fTag (b::B)=false:=decide_eq_false hbt
  rw[ins (b::B) hn hh hB,XW,if_neg (by omega),if_neg hbt,vc4,if_neg (by omega),if_neg hbt]; rfl
theorem putE_mem {t:Int}{rep:Prop} [Decidable rep]{x:zk}{e:zr}:∀ {es:List zr},e∈XW t rep x es→e∈es∨e.fTag=t
 |[],h=>by rw[XW,uN] at h; subst h; exact Or.inr rfl
 |a::es,h=>by
  rw[XW] at h; split at h
  · rcases qW.1 h with rfl|h
    · exact Or.inl (qA ..)
    rcases putE_mem h with h|h
    · exact Or.inl (qB _ h)
    exact Or.inr h
  split at h
  · rcases qW.1 h with rfl|h
    · exact Or.inr rfl
    exact Or.inl (qB _ h)
  rcases qW.1 h with rfl|h
  · exact Or.inr rfl
  exact Or.inl h
theorem vd8 {t:Int}{rep:Prop} [Decidable rep]{x:zk}:∀ {es:List zr},es.Pairwise vbi→(XW t rep x es).Pairwise vbi
 |[],_=>by simp[XW]
 |a::es,h=>by
  rw[uy] at h
  rw[XW]; split
  · rename_i hlt
    rw[uy];refine⟨?_,vd8 h.2⟩
    intro b hb
    rcases putE_mem hb with hb|hb
    · exact h.1 b hb
    unfold vbi; omega
  split
  · rename_i hge heq
    rw[uy];refine⟨?_,h.2⟩
    intro b hb
    have:=h.1 b hb; unfold vbi at *; simp only[YJ]; omega
  rename_i hge hne
  rw[uy,uy];refine⟨?_,h⟩
  intro b hb
  rcases qW.1 hb with rfl|hb
  · unfold vbi; simp only[YJ]; omega
  have:=h.1 b hb; unfold vbi at *; simp only[YJ]; omega
theorem putE_len {t:Int}{rep:Prop} [Decidable rep]{x:zk}:∀ {es:List zr},(XW t rep x es).length≤es.length+1
 |[]=>by rw[XW]; exact qw _
 |a::es=>by
  rw[XW]; split
  · rw[ql,ql]; have:=putE_len (t:=t) (rep:=rep) (x:=x) (es:=es); omega
  split<;>simp only[ql]<;>omega
theorem putE_all {t:Int}{rep:Prop} [Decidable rep]{x:zk}{e:zr}:∀ {es:List zr},e∈XW t rep x es→e∈es∨(e.fTag=t∧e.fTrees.length=vc4 t rep es∧e.fTrees≠[])
 |[],h=>by rw[XW,uN] at h; subst h; exact Or.inr ⟨rfl,rfl,by rw[XZ]; simp⟩
 |a::es,h=>by
  rw[XW] at h; rw[vc4]; split at h
  · rename_i hlt
    rw[if_pos hlt]
    rcases qW.1 h with rfl|h
    · exact Or.inl (qA ..)
    rcases putE_all h with h|h
    · exact Or.inl (qB _ h)
    exact Or.inr h
  rename_i hlt
  rw[if_neg hlt]
  split at h
  · rename_i heq
    rw[if_pos heq]
    rcases qW.1 h with rfl|h
    · refine Or.inr ⟨rfl,?_,by rw[XZ]; simp⟩
      simp only[XZ,qk,qS]; split<;>rfl
    exact Or.inl (qB _ h)
  rename_i hne
  rw[if_neg hne]
  rcases qW.1 h with rfl|h
  · exact Or.inr ⟨rfl,rfl,by rw[XZ]; simp⟩
  exact Or.inl h
def vau : zk:=⟨0,0,[],[],[]⟩
def isZ (m:ya)(e:zr):Bool:=decide ((zI m e.fTag).1.fLabel=1)&&Zx (e.fTrees.headD vau)
def zdel (m:ya)(es:List zr):List zr:=es.filter fun e => !isZ m e
theorem vcO {m:ya}:∀ {es:List zr},(∀ e∈es,e.fTrees≠[])→Yg m es=some (zdel m es)
 |[],_=>rfl
 |e::es,h=>by
  have he:=h e (qA ..);rw[Yg,Ze,bnd]
  have e1:(if (zI m e.fTag).1.fLabel=1 then (Yz e.fTrees 0).bind fun y2=>bnd (Zx y2) fun r5=>some r5 else some false)=some (isZ m e):=by
   unfold isZ
   split
   · rename_i hl
     cases ht:e.fTrees with
     |nil=>exact absurd ht he
     |cons a l=>
      rw[idx_t (Int.le_refl 0) (show (a::l)[qO 0]?=some a from rfl),qh,bnd,hl]; rfl
   rename_i hl
   rw[decide_eq_false hl,uY]
  rw[e1,qh,qh,vcO fun a ha=>h a (qB _ ha),qh]
  unfold zdel; rw[uH]
  cases isZ m e<;>rfl
def vca (m:ya)(one:Yi→yc→zk×Int):List yc→List zr→List yc→zk×Int
 |[],es,rest=>(⟨3,0,[],zdel m es,srt rest⟩,0)
 |r::q,es,rest=>
  if (zI m r.fTag).2=true then
   (if (one (zI m r.fTag).1.fType r).2=0 then
    (if vc4 r.fTag ((zI m r.fTag).1.fLabel=3) es≤64 then vca m one q (XW r.fTag ((zI m r.fTag).1.fLabel=3) (one (zI m r.fTag).1.fType r).1 es) rest else (vau,4))
   else (vau,(one (zI m r.fTag).1.fType r).2))
  else vca m one q es (rest++[r])
theorem checkField_tag {m:ya}{t:Int}(h:(zI m t).2=true):(zI m t).1.fTag=t∧(zI m t).1∈m.fFields:=by
 have key:∀ (l:List ZS) (i:Int),(zI.l4 t l i).2=true→(zI.l4 t l i).1.fTag=t∧(zI.l4 t l i).1∈l:=by
  intro l
  induction l with
  |nil=>intro i h; cases h
  |cons f l ih=>
   intro i h
   rw[zI.l4] at h ⊢
   split at h
   · rename_i hf
     rw[if_pos hf]; exact⟨hf,qA ..⟩
   rename_i hf
   rw[if_neg hf];obtain⟨h1,h2⟩:=ih _ h;exact⟨h1,qB _ h2⟩
 exact key m.fFields 0 h
theorem fldD_eq {self:zE→Yi→yc→Int→Option (zk×Int)}{s:zE}{m:ya}{deep:Int}{one:Yi→yc→zk×Int}:
 ∀ {l:List yc} {es:List zr} {rest:List yc},(∀ r∈l,1≤r.fTag∧r.fTag≤500)→(∀ r∈l,∀ y,self s y r deep=some (one y r))→es.Pairwise vbi→(∀ e∈es,(1≤e.fTag∧e.fTag≤500)∧e.fTrees≠[]∧e.fTrees.length≤64)→es.length+l.length<100000→rest.length+l.length<100000→
 yg.l self s m deep l es rest=some (vca m one l es rest)
 |[],es,rest,_,_,_,he,hn,hn'=>by
  rw[yg.l,Zu (by simp only[qr] at hn; omega),qh,vcO fun e h=>(he e h).2.1,qh,sorted_eq (by simp only[qr] at hn'; omega),qh,vca]
 |r::l,es,rest,ht,ho,hs,he,hn,hn'=>by
  rw[ql] at hn hn';have hr:=ht r (qA ..)
  have ht':∀ r∈l,1≤r.fTag∧r.fTag≤500:=fun x hx=>ht x (qB _ hx)
  have ho':∀ r∈l,∀ y,self s y r deep=some (one y r):=fun x hx=>ho x (qB _ hx)
  rw[yg.l,bnd,vca]
  by_cases hf:(zI m r.fTag).2=true
  · obtain⟨hft,_⟩:=checkField_tag hf;rw[if_pos hf,if_pos hf,ho r (qA ..),qh]
    by_cases h0:(one (zI m r.fTag).1.fType r).2=0
    · rw[if_pos h0,if_pos h0,decode_put_eq hs (fun e h=>(he e h).1) (by rw[hft]; exact hr) (by omega) (fun e h=>by have:=(he e h).2.2; omega),qh,hft]
      by_cases hp:vc4 r.fTag ((zI m r.fTag).1.fLabel=3) es≤64
      · rw[if_pos hp,if_pos (decide_eq_true hp)];refine fldD_eq (es:=XW r.fTag ((zI m r.fTag).1.fLabel=3) (one (zI m r.fTag).1.fType r).1 es) ht' ho' (vd8 hs) ?_ (by have:=putE_len (t:=r.fTag) (rep:=(zI m r.fTag).1.fLabel=3) (x:=(one (zI m r.fTag).1.fType r).1) (es:=es); omega) (by omega)
        intro e h
        rcases putE_all h with h|⟨h1,h2,h3⟩
        · exact he e h
        exact⟨by rw[h1]; exact hr,h3,by omega⟩
      rw[if_neg hp,if_neg (by simpa using hp)]; rfl
    rw[if_neg h0,if_neg h0]; rfl
  rw[if_neg hf,if_neg hf,Zu (by omega),qh];exact fldD_eq ht' ho' hs he (by omega) (by rw[qk,qS]; omega)
def msgOf (s:zE)(n:List UInt8):ya:=(yq s n).1
def oneD (msg:ya→List UInt8→zk×Int)(s:zE)(y:Yi)(r:yc):zk×Int:=
 if (if y.fKind=4∨y.fKind=5∨y.fKind=7 then r.fWire=1 else r.fWire=0) then
  (if y.fKind=3∨y.fKind=6 then (if Zq y r.fN=true then (⟨1,r.fN,[],[],[]⟩,0) else (vau,11))
  else if y.fKind=4 then (if runesV r.fB=true then (⟨2,0,r.fB,[],[]⟩,0) else (vau,9))
  else if y.fKind=7 then msg (msgOf s y.fName) r.fB
  else (if r.fWire=1 then ⟨2,0,r.fB,[],[]⟩ else ⟨1,r.fN,[],[],[]⟩,0))
 else (vau,8)
theorem oneD_eq {self:zE→ya→List UInt8→Int→Option (zk×Int)}{self2:zE→Yi→yc→Int→Option (zk×Int)}{s:zE}{y:Yi}{r:yc}{deep:Int}{msg:ya→List UInt8→zk×Int}(hw:r.fWire=0∨r.fWire=1)(hb:r.fB.length≤4096)(hd:deep<1000)(hd':0≤deep)(hs:self s (msgOf s y.fName) r.fB (deep+1)=some (msg (msgOf s y.fName) r.fB)):
 yA.body self self2 s y r deep=some (oneD msg s y r):=by
 have hv:=runesV_eq (a:=r.fB) (by omega);have ed:IntKind.i64.wrap (deep+1)=deep+1:=wV (by omega) (by omega)
 have hm:∀ z:zk×Int,some (z.1,z.2)=some z:=fun z=>rfl
 unfold yA.body yA.j2 yA.j26 yA.j3 yA.j6 yA.j4 oneD bnd;unfold msgOf at hs ⊢;simp only[vdw (show r.fB.length≤9223372036854775807 by omega),hv,ed,qh,hs]
 rcases hw with hw|hw<;>simp only[hw,reduceIte,reduceCtorEq,Int.reduceEq] <;>
  by_cases k4:y.fKind=4<;>by_cases k5:y.fKind=5<;>by_cases k7:y.fKind=7<;>by_cases k3:y.fKind=3<;>by_cases k6:y.fKind=6 <;>
  first
   |(exfalso; omega)
   |(simp only[k4,k5,k7,k3,k6,reduceIte,reduceCtorEq,Int.reduceEq,decide_true,decide_false,or_true,true_or,or_false,false_or,or_self,ud]<;>first|rfl|(cases Zq y r.fN<;>rfl)|(cases runesV r.fB<;>rfl))
def getD (b:List UInt8):List yc×Int:=(w5 b).getD ([],99)
theorem getD_eq (b:List UInt8):w5 b=some (getD b):=by
 obtain⟨r,e,_⟩:=vdf b
 unfold getD; rw[e]; rfl
theorem getD_ok {b:List UInt8}(h:(getD b).2=0):b=Y1 (getD b).1∧b.length≤4096∧∀ x∈(getD b).1,vaw x:=by
 obtain⟨r,e,i,_⟩:=vdf b;rw[getD_eq] at e;obtain rfl:=Option.some.inj e;exact i h
theorem rawsB_len2 : ∀ l:List yc,2*l.length≤(Y1 l).length
 |[]=>uu _
 |r::l=>by
  rw[vc2,qk,ql]
  have:=rawsB_len2 l; have:=rawB_pos r; omega
def decM (s:zE):Nat→ya→List UInt8→zk×Int
 |0,_,_=>(vau,10)
 |d+1,m,b=>if (getD b).2=0 then vca m (oneD (decM s d) s) (getD b).1 [] [] else (vau,(getD b).2)
theorem vaU (s:zE):∀ (d k:Nat) (m:ya) (b:List UInt8) (deep:Int),d≤10→deep=11-d→2*d+1≤k→yg k s m b deep=some (decM s d m b)
 |d,0,m,b,deep,_,_,h=>by omega
 |0,k+1,m,b,deep,_,h,_=>by
  rw[yg,yg.body,if_pos (by omega)]; rfl
 |d+1,k+1,m,b,deep,h10,hd,hk=>by
  rw[yg,yg.body,if_neg (by omega),getD_eq,qh,decM]
  by_cases h0:(getD b).2=0
  · rw[if_pos h0,if_pos h0];obtain⟨hb,hl,hok⟩:=getD_ok h0
    have hlen:(getD b).1.length<100000:=by
     have:=rawsB_len2 (getD b).1
     rw[← hb] at this; omega
    refine fldD_eq ?_ ?_ List.Pairwise.nil (fun _ h=>by cases h) (by rw[qr]; omega) (by rw[qr]; omega)
    · intro r hr
      have:=Xw (hok r hr).1;exact⟨this.1,this.2.1⟩
    intro r hr y
    obtain⟨k',rfl⟩:∃ k',k=k'+1:=⟨k-1,by omega⟩
    rw[yA];have hc:=(Xw (hok r hr).1).2.2
    have hbl:r.fB.length≤4096:=by
     rcases hc with ⟨_,hc⟩|⟨_,_,hc⟩
     · rw[hc]; decide
     exact hc
    refine oneD_eq (by rcases hc with hc|hc; exact Or.inl hc.1; exact Or.inr hc.1) hbl (by omega) (by omega) ?_;exact vaU s d k' _ _ _ (by omega) (by omega) (by omega)
  rw[if_neg h0,if_neg h0]; rfl
theorem decode_eq {s:zE}{name b:List UInt8}(hc:yH s=some 0)(hm:(yq s name).2=true):ZH s name b=some (decM s 10 (msgOf s name) b):=by
 rw[ZH,hc,qh,if_pos rfl,bnd,hm,if_neg (by decide),vaU s 10 xo _ b 1 (qw _) rfl (by have:=Zz; omega),qh]; rfl
def maxD (f:zk→Nat):List zk→Nat→Nat
 |[],d=>d
 |x::l,d=>maxD f l (max d (f x))
theorem maxD_ge {f:zk→Nat}:∀ (l:List zk) (d:Nat),d≤maxD f l d
 |[],d=>qw _
 |x::l,d=>uJ (Nat.le_max_left _ _) (maxD_ge l _)
theorem maxD_mem {f:zk→Nat}{x:zk}:∀ {l:List zk} {d:Nat},x∈l→f x≤maxD f l d
 |y::l,d,h=>by
  rw[maxD]
  rcases qW.1 h with rfl|h
  · exact uJ (Nat.le_max_right _ _) (maxD_ge l _)
  exact maxD_mem h
theorem maxD_le {f:zk→Nat}{n:Nat}:∀ {l:List zk} {d:Nat},d≤n→(∀ x∈l,f x≤n)→maxD f l d≤n
 |[],d,h,_=>h
 |x::l,d,h,hl=>maxD_le (l:=l) (Nat.max_le.2 ⟨h,hl x (qA ..)⟩) fun y hy=>hl y (qB _ hy)
theorem maxD_app (f:zk→Nat):∀ (l m:List zk) (d:Nat),maxD f (l++m) d=maxD f m (maxD f l d)
 |[],_,_=>rfl
 |x::l,m,d=>maxD_app f l m _
def kids (t:zk):List zk:=t.fEntries.flatMap zr.fTrees
def vbL : Nat→zk→Nat
 |0,_=>0
 |m+1,t=>if t.fKind=3 then maxD (vbL m) (kids t) 0+1 else 0
theorem depT_le : ∀ (m:Nat) (t:zk),vbL m t≤m
 |0,_=>qw _
 |m+1,t=>by
  rw[vbL]; split
  · exact Nat.succ_le_succ (maxD_le (uu _) fun x _=>depT_le m x)
  exact uu _
theorem deep_l20 {self:zk→Int→Option Int}{m:Nat}(hm:m<1000)(hs:∀ x,self x (m:Int)=some ((vbL m x:Nat):Int)){x7:Int}{rec10:Int→Int→Option Int}:∀ (l:List zk) (i:Int) (d:Nat),
 yV.l20 self ((m+1:Nat):Int) x7 rec10 l i (d:Int)=rec10 (x7+1) ((maxD (vbL m) l d:Nat):Int)
 |[],i,d=>rfl
 |x::l,i,d=>by
  rw[yV.l20,show IntKind.i64.wrap (((m+1:Nat):Int)-1)=(m:Int) by rw[wV (by omega) (by omega)]; omega,hs,qh,maxD]
  have e:(if (d:Int)<((vbL m x:Nat):Int) then ((vbL m x:Nat):Int) else (d:Int))=((max d (vbL m x):Nat):Int):=by split<;>omega
  rw[e]; exact deep_l20 hm hs l _ _
theorem deep_l10 {self:zk→Int→Option Int}{m:Nat}(hm:m<1000)(hs:∀ x,self x (m:Int)=some ((vbL m x:Nat):Int)):∀ (l:List zr) (i:Int) (d:Nat),d≤1000→
 yV.l10 self ((m+1:Nat):Int) l i (d:Int)=some ((maxD (vbL m) (l.flatMap zr.fTrees) d+1:Nat):Int)
 |[],i,d,hd=>by
  rw[yV.l10,wV (by omega) (by omega),uf,maxD]; rfl
 |e::l,i,d,hd=>by
  rw[yV.l10,deep_l20 hm hs,deep_l10 hm hs l _ _ (maxD_le hd fun x _=>uJ (depT_le m x) (by omega)),qU,maxD_app]
theorem deep_eq : ∀ (m k:Nat) (t:zk),m<1000→m<k→yV k t (m:Int)=some ((vbL m t:Nat):Int)
 |m,0,t,_,h=>by omega
 |0,k+1,t,_,_=>by
  rw[yV,yV.body,if_pos (by simp)]; rfl
 |m+1,k+1,t,hm,hk=>by
  rw[yV,yV.body,vbL]
  by_cases h3:t.fKind=3
  · rw[if_neg (by simp only[h3,decide_true,qu,uC,decide_eq_true_eq]; omega),if_pos h3];exact deep_l10 (by omega) (fun x=>deep_eq m k x (by omega) (by omega)) t.fEntries 0 0 (by omega)
  rw[if_pos (by simp[h3]),if_neg h3]; rfl
theorem Depth_eq (t:zk):YY t=some ((vbL 101 t:Nat):Int):=by
 rw[YY,show (101:Int)=((101:Nat):Int) from rfl,deep_eq 101 xo t (by omega) (by have:=Zz; omega)]; rfl
def risB : List yc→Bool
 |a::b::l=>decide (a.fTag≤b.fTag)&&risB (b::l)
 |_=>true
theorem risB_iff : ∀ {l:List yc},risB l=true↔l.Pairwise Xj
 |[]=>by simp[risB]
 |[a]=>by simp[risB]
 |a::b::l=>by
  rw[risB,qC,decide_eq_true_eq,risB_iff,uy (a:=a)]
  constructor
  · rintro ⟨h1,h2⟩;refine⟨?_,h2⟩
    intro c hc
    rcases qW.1 hc with rfl|hc
    · exact h1
    have:=(uy.1 h2).1 c hc; unfold Xj at *; omega
  rintro ⟨h1,h2⟩;exact⟨h1 b (qA ..),h2⟩
theorem rising_l {L:List yc}(hL:L.length<4611686018427387904):∀ (k:Nat) (A:List yc) (a:yc) (B:List yc),L=A++a::B→B.length<k→wG.l4 L k ((A.length+1:Nat):Int)=some (risB (a::B))
 |0,_,_,_,_,h=>by omega
 |k+1,A,a,[],h,_=>by
  rw[wG.l4,if_neg (by rw[h,qk,qS]; omega)]; rfl
 |k+1,A,a,b::B,h,hk=>by
  have hl:L.length=A.length+(B.length+2):=by rw[h,qk,ql,ql]
  have e1:Yz L ((A.length+1:Nat):Int)=some b:=by
   rw[h,show A++a::b::B=(A++[a])++b::B by rw[qx]; rfl];exact Xe (by rw[qk,qS])
  have e2:IntKind.i64.wrap (((A.length+1:Nat):Int)-1)=(A.length:Int):=by rw[wV (by omega) (by omega)]; omega
  have e3:Yz L (A.length:Int)=some a:=by rw[h]; exact Xe rfl
  have e4:IntKind.i64.wrap (((A.length+1:Nat):Int)+1)=(((A++[a]).length+1:Nat):Int):=by rw[wV (by omega) (by omega),qk,qS]; omega
  rw[wG.l4,if_pos (by omega),e1,qh,e2,e3,qh,risB]
  by_cases hlt:b.fTag<a.fTag
  · rw[if_pos hlt,decide_eq_false (by omega)]; rfl
  rw[if_neg hlt,e4,rising_l hL k (A++[a]) b B (by rw[h,qx]; rfl) (by simpa using hk),decide_eq_true (by omega),um]
theorem rising_eq {l:List yc}(h:l.length<4611686018427387904):wG l=some (risB l):=by
 cases l with
 |nil=>rfl
 |cons a l=>exact rising_l h xo [] a l rfl (by have:=Zz; rw[ql] at h; omega)
def restB (t:zk):Bool:=t.fRest.all (fun r=>xD r && !(t.fEntries.any fun e=>decide (e.fTag=r.fTag)))&&risB t.fRest
theorem rest_l16 {x2:Int}{rec4:Int→Option Bool}{y:yc}:∀ (l:List zr) (i:Int),xV.l16 x2 rec4 y l i=if (l.any fun e=>decide (e.fTag=y.fTag))=true then some false else rec4 (x2+1)
 |[],i=>by rw[xV.l16]; rfl
 |e::l,i=>by
  rw[xV.l16,List.any_cons]
  by_cases h:e.fTag=y.fTag
  · rw[if_pos h,decide_eq_true h,uA,if_pos rfl]
  rw[if_neg h,decide_eq_false h,uC,rest_l16]
theorem rest_l4 {t:zk}(hr:t.fRest.length<4611686018427387904):∀ (l:List yc) (i:Int),xV.l4 t l i=some (l.all (fun r=>xD r && !(t.fEntries.any fun e=>decide (e.fTag=r.fTag)))&&risB t.fRest)
 |[],i=>by rw[xV.l4,rising_eq hr]; rfl
 |r::l,i=>by
  rw[xV.l4,bnd,q9]
  cases hc:xD r with
  |false=>rfl
  |true=>
   rw[if_neg (by decide),rest_l16]
   cases ha:t.fEntries.any fun e=>decide (e.fTag=r.fTag) with
   |true=>rfl
   |false=>rw[if_neg (by decide),rest_l4 hr l]; rfl
theorem rest_eq {t:zk}(hr:t.fRest.length<4611686018427387904):xV t=some (restB t):=rest_l4 hr _ _
def entB (f:zk→Bool):Int→List zr→Bool
 |_,[]=>true
 |last,e::l=>decide (last<e.fTag∧e.fTag≤500∧1≤e.fTrees.length∧e.fTrees.length≤64)&&(e.fTrees.all fun x=>decide (x.fKind=(e.fTrees.headD vau).fKind)&&f x)&&entB f e.fTag l
def leafB (t:zk):Bool:=
 if t.fKind=1 then decide (t.fS=[])&&decide ((qa t.fEntries:Int)=0)&&decide ((qa t.fRest:Int)=0)
 else if t.fKind=2 then decide (t.fN=0)&&decide ((qa t.fEntries:Int)=0)&&decide ((qa t.fRest:Int)=0)
 else false
def ZQ : Nat→zk→Bool
 |0,t=>leafB t
 |d+1,t=>if t.fKind=3 then decide (t.fN=0)&&decide (t.fS=[])&&entB (ZQ d) 0 t.fEntries&&restB t else leafB t
def ownS (t:zk):Prop:=va0 t.fN∧t.fRest.length≤900000∧∀ r∈t.fRest,va0 r.fN
def szT : Nat→zk→Prop
 |0,t=>ownS t
 |d+1,t=>ownS t∧∀ x∈kids t,szT d x
theorem vek {self:zk→Option Bool}{f:zk→Bool}{x3:Int}{rec6:Int→Int→Option Bool}{y:zr}(hy:1≤y.fTrees.length):∀ (l:List zk) (i:Int),(∀ x∈l,self x=some (f x))→
 yd.l18 self x3 rec6 y l i=if (l.all fun x=>decide (x.fKind=(y.fTrees.headD vau).fKind)&&f x)=true then rec6 (x3+1) y.fTag else some false
 |[],i,_=>by rw[yd.l18]; rfl
 |x::l,i,h=>by
  have e1:Yz y.fTrees 0=some (y.fTrees.headD vau):=by
   cases ht:y.fTrees with
   |nil=>rw[ht] at hy; exact absurd hy (by decide)
   |cons a l=>rfl
  rw[yd.l18,e1,qh,q9]
  by_cases hk:x.fKind=(y.fTrees.headD vau).fKind
  · rw[if_pos hk,h x (qA ..),qh,decide_eq_true hk,um]
    cases f x with
    |false=>rfl
    |true=>
     rw[yd.j25,if_neg (by decide),vek hy l _ fun z hz=>h z (qB _ hz),um]
  rw[if_neg hk,decide_eq_false hk]; rfl
theorem entries_l6 {self:zk→Option Bool}{f:zk→Bool}:∀ (l:List zr) (i last:Int),(∀ e∈l,∀ x∈e.fTrees,self x=some (f x))→yd.l6 self l i last=some (entB f last l)
 |[],i,last,_=>rfl
 |e::l,i,last,h=>by
  rw[yd.l6,entB]
  by_cases hc:last<e.fTag∧e.fTag≤500∧1≤e.fTrees.length∧e.fTrees.length≤64
  · rw[if_neg (by simp only[ui,decide_eq_true_eq]; omega),vek hc.2.2.1 e.fTrees 0 (h e (qA ..)),decide_eq_true hc,um]
    cases ha:e.fTrees.all fun x=>decide (x.fKind=(e.fTrees.headD vau).fKind)&&f x with
    |false=>rfl
    |true=>rw[if_pos rfl,entries_l6 l _ _ fun y hy=>h y (qB _ hy),um]
  rw[if_pos (by simp only[ui,decide_eq_true_eq]; omega),decide_eq_false hc]; rfl
theorem XA {t:zk}{e:zr}{x:zk}(he:e∈t.fEntries)(hx:x∈e.fTrees):x∈kids t:=List.mem_flatMap.2 ⟨e,he,hx⟩
theorem right_eq : ∀ (d m k:Nat) (t:zk),d<m→vbL m t≤d→2*d<k→szT d t→wp k t=some (ZQ d t)
 |d,m,0,t,_,_,h,_=>by omega
 |0,m+1,k+1,t,_,hd,_,hz=>by
  have h3:¬ t.fKind=3:=by
   intro h; rw[vbL,if_pos h] at hd; omega
  rw[wp,wp.body,ZQ,leafB,if_neg h3]
  split<;>first|rfl|(split<;>rfl)
 |d+1,m+1,k+1,t,hm,hd,hk,hz=>by
  rw[wp,wp.body,ZQ]
  by_cases h3:t.fKind=3
  · have hd':maxD (vbL m) (kids t) 0≤d:=by rw[vbL,if_pos h3] at hd; omega
    obtain⟨k',rfl⟩:∃ k',k=k'+1:=⟨k-1,by omega⟩
    have he:yd (k'+1) t=some (entB (ZQ d) 0 t.fEntries):=by
     rw[yd,yd.body]
     exact entries_l6 t.fEntries 0 0 fun e he x hx=>right_eq d m k' x (by omega) (uJ (maxD_mem (XA he hx)) hd') (by omega) (hz.2 x (XA he hx))
    rw[if_neg (by omega),if_neg (by omega),if_pos h3,if_pos h3,he,rest_eq (by have:=hz.1.2.1; omega)]
    cases decide (t.fN=0)&&decide (t.fS=[]) with
    |false=>rfl
    |true=>cases entB (ZQ d) 0 t.fEntries<;>rfl
  rw[if_neg h3,if_neg h3,leafB]
  split<;>first|rfl|(split<;>rfl)
def XT (t:zk):Bool:=decide (vbL 101 t≤10)&&ZQ 10 t
theorem check_eq {t:zk}(hz:szT 10 t):Yk t=some (XT t):=by
 rw[Yk,Depth_eq,qh,XT]
 by_cases h:vbL 101 t≤10
 · rw[if_pos (by omega),right_eq 10 101 xo t (by omega) h (by have:=Zz; omega) hz,decide_eq_true h,um]; rfl
 rw[if_neg (by omega),decide_eq_false h]; rfl
theorem in0 : va0 0:=⟨by decide,by decide⟩
def rawT (enc:zk→Option (List UInt8))(tag:Int)(x:zk):Option yc:=
 if x.fKind=1 then some ⟨tag,0,x.fN,[]⟩
 else if x.fKind=2 then (if 4096<x.fS.length then none else some ⟨tag,1,0,x.fS⟩)
 else (enc x).bind fun b=>some ⟨tag,1,0,b⟩
def rawL (enc:zk→Option (List UInt8))(tag:Int):List zk→Option (List yc)
 |[]=>some []
 |x::l=>(rawT enc tag x).bind fun r=>(rawL enc tag l).bind fun m=>some (r::m)
def rawE (enc:zk→Option (List UInt8)):List zr→Option (List yc)
 |[]=>some []
 |e::l=>(rawL enc e.fTag e.fTrees).bind fun a=>(rawE enc l).bind fun m=>some (a++m)
def putB (l:List yc):Option (List UInt8):=if 4096<(Y1 l).length then none else some (Y1 l)
def vaC : Nat→zk→Option (List UInt8)
 |0,_=>none
 |d+1,t=>(rawE (vaC d) t.fEntries).bind fun L=>putB (srt (t.fRest++L))
def vb5 : Nat→zk→zm
 |0,t=>if t.fKind=1 then .num t.fN else if t.fKind=2 then .str t.fS else .node [] t.fRest
 |d+1,t=>if t.fKind=1 then .num t.fN else if t.fKind=2 then .str t.fS else .node (t.fEntries.map fun e=>⟨e.fTag,e.fTrees.map (vb5 d)⟩) t.fRest
theorem made_l62 {self:zk→Option zm}{f:zk→zm}{t:zk}{r12:List yc}{y:zr}:∀ (l:List zk) (i:Int) (acc:List zm),(∀ x∈l,self x=some (f x))→acc.length+l.length≤64→
 yz.l62 self t r12 y l i acc=yz.l20 self t r12 xo [⟨y.fTag,acc++l.map f⟩] 1
 |[],i,acc,_,_=>by
  rw[yz.l62,qn,qE,wV (by decide) (by decide)]; rfl
 |x::l,i,acc,h,hl=>by
  rw[ql] at hl
  rw[yz.l62,h x (qA ..),qh,Zu (by omega),qh,made_l62 l _ _ (fun z hz=>h z (qB _ hz)) (by rw[qk,qS]; omega),qx]; rfl
theorem made_l35 {self:zk→Option zm}{f:zk→zm}{l14:List yI}{x16:Int}{rec20:List yI→Int→Option zm}{y:zr}(hl14:l14.length≤1000):∀ (l:List zk) (i:Int) (acc:List zm),(∀ x∈l,self x=some (f x))→acc.length+l.length≤64→
 yz.l35 self l14 x16 rec20 y l i acc=rec20 (l14++[⟨y.fTag,acc++l.map f⟩]) (IntKind.i64.wrap (x16+1))
 |[],i,acc,_,_=>by
  rw[yz.l35,qn,qE,Zu (by omega),qh]
 |x::l,i,acc,h,hl=>by
  rw[ql] at hl
  rw[yz.l35,h x (qA ..),qh,Zu (by omega),qh,made_l35 hl14 l _ _ (fun z hz=>h z (qB _ hz)) (by rw[qk,qS]; omega),qx]; rfl
def entV (f:zk→zm)(e:zr):yI:=⟨e.fTag,e.fTrees.map f⟩
theorem made_l20 {self:zk→Option zm}{f:zk→zm}{t:zk}{r12:List yc}(hn:t.fEntries.length≤1000)(hs:∀ e∈t.fEntries,e.fTrees.length≤64∧∀ x∈e.fTrees,self x=some (f x)):∀ (k:Nat) (A B:List zr),t.fEntries=A++B→B.length<k→
 yz.l20 self t r12 k (A.map (entV f)) (A.length:Int)=some (.node (t.fEntries.map (entV f)) r12)
 |0,A,B,_,h=>by omega
 |k+1,A,[],h,_=>by
  rw[qE] at h;rw[yz.l20,if_neg (by rw[h]; omega),h]
 |k+1,A,e::B,h,hk=>by
  rw[ql] at hk
  have hl:t.fEntries.length=A.length+(B.length+1):=by rw[h,qk,ql]
  have he:=hs e (by rw[h]; exact uV _ (qA ..))
  have ei:Yz t.fEntries (A.length:Int)=some e:=by rw[h]; exact Xe rfl
  rw[yz.l20,if_pos (by omega),ei,qh,made_l35 (f:=f) (by rw[uk]; omega) e.fTrees 0 [] he.2 (by rw[qr]; omega),wV (by omega) (by omega)];have:=made_l20 (self:=self) (f:=f) (r12:=r12) hn hs k (A++[e]) B (by rw[h,qx]; rfl) (by omega);rw[qF,qk,qS] at this;rw[show (A.length:Int)+1=((A.length+1:Nat):Int) by omega];exact this
theorem X0 {f:zk→Bool}:∀ {l:List zr} {last:Int},entB f last l=true→∀ e∈l,last<e.fTag∧e.fTag≤500∧1≤e.fTrees.length∧e.fTrees.length≤64∧(∀ x∈e.fTrees,x.fKind=(e.fTrees.headD vau).fKind∧f x=true)
 |[],_,_,e,he=>by cases he
 |a::l,last,h,e,he=>by
  rw[entB,qC,qC,decide_eq_true_eq] at h
  rcases qW.1 he with rfl|he
  · refine⟨h.1.1.1,h.1.1.2.1,h.1.1.2.2.1,h.1.1.2.2.2,fun x hx=>?_⟩;have:=uh.1 h.1.2 x hx;rw[qC,decide_eq_true_eq] at this;exact this
  obtain⟨h1,h2⟩:=X0 h.2 e he;exact⟨by omega,h2⟩
theorem vbg {f:zk→Bool}:∀ {l:List zr} {last:Int},entB f last l=true→l.Pairwise vbi
 |[],_,_=>List.Pairwise.nil
 |a::l,last,h=>by
  rw[entB,qC,qC] at h;rw[uy];exact⟨fun e he=>(X0 h.2 e he).1,vbg h.2⟩
theorem sorted_len {n:Nat}:∀ {l:List zr} {lo:Int},l.Pairwise vbi→(∀ e∈l,lo<e.fTag∧e.fTag≤lo+n)→l.length≤n
 |[],_,_,_=>uu _
 |a::l,lo,h,hl=>by
  rw[uy] at h;have ha:=hl a (qA ..)
  cases n with
  |zero=>omega
  |succ n=>
   rw[ql];refine Nat.succ_le_succ (sorted_len (n:=n) (lo:=lo+1) h.2 fun e he=>?_);have h1:=h.1 e he;have h2:=hl e (qB _ he)
   unfold vbi at h1; omega
theorem vbY {d:Nat}{t:zk}(h:ZQ (d+1) t=true)(h3:t.fKind=3):t.fEntries.length≤500∧entB (ZQ d) 0 t.fEntries=true∧restB t=true∧t.fN=0∧t.fS=[]:=by
 rw[ZQ,if_pos h3] at h;simp only[qC,decide_eq_true_eq] at h;refine⟨?_,h.1.2,h.2,h.1.1.1,h.1.1.2⟩
 exact sorted_len (n:=500) (lo:=0) (vbg h.1.2) fun e he=>by
  have:=X0 h.1.2 e he; omega
theorem vbH {t:zk}(h:leafB t=true):t.fKind=1∨t.fKind=2:=by
 unfold leafB at h
 split at h
 · exact Or.inl ‹_›
 split at h
 · exact Or.inr ‹_›
 cases h
theorem vbT {d:Nat}{t:zk}(h:ZQ d t=true):t.fKind=1∨t.fKind=2∨t.fKind=3:=by
 cases d with
 |zero=>rcases vbH h with h|h; exact Or.inl h; exact Or.inr (Or.inl h)
 |succ d=>
  rw[ZQ] at h
  split at h
  · exact Or.inr (Or.inr ‹_›)
  rcases vbH h with h|h; exact Or.inl h; exact Or.inr (Or.inl h)
theorem made_eq : ∀ (d k:Nat) (t:zk),d<k→ZQ d t=true→szT d t→yz k t=some (vb5 d t)
 |d,0,t,h,_,_=>by omega
 |0,k+1,t,_,hr,_=>by
  rw[yz,yz.body,vb5]
  rcases vbH hr with h|h
  · rw[if_pos h,if_pos h]; rfl
  rw[if_neg (by omega),if_pos h,if_neg (by omega),if_pos h]; rfl
 |d+1,k+1,t,hk,hr,hz=>by
  rw[yz,yz.body,vb5]
  by_cases h1:t.fKind=1
  · rw[if_pos h1,if_pos h1]; rfl
  by_cases h2:t.fKind=2
  · rw[if_neg h1,if_pos h2,if_neg h1,if_pos h2]; rfl
  have h3:t.fKind=3:=by rcases vbT hr with h|h|h<;>omega
  obtain⟨hl,he,_,_,_⟩:=vbY hr h3
  have hs:∀ e∈t.fEntries,e.fTrees.length≤64∧∀ x∈e.fTrees,yz k x=some (vb5 d x):=fun e hm=>by
   have:=X0 he e hm;exact⟨this.2.2.2.1,fun x hx=>made_eq d k x (by omega) (this.2.2.2.2 x hx).2 (hz.2 x (XA hm hx))⟩
  rw[if_neg h1,if_neg h2,if_neg h1,if_neg h2,xW,Zu (by have:=hz.1.2.1; omega),qh,qh]
  cases hE:t.fEntries with
  |nil=>rfl
  |cons a E=>
   rw[if_pos (by rw[ql]; omega)];have ha:=hs a (by rw[hE]; exact qA ..);rw[idx_t (Int.le_refl 0) (show (a::E)[qO 0]?=some a from rfl),qh,made_l62 (f:=vb5 d) a.fTrees 0 [] ha.2 (by rw[qr]; omega)];have:=made_l20 (self:=yz k) (f:=vb5 d) (r12:=t.fRest) (by omega) hs xo [a] E (by rw[hE]; rfl) (by have:=Zz; rw[hE,ql] at hl; omega);rw[hE] at this;exact this
theorem of_eq {t:zk}(hz:szT 10 t):Xz t=some (if XT t=true then (vb5 10 t,true) else (.nil,false)):=by
 rw[Xz,check_eq hz,qh]
 by_cases h:XT t=true
 · rw[h]
   have hr:ZQ 10 t=true:=by unfold XT at h; rw[qC] at h; exact h.2
   rw[if_neg (by decide),made_eq 10 xo t (by have:=Zz; omega) hr hz]; rfl
 rw[if_pos (by simpa using h),if_neg h]
theorem tags_l8 : ∀ (l:List yI) (i:Int) (acc:List Int),acc.length+l.length≤1000→xr.l8 l i acc=some (acc++l.map yI.ftag)
 |[],i,acc,_=>by rw[xr.l8,qn,qE]
 |e::l,i,acc,h=>by
  rw[ql] at h
  rw[xr.l8,Zu (by omega),qh,tags_l8 l _ _ (by rw[qk,qS]; omega),qx]; rfl
theorem get_l4 {f:zk→zm}{e:zr}{B:List zr}(he:e.fTrees.length≤64):∀ (A:List zr) (i:Int),(∀ a∈A,a.fTag≠e.fTag)→xq.l4 e.fTag ((A++e::B).map (entV f)) i=some (e.fTrees.map f)
 |[],i,_=>by
  rw[qD,qq,xq.l4,if_pos (show (entV f e).ftag=e.fTag from rfl),show (entV f e).fl=e.fTrees.map f from rfl,w8,Zu (by rw[uk]; omega)]; rfl
 |a::A,i,h=>by
  rw[qH,qq,xq.l4,if_neg (show ¬ (entV f a).ftag=e.fTag from h a (qA ..))]
  exact get_l4 he A _ fun b hb=>h b (qB _ hb)
theorem rawL_len {enc:zk→Option (List UInt8)}{tag:Int}:∀ {l:List zk} {m:List yc},rawL enc tag l=some m→m.length=l.length
 |[],m,h=>by cases h; rfl
 |x::l,m,h=>by
  obtain⟨r,_,h⟩:=bind_some h;obtain⟨m',h1,h⟩:=bind_some h;cases h;rw[ql,ql,rawL_len h1]
def vaJ (o:Option (List yc))(k:List yc→Option (List yc×Int)):Option (List yc×Int):=
 match o with
 |some m=>k m
 |none=>some ([],4)
theorem raws_l24 {selfR:Int→zm→Option (yc×Int)}{f:zk→zm}{enc:zk→Option (List UInt8)}{x6:Int}{rec10:Int→List yc→Option (List yc×Int)}{tag:Int}:∀ (l:List zk) (i:Int) (acc:List yc),(∀ x∈l,selfR tag (f x)=some (match rawT enc tag x with|some r=>(r,0)|none=>(⟨0,0,0,[]⟩,4)))→acc.length+l.length<3518437208882→
 yD.l24 selfR x6 rec10 tag (l.map f) i acc=vaJ (rawL enc tag l) fun m=>rec10 (x6+1) (acc++m)
 |[],i,acc,_,_=>by rw[qn,yD.l24,rawL,vaJ,qE]
 |x::l,i,acc,h,hl=>by
  rw[ql] at hl;rw[qq,yD.l24,h x (qA ..),qh,rawL]
  cases hx:rawT enc tag x with
  |none=>rfl
  |some r=>
   dsimp only
   rw[if_pos rfl,Zu (by omega),qh,raws_l24 l _ _ (fun z hz=>h z (qB _ hz)) (by rw[qk,qS]; omega),qh]
   cases rawL enc tag l with
   |none=>rfl
   |some m=>simp only[vaJ,qh,qx,qH,qD]
theorem raws_l10 {selfR:Int→zm→Option (yc×Int)}{f:zk→zm}{enc:zk→Option (List UInt8)}{E:List zr}{rest:List yc}(hs:E.Pairwise vbi)(ht:∀ e∈E,e.fTrees.length≤64∧∀ x∈e.fTrees,selfR e.fTag (f x)=some (match rawT enc e.fTag x with|some r=>(r,0)|none=>(⟨0,0,0,[]⟩,4)))(hn:E.length≤500):
 ∀ (B A:List zr) (i:Int) (acc:List yc),E=A++B→acc.length≤900000+64*A.length→yD.l10 selfR ⟨E.map (entV f),rest⟩ (B.map zr.fTag) i acc=vaJ (rawE enc B) fun m=>some (srt (acc++m),0)
 |[],A,i,acc,h,ha=>by
  have hl:E.length=A.length:=by rw[h,qE]
  rw[qn,yD.l10,sorted_eq (by omega),rawE,vaJ,qE]; rfl
 |e::B,A,i,acc,h,ha=>by
  have hl:E.length=A.length+(B.length+1):=by rw[h,qk,ql]
  have he:=ht e (by rw[h]; exact uV _ (qA ..))
  have hA:∀ a∈A,a.fTag≠e.fTag:=fun a hm=>by
   rw[h] at hs;have:=(List.pairwise_append.1 hs).2.2 a hm e (qA ..)
   unfold vbi at this; omega
  have hg:xq ⟨E.map (entV f),rest⟩ e.fTag=some (e.fTrees.map f):=by
   rw[xq,h]; exact get_l4 he.1 A 0 hA
  rw[qq,yD.l10,hg,qh,raws_l24 (enc:=enc) e.fTrees 0 acc he.2 (by omega),rawE]
  cases hL:rawL enc e.fTag e.fTrees with
  |none=>rfl
  |some m=>
   have hm:=rawL_len hL;rw[vaJ,raws_l10 hs ht hn B (A++[e]) _ _ (by rw[h,qx]; rfl) (by rw[qk,qk,qS]; omega),qh]
   cases rawE enc B with
   |none=>rfl
   |some m'=>simp only[vaJ,qh,qx]
theorem putB_some {l:List yc}{b:List UInt8}(h:putB l=some b):b=Y1 l∧b.length≤4096:=by
 unfold putB at h
 split at h
 · cases h
 cases h; exact⟨rfl,by omega⟩
theorem vel {d:Nat}{t:zk}{b:List UInt8}(h:vaC d t=some b):b.length≤4096:=by
 cases d with
 |zero=>cases h
 |succ d=>
  rw[vaC] at h;obtain⟨L,_,h⟩:=bind_some h;exact (putB_some h).2
theorem rawT_ok {d:Nat}{tag:Int}{x:zk}{r:yc}(h1:1≤tag)(h2:tag≤500)(hx:va0 x.fN)(h:rawT (vaC d) tag x=some r):vaw r∧r.fTag=tag:=by
 unfold rawT at h
 split at h
 · cases h; exact⟨⟨check_num h1 h2,hx⟩,rfl⟩
 split at h
 · split at h
   · cases h
   cases h; exact⟨⟨vdb h1 h2 (by omega),in0⟩,rfl⟩
 obtain⟨b,hb,h⟩:=bind_some h
 cases h; exact⟨⟨vdb h1 h2 (vel hb),in0⟩,rfl⟩
theorem rawL_ok {d:Nat}{tag:Int}(h1:1≤tag)(h2:tag≤500):∀ {l:List zk} {m:List yc},(∀ x∈l,va0 x.fN)→rawL (vaC d) tag l=some m→∀ r∈m,vaw r∧r.fTag=tag
 |[],m,_,h,r,hr=>by cases h; cases hr
 |x::l,m,hx,h,r,hr=>by
  obtain⟨a,ha,h⟩:=bind_some h;obtain⟨m',hm,h⟩:=bind_some h;cases h
  rcases qW.1 hr with rfl|hr
  · exact rawT_ok h1 h2 (hx x (qA ..)) ha
  exact rawL_ok h1 h2 (fun z hz=>hx z (qB _ hz)) hm r hr
theorem rawE_ok {d:Nat}:∀ {l:List zr} {m:List yc},(∀ e∈l,1≤e.fTag∧e.fTag≤500∧∀ x∈e.fTrees,va0 x.fN)→rawE (vaC d) l=some m→∀ r∈m,vaw r∧∃ e∈l,r.fTag=e.fTag
 |[],m,_,h,r,hr=>by cases h; cases hr
 |e::l,m,hx,h,r,hr=>by
  obtain⟨a,ha,h⟩:=bind_some h;obtain⟨m',hm,h⟩:=bind_some h;cases h;have he:=hx e (qA ..)
  rcases u5.1 hr with hr|hr
  · have:=rawL_ok he.1 he.2.1 he.2.2 ha r hr;exact⟨this.1,e,qA ..,this.2⟩
  obtain⟨h1,e',h2,h3⟩:=rawE_ok (fun z hz=>hx z (qB _ hz)) hm r hr;exact⟨h1,e',qB _ h2,h3⟩
theorem szT_own {d:Nat}{t:zk}(h:szT d t):ownS t:=by
 cases d with
 |zero=>exact h
 |succ d=>exact h.1
theorem restB_mem {t:zk}(h:restB t=true):(∀ r∈t.fRest,xD r=true∧∀ e∈t.fEntries,e.fTag≠r.fTag)∧t.fRest.Pairwise Xj:=by
 unfold restB at h;rw[qC] at h;refine⟨fun r hr=>?_,risB_iff.1 h.2⟩;have:=uh.1 h.1 r hr;rw[qC,vq] at this;refine⟨this.1,fun e he hc=>?_⟩;have h2:=List.any_eq_false.1 this.2 e he;exact h2 (decide_eq_true hc)
theorem raws_ok {d:Nat}{t:zk}{L:List yc}(hr:ZQ (d+1) t=true)(h3:t.fKind=3)(hz:szT (d+1) t)(hL:rawE (vaC d) t.fEntries=some L):∀ r∈srt (t.fRest++L),vaw r:=by
 obtain⟨_,he,hb,_,_⟩:=vbY hr h3
 intro r hm
 rw[srt_mem] at hm
 rcases u5.1 hm with hm|hm
 · exact⟨((restB_mem hb).1 r hm).1,hz.1.2.2 r hm⟩
 exact (rawE_ok (fun e hm=>by
  have:=X0 he e hm
  exact⟨by omega,this.2.1,fun x hx=>(szT_own (hz.2 x (XA hm hx))).1⟩) hL r hm).1
def vea (o:Option (List UInt8)):List UInt8×Int:=
 match o with
 |some b=>(b,0)
 |none=>([],4)
theorem vcj {l:List yc}(h:∀ r∈l,vaw r):xm l=some (vea (putB l)):=by
 rw[putAll_eq fun r hr=>(h r hr).2,if_pos (uh.2 fun r hr=>(h r hr).1),putB]
 split
 · rfl
 rfl
theorem tags_eq {f:zk→zm}{E:List zr}{rest:List yc}(h:E.length≤500):xr ⟨E.map (entV f),rest⟩=some (E.map zr.fTag):=by
 rw[xr];have:=tags_l8 (E.map (entV f)) 0 [] (by rw[qr,uk]; omega)
 rw[this,qD,List.map_map]; rfl
theorem raws_eq {selfB:yl→Option (List UInt8×Int)}{selfR:Int→zm→Option (yc×Int)}{selfS:yl→Option (List yc×Int)}{f:zk→zm}{enc:zk→Option (List UInt8)}{E:List zr}{rest:List yc}(hs:E.Pairwise vbi)(ht:∀ e∈E,e.fTrees.length≤64∧∀ x∈e.fTrees,selfR e.fTag (f x)=some (match rawT enc e.fTag x with|some r=>(r,0)|none=>(⟨0,0,0,[]⟩,4)))(hn:E.length≤500)(hr:rest.length≤900000):
 yD.body selfB selfR selfS ⟨E.map (entV f),rest⟩=vaJ (rawE enc E) fun m=>some (srt (rest++m),0):=by
 rw[yD.body,tags_eq hn,wH,xW,Zu (by dsimp only; omega),qh,qh,qh,qh];exact raws_l10 hs ht hn E [] 0 rest rfl (by rw[qr]; omega)
theorem bytes_eq : ∀ (d k:Nat) (t:zk) (es:List yI) (rs:List yc),3*d≤k→ZQ d t=true→t.fKind=3→szT d t→vb5 d t=.node es rs→wy k ⟨es,rs⟩=some (vea (vaC d t))
 |0,k,t,es,rs,_,hr,h3,_,_=>by
  rcases vbH hr with h|h<;>omega
 |d+1,k,t,es,rs,hk,hr,h3,hz,hv=>by
  obtain⟨k',rfl⟩:∃ k',k=k'+3:=⟨k-3,by omega⟩
  obtain⟨hl,he,hb,_,_⟩:=vbY hr h3;rw[vb5,if_neg (by omega),if_neg (by omega)] at hv;cases hv
  have hs:∀ e∈t.fEntries,e.fTrees.length≤64∧∀ x∈e.fTrees,xO (k'+1) e.fTag (vb5 d x)=some (match rawT (vaC d) e.fTag x with|some r=>(r,0)|none=>(⟨0,0,0,[]⟩,4)):=by
   intro e hm
   have h1:=X0 he e hm;refine⟨h1.2.2.2.1,fun x hx=>?_⟩;have hrx:=(h1.2.2.2.2 x hx).2;have hzx:=hz.2 x (XA hm hx);rw[xO,xO.body,rawT]
   rcases vbT hrx with h|h|h
   · have hv:vb5 d x=.num x.fN:=by cases d<;>rw[vb5,if_pos h]
     rw[hv,if_pos h]; rfl
   · have hv:vb5 d x=.str x.fS:=by cases d<;>rw[vb5,if_neg (by omega),if_pos h]
     rw[hv,if_neg (by omega),if_pos h,show Ys (.str x.fS)=some (.str x.fS) from rfl,qh]
     dsimp only
     rw[xO.j3]
     by_cases hc:4096<x.fS.length
     · rw[if_pos hc,if_pos (by dsimp only; omega)]
     rw[if_neg hc,if_neg (by dsimp only; omega)]
   have h1':¬ x.fKind=1:=by omega
   have h2':¬ x.fKind=2:=by omega
   obtain⟨es,rs,hv⟩:∃ es rs,vb5 d x=.node es rs:=by cases d<;>exact⟨_,_,by rw[vb5,if_neg h1',if_neg h2']⟩
   rw[hv,if_neg h1',if_neg h2',show Ys (.node es rs)=some (.node es rs) from rfl,qh]
   dsimp only
   rw[bytes_eq d k' x es rs (by omega) hrx h hzx hv,qh]
   cases hx':vaC d x with
   |none=>rfl
   |some b=>
    have hbl:=vel hx'
    rw[vea]; dsimp only
    rw[if_pos rfl,xO.j3,if_neg (by dsimp only; omega),qh]
  have hR:yD (k'+2) ⟨t.fEntries.map fun e=>⟨e.fTag,e.fTrees.map (vb5 d)⟩,t.fRest⟩=vaJ (rawE (vaC d) t.fEntries) fun m=>some (srt (t.fRest++m),0):=by
   rw[yD];exact raws_eq (f:=vb5 d) (vbg he) hs hl hz.1.2.1
  rw[wy,wy.body,hR,vaC]
  cases hL:rawE (vaC d) t.fEntries with
  |none=>rfl
  |some L=>
   rw[vaJ,qh]; dsimp only
   rw[if_pos rfl,vcj (raws_ok hr h3 hz hL),qh,qh]
theorem rawE_eq {d k:Nat}{t:zk}(hk:3*d+2≤k)(hr:ZQ (d+1) t=true)(h3:t.fKind=3)(hz:szT (d+1) t):yD k ⟨t.fEntries.map (entV (vb5 d)),t.fRest⟩=vaJ (rawE (vaC d) t.fEntries) fun m=>some (srt (t.fRest++m),0):=by
 obtain⟨k',rfl⟩:∃ k',k=k'+2:=⟨k-2,by omega⟩
 obtain⟨hl,he,hb,_,_⟩:=vbY hr h3;rw[yD];refine raws_eq (f:=vb5 d) (vbg he) ?_ hl hz.1.2.1
 intro e hm
 have h1:=X0 he e hm;refine⟨h1.2.2.2.1,fun x hx=>?_⟩;have hrx:=(h1.2.2.2.2 x hx).2;have hzx:=hz.2 x (XA hm hx);rw[xO,xO.body,rawT]
 rcases vbT hrx with h|h|h
 · have hv:vb5 d x=.num x.fN:=by cases d<;>rw[vb5,if_pos h]
   rw[hv,if_pos h]; rfl
 · have hv:vb5 d x=.str x.fS:=by cases d<;>rw[vb5,if_neg (by omega),if_pos h]
   rw[hv,if_neg (by omega),if_pos h,show Ys (.str x.fS)=some (.str x.fS) from rfl,qh]
   dsimp only
   rw[xO.j3]
   by_cases hc:4096<x.fS.length
   · rw[if_pos hc,if_pos (by dsimp only; omega)]
   rw[if_neg hc,if_neg (by dsimp only; omega)]
 have h1':¬ x.fKind=1:=by omega
 have h2':¬ x.fKind=2:=by omega
 obtain⟨es,rs,hv⟩:∃ es rs,vb5 d x=.node es rs:=by cases d<;>exact⟨_,_,by rw[vb5,if_neg h1',if_neg h2']⟩
 rw[hv,if_neg h1',if_neg h2',show Ys (.node es rs)=some (.node es rs) from rfl,qh]
 dsimp only
 rw[bytes_eq d k' x es rs (by omega) hrx h hzx hv,qh]
 cases hx':vaC d x with
 |none=>rfl
 |some b=>
  have hbl:=vel hx'
  rw[vea]; dsimp only
  rw[if_pos rfl,xO.j3,if_neg (by dsimp only; omega),qh]
theorem vcp {t:zk}(h:XT t=true):ZQ 10 t=true∧vbL 101 t≤10:=by
 unfold XT at h;rw[qC,decide_eq_true_eq] at h;exact⟨h.2,h.1⟩
theorem Raws_eq {t:zk}(hz:szT 10 t):Y3 t=some (if XT t=true∧t.fKind=3 then (match rawE (vaC 9) t.fEntries with|some L=>(srt (t.fRest++L),(0:Int))|none=>([],4)) else ([],1)):=by
 rw[Y3,of_eq hz,qh]
 by_cases hc:XT t=true
 · rw[if_pos hc]
   by_cases h3:t.fKind=3
   · rw[if_neg (by rw[decide_eq_true h3]; exact Bool.false_ne_true),if_pos ⟨hc,h3⟩]
     have hv:vb5 10 t=.node (t.fEntries.map (entV (vb5 9))) t.fRest:=by rw[vb5,if_neg (by omega),if_neg (by omega)]; rfl
     rw[hv,show xT (.node (t.fEntries.map (entV (vb5 9))) t.fRest)=some ⟨t.fEntries.map (entV (vb5 9)),t.fRest⟩ from rfl,qh,rawE_eq (d:=9) (by have:=Zz; omega) (vcp hc).1 h3 hz]
     cases rawE (vaC 9) t.fEntries<;>rfl
   rw[if_pos (by rw[decide_eq_false h3]; rfl),if_neg (fun h=>h3 h.2)]
 rw[if_neg hc,if_pos (by rfl),if_neg (fun h=>hc h.1)]
theorem Encode_eq {t:zk}(hz:szT 10 t):ZW t=some (if XT t=true∧t.fKind=3 then vea (vaC 10 t) else ([],1)):=by
 rw[ZW,Raws_eq hz,qh]
 by_cases hc:XT t=true∧t.fKind=3
 · rw[if_pos hc,if_pos hc,vaC]
   cases hL:rawE (vaC 9) t.fEntries with
   |none=>rfl
   |some L=>
    dsimp only
    rw[if_pos rfl,vcj (raws_ok (vcp hc.1).1 hc.2 hz hL),qh,qh]
 rw[if_neg hc,if_neg hc]; rfl
theorem vb8 (r:yc):Yo r=xD r:=by
 unfold Yo xD
 by_cases h0:r.fWire=0
 · simp only[h0,if_true]
 by_cases h1:r.fWire=1
 · simp only[h1,decide_true,um,if_true]
 simp only[h0,h1,if_false,decide_false,uY]
theorem ref04_ris : ∀ (L:List yc) (k:Nat) (x:Int),wZ.l4 L k x=wG.l4 L k x
 |L,0,x=>rfl
 |L,k+1,x=>by
  rw[wZ.l4,wG.l4];simp only[ref04_ris L k]
theorem vd6 (l:List yc):wZ l=wG l:=ref04_ris l xo 1
theorem rdeep_l18 {self:zk→Int→Option Int}{m:Nat}{a:Int}(ha:a=100-m)(hm:m≤100)(hs:∀ x,self x (a+1)=some ((vbL m x:Nat):Int)){x7:Int}{rec10:Int→Int→Option Int}:∀ (l:List zk) (i:Int) (d:Nat),
 yG.l18 self a x7 rec10 l i (d:Int)=rec10 (x7+1) ((maxD (vbL m) l d:Nat):Int)
 |[],i,d=>rfl
 |x::l,i,d=>by
  rw[yG.l18,wV (by omega) (by omega),hs,qh,maxD]
  have e:(if (d:Int)<((vbL m x:Nat):Int) then ((vbL m x:Nat):Int) else (d:Int))=((max d (vbL m x):Nat):Int):=by split<;>omega
  rw[e]; exact rdeep_l18 ha hm hs l _ _
theorem rdeep_l10 {self:zk→Int→Option Int}{m:Nat}{a:Int}(ha:a=100-m)(hm:m≤100)(hs:∀ x,self x (a+1)=some ((vbL m x:Nat):Int)):∀ (l:List zr) (i:Int) (d:Nat),d≤m→
 yG.l10 self a l i (d:Int)=some ((maxD (vbL m) (l.flatMap zr.fTrees) d+1:Nat):Int)
 |[],i,d,hd=>by
  rw[yG.l10,wV (by omega) (by omega),uf,maxD,if_neg (by omega)]; rfl
 |e::l,i,d,hd=>by
  rw[yG.l10,rdeep_l18 ha hm hs,rdeep_l10 ha hm hs l _ _ (maxD_le hd fun x _=>depT_le m x),qU,maxD_app]
theorem rdeep_eq : ∀ (m k:Nat) (t:zk) (a:Int),m≤101→m<k→a=101-m→yG k t a=some ((vbL m t:Nat):Int)
 |m,0,t,a,_,h,_=>by omega
 |0,k+1,t,a,_,_,ha=>by
  rw[yG,yG.body,if_pos (by simp only[ui,decide_eq_true_eq]; right; omega)]; rfl
 |m+1,k+1,t,a,hm,hk,ha=>by
  rw[yG,yG.body,vbL]
  by_cases h3:t.fKind=3
  · rw[if_neg (by simp only[h3,decide_true,qu,uC,decide_eq_true_eq]; omega),if_pos h3];exact rdeep_l10 (by omega) (by omega) (fun x=>rdeep_eq m k x _ (by omega) (by omega) (by omega)) t.fEntries 0 0 (uu _)
  rw[if_pos (by simp[h3]),if_neg h3]; rfl
theorem ref09_Depth_eq (t:zk):YZ t=some ((vbL 101 t:Nat):Int):=by
 rw[YZ,rdeep_eq 101 xo t 0 (by omega) (by have:=Zz; omega) (by omega)]; rfl
theorem rhas_eq {a:Int}:∀ (l:List zr) (i:Int),ZV.l4 a l i=l.any fun e=>decide (e.fTag=a)
 |[],i=>rfl
 |e::l,i=>by
  rw[ZV.l4,List.any_cons]
  by_cases h:e.fTag=a
  · rw[if_pos h,decide_eq_true h,uA]
  rw[if_neg h,decide_eq_false h,uC,rhas_eq]
theorem rrest_l4 {t:zk}(hr:t.fRest.length<4611686018427387904):∀ (l:List yc) (i:Int),wu.l4 t l i=some (l.all (fun r=>xD r && !(t.fEntries.any fun e=>decide (e.fTag=r.fTag)))&&risB t.fRest)
 |[],i=>by rw[wu.l4,vd6,rising_eq hr]; rfl
 |r::l,i=>by
  rw[wu.l4,bnd,q9,vb8]
  cases hc:xD r with
  |false=>rfl
  |true=>
   rw[if_neg (by decide),bnd,ZV,rhas_eq]
   cases ha:t.fEntries.any fun e=>decide (e.fTag=r.fTag) with
   |true=>rfl
   |false=>rw[wu.j10,if_neg (by decide),rrest_l4 hr l]; rfl
theorem vdh {self:zk→Option Bool}{f:zk→Bool}{x3:Int}{rec6:Int→Int→Option Bool}{y:zr}(hy:1≤y.fTrees.length):∀ (l:List zk) (i:Int),(∀ x∈l,self x=some (f x))→
 yj.l18 self x3 rec6 y l i=if (l.all fun x=>decide (x.fKind=(y.fTrees.headD vau).fKind)&&f x)=true then rec6 (x3+1) y.fTag else some false
 |[],i,_=>by rw[yj.l18]; rfl
 |x::l,i,h=>by
  have e1:Yz y.fTrees 0=some (y.fTrees.headD vau):=by
   cases ht:y.fTrees with
   |nil=>rw[ht] at hy; exact absurd hy (by decide)
   |cons a l=>rfl
  rw[yj.l18,e1,qh,q9]
  by_cases hk:x.fKind=(y.fTrees.headD vau).fKind
  · rw[if_pos hk,h x (qA ..),qh,decide_eq_true hk,um]
    cases f x with
    |false=>rfl
    |true=>
     rw[yj.j23,if_neg (by decide),vdh hy l _ fun z hz=>h z (qB _ hz),um]
  rw[if_neg hk,decide_eq_false hk]; rfl
theorem vd1 {self:zk→Option Bool}{f:zk→Bool}:∀ (l:List zr) (i last:Int),(∀ e∈l,∀ x∈e.fTrees,self x=some (f x))→yj.l6 self l i last=some (entB f last l)
 |[],i,last,_=>rfl
 |e::l,i,last,h=>by
  rw[yj.l6,entB]
  by_cases hc:last<e.fTag∧e.fTag≤500∧1≤e.fTrees.length∧e.fTrees.length≤64
  · rw[if_neg (by simp only[ui,decide_eq_true_eq]; omega),vdh hc.2.2.1 e.fTrees 0 (h e (qA ..)),decide_eq_true hc,um]
    cases ha:e.fTrees.all fun x=>decide (x.fKind=(e.fTrees.headD vau).fKind)&&f x with
    |false=>rfl
    |true=>rw[if_pos rfl,vd1 l _ _ fun y hy=>h y (qB _ hy),um]
  rw[if_pos (by simp only[ui,decide_eq_true_eq]; omega),decide_eq_false hc]; rfl
theorem rright_eq : ∀ (d m k:Nat) (t:zk),d<m→vbL m t≤d→2*d<k→szT d t→xU k t=some (ZQ d t)
 |d,m,0,t,_,_,h,_=>by omega
 |0,m+1,k+1,t,_,hd,_,hz=>by
  have h3:¬ t.fKind=3:=by
   intro h; rw[vbL,if_pos h] at hd; omega
  rw[xU,xU.body,ZQ,leafB,if_neg h3]
  split<;>first|rfl|(split<;>rfl)
 |d+1,m+1,k+1,t,hm,hd,hk,hz=>by
  rw[xU,xU.body,ZQ]
  by_cases h3:t.fKind=3
  · have hd':maxD (vbL m) (kids t) 0≤d:=by rw[vbL,if_pos h3] at hd; omega
    obtain⟨k',rfl⟩:∃ k',k=k'+1:=⟨k-1,by omega⟩
    have he:yj (k'+1) t.fEntries=some (entB (ZQ d) 0 t.fEntries):=by
     rw[yj,yj.body]
     exact vd1 t.fEntries 0 0 fun e he x hx=>rright_eq d m k' x (by omega) (uJ (maxD_mem (XA he hx)) hd') (by omega) (hz.2 x (XA he hx))
    have hr:wu t=some (restB t):=rrest_l4 (by have:=hz.1.2.1; omega) _ _;rw[if_neg (by omega),if_neg (by omega),if_pos h3,if_pos h3,he,hr]
    cases decide (t.fN=0)&&decide (t.fS=[]) with
    |false=>rfl
    |true=>cases entB (ZQ d) 0 t.fEntries<;>rfl
  rw[if_neg h3,if_neg h3,leafB]
  split<;>first|rfl|(split<;>rfl)
theorem ref09_Check_eq {t:zk}(hz:szT 10 t):Y0 t=some (XT t):=by
 rw[Y0,ref09_Depth_eq,qh,XT]
 by_cases h:vbL 101 t≤10
 · rw[if_pos (by omega),rright_eq 10 101 xo t (by omega) h (by have:=Zz; omega) hz,decide_eq_true h,um]; rfl
 rw[if_neg (by omega),decide_eq_false h]; rfl
theorem ref_more (n:Nat):ub (qO (IntKind.u8.wrap ((IntKind.u8.wrap ((n:Int).tmod 128))+128)))=ub (n % 128+128):=by
 have e:(n:Int).tmod 128=((n % 128:Nat):Int):=by rw[Int.tmod_eq_emod_of_nonneg (by omega)]; omega
 rw[e,u8w,show ((n % 128 % 256:Nat):Int)+128=((n % 128+128:Nat):Int) by omega,u8w,qY]
 congr 1; omega
theorem ref_next {n:Nat}(h:n<2^64):IntKind.u64.wrap ((n:Int).tdiv 128)=((n / 128:Nat):Int):=by
 rw[Int.tdiv_eq_ediv_of_nonneg (by omega),u64i (by omega) (by omega)]; omega
theorem ref02_l : ∀ (k n:Nat) (l:List UInt8),n<2^64→(vb n).length≤k→l.length+k≤1000000→wA.l8 k l (n:Int)=some (l++vb n)
 |0,n,l,_,h,_=>by have:=vb_pos n; omega
 |k+1,n,l,hn,h,hl=>by
  by_cases h1:n<128
  · rw[wA.l8,if_neg (by omega),Zu (by omega),qh,lastByte n h1,vb_lt h1]
  rw[vb_ge h1,ql] at h
  rw[wA.l8,if_pos (by omega),Zu (by omega),qh,ref_more,ref_next hn,vb_ge h1,ref02_l k (n / 128) _ (by omega) (by omega) (by rw[qk,qS]; omega),qx]; rfl
theorem ref02_m : ∀ (k j n:Nat) (l r:List UInt8),n<2^64→wA.l8 k l (n:Int)=some r→wA.l8 (k+j) l (n:Int)=some r
 |0,_,_,_,_,_,h=>by cases h
 |k+1,j,n,l,r,hn,h=>by
  rw[Nat.succ_add_eq_add_succ,Nat.add_succ]
  by_cases h1:(128:Int)≤(n:Int)
  · rw[wA.l8,if_pos h1] at h ⊢
    cases hr:X7 (qa l+1) 1 with
    |none=>rw[hr] at h; cases h
    |some u=>
     rw[hr,qh,ref_next hn] at h
     rw[qh,ref_next hn]; exact ref02_m k j _ _ _ (by omega) h
  rw[wA.l8,if_neg h1] at h ⊢; exact h
theorem vbD {n:Nat}(h:n<2^64):wA (n:Int)=some (vb n):=by
 have:=ref02_m 10 999999999999999999990 n [] (vb n) h (ref02_l 10 n [] h (YX h) (by decide));exact this
theorem ref02_Zig_eq {n:Int}(h:va0 n):vab n=(zg n:Int):=by
 obtain⟨h1,h2⟩:=h;unfold vab zg
 by_cases h0:0≤n
 · rw[if_pos h0,if_pos h0,u64i h0 (by omega),u64i (by omega) (by omega)]; omega
 rw[if_neg h0,if_neg h0,wV (x:=n+1) (by omega) (by omega),wV (by omega) (by omega),u64i (x:=0-(n+1)) (by omega) (by omega),u64i (x:=2*(0-(n+1))) (by omega) (by omega),u64i (by omega) (by omega)]; omega
theorem ref04_Put_eq {r:yc}(h:vaw r):YQ r=some (vcs r):=by
 obtain⟨hc,hn⟩:=h;obtain⟨h1,h2,h3⟩:=Xw hc
 have ek:IntKind.u64.wrap (IntKind.i64.wrap ((IntKind.i64.wrap (2*r.fTag))+r.fWire))=((vc6 r:Nat):Int):=by
  rw[wV (x:=2*r.fTag) (by omega) (by omega),wV (by omega) (by omega),u64i (by omega) (by omega),vc6]; omega
 have k1:vc6 r<2^64:=by unfold vc6; omega
 have kl:=YX k1;unfold YQ;rw[ek,vbD k1,qh]
 rcases h3 with ⟨h3,h4⟩|⟨h3,h4,h5⟩
 · have hz:=YX (zg_lt hn);rw[if_pos h3,bnd,ref02_Zig_eq hn,vbD (zg_lt hn),qh,Zu (by omega),qh,vcs,if_pos h3]
 have hb:=YX (n:=r.fB.length) (by omega);rw[if_neg (by omega),u64w (by omega),vbD (by omega),qh,Zu (by omega),qh,Zu (by rw[qk]; omega),qh,vcs,if_neg (by omega),qx]
theorem ref04_l13 : ∀ (q:List yc) (x:Int) (acc:List UInt8),(∀ r∈q,vaw r)→acc.length≤4096→xp.l13 q x acc=some (if 4096<(acc++Y1 q).length then ([],4) else (acc++Y1 q,0))
 |[],x,acc,_,ha=>by
  rw[xp.l13,Y1,uf,qE,if_neg (by omega)]
 |r::q,x,acc,h,ha=>by
  have hr:=h r (qA ..);have hrl:=rawB_le hr;rw[xp.l13,ref04_Put_eq hr,qh,Zu (by omega),qh]
  have e:acc++Y1 (r::q)=(acc++vcs r)++Y1 q:=by rw[Y1,qU,qx]; rfl
  rw[e]
  by_cases h1:4096<(acc++vcs r).length
  · rw[if_pos (by omega),if_pos (by rw[qk]; omega)]
  rw[if_neg (by omega),ref04_l13 q (x+1) _ (fun s hs=>h s (qB _ hs)) (by omega)]
theorem ref04_l4 (a:List yc):∀ (q:List yc) (x:Int),xp.l4 a q x=if q.all xD then xp.l13 a 0 [] else some ([],1)
 |[],x=>by rw[xp.l4]; rfl
 |r::q,x=>by
  rw[xp.l4,bnd,q9,vb8]
  by_cases h:xD r=true
  · rw[h,if_neg (by decide),ref04_l4 a q]; rfl
  rw[if_pos (by simpa using h),if_neg (by rw[qC]; exact fun hh=>h hh.1)]
theorem vd7 {l:List yc}(h:∀ r∈l,va0 r.fN):xp l=xm l:=by
 rw[putAll_eq h,xp,ref04_l4]
 by_cases h1:l.all xD=true
 · rw[if_pos h1,if_pos h1,ref04_l13 l 0 [] (fun r hr=>⟨uh.1 h1 r hr,h r hr⟩) (by decide)]; rfl
 rw[if_neg h1,if_neg h1]
theorem set_app0 {α:Type}{A B:List α}{x y:α}{i:Int}(h:i=A.length):setI (A++x::B) i y=A++y::B:=by
 subst h;rw[setI,qY,List.set_append_right _ _ (qw _),uI,uB]
theorem ref_l20 {r:yc}(x4:Int)(rec8:Int→List yc→Option (List yc)):∀ (k:Nat) (A B:List yc),A.Pairwise Xj→(∀ b∈B,r.fTag<b.fTag)→A.length<k→A.length<1000000→
 yy.l20 x4 rec8 k (A++r::B) (A.length:Int)=rec8 (x4+1) (vdl r (A++B))
 |0,A,B,_,_,h,_=>by omega
 |k+1,A,B,hA,hB,hk,hn=>by
  have stop:(∀ a∈A,a.fTag≤r.fTag)→yy.j23 x4 rec8 (A++r::B) (A.length:Int) (yy.l20 x4 rec8 k) false=rec8 (x4+1) (vdl r (A++B)):=by
   intro hle
   rw[yy.j23,if_neg (by decide),vdE hle hB]
  rcases List.eq_nil_or_concat A with rfl|⟨A',a,rfl⟩
  · rw[yy.l20,if_neg (by simp)];exact stop (fun a ha=>by cases ha)
  rw[List.concat_eq_append] at *
  have hlA:(A'++[a]).length=A'.length+1:=by rw[qk,qS]
  have e1:IntKind.i64.wrap (((A'++[a]).length:Int)-1)=(A'.length:Int):=by rw[wV (by omega) (by omega)]; omega
  have i1:Yz ((A'++[a])++r::B) (A'.length:Int)=some a:=by rw[qx]; exact Xe rfl
  have i2:Yz ((A'++[a])++r::B) ((A'++[a]).length:Int)=some r:=Xe rfl;rw[yy.l20,if_pos (by omega),e1,i1,qh,i2,qh]
  by_cases hgt:r.fTag<a.fTag
  · have s1:setI ((A'++[a])++r::B) (A'.length:Int) r=(A'++[r])++r::B:=by
     rw[qx,qx]; exact set_app0 rfl
    have i3:Yz ((A'++[r])++r::B) ((A'++[a]).length:Int)=some r:=Xe (by rw[hlA,qk,qS]);have s2:setI ((A'++[r])++r::B) ((A'++[a]).length:Int) a=(A'++[r])++a::B:=set_app0 (by rw[hlA,qk,qS]);rw[decide_eq_true hgt,yy.j23,if_pos rfl,i2,qh,e1,i1,qh,s1,i3,qh,s2,qx]
    have:=ref_l20 (r:=r) x4 rec8 k A' (a::B) (List.pairwise_append.1 hA).1 (fun b hb=>by
     rcases qW.1 hb with rfl|hb
     · exact hgt
     exact hB b hb) (by omega) (by omega)
    rw[qx];exact this
  rw[decide_eq_false hgt];refine stop ?_
  intro x hx
  rcases u5.1 hx with hx|hx
  · have:=(List.pairwise_append.1 hA).2.2 x hx a (uN.2 rfl)
    unfold Xj at this; omega
  rw[uN] at hx; subst hx; omega
theorem ref_l8 : ∀ (q S:List yc) (x:Int),S.Pairwise Xj→S.length+q.length<1000000→yy.l8 q x S=some (srtA q S)
 |[],S,x,_,_=>rfl
 |r::q,S,x,hS,hn=>by
  rw[ql] at hn;rw[yy.l8,Zu (by omega),qh];have:=ref_l20 (r:=r) x (yy.l8 q) xo S [] hS (fun b hb=>by cases hb) (by have:=Zz; omega) (by omega);rw[qE] at this;rw[this,ref_l8 q (vdl r S) _ (Xs hS) (by rw[vdD]; omega),srtA]
theorem vd5 {l:List yc}(h:l.length<1000000):yy l=some (srt l):=
 ref_l8 l [] 0 List.Pairwise.nil (by rw[qr]; omega)
theorem veh {l:List yc}{t:Int}(h:∀ r∈l,r.fTag≠t):l.filter (fun x=>x.fTag=t)=[]:=by
 rw[List.filter_eq_nil_iff]
 intro r hr
 simpa using h r hr
theorem srt_swap {l m:List yc}(h:∀ a∈l,∀ b∈m,a.fTag≠b.fTag):srt (l++m)=srt (m++l):=by
 refine srt_of (vcX _) fun t=>?_
 rw[vcY,List.filter_append,List.filter_append]
 by_cases hl:∃ a∈l,a.fTag=t
 · obtain⟨a,ha,rfl⟩:=hl;rw[veh (l:=m) (t:=a.fTag) fun b hb hc=>h a ha b hb hc.symm,qE,qD]
 rw[veh (l:=l) (t:=t) fun a ha hc=>hl ⟨a,ha,hc⟩,qE,qD]
theorem rest_apart {d:Nat}{t:zk}{L:List yc}(hr:ZQ (d+1) t=true)(h3:t.fKind=3)(hz:szT (d+1) t)(hL:rawE (vaC d) t.fEntries=some L):∀ a∈L,∀ b∈t.fRest,a.fTag≠b.fTag:=by
 obtain⟨_,he,hb,_,_⟩:=vbY hr h3
 intro a ha b hb' hc
 obtain⟨_,e,hm,he'⟩:=rawE_ok (fun e hm=>by
  have:=X0 he e hm
  exact⟨by omega,this.2.1,fun x hx=>(szT_own (hz.2 x (XA hm hx))).1⟩) hL a ha
 exact ((restB_mem hb).1 b hb').2 e hm (he'.symm.trans hc)
theorem rraws_l22 {selfE:zk→Option (List UInt8×Int)}{enc:zk→Option (List UInt8)}{x4:Int}{rec8:Int→List yc→Option (List yc×Int)}{y:zr}:∀ (l:List zk) (i:Int) (acc:List yc),(∀ x∈l,(x.fKind=1∨x.fKind=2∨x.fKind=3)∧(x.fKind=3→selfE x=some (vea (enc x))∧∀ b,enc x=some b→b.length≤4096))→acc.length+l.length<3000000→
 yF.l22 selfE x4 rec8 y l i acc=vaJ (rawL enc y.fTag l) fun m=>rec8 (x4+1) (acc++m)
 |[],i,acc,_,_=>by rw[yF.l22,rawL,vaJ,qE]
 |x::l,i,acc,h,hl=>by
  rw[ql] at hl;have hx:=h x (qA ..)
  have go:∀ r:yc,rawT enc y.fTag x=some r→r.fB.length≤4096→yF.j37 i acc (yF.l22 selfE x4 rec8 y l) r=vaJ (rawL enc y.fTag (x::l)) fun m=>rec8 (x4+1) (acc++m):=by
   intro r hr hb
   rw[yF.j37,if_neg (by omega),Zu (by omega),qh,rraws_l22 l _ _ (fun z hz=>h z (qB _ hz)) (by rw[qk,qS]; omega),rawL,hr,qh]
   cases rawL enc y.fTag l with
   |none=>rfl
   |some m=>simp only[vaJ,qh,qx,qH,qD]
  rw[yF.l22]
  by_cases h1:x.fKind=1
  · rw[if_pos h1];exact go _ (by rw[rawT,if_pos h1]) (uu _)
  rw[if_neg h1]
  by_cases h2:x.fKind=2
  · rw[if_pos h2]
    by_cases hb:4096<x.fS.length
    · rw[yF.j37,if_pos (by dsimp only; omega),rawL,rawT,if_neg h1,if_pos h2,if_pos hb]; rfl
    exact go _ (by rw[rawT,if_neg h1,if_pos h2,if_neg hb]) (by dsimp only; omega)
  rw[if_neg h2];obtain⟨he,hl4⟩:=hx.2 (by rcases hx.1 with h|h|h<;>omega);rw[he,qh]
  cases hx':enc x with
  |none=>rw[rawL,rawT,if_neg h1,if_neg h2,hx']; rfl
  |some b=>
   rw[vea]; dsimp only
   rw[if_pos rfl];exact go _ (by rw[rawT,if_neg h1,if_neg h2,hx',qh]) (hl4 b hx')
theorem rraws_l8 {selfE:zk→Option (List UInt8×Int)}{enc:zk→Option (List UInt8)}{t:zk}(hr:t.fRest.length≤900000):∀ (l:List zr) (i:Int) (acc:List yc),(∀ e∈l,e.fTrees.length≤64∧∀ x∈e.fTrees,(x.fKind=1∨x.fKind=2∨x.fKind=3)∧(x.fKind=3→selfE x=some (vea (enc x))∧∀ b,enc x=some b→b.length≤4096))→acc.length+64*l.length≤64000→
 yF.l8 selfE t l i acc=vaJ (rawE enc l) fun m=>some (srt ((acc++m)++t.fRest),0)
 |[],i,acc,_,hl=>by
  rw[yF.l8,Zu (by simp only[qr] at hl; omega),qh,vd5 (by rw[qk]; simp only[qr] at hl; omega),rawE,vaJ,qE]; rfl
 |e::l,i,acc,h,hl=>by
  rw[ql] at hl;have he:=h e (qA ..);rw[yF.l8,rraws_l22 e.fTrees 0 acc he.2 (by omega),rawE]
  cases hL:rawL enc e.fTag e.fTrees with
  |none=>rfl
  |some m=>
   have hm:=rawL_len hL;rw[vaJ,rraws_l8 hr l _ _ (fun z hz=>h z (qB _ hz)) (by rw[qk]; omega),qh]
   cases rawE enc l with
   |none=>rfl
   |some m'=>simp only[vaJ,qh,qx]
theorem rencode_eq : ∀ (d k:Nat) (t:zk),2*d≤k→ZQ d t=true→t.fKind=3→szT d t→xM k t=some (vea (vaC d t))
 |0,k,t,_,hr,h3,_=>by
  rcases vbH hr with h|h<;>omega
 |d+1,k,t,hk,hr,h3,hz=>by
  obtain⟨k',rfl⟩:∃ k',k=k'+2:=⟨k-2,by omega⟩
  obtain⟨hl,he,hb,_,_⟩:=vbY hr h3
  have hs:∀ e∈t.fEntries,e.fTrees.length≤64∧∀ x∈e.fTrees,(x.fKind=1∨x.fKind=2∨x.fKind=3)∧(x.fKind=3→xM k' x=some (vea (vaC d x))∧∀ b,vaC d x=some b→b.length≤4096):=by
   intro e hm
   have h1:=X0 he e hm;refine⟨h1.2.2.2.1,fun x hx=>?_⟩;have hrx:=(h1.2.2.2.2 x hx).2;exact⟨vbT hrx,fun hx3=>⟨rencode_eq d k' x (by omega) hrx hx3 (hz.2 x (XA hm hx)),fun b=>vel⟩⟩
  rw[xM,xM.body,yF,yF.body,rraws_l8 (enc:=vaC d) hz.1.2.1 t.fEntries 0 [] hs (by rw[qr]; omega),vaC]
  cases hL:rawE (vaC d) t.fEntries with
  |none=>rfl
  |some L=>
   have hok:=raws_ok hr h3 hz hL
   rw[vaJ,qh,qD,srt_swap (rest_apart hr h3 hz hL)]; dsimp only
   rw[if_pos rfl,vd7 fun r hr=>(hok r hr).2,vcj hok,qh,qh]
theorem vd4 {t:zk}(hz:szT 10 t):wD t=some (if XT t=true∧t.fKind=3 then vea (vaC 10 t) else ([],1)):=by
 rw[wD,ref09_Check_eq hz]
 by_cases h3:t.fKind=3
 · rw[if_pos h3,qh,qh]
   by_cases hc:XT t=true
   · rw[if_neg (by rw[hc]; decide),if_pos ⟨hc,h3⟩,rencode_eq 10 xo t (by have:=Zz; omega) (vcp hc).1 h3 hz,qh]
   rw[if_pos (by simpa using hc),if_neg (fun h=>hc h.1)]
 rw[if_neg h3,qh,if_pos rfl,if_neg (fun h=>h3 h.2)]

inductive Shuf : List yc→List yc→Prop
 |refl (l:List yc):Shuf l l
 |cons (a:yc) {l m:List yc}:Shuf l m→Shuf (a::l) (a::m)
 |swap {a b:yc} (h:a.fTag≠b.fTag) (l:List yc):Shuf (a::b::l) (b::a::l)
 |trans {l m n:List yc}:Shuf l m→Shuf m n→Shuf l n
theorem shuf_move {r:yc}:∀ {B:List yc},(∀ b∈B,b.fTag≠r.fTag)→Shuf (B++[r]) (r::B)
 |[],_=>.refl _
 |b::B,h=>.trans (.cons b (shuf_move fun x hx=>h x (qB _ hx))) (.swap (h b (qA ..)) B)
theorem shuf_ins {r:yc}:∀ {l:List yc},l.Pairwise Xj→Shuf (l++[r]) (vdl r l)
 |[],_=>.refl _
 |x::l,h=>by
  rw[vdl];rw[uy] at h
  split
  · rename_i hlt
    refine shuf_move fun b hb=>?_
    rcases qW.1 hb with rfl|hb
    · omega
    have:=h.1 b hb; unfold Xj at this; omega
  exact .cons x (shuf_ins h.2)
theorem Shuf.app {l m:List yc}(h:Shuf l m)(k:List yc):Shuf (l++k) (m++k):=by
 induction h with
 |refl l=>exact .refl _
 |cons a _ ih=>exact .cons a ih
 |swap h l=>exact .swap h _
 |trans _ _ h1 h2=>exact .trans h1 h2
theorem shuf_srtA : ∀ {l S:List yc},S.Pairwise Xj→Shuf (S++l) (srtA l S)
 |[],S,_=>by rw[srtA,qE]; exact .refl _
 |r::l,S,h=>by
  rw[srtA,show S++r::l=(S++[r])++l by rw[qx]; rfl];exact .trans ((shuf_ins h).app l) (shuf_srtA (Xs h))
theorem shuf_srt (l:List yc):Shuf l (srt l):=shuf_srtA (S:=[]) List.Pairwise.nil
theorem veg {m:ya}{one:Yi→yc→zk×Int}:∀ {l:List yc} {es:List zr} {rest rest':List yc},(∀ k,srt (rest++k)=srt (rest'++k))→vca m one l es rest=vca m one l es rest'
 |[],es,rest,rest',h=>by
  have:=h [];rw[qE,qE] at this;rw[vca,vca,this]
 |r::l,es,rest,rest',h=>by
  rw[vca,vca]
  have h2:=veg (m:=m) (one:=one) (l:=l) (es:=es) (rest:=rest++[r]) (rest':=rest'++[r]) fun k=>by rw[qx,qx]; exact h _
  have h1:=veg (m:=m) (one:=one) (l:=l) (es:=XW r.fTag ((zI m r.fTag).1.fLabel=3) (one (zI m r.fTag).1.fType r).1 es) h;rw[h1,h2]
theorem putE_comm {s t:Int}(hst:s≠t){p q:Prop} [Decidable p] [Decidable q]{x y:zk}:∀ {es:List zr},XW s p x (XW t q y es)=XW t q y (XW s p x es)
 |[]=>by
  by_cases h:s<t
  · simp only[reduceIte,XW,YJ,(show ¬ t<s by omega),(show ¬ t=s by omega),h]
  simp only[reduceIte,XW,YJ,(show t<s by omega),(show ¬ s<t by omega),hst]
 |e::es=>by
  have ih:=putE_comm hst (p:=p) (q:=q) (x:=x) (y:=y) (es:=es)
  rcases Int.lt_or_gt_of_ne hst with h|h
  · by_cases a:e.fTag<s
    · simp only[reduceIte,XW,a,(show e.fTag<t by omega),ih]
    by_cases a':e.fTag=s
    · simp only[reduceIte,XW,a,a',h,YJ,(show ¬ s<s by omega)]
    by_cases b:e.fTag<t
    · simp only[reduceIte,XW,a,a',b,YJ,h]
    by_cases b':e.fTag=t
    · simp only[reduceIte,XW,b',(show ¬ t<s by omega),(show ¬ t=s by omega),(show ¬ t<t by omega),YJ,h]
    simp only[reduceIte,XW,a,a',b,b',YJ,h,(show ¬ t<s by omega),(show ¬ t=s by omega)]
  have h':t<s:=h
  by_cases a:e.fTag<t
  · simp only[reduceIte,XW,a,(show e.fTag<s by omega),ih]
  by_cases a':e.fTag=t
  · simp only[reduceIte,XW,a,a',h',YJ,(show ¬ t<t by omega)]
  by_cases b:e.fTag<s
  · simp only[reduceIte,XW,a,a',b,YJ,h']
  by_cases b':e.fTag=s
  · simp only[reduceIte,XW,b',(show ¬ s<t by omega),hst,(show ¬ s<s by omega),YJ,h']
  simp only[reduceIte,XW,a,a',b,b',YJ,h',(show ¬ s<t by omega),hst]
theorem vc3 {s t:Int}(hst:s≠t){p q:Prop} [Decidable p] [Decidable q]{y:zk}:∀ {es:List zr},vc4 s p (XW t q y es)=vc4 s p es
 |[]=>by
  by_cases h:s<t
  · simp only[reduceIte,XW,vc4,YJ,(show ¬ t<s by omega),(show ¬ t=s by omega)]
  simp only[reduceIte,XW,vc4,YJ,(show t<s by omega)]
 |e::es=>by
  have ih:=vc3 hst (p:=p) (q:=q) (y:=y) (es:=es)
  by_cases a:e.fTag<t
  · simp only[reduceIte,XW,vc4,a,ih]
  by_cases a':e.fTag=t
  · by_cases b:t<s
    · simp only[reduceIte,XW,vc4,a,a',YJ,b,(show ¬ t<t by omega)]
    simp only[reduceIte,XW,vc4,a,a',YJ,b,(show ¬ t<t by omega),(show ¬ t=s by omega)]
  by_cases b:t<s
  · simp only[reduceIte,XW,vc4,a,a',YJ,b]
  simp only[reduceIte,XW,vc4,a,a',YJ,b,(show ¬ t=s by omega),(show ¬ e.fTag<s by omega),(show ¬ e.fTag=s by omega)]
theorem fldD_swap {m:ya}{one:Yi→yc→zk×Int}{a b:yc}(hab:a.fTag≠b.fTag){l:List yc}{es:List zr}{rest:List yc}(h0:(vca m one (a::b::l) es rest).2=0):vca m one (b::a::l) es rest=vca m one (a::b::l) es rest:=by
 have h4:¬ ((vau,(4:Int)).2=0):=by decide
 have nab:=fun (x:zk) (es:List zr)=>vc3 (Ne.symm hab) (p:=(zI m b.fTag).1.fLabel=3) (q:=(zI m a.fTag).1.fLabel=3) (y:=x) (es:=es)
 have nba:=fun (x:zk) (es:List zr)=>vc3 hab (p:=(zI m a.fTag).1.fLabel=3) (q:=(zI m b.fTag).1.fLabel=3) (y:=x) (es:=es)
 simp only[vca,nab,nba] at h0 ⊢
 by_cases ka:(zI m a.fTag).2=true
 · by_cases oa:(one (zI m a.fTag).1.fType a).2=0
   · by_cases na:vc4 a.fTag ((zI m a.fTag).1.fLabel=3) es≤64
     · by_cases kb:(zI m b.fTag).2=true
       · by_cases ob:(one (zI m b.fTag).1.fType b).2=0
         · by_cases nb:vc4 b.fTag ((zI m b.fTag).1.fLabel=3) es≤64
           · simp only[ka,oa,na,kb,ob,nb,reduceIte];rw[putE_comm hab]
           simp only[ka,oa,na,kb,ob,nb,reduceIte] at h0; exact absurd h0 h4
         simp only[ka,oa,na,kb,ob,reduceIte] at h0
       simp only[ka,oa,na,kb,reduceIte,ud]
     simp only[ka,oa,na,reduceIte] at h0; exact absurd h0 h4
   simp only[ka,oa,reduceIte] at h0
 by_cases kb:(zI m b.fTag).2=true
 · by_cases ob:(one (zI m b.fTag).1.fType b).2=0
   · by_cases nb:vc4 b.fTag ((zI m b.fTag).1.fLabel=3) es≤64
     · simp only[ka,kb,ob,nb,reduceIte,ud]
     simp only[ka,kb,ob,nb,reduceIte,ud] at h0; exact absurd h0 h4
   simp only[ka,kb,ob,reduceIte,ud] at h0
 simp only[ka,kb,reduceIte,ud]
 refine veg fun k=>srt_of (vcX _) fun t=>?_
 rw[vcY];simp only[List.filter_append,qx]
 congr 1
 rw[← qx,← qx]
 congr 1
 simp only[uH,List.filter_nil,decide_eq_true_eq]
 by_cases h1:a.fTag=t
 · rw[if_pos h1,if_neg (show ¬ b.fTag=t by omega)]; rfl
 rw[if_neg h1]; simp
theorem fldD_shuf {m:ya}{one:Yi→yc→zk×Int}{l k:List yc}(h:Shuf l k):∀ {es:List zr} {rest:List yc},(vca m one l es rest).2=0→vca m one k es rest=vca m one l es rest:=by
 induction h with
 |refl l=>intros; rfl
 |cons a _ ih=>
  intro es rest h0
  simp only[vca] at h0 ⊢
  by_cases ka:(zI m a.fTag).2=true
  · rw[if_pos ka] at h0 ⊢;rw[if_pos ka]
    by_cases oa:(one (zI m a.fTag).1.fType a).2=0
    · rw[if_pos oa] at h0 ⊢;rw[if_pos oa]
      by_cases na:vc4 a.fTag ((zI m a.fTag).1.fLabel=3) es≤64
      · rw[if_pos na] at h0 ⊢
        rw[if_pos na]; exact ih h0
      rw[if_neg na,if_neg na]
    rw[if_neg oa,if_neg oa]
  rw[if_neg ka] at h0 ⊢
  rw[if_neg ka]; exact ih h0
 |swap h l=>intro es rest h0; exact fldD_swap h h0
 |trans _ _ h1 h2=>
  intro es rest h0
  have e:=h1 h0;rw[h2 (by rw[e]; exact h0),e]
theorem getD_of {l:List yc}(h:∀ r∈l,vaw r)(hb:(Y1 l).length≤4096):getD (Y1 l)=(l,0):=by
 unfold getD; rw[wire_Get_ok h hb]; rfl
def okV (f:ya→zk→Prop)(s:zE)(y:Yi)(x:zk):Prop:=
 if y.fKind=7 then x.fKind=3∧f (msgOf s y.fName) x
 else if y.fKind=4∨y.fKind=5 then x=⟨2,0,x.fS,[],[]⟩∧x.fS.length≤4096∧(y.fKind=4→runesV x.fS=true)
 else x=⟨1,x.fN,[],[],[]⟩∧va0 x.fN∧(y.fKind=3∨y.fKind=6→Zq y x.fN=true)
def okN (f:ya→zk→Prop)(s:zE)(m:ya)(e:zr):Prop:=
 (1≤e.fTag∧e.fTag≤500)∧(zI m e.fTag).2=true∧(1≤e.fTrees.length∧e.fTrees.length≤64)∧((zI m e.fTag).1.fLabel≠3→e.fTrees.length=1)∧∀ x∈e.fTrees,okV f s (zI m e.fTag).1.fType x
def okT (s:zE):Nat→ya→zk→Prop
 |0,_,_=>False
 |d+1,m,t=>t.fKind=3∧t.fN=0∧t.fS=[]∧t.fEntries.Pairwise vbi∧(∀ e∈t.fEntries,okN (okT s d) s m e∧isZ m e=false)∧t.fRest.Pairwise Xj∧t.fRest.length≤4096∧∀ r∈t.fRest,vaw r∧(zI m r.fTag).2≠true
def kindT (y:Yi):Int:=if y.fKind=7 then 3 else if y.fKind=4∨y.fKind=5 then 2 else 1
theorem gt_kind (k n:Int)(s:List UInt8)(e:List zr)(r:List yc):(zk.mk k n s e r).fKind=k:=rfl
theorem gt_eta (t:zk):t=⟨t.fKind,t.fN,t.fS,t.fEntries,t.fRest⟩:=by cases t; rfl
theorem okV_kind {f:ya→zk→Prop}{s:zE}{y:Yi}{x:zk}(h:okV f s y x):x.fKind=kindT y:=by
 unfold okV at h; unfold kindT
 by_cases h7:y.fKind=7
 · rw[if_pos h7] at h ⊢; exact h.1
 rw[if_neg h7] at h ⊢
 by_cases h4:y.fKind=4∨y.fKind=5
 · rw[if_pos h4] at h ⊢; rw[h.1]; rfl
 rw[if_neg h4] at h ⊢; rw[h.1]; rfl
theorem okV_leaf {f:ya→zk→Prop}{s:zE}{y:Yi}{x:zk}(h:okV f s y x)(h7:y.fKind≠7):x.fEntries=[]∧x.fRest=[]∧va0 x.fN∧leafB x=true∧x.fKind≠3:=by
 unfold okV at h;rw[if_neg h7] at h
 split at h
 · rw[h.1];exact⟨rfl,rfl,in0,rfl,by rw[gt_kind]; decide⟩
 refine⟨by rw[h.1]; rfl,by rw[h.1]; rfl,h.2.1,?_,by rw[h.1,gt_kind]; decide⟩
 rw[h.1]; rfl
theorem kids_nil {x:zk}(h:x.fEntries=[]):kids x=[]:=by unfold kids; rw[h]; rfl
theorem szT_leaf {x:zk}(h1:x.fEntries=[])(h2:x.fRest=[])(h3:va0 x.fN):∀ d,szT d x
 |0=>⟨h3,by rw[h2]; exact uu _,by rw[h2]; intro r hr; cases hr⟩
 |d+1=>⟨⟨h3,by rw[h2]; exact uu _,by rw[h2]; intro r hr; cases hr⟩,by rw[kids_nil h1]; intro x hx; cases hx⟩
theorem okT_sz {s:zE}:∀ (d n:Nat) (m:ya) (t:zk),d≤n→okT s d m t→szT n t
 |0,_,_,_,_,h=>h.elim
 |d+1,0,_,_,h,_=>absurd h (by omega)
 |d+1,n+1,m,t,hn,h=>by
  obtain⟨_,h0,_,_,he,_,hl,hr⟩:=h;refine⟨⟨by rw[h0]; exact in0,by omega,fun r hm=>(hr r hm).1.2⟩,fun x hx=>?_⟩;obtain⟨e,hm,hxe⟩:=List.mem_flatMap.1 hx;have hv:=(he e hm).1.2.2.2.2 x hxe
  by_cases h7:(zI m e.fTag).1.fType.fKind=7
  · unfold okV at hv; rw[if_pos h7] at hv
    exact okT_sz d n _ x (by omega) hv.2
  obtain⟨a,b,c,_,_⟩:=okV_leaf hv h7;exact szT_leaf a b c n
theorem leafB_right {x:zk}(h:leafB x=true)(h3:x.fKind≠3):∀ d,ZQ d x=true
 |0=>h
 |d+1=>by rw[ZQ,if_neg h3]; exact h
theorem okT_ents {d:Nat}{s:zE}{m:ya}{f:zk→Bool}(hf:∀ y x,okV (okT s d) s y x→f x=true):∀ {l:List zr} {last:Int},l.Pairwise vbi→(∀ e∈l,last<e.fTag)→(∀ e∈l,okN (okT s d) s m e)→entB f last l=true
 |[],_,_,_,_=>rfl
 |e::l,last,hs,hlt,he=>by
  rw[uy] at hs;obtain⟨⟨h1,h2⟩,h3,h4,h5,h6⟩:=he e (qA ..);rw[entB,okT_ents hf hs.2 (fun a ha=>hs.1 a ha) fun a ha=>he a (qB _ ha),qI,qC,decide_eq_true_eq];refine⟨⟨hlt e (qA ..),h2,h4.1,h4.2⟩,uh.2 fun x hx=>?_⟩;rw[qC,decide_eq_true_eq];refine⟨?_,hf _ x (h6 x hx)⟩;rw[okV_kind (h6 x hx)]
  cases ht:e.fTrees with
  |nil=>rw[ht] at hx; cases hx
  |cons a l=>rw[List.headD_cons]; exact (okV_kind (h6 a (by rw[ht]; exact qA ..))).symm
theorem okT_right {s:zE}:∀ (d n:Nat) (m:ya) (t:zk),d≤n→okT s d m t→ZQ n t=true
 |0,_,_,_,_,h=>h.elim
 |d+1,0,_,_,h,_=>absurd h (by omega)
 |d+1,n+1,m,t,hn,h=>by
  obtain⟨h3,h0,hS,hs,he,hrs,_,hr⟩:=h;rw[ZQ,if_pos h3]
  have e1:entB (ZQ n) 0 t.fEntries=true:=by
   refine okT_ents (m:=m) (d:=d) (s:=s) ?_ hs (fun e hm=>by have:=(he e hm).1.1; omega) fun e hm=>(he e hm).1
   intro y x hv
   by_cases h7:y.fKind=7
   · unfold okV at hv; rw[if_pos h7] at hv
     exact okT_right d n _ x (by omega) hv.2
   obtain⟨_,_,_,d1,e1⟩:=okV_leaf hv h7;exact leafB_right d1 e1 n
  have e2:restB t=true:=by
   unfold restB;rw[qC];refine⟨uh.2 fun r hm=>?_,risB_iff.2 hrs⟩;obtain⟨⟨a,_⟩,b⟩:=hr r hm;rw[a,um,vq,List.any_eq_false]
   intro e hme hc
   rw[decide_eq_true_eq] at hc;exact b (by rw[← hc]; exact (he e hme).1.2.1)
  rw[e1,e2,decide_eq_true h0,decide_eq_true hS]; rfl
theorem gr_wire (a b c:Int)(d:List UInt8):(yc.mk a b c d).fWire=b:=rfl
theorem gr_n (a b c:Int)(d:List UInt8):(yc.mk a b c d).fN=c:=rfl
theorem gr_b (a b c:Int)(d:List UInt8):(yc.mk a b c d).fB=d:=rfl
theorem rawT_tag {enc:zk→Option (List UInt8)}{tag:Int}{x:zk}{r:yc}(h:rawT enc tag x=some r):r.fTag=tag:=by
 unfold rawT at h
 split at h
 · cases h; rfl
 split at h
 · split at h
   · cases h
   cases h; rfl
 obtain⟨b,hb,h⟩:=bind_some h
 cases h; rfl
theorem ved {msg:ya→List UInt8→zk×Int}{s:zE}{y:Yi}{r:yc}(h:(y.fKind=4∨y.fKind=5∨y.fKind=7)∧r.fWire=1∨¬ (y.fKind=4∨y.fKind=5∨y.fKind=7)∧r.fWire=0):
 oneD msg s y r=(if y.fKind=3∨y.fKind=6 then (if Zq y r.fN=true then (⟨1,r.fN,[],[],[]⟩,0) else (vau,11))
 else if y.fKind=4 then (if runesV r.fB=true then (⟨2,0,r.fB,[],[]⟩,0) else (vau,9))
 else if y.fKind=7 then msg (msgOf s y.fName) r.fB
 else (if r.fWire=1 then ⟨2,0,r.fB,[],[]⟩ else ⟨1,r.fN,[],[],[]⟩,0)):=by
 unfold oneD;refine if_pos ?_
 rcases h with ⟨h,h'⟩|⟨h,h'⟩
 · rw[if_pos h]; exact h'
 rw[if_neg h]; exact h'
theorem oneD_back {s:zE}{d:Nat}{y:Yi}{x:zk}{tag:Int}{q:yc}(ih:∀ m t c,okT s d m t→vaC d t=some c→decM s d m c=(t,0))(hv:okV (okT s d) s y x)(hq:rawT (vaC d) tag x=some q):oneD (decM s d) s y q=(x,0):=by
 have hk:=okV_kind hv
 unfold okV at hv; unfold rawT at hq; unfold kindT at hk
 by_cases h7:y.fKind=7
 · rw[if_pos h7] at hv hk;rw[if_neg (by omega),if_neg (by omega)] at hq;obtain⟨c,hc,hq⟩:=bind_some hq;cases hq;rw[ved (Or.inl ⟨Or.inr (Or.inr h7),rfl⟩),if_neg (by omega),if_neg (by omega),if_pos h7,gr_b];exact ih _ _ _ hv.2 hc
 rw[if_neg h7] at hv hk
 by_cases h4:y.fKind=4∨y.fKind=5
 · rw[if_pos h4] at hv hk;rw[if_neg (by omega),if_pos hk,if_neg (by omega)] at hq;cases hq;rw[ved (Or.inl ⟨by rcases h4 with h|h; exact Or.inl h; exact Or.inr (Or.inl h),rfl⟩),if_neg (by omega),gr_b]
   by_cases h44:y.fKind=4
   · rw[if_pos h44,if_pos (hv.2.2 h44),← hv.1]
   rw[if_neg h44,if_neg h7,gr_wire,if_pos rfl,← hv.1]
 rw[if_neg h4] at hv hk;rw[if_pos hk] at hq;cases hq;rw[ved (Or.inr ⟨by omega,rfl⟩)]
 by_cases h3:y.fKind=3∨y.fKind=6
 · rw[if_pos h3,gr_n,if_pos (hv.2.2 h3),← hv.1]
 rw[if_neg h3,if_neg (by omega),if_neg h7,gr_wire,if_neg (by decide),gr_n,← hv.1]
theorem fldD_unk {m:ya}{one:Yi→yc→zk×Int}{B:List yc}{es:List zr}:∀ {A rest:List yc},(∀ r∈A,(zI m r.fTag).2≠true)→vca m one (A++B) es rest=vca m one B es (rest++A)
 |[],rest,_=>by rw[qE]; rfl
 |r::A,rest,h=>by
  rw[qH,vca,if_neg (h r (qA ..)),fldD_unk fun x hx=>h x (qB _ hx),qx]; rfl
theorem fldD_more {m:ya}{one:Yi→yc→zk×Int}{enc:zk→Option (List UInt8)}{tag:Int}{A:List zr}{M rest:List yc}(hk:(zI m tag).2=true)(h3:(zI m tag).1.fLabel=3)(hA:∀ a∈A,a.fTag<tag):∀ {l:List zk} {ts:List zk} {L:List yc},ts.length+l.length≤64→(∀ x∈l,∀ q,rawT enc tag x=some q→one (zI m tag).1.fType q=(x,0))→rawL enc tag l=some L→vca m one (L++M) (A++[⟨tag,ts⟩]) rest=vca m one M (A++[⟨tag,ts++l⟩]) rest
 |[],ts,L,_,_,h=>by cases h; rw[qE]; rfl
 |x::l,ts,L,hl,ho,h=>by
  obtain⟨q,hq,h⟩:=bind_some h;obtain⟨L',hL,h⟩:=bind_some h;cases h;rw[ql] at hl
  have hn:∀ rep:Prop,[Decidable rep]→rep→vc4 tag rep (A++[⟨tag,ts⟩])=ts.length+1:=by
   intro rep _ hr
   rw[vdB hA,vc4,YJ,if_neg (by omega),if_pos rfl,if_pos hr,XZ]
  have he:∀ rep:Prop,[Decidable rep]→rep→XW tag rep x (A++[⟨tag,ts⟩])=A++[⟨tag,ts++[x]⟩]:=by
   intro rep _ hr
   rw[vdC hA,XW,YJ,if_neg (by omega),if_pos rfl,if_pos hr,XZ]
  rw[qH,vca,rawT_tag hq,if_pos hk,ho x (qA ..) q hq,if_pos rfl,if_pos (by rw[hn _ h3]; omega),he _ h3,fldD_more hk h3 hA (by rw[qk,qS]; omega) (fun z hz=>ho z (qB _ hz)) hL,qx]; rfl
theorem fldD_entry {m:ya}{one:Yi→yc→zk×Int}{enc:zk→Option (List UInt8)}{e:zr}{A:List zr}{M rest L:List yc}(hk:(zI m e.fTag).2=true)(h1:1≤e.fTrees.length)(h64:e.fTrees.length≤64)(hl:(zI m e.fTag).1.fLabel≠3→e.fTrees.length=1)(hA:∀ a∈A,a.fTag<e.fTag)(ho:∀ x∈e.fTrees,∀ q,rawT enc e.fTag x=some q→one (zI m e.fTag).1.fType q=(x,0))(h:rawL enc e.fTag e.fTrees=some L):vca m one (L++M) A rest=vca m one M (A++[e]) rest:=by
 obtain⟨tag,ts⟩:=e;rw[YJ] at *;rw[XZ] at *
 cases ts with
 |nil=>exact absurd h1 (by decide)
 |cons x l=>
  obtain⟨q,hq,h⟩:=bind_some h;obtain⟨L',hL,h⟩:=bind_some h;cases h
  have hn:∀ rep:Prop,[Decidable rep]→vc4 tag rep A=1:=by
   intro rep _
   have:=vdB (rep:=rep) (B:=[]) hA;rw[qE] at this
   rw[this]; rfl
  have he:∀ rep:Prop,[Decidable rep]→XW tag rep x A=A++[⟨tag,[x]⟩]:=by
   intro rep _
   have:=vdC (rep:=rep) (x:=x) (B:=[]) hA;rw[qE] at this
   rw[this]; rfl
  rw[qH,vca,rawT_tag hq,if_pos hk,ho x (qA ..) q hq,if_pos rfl,if_pos (by rw[hn]; decide),he]
  cases l with
  |nil=>cases hL; rfl
  |cons y l=>
   have h3:(zI m tag).1.fLabel=3:=by
    by_cases h3:(zI m tag).1.fLabel=3
    · exact h3
    have:=hl h3; rw[ql,ql] at this; omega
   have:=fldD_more (m:=m) (one:=one) (enc:=enc) (tag:=tag) (A:=A) (M:=M) (rest:=rest) hk h3 hA (l:=y::l) (ts:=[x]) (L:=L') (by rw[ql] at h64; rw[qS]; omega) (fun z hz=>ho z (qB _ hz)) hL;exact this
theorem fldD_ents {d:Nat}{s:zE}{m:ya}{rest:List yc}(ih:∀ m t c,okT s d m t→vaC d t=some c→decM s d m c=(t,0)):∀ {B A:List zr} {L:List yc},(A++B).Pairwise vbi→(∀ e∈B,okN (okT s d) s m e)→rawE (vaC d) B=some L→vca m (oneD (decM s d) s) L A rest=(⟨3,0,[],zdel m (A++B),srt rest⟩,0)
 |[],A,L,_,_,h=>by cases h; rw[vca,qE]
 |e::B,A,L,hs,he,h=>by
  obtain⟨a,ha,h⟩:=bind_some h;obtain⟨L',hL,h⟩:=bind_some h;cases h;obtain⟨_,h2,h3,h4,h5⟩:=he e (qA ..)
  rw[fldD_entry (enc:=vaC d) h2 h3.1 h3.2 h4 (fun x hx=>(List.pairwise_append.1 hs).2.2 x hx e (qA ..)) (fun x hx q hq=>oneD_back ih (h5 x hx) hq) ha,fldD_ents ih (A:=A++[e]) (by rw[qx]; exact hs) (fun x hx=>he x (qB _ hx)) hL,qx]; rfl
theorem zdel_id {m:ya}{es:List zr}(h:∀ e∈es,isZ m e=false):zdel m es=es:=by
 unfold zdel;rw[List.filter_eq_self]
 intro e he
 rw[h e he]; rfl
theorem decM_back {s:zE}:∀ (d:Nat) (m:ya) (t:zk) (c:List UInt8),okT s d m t→vaC d t=some c→decM s d m c=(t,0)
 |0,_,_,_,h,_=>h.elim
 |d+1,m,t,c,hok,h=>by
  have hr:=okT_right (d+1) (d+1) m t (qw _) hok;have hz:=okT_sz (d+1) (d+1) m t (qw _) hok;obtain⟨h3,h0,hS,hs,he,hrs,hl,hrest⟩:=hok;rw[vaC] at h;obtain⟨L,hL,h⟩:=bind_some h;obtain⟨hc,hlen⟩:=putB_some h;have hg:=getD_of (raws_ok hr h3 hz hL) (by rw[← hc]; exact hlen)
  have key:vca m (oneD (decM s d) s) (t.fRest++L) [] []=(t,0):=by
   rw[fldD_unk fun r hm=>(hrest r hm).2,fldD_ents (decM_back d) (A:=[]) (B:=t.fEntries) hs (fun e hm=>(he e hm).1) hL,qD,qD,zdel_id (es:=t.fEntries) fun e hm=>(he e hm).2,srt_id hrs,← h3,← h0,← hS,← gt_eta]
  rw[decM,hc,hg,if_pos rfl,fldD_shuf (shuf_srt _) (by rw[key]),key]
def rawEqD (x y:yc):Bool:=decide (x.fTag=y.fTag)&&(decide (x.fWire=y.fWire)&&(decide (x.fN=y.fN)&&decide (x.fB=y.fB)))
def XG {α:Type}(f:α→α→Bool):List α→List α→Bool
 |[],[]=>true
 |x::l,y::m=>f x y&&XG f l m
 |[],_::_=>false
 |_::_,[]=>false
def entEq (f:zk→zk→Bool)(x y:zr):Bool:=decide (x.fTag=y.fTag)&&XG f x.fTrees y.fTrees
def sameS (f:zk→zk→Bool)(a b:zk):Bool:=decide (a.fKind=b.fKind)&&decide (a.fN=b.fN)&&decide (a.fS=b.fS)&&XG rawEqD a.fRest b.fRest&&XG (entEq f) a.fEntries b.fEntries
theorem vbX {α:Type}{f:α→α→Bool}:∀ {l m:List α},l.length≠m.length→XG f l m=false
 |[],[],h=>absurd rfl h
 |[],_::_,_=>rfl
 |_::_,[],_=>rfl
 |x::l,y::m,h=>by rw[XG,vbX (l:=l) (m:=m) (by simpa using h),qv]
theorem app_cons {α:Type}(A:List α)(y:α)(B:List α):A++y::B=(A++[y])++B:=by simp
theorem len_snoc {α:Type}(A:List α)(y:α):(A.length:Int)+1=((A++[y]).length:Int):=by rw[qk,qS]; omega
theorem eqRaw_l : ∀ (q A B:List yc),q.length=B.length→xJ.l8 (A++B) q (A.length:Int)=some (XG rawEqD q B)
 |[],A,[],_=>rfl
 |[],A,_::_,h=>by simp at h
 |_::_,A,[],h=>by simp at h
 |x::q,A,y::B,h=>by
  rw[xJ.l8,Xe rfl,qh,XG]
  show (if (!rawEqD x y)=true then _ else _)=_
  cases rawEqD x y with
  |false=>rfl
  |true=>
   rw[if_neg (by decide),um,len_snoc A y,app_cons];exact eqRaw_l q (A++[y]) B (by simpa using h)
theorem eqRaw (a b:List yc):xJ a b=some (XG rawEqD a b):=by
 rw[xJ]
 by_cases h:(qa a:Int)=(qa b:Int)
 · rw[if_pos h]; exact eqRaw_l a [] b (by omega)
 rw[if_neg h,vbX (by omega)]
theorem eqTree_l {self:zk→zk→Option Bool}{f:zk→zk→Bool}:∀ (q A B:List zk),q.length=B.length→(∀ x∈q,∀ y,self x y=some (f x y))→zy.l8 self (A++B) q (A.length:Int)=some (XG f q B)
 |[],A,[],_,_=>rfl
 |[],A,_::_,h,_=>by simp at h
 |_::_,A,[],h,_=>by simp at h
 |x::q,A,y::B,h,hs=>by
  rw[zy.l8,Xe rfl,qh,hs x (qA ..),qh,XG]
  cases f x y with
  |false=>rfl
  |true=>
   rw[if_neg (by decide),um,len_snoc A y,app_cons]
   exact eqTree_l q (A++[y]) B (by simpa using h) fun z hz=>hs z (qB _ hz)
theorem eqEnt_l {self:zr→zr→Option Bool}{f:zr→zr→Bool}:∀ (q A B:List zr),q.length=B.length→(∀ x∈q,∀ y,self x y=some (f x y))→zw.l8 self (A++B) q (A.length:Int)=some (XG f q B)
 |[],A,[],_,_=>rfl
 |[],A,_::_,h,_=>by simp at h
 |_::_,A,[],h,_=>by simp at h
 |x::q,A,y::B,h,hs=>by
  rw[zw.l8,Xe rfl,qh,hs x (qA ..),qh,XG]
  cases f x y with
  |false=>rfl
  |true=>
   rw[if_neg (by decide),um,len_snoc A y,app_cons]
   exact eqEnt_l q (A++[y]) B (by simpa using h) fun z hz=>hs z (qB _ hz)
theorem vstep {k:Nat}{f:zk→zk→Bool}{a:zk}(b:zk)(h:∀ e∈a.fEntries,∀ x∈e.fTrees,∀ y,wg k x y=some (f x y)):wg (k+4) a b=some (sameS f a b):=by
 have ht:∀ e∈a.fEntries,∀ m,zy (k+1) e.fTrees m=some (XG f e.fTrees m):=by
  intro e he m
  rw[zy,zy.body]
  by_cases hl:(qa e.fTrees:Int)=(qa m:Int)
  · rw[if_pos hl]; exact eqTree_l e.fTrees [] m (by omega) (h e he)
  rw[if_neg hl,vbX (by omega)]
 have he:∀ e∈a.fEntries,∀ y,wC (k+2) e y=some (entEq f e y):=by
  intro e he y
  rw[wC,wC.body,entEq]
  by_cases hg:e.fTag=y.fTag
  · rw[if_pos hg,ht e he,decide_eq_true hg]; rfl
  rw[if_neg hg,decide_eq_false hg]; rfl
 have hs:zw (k+3) a.fEntries b.fEntries=some (XG (entEq f) a.fEntries b.fEntries):=by
  rw[zw,zw.body]
  by_cases hl:(qa a.fEntries:Int)=(qa b.fEntries:Int)
  · rw[if_pos hl]; exact eqEnt_l a.fEntries [] b.fEntries (by omega) he
  rw[if_neg hl,vbX (by omega)]
 rw[wg,wg.body,sameS]
 cases h1:((decide (a.fKind=b.fKind)&&decide (a.fN=b.fN))&&decide (a.fS=b.fS)) with
 |false=>rfl
 |true=>
  rw[if_pos rfl,eqRaw,qh,qh]
  cases h2:XG rawEqD a.fRest b.fRest with
  |false=>rfl
  |true=>rw[if_pos rfl,hs]; rfl
def s1 : zE:=Za 1
def s2 : zE:=Za 2
def YR : List UInt8:=[109]
def vaK (v:Int):zk:=xS v
def oneB (v:Int):zk:=⟨3,0,[],[⟨1,[⟨1,v,[],[],[]⟩]⟩],[]⟩
theorem vac {v:Int}(h:v≠0):vaK v=oneB v:=if_neg h
theorem check1 : yH s1=some 0:=by decide +kernel
theorem check2 : yH s2=some 0:=by decide +kernel
theorem msg1 : yq s1 YR=(⟨YR,[⟨[120],1,1,⟨1,[]⟩⟩],[]⟩,true):=by decide +kernel
theorem msg2 : yq s2 YR=(⟨YR,[⟨[120],1,1,⟨2,[]⟩⟩],[]⟩,true):=by decide +kernel
theorem meth1 : wi s1 [99]=(⟨[99],YR,YR⟩,true):=by decide +kernel
theorem meth2 : wi s2 [99]=(⟨[99],YR,YR⟩,true):=by decide +kernel
theorem progK : wv ⟨[[⟨1,1,0⟩]]⟩=true:=by decide +kernel
theorem oneB_sz {v:Int}(h:va0 v):szT 10 (oneB v):=by
 refine⟨⟨by show va0 0; unfold va0; omega,by show (0:Nat)≤900000; omega,fun r hm=>by cases hm⟩,fun x hx=>?_⟩
 have hx':x=⟨1,v,[],[],[]⟩:=by simpa [kids,oneB,zk.fEntries,zr.fTrees] using hx
 subst hx';exact⟨⟨h,by show (0:Nat)≤900000; omega,fun r hm=>by cases hm⟩,fun x hx=>by cases hx⟩
theorem zero_sz : szT 10 (⟨3,0,[],[],[]⟩:zk):=
 ⟨⟨by show va0 0; unfold va0; omega,by show (0:Nat)≤900000; omega,fun r hm=>by cases hm⟩,fun x hx=>by cases hx⟩
theorem oneT_sz {v:Int}(h:va0 v):szT 10 (vaK v):=by
 by_cases h0:v=0
 · subst h0; exact zero_sz
 rw[vac h0]; exact oneB_sz h
theorem vbV (v:Int):XT (vaK v)=true:=by
 by_cases h0:v=0
 · subst h0; decide +kernel
 rw[vac h0]; rfl
theorem vec (v:Int):(vaK v).fKind=3:=by
 by_cases h0:v=0
 · subst h0; rfl
 rw[vac h0]; rfl
theorem oneT_enc {v:Int}(h:va0 v):∃ c,vaC 10 (vaK v)=some c:=by
 by_cases h0:v=0
 · subst h0; exact⟨[],by decide +kernel⟩
 rw[vac h0];have e:vaC 10 (oneB v)=putB [⟨1,0,v,[]⟩]:=rfl;rw[e,putB];have k1:(vb (vc6 ⟨1,0,v,[]⟩)).length≤10:=YX (by show ((2*1+0:Int).toNat)<2^64; decide);have k2:(vb (zg v)).length≤10:=YX (zg_lt h)
 have hl:(Y1 [⟨1,0,v,[]⟩]).length≤20:=by
  show (vcs ⟨1,0,v,[]⟩++[]).length≤20
  rw[qE]
  show (vb (vc6 ⟨1,0,v,[]⟩)++vb (zg v)).length≤20
  rw[qk]; omega
 rw[if_neg (by omega)];exact⟨_,rfl⟩
theorem oneT_Encode {v:Int}(h:va0 v){c:List UInt8}(hc:vaC 10 (vaK v)=some c):ZW (vaK v)=some (c,0):=by
 rw[Encode_eq (oneT_sz h),if_pos ⟨vbV v,vec v⟩,hc]; rfl
theorem oneT_ref {v:Int}(h:va0 v){c:List UInt8}(hc:vaC 10 (vaK v)=some c):wD (vaK v)=some (c,0):=by
 rw[vd4 (oneT_sz h),if_pos ⟨vbV v,vec v⟩,hc]; rfl
theorem oneT_ok {s:zE}{k v:Int}(hm:yq s YR=(⟨YR,[⟨[120],1,1,⟨k,[]⟩⟩],[]⟩,true))(hk:k=1∨k=2)(h:va0 v):okT s 10 (msgOf s YR) (vaK v):=by
 have hmo:msgOf s YR=⟨YR,[⟨[120],1,1,⟨k,[]⟩⟩],[]⟩:=by rw[msgOf,hm]
 rw[hmo]
 by_cases h0:v=0
 · subst h0;exact⟨rfl,rfl,rfl,List.Pairwise.nil,(fun e he=>(List.not_mem_nil he).elim),List.Pairwise.nil,uu _,fun r hr=>(List.not_mem_nil hr).elim⟩
 rw[vac h0];refine⟨rfl,rfl,rfl,List.pairwise_singleton _ _,fun e he=>?_,List.Pairwise.nil,uu _,fun r hr=>(List.not_mem_nil hr).elim⟩
 have he':e=⟨1,[⟨1,v,[],[],[]⟩]⟩:=by simpa [oneB,zk.fEntries] using he
 subst he';refine⟨⟨⟨show (1:Int)≤1 by decide,show (1:Int)≤500 by decide⟩,rfl,⟨show 1≤1 by decide,show 1≤64 by decide⟩,fun _=>rfl,fun x hx=>?_⟩,?_⟩
 · have hx':x=⟨1,v,[],[],[]⟩:=by simpa [zr.fTrees] using hx
   subst hx';unfold okV;rw[show (zI ⟨YR,[⟨[120],1,1,⟨k,[]⟩⟩],[]⟩ (zr.fTag ⟨1,[⟨1,v,[],[],[]⟩]⟩)).1.fType.fKind=k from rfl,if_neg (by omega),if_neg (by omega)];exact⟨rfl,h,fun h=>by omega⟩
 show (true&&Zx ⟨1,v,[],[],[]⟩)=false
 have:Zx ⟨1,v,[],[],[]⟩=false:=by
  unfold Zx
  show _=_
  simp[h0,zk.fKind,zk.fN]
 rw[this]; rfl
theorem oneT_decode {s:zE}{k v:Int}(hs:yH s=some 0)(hm:yq s YR=(⟨YR,[⟨[120],1,1,⟨k,[]⟩⟩],[]⟩,true))(hk:k=1∨k=2)(h:va0 v){c:List UInt8}(hc:vaC 10 (vaK v)=some c):ZH s YR c=some (vaK v,0):=by
 rw[decode_eq hs (by rw[hm]),decM_back 10 _ _ _ (oneT_ok hm hk h) hc]
def KK : Nat:=999999999999999999999
theorem rounds_s : xo=KK+1:=rfl
def KJ : Nat:=999999999999999999998
theorem KK_s : KK=KJ+1:=rfl
theorem num_tree (v:Int):zR xo (.num v)=some ⟨1,v,[],[],[]⟩:=by
 rw[rounds_s,zR,zR.body]; rfl
def keepF (op v:Int):Int:=if op=2 then wz v else v
theorem step_one {op v:Int}(hop:op=1∨op=2)(r:zN):zJ KK r ⟨op,1,0⟩ [.num v]=some ([⟨1,keepF op v,[],[],[]⟩],r):=by
 rw[KK_s,zJ,zJ.body,if_neg (by show ¬ op=4; omega),zJ.j2,zJ.l12,num_tree,qh,bnd];have hk:ZE (.num v)=.num v:=rfl;rw[hk]
 dsimp only
 have hl:∀ (m:zN) (T:zk),zJ.j22 0 ([]:List zk) (zJ.l12 (zY KJ) ⟨op,1,0⟩ []) m T=some ([T],m):=fun m T=>by
  rw[zJ.j22,Zu (by simp),qh,zJ.l12]; rfl
 rcases hop with rfl|rfl
 · rw[if_neg (by decide),if_neg (by decide)]
   show zJ.j36 _ _ _ _ _ _ _ _ (decide ((1:Int)=4))=_
   unfold zJ.j36;rw[if_neg (by decide)];exact hl _ _
 rw[if_pos rfl,bnd];exact hl _ _
theorem part_one {op v:Int}(hop:op=1∨op=2):∃ r,zY xo ⟨⟨[[⟨op,1,0⟩]]⟩,0⟩ 0 ⟨[⟨1,[.num v]⟩],[]⟩=some (oneB (keepF op v),r):=by
 rw[rounds_s,zY,zY.body];have hi:Yz (zN.fp ⟨⟨[[⟨op,1,0⟩]]⟩,0⟩).fParts 0=some [⟨op,1,0⟩]:=rfl;rw[hi,qh,zY.l13]
 have hg:xq ⟨[⟨1,[.num v]⟩],[]⟩ 1=some [.num v]:=by
  rw[xq,xq.l4,if_pos (show (yI.mk 1 [zm.num v]).ftag=1 from rfl)]
  show ((w8 [.num v]).bind fun r12=>some r12)=_
  rw[w8,Zu (by simp)]; rfl
 dsimp only [yl.fentries]
 rw[hg,qh,if_neg (by simp),step_one hop,qh,if_pos (by simp),Zu (by simp),qh,zY.j19,zY.l13];exact⟨_,rfl⟩
def treeB (t:zk):Bool:=match t with
 |⟨k,n,s,es,rs⟩=>decide (k=3)&&decide (n=0)&&decide (s=[])&&es.isEmpty&&rs.isEmpty
theorem treeB_eq {t:zk}(h:treeB t=true):t=vaK 0:=by
 obtain⟨k,n,s,es,rs⟩:=t;simp only[treeB,qC,decide_eq_true_eq,List.isEmpty_iff] at h;obtain⟨⟨⟨⟨rfl,rfl⟩,rfl⟩,rfl⟩,rfl⟩:=h
 rfl
theorem run_z {P:we}(h:(ZB P (vaK 0)).any (fun r=>treeB r.1&&decide (r.2=0))=true):ZB P (vaK 0)=some (vaK 0,0):=by
 cases hr:ZB P (vaK 0) with
 |none=>rw[hr] at h; cases h
 |some r=>
  rw[hr] at h;simp only[Option.any_some,qC,decide_eq_true_eq] at h;obtain⟨a,b⟩:=r;obtain⟨h1,h2⟩:=h;have e1:a=vaK 0:=treeB_eq h1;have e2:b=0:=h2;rw[e1,e2]
theorem keepF_ne {op v:Int}(h0:v≠0):keepF op v≠0:=by
 unfold keepF wz
 split
 · split<;>split<;>omega
 exact h0
theorem run_one {op v:Int}(hop:op=1∨op=2)(h:va0 v)(hp:wv ⟨[[⟨op,1,0⟩]]⟩=true):ZB ⟨[[⟨op,1,0⟩]]⟩ (vaK v)=some (vaK (keepF op v),0):=by
 by_cases h0:v=0
 · subst h0
   have hk:keepF op 0=0:=by rcases hop with rfl|rfl<;>decide
   rw[hk]
   rcases hop with rfl|rfl
   · exact run_z (by decide +kernel)
   exact run_z (by decide +kernel)
 have hv:Xz (oneB v)=some (.node [⟨1,[.num v]⟩] [],true):=by
  have:=of_eq (oneB_sz h);have hc:=vbV v;rw[vac h0] at hc
  rw[this,if_pos hc]; rfl
 obtain⟨r,hr⟩:=part_one (v:=v) hop;rw[vac h0,vac (keepF_ne h0),ZB,Y8,bnd,hp,if_neg (show ¬ (!true || !decide ((oneB v).fKind=3))=true from fun h=>Bool.noConfusion h),hv,qh,if_neg (show ¬ (!(zm.node [⟨1,[.num v]⟩] [],true).2)=true from fun h=>Bool.noConfusion h)]
 show (uQ (uQ (some (⟨[⟨1,[.num v]⟩],[]⟩:yl)) _) _)=_
 rw[qh,hr,qh,qh]
theorem clamp_in (n:Int):va0 (wz n):=by
 unfold wz va0
 split<;>(try split)<;>omega
theorem make11 : xE s1 s1 YR YR=some (⟨[[⟨1,1,0⟩]]⟩,0):=by decide +kernel
theorem make22 : xE s2 s2 YR YR=some (⟨[[⟨1,1,0⟩]]⟩,0):=by decide +kernel
def vam (k v:Int):Int:=if k=1 then wz v else v
theorem projF_ne {k v:Int}(h0:v≠0):vam k v≠0:=by
 unfold vam wz
 split
 · split<;>split<;>omega
 exact h0
theorem proj_field {s:zE}{k v:Int}(hk:k=1∨k=2)(h0:v≠0):zP KK s ⟨[120],1,1,⟨k,[]⟩⟩ [⟨1,v,[],[],[]⟩]=some ([⟨1,vam k v,[],[],[]⟩],true):=by
 have hf:wx ⟨k,[]⟩ ⟨1,v,[],[],[]⟩=some true:=by rcases hk with rfl|rfl<;>rfl
 have hz:Zx ⟨1,vam k v,[],[],[]⟩=false:=by
  unfold Zx
  simp[projF_ne h0,zk.fKind,zk.fN]
 rw[KK_s,zP,zP.body,zP.l4]
 show (uQ (wx ⟨k,[]⟩ ⟨1,v,[],[],[]⟩) _)=_
 rw[hf,qh,if_neg (by decide),zP.l4,if_neg (show ¬ (1:Int)=3 by decide)];have hg:grd ((0:Int)≤IntKind.i64.wrap ((qa [(⟨1,v,[],[],[]⟩:zk)]:Int)-1)∧IntKind.i64.wrap ((qa [(⟨1,v,[],[],[]⟩:zk)]:Int)-1)≤(qa [(⟨1,v,[],[],[]⟩:zk)]:Int)∧(qa [(⟨1,v,[],[],[]⟩:zk)]:Int)≤(qa [(⟨1,v,[],[],[]⟩:zk)]:Int))=some ():=if_pos (show (0:Int)≤IntKind.i64.wrap (1-1)∧IntKind.i64.wrap (1-1)≤(1:Int)∧(1:Int)≤1 by decide);rw[hg,qh,zP.j7]
 show zP.l15 _ _ _ [⟨1,v,[],[],[]⟩] 0 []=_
 rw[zP.l15]
 have hend:∀ (T:zk),T=⟨1,vam k v,[],[],[]⟩→zP.j29 0 ([]:List zk) (zP.l15 (yb KJ) s ⟨[120],1,1,⟨k,[]⟩⟩ []) T=some ([T],true):=fun T hT=>by
  rw[zP.j29,Zu (by simp),qh,zP.l15,if_pos rfl]
  show (uQ (uQ (some T) _) _)=_
  rw[qh,bnd,hT,hz,qh]
  rfl
 rcases hk with rfl|rfl
 · rw[if_pos rfl,bnd];exact hend _ rfl
 rw[if_neg (by decide),if_neg (by decide)];exact hend _ rfl
theorem vdj {s:zE}{k v:Int}(hs:yH s=some 0)(hm:yq s YR=(⟨YR,[⟨[120],1,1,⟨k,[]⟩⟩],[]⟩,true))(hk:k=1∨k=2)(h:va0 v):wI s YR (vaK v)=some (vaK (vam k v),true):=by
 rw[wI,bnd,hm]
 dsimp only
 rw[if_neg (by decide),hs,qh,qh,if_neg (by rw[vec]; decide),check_eq (oneT_sz h),vbV,qh,qh,if_neg (by decide)]
 by_cases h0:v=0
 · subst h0
   have:vam k 0=0:=by rcases hk with rfl|rfl<;>decide
   rw[this]
   rfl
 rw[vac h0,vac (projF_ne h0),rounds_s,yb,yb.body]
 show (uQ (yb.l8 _ _ _ [⟨1,[⟨1,v,[],[],[]⟩]⟩] 0 []) _)=_
 rw[yb.l8,bnd]
 show (uQ (if (!true)=true then _ else uQ (zP KK s ⟨[120],1,1,⟨k,[]⟩⟩ [⟨1,v,[],[],[]⟩]) _) _)=_
 rw[if_neg (by decide),proj_field hk h0,qh,if_pos rfl,Zu (by simp),qh,yb.j13,yb.l8]
 rfl
theorem awake24 : Xr=some true:=by decide +kernel
def mthC : Zg:=⟨[99],YR,YR⟩
def rowsR (a b:Int):List GRow:=[⟨[99],vaK a,vaK b⟩]
def cch0 : Zn:=⟨4,[],0,⟨[],[],0⟩,⟨[],[],0⟩⟩
def cch1 (k:Int)(r:xF):Zn:=⟨4,[⟨2,k⟩],1,⟨[(⟨2,k⟩,r)],[0],1⟩,⟨[(2,k)],[0],1⟩⟩
def rS (s:zE)(a b:Int)(c:Zn)(e:List xv)(n:Nat):xI:=⟨0,[3],[s],s2,rowsR a b,c,e,n⟩
theorem rNew1 (a b:Int):Zy 0 [3] [s1] s2 (rowsR a b) 4=some (some (rS s1 a b cch0 [] 0),0):=by kernel_rfl
theorem rNew2 (a b:Int):Zy 0 [3] [s2] s2 (rowsR a b) 4=some (some (rS s2 a b cch0 [] 0),0):=by kernel_rfl
theorem same_one (v:Int):wg xo (vaK v) (vaK v)=some true:=by
 have r8:xo=999999999999999999992+4+4:=rfl;rw[r8]
 by_cases h0:v=0
 · rw[h0];refine (vstep (f:=fun _ _=>false) _ fun e he=>by cases he).trans ?_
   rfl
 rw[vac h0];refine (vstep (f:=sameS fun _ _=>false) _ fun e he x hx y=>?_).trans ?_
 · have:e=⟨1,[⟨1,v,[],[],[]⟩]⟩:=uN.1 he;subst this;have:x=⟨1,v,[],[],[]⟩:=uN.1 hx;subst this
   exact vstep (f:=fun _ _=>false) _ fun e he=>by cases he
 simp[sameS,XG,entEq,oneB,zk.fKind,zk.fN,zk.fS,zk.fRest,zk.fEntries,zr.fTrees,zr.fTag]
structure Own (s:zE)(k:Int):Prop where
 chk:yH s=some 0
 msg:yq s YR=(⟨YR,[⟨[120],1,1,⟨k,[]⟩⟩],[]⟩,true)
 meth:wi s [99]=(mthC,true)
 make:xE s s YR YR=some (⟨[[⟨1,1,0⟩]]⟩,0)
 kind:k=1∨k=2
theorem own1 : Own s1 1:=⟨check1,msg1,meth1,make11,.inl rfl⟩
theorem own2 : Own s2 2:=⟨check2,msg2,meth2,make22,.inr rfl⟩
theorem va7 (k:Int){v:Int}(h:va0 v):va0 (vam k v):=by
 unfold vam; split
 · exact clamp_in v
 exact h
theorem rAdd (i:Int)(r:xF):wB cch0 2 i r=some (0,cch1 i r):=by kernel_rfl
def repR (i:Int)(c:List UInt8):xF:=⟨4,0,2,i,3,[99],0,c⟩
theorem rHello (s:zE)(a b:Int)(i:Int)(c:Zn)(e n):xi (rS s a b c e n) ⟨1,2,0,i,0,[],0,[1,3,5]⟩=some (⟨2,0,2,i,3,[],0,[]⟩,true,rS s a b c e n):=by
 have hg:wj (rS s a b c e n) [1,3,5]=some 3:=by
  rw[wj,show grd (qa ([1,3,5]:List UInt8)<9223372036854775807)=some () from if_pos (by decide),qh]
  show some (([3]:List Int).reverse.find? _ |>.getD 0)=_
  decide
 unfold xi
 show (if (0:Int)=0 then (if (1:Int)=1 then uQ (wj _ _) _ else _) else _)=_
 rw[if_pos rfl,if_pos rfl,hg]
 rfl
section
variable {s:zE} {k:Int} (o:Own s k) {a b:Int} (ha:va0 a) (hb:va0 b)
include o
theorem rReady {v:Int}(hv:va0 v){c:List UInt8}(hc:vaC 10 (vaK v)=some c)(i:Int)(ch e n):wX (rS s a b ch e n) ⟨3,2,0,i,3,[99],0,c⟩=some (⟨s,mthC,mthC,vaK v⟩,0):=by
 have hl:=vel hc;have hr:ZB ⟨[[⟨1,1,0⟩]]⟩ (vaK v)=some (vaK v,0):=run_one (.inl rfl) hv progK;unfold wX
 rw[bnd,show wk (rS s a b ch e n).fnumbers (xF.fVersion ⟨3,2,0,i,3,[99],0,c⟩)=0 from rfl,if_neg (by decide),
  show Yz (rS s a b ch e n).fschemas (IntKind.i64.wrap ((qa (rS s a b ch e n).fschemas:Int)-1))=some s from rfl,qh,
  show Yz (rS s a b ch e n).fschemas 0=some s from rfl,qh,bnd,bnd]
 dsimp only
 rw[o.meth,if_neg (by decide),show grd (qa c≤9223372036854775807)=some () from if_pos (by omega),qh,
  show ZH s (Zg.fIn mthC) c=_ from oneT_decode o.chk o.msg o.kind hv hc,qh,if_pos rfl,
  show xE s s (Zg.fIn mthC) (Zg.fIn mthC)=_ from o.make,qh,hr]
 rfl
include ha hb
theorem rAnswer (s':zE):xy s s' (rowsR a b) [99] (vaK (vam k a))=some (vaK (vam k b)):=by
 have e1:=vdj o.chk o.msg o.kind ha;have e2:=vdj o.chk o.msg o.kind hb;rw[xy,bnd,o.meth]
 dsimp only
 rw[if_neg (by decide),rowsR,xy.l7]
 show (if ([99]:List UInt8)=[99] then uQ (wI s YR (vaK a)) _ else _)=_
 rw[if_pos rfl,e1,qh]
 show (uQ (wI s YR (vaK b)) _)=_
 rw[e2,qh];simp only[qM,if_true,same_one,qh]
theorem rHear {x y:List UInt8}(hx:vaC 10 (vaK (vam k a))=some x)(hy:vaC 10 (vaK (vam k b))=some y)(i:Int):
 xi (rS s a b cch0 [] 0) ⟨3,2,0,i,3,[99],0,x⟩=some (repR i y,true,rS s a b (cch1 i (repR i y)) [⟨2,i,[99],vaK (vam k a)⟩] 1):=by
 have hl:wU cch0 2 i=(⟨0,0,0,0,0,[],0,[]⟩,1):=rfl;have hr:ZB ⟨[[⟨1,1,0⟩]]⟩ (vaK (vam k b))=some (vaK (vam k b),0):=run_one (.inl rfl) (va7 k hb) progK
 have hcal:xh (rS s a b cch0 [] 0) ⟨3,2,0,i,3,[99],0,x⟩=some (repR i y,rS s a b (cch1 i (repR i y)) [⟨2,i,[99],vaK (vam k a)⟩] 1):=by
  unfold xh;rw[bnd,show wU (rS s a b cch0 [] 0).fcache (xF.fFrom ⟨3,2,0,i,3,[99],0,x⟩) (xF.fID ⟨3,2,0,i,3,[99],0,x⟩)=_ from hl]
  dsimp only
  rw[if_neg (by decide),if_neg (by decide),rReady o (va7 k ha) hx,qh,if_pos rfl,
   show Yz (rS s a b cch0 [] 0).fschemas (IntKind.i64.wrap ((qa (rS s a b cch0 [] 0).fschemas:Int)-1))=some s from rfl,qh,Zu (by simp[rS]),qh]
  rw[show xy s (rS s a b cch0 [] 0).fnewest (rS s a b cch0 [] 0).frows [99] (vaK (vam k a))=_ from rAnswer o ha hb s2,qh];rw[show xE s s (Zg.fOut mthC) (Zg.fOut mthC)=_ from o.make,qh,hr,qh,if_pos rfl,oneT_Encode (va7 k hb) hy,qh];unfold xh.j24
  show (uQ (wB cch0 2 i (repR i y)) _)=_
  rw[rAdd]
  rfl
 unfold xi
 show (if (0:Int)=0 then (if (3:Int)=1 then uQ (wj _ _) _ else (if (3:Int)=3 then uQ (xh _ _) _ else _)) else _)=_
 rw[if_pos rfl,if_neg (by decide),if_pos rfl,hcal]
 rfl
theorem rAll {i j:Int}(hi:wY i 2147483648=some j)(x28 x29:Int)(h28:x28=vam k a)(h29:x29=vam k b):law24_ServerRows.j30 i (rS s a b cch0 [] 0) x28 x29=some true:=by
 subst h28 h29;obtain⟨x,hx⟩:=oneT_enc (va7 k ha);obtain⟨y,hy⟩:=oneT_enc (va7 k hb);rw[law24_ServerRows.j30,bnd,show wD (xS (vam k a))=some (x,0) from oneT_ref (va7 k ha) hx,qh,bnd,show wD (xS (vam k b))=some (y,0) from oneT_ref (va7 k hb) hy,qh,hi,qh];rw[show xi (rS s a b cch0 [] 0) ⟨3,2,0,j,3,[99],0,(x,(0:Int)).1⟩=_ from rHear o ha hb hx hy j,qh]
 dsimp only
 rw[rHello,qh];simp only[repR,decide_true,qM,if_true,qh,awake24]
end
theorem place_big (a:Int):∃ k,wY a 2147483648=some k:=by
 unfold wY;rw[show grd ((2147483648:Int)≠0)=some () from if_pos (by decide),qh]
 split
 · exact⟨_,rfl⟩
 exact⟨_,rfl⟩
theorem clamp_eq (n:Int):Zl n=wz n:=by
 unfold Zl wz
 repeat' split
 all_goals omega
theorem law24_ServerRows_true {a b:Int}(ha:va0 a)(hb:va0 b)(e:Bool)(i:Int):law24_ServerRows a b e i=some true:=by
 obtain⟨j,hj⟩:=place_big i;unfold law24_ServerRows;rw[bnd]
 cases e with
 |true=>
  rw[if_pos rfl,bnd,law24_ServerRows.j3,bnd,bnd,bnd,show Zy 0 [3] [Za 1] (Za 2) [(⟨[99],xS a,xS b⟩:GRow)] 4=_ from rNew1 a b,qh]
  dsimp only
  rw[if_pos rfl,if_pos rfl,bnd,bnd];exact rAll own1 ha hb hj _ _ (clamp_eq a) (clamp_eq b)
 |false=>
  rw[if_neg Bool.false_ne_true,law24_ServerRows.j3,bnd,bnd,bnd,show Zy 0 [3] [Za 2] (Za 2) [(⟨[99],xS a,xS b⟩:GRow)] 4=_ from rNew2 a b,qh]
  dsimp only
  rw[if_pos rfl,if_neg Bool.false_ne_true];exact rAll own2 ha hb hj _ _ rfl rfl
end
section
open Go.ChangeShapes Go.WideShapes Go.ChangeAt Go.RowKit Go.Shelf Go.Lib AM
theorem own : ownKnob Tryz.prog.godebug=none:=by kernel_rfl
def listed : List (String×DataW Unit):=[("unicode/utf8.acceptRanges",Rows.laid_unicode_utf8_acceptRanges),("unicode/utf8.first",Rows.laid_unicode_utf8_first)]
noncomputable def laidWorld (os:Os):World:=
 let w0:=World.holding qg os ⟨#[],#[],[]⟩
 let put (h:Array Obj) (g:Nat) (cs:Array Value):Array Obj:=h.modify g fun
  |.cells _ t frozen=>.cells cs t frozen
  |o=>o
 let h1:=put w0.heap (vcV.g 3) (Lib.firstTab.map fun z=>Value.int .u8 z).toArray
 let h2:=put h1 (vcV.g 4) ((uD 16).flatMap fun i=>[Value.int .u8 (Lib.accLo i),Value.int .u8 (Lib.accHi i)]).toArray
 { w0 with heap:=h2 }
theorem laid_met (os:Os)(args:Array Value):laidMet qg listed ((laidWorld os).forCall (fun _ _=>0) ⟨#[],args,[]⟩).memory:=
 (LaidIn.of_run (l:=listed) [0,1] 8 (by kernel_rfl) (by kernel_rfl) (by kernel_rfl) (by kernel_rfl)).met
theorem laid_metH (os:Os)(args:Array Value):laidMetH qg listed ((laidWorld os).forCall (fun _ _=>0) ⟨#[],args,[]⟩).memory:=laid_met os args
theorem firstD : Rows.laid_unicode_utf8_first=Lib.firstData:=by kernel_rfl
theorem acceptD : (Rows.laid_unicode_utf8_acceptRanges:DataW Unit)=Lib.acceptData:=by kernel_rfl
theorem u8types : U8Types qg vcV:=⟨vcu.t5,vcu.t119,vcu.t138,vcu.t139⟩
theorem glb_of_laid {W:World}(hL:laidMetH qg listed W):Glb W fun b=>b<W.heap.size:=by
 have h':laidMet qg listed W:=hL;have r1:=Lib.laidMet.reads h' (.tail _ (.head _));have r2:=Lib.laidMet.reads h' (.head _);rw[firstD] at r1;rw[acceptD] at r2;have ht:Lib.Utf8Tabs (vcV.g 3) (vcV.g 4) W:=utf8Tabs_of_readsT u8types ⟨by kernel_rfl,by kernel_rfl,by kernel_rfl,by kernel_rfl,by kernel_rfl,by kernel_rfl,by kernel_rfl⟩ r1 r2;obtain⟨t1,t2⟩:=ht
 have lt:∀ {g o:Nat} {v:Value},W.cell? ⟨g,o,none⟩=some v→g<W.heap.size:=by
  intro g o v h
  refine Nat.lt_of_not_le fun hle=>?_
  unfold World.cell? at h;rw[Array.getElem?_eq_none hle] at h;cases h
 refine⟨fun g vs hm=>?_,fun g vs hm i v hv=>?_⟩
 · rcases qW.1 hm with e|hm
   · cases e; exact lt (t1 0 (by decide))
   rcases qW.1 hm with e|hm
   · cases e; exact lt (t2 0 (by decide)).1
   cases hm
 rcases qW.1 hm with e|hm
 · cases e
   have hi:i<256:=by
    have:=(qN.1 hv).1; simpa using this
   rw[vp,List.getElem?_range hi] at hv;cases hv;exact t1 i hi
 rcases qW.1 hm with e|hm
 · cases e
   have hi:i<32:=by
    have:=(qN.1 hv).1; simpa using this
   rw[vp,List.getElem?_range hi] at hv;cases hv;have h1:=t2 (i / 2) (by omega)
   have:i % 2=0∨i % 2=1:=by omega
   rcases this with h|h
   · have e:2*(i / 2)=i:=by omega
     rw[e] at h1
     simp only[h,if_true]; exact h1.1
   have e:2*(i / 2)+1=i:=by omega
   rw[e] at h1
   simp only[h]; exact h1.2
 cases hm
end
section
namespace AM
open Go.RowKit Go.ChangeShapes Go.WideShapes Go.Deep
section
variable {H:Type} {enc:TypeId×Value→H} {P:Program} {w:World} {base:Nat} {spare:Nat→Bool} {held:Bool}
def OpensS (enc:TypeId×Value→H)(P:Program)(w:World)(base:Nat)(spare:Nat→Bool)(held:Bool)(N:Nat)(t:TypeId)(A:List AV→Prop):Prop:=
 ∀ n cs y,DataW.trod enc P w base spare held n t cs=some y→SizeOf.sizeOf y.1<N→(∀ x∈y.1.weights P t,x≤reachBytes)→∃ avs,avs.length=cs.length∧A avs∧∀ i,i<avs.length→VR (Env.start w) (gc avs i) (cs.getD i undef)
variable {N:Nat}
theorem OpensS.mono {t:TypeId}{A B:List AV→Prop}(h:OpensS enc P w base spare held N t A)(k:∀ l,A l→B l):OpensS enc P w base spare held N t B:=fun n cs y hy hN hs=>by
 obtain⟨avs,h1,h2,h3⟩:=h n cs y hy hN hs;exact⟨avs,h1,k _ h2,h3⟩
theorem Opens.sized {t:TypeId}{A:List AV→Prop}(h:Opens enc P w base spare held t A):OpensS enc P w base spare held N t A:=fun n cs y hy _ _=>h n cs y hy
theorem OpensS.agg {t:TypeId}{A:List AV→Prop}(h:∀ N,OpensS enc P w base spare held N t A){vs:Array Value}{d:DataW H}{p:List MemPlace}(hv:DataW.Trod enc P w base spare held t (.agg vs) d p)(hw:∀ x∈d.weights P t,x≤reachBytes):∃ l,A l∧VR (Env.start w) (.agg l) (.agg vs):=by
 obtain⟨n,hn⟩:=hv;obtain⟨avs,e1,e2,e3⟩:=h _ _ _ _ hn (qy _) hw;refine⟨avs,e2,.agg _ _ (by simpa [Value.cells] using e1.symm) fun i hi=>?_⟩;have:=e3 i hi
 simpa [Value.cells,qG,uE] using this
end
end AM
open AM
def in64 (n:Int):Prop := -9223372036854775808≤n∧n<9223372036854775808
theorem wf64 {n:Int}(h:(Lit.int .i64 n).wf=true):in64 n:=by
 simp only[Lit.wf,IntKind.min,IntKind.max,IntKind.signed,IntKind.bits,qC,decide_eq_true_eq,if_true] at h
 unfold in64; omega
section
variable {H:Type} {enc:TypeId×Value→H} {w:World} {base:Nat} {spare:Nat→Bool} {held:Bool} {N:Nat}
end
end
end Go.Proofs.YtaahlckibpiphaaGreatDoor
